/-
  The kinds of expressions by the document, over trees (the library Vx); used by the theorem at the end of the claim.
  Conditions: as each theorem states them.
-/
import Derived.Test.YtplackkccmeioaaGreatKAAJ
import Derived.Test.YtplackkccmeioaaGreatKAAF
set_option maxHeartbeats 8000000
namespace Go.Proofs.YtplackkccmeioaaGreat.R
open Go Go.Vx Go.Proofs.Tryz
set_option maxRecDepth 100000
variable {i:Nat}{n:Nat}{e:Int}{I:St}{x:Nat}{g:Tag}
def ik:aiA->Nat->Nat->Nat×Nat×Int
 | [],_,_=>(0,0,2)
 |c::rest,i,v=>if i=9/\1<c.toNat then(0,0,5)else if c.toNat<128 then(if c.toNat=0/\0<i then(0,0,9)else(v+c.toNat%128*128^i,i+1,0))else ik rest (i+1) (v+c.toNat%128*128^i)
def F9 (r:Nat×Nat×Int):V:= .cz [.int .u64 r.1,.int .i64 r.2.1,.int .i64 r.2.2]
theorem yY5:((List.range 256).all λm=>jo .andNot .u8 (m:Int) 128==((m%128:Nat):Int))=true:=by decide+kernel
theorem xA1 (c:UInt8):jo .andNot .u8 (c.toNat:Int) 128=((c.toNat%128:Nat):Int):=by
 have h:=Am.1 yY5 c.toNat (Cm.2 c.toNat_lt)
 exact beq_iff_eq.1 h
theorem wn7 {m:Nat} (hm:m<18446744073709551616) (hn:n<18446744073709551616) (ho:m|||n<18446744073709551616):jo .or .u64 (m:Int) (n:Int)=((m|||n:Nat):Int):=by
 show IntKind.u64.wrap ((BitVec.ofInt 64 (m:Int)|||BitVec.ofInt 64 (n:Int)).toNat:Int)=_
 rw[aif,aif,BitVec.toNat_or,aii,aii,Cx om,Cx om]
 exact cW om om
theorem S0 (i:Nat):128^i=2^(7*i):=by rw[Nat.pow_mul]
theorem wm1 {v:Nat} (hv:v<128^i):v|||(x*128^i)=v+x*128^i:=by
 rw[S0]at*
 have:=Nat.shiftLeft_add_eq_or_of_lt hv x
 rw[Nat.shiftLeft_eq]at this
 rw[Nat.or_comm,<-this,E2]
theorem Og {v:Nat} (hv:v<128^i) (hx:x<128):v+x*128^i<128^(i+1):=by
 have:(x+1)*128^i<=128*128^i:=Aj _ om
 rw[E4]
 rw[B3]at this
 omega
theorem S1 {v:Nat} (hv:v<128^i) (hx:x<128) (h9:i<=8\/i=9/\x<=1):v+x*128^i<18446744073709551616/\x*128^i<18446744073709551616:=by
 rcases h9 with h|⟨rfl,h⟩
 .have h1:=Og hv hx
  have h2:128^(i+1)<=128^9:=Nat.pow_le_pow_right om om
  omega
 .have:x=0\/x=1:=om
  rcases this with rfl|rfl<;>omega
theorem KL {b:aiA} (h:i<(zN b).length):(zN b)[i]= [.int .u8 (b[i]'(by rw[zQ]at h;exact h)).toNat]:=by simp[zN]
theorem Oh (b:aiA) (ai:b.length<=cH):Pure prog 148 [eF b] (F9 (ik b 0 0)):=by
 refine iV 0 func148 ntmps148 results148 λc hc hb=> ?_
 refine zA ?_
 simp[go_sem,eF,zQ]
 refine zI (S:=Nat×Nat) [2,7,8,9] (λu=> [.int .u64 u.2,eF b,.int .i64 b.length,.int .i64 u.1]) (λ_=> []) (λu=>b.length - u.1) (λu=>u.1<=b.length/\u.1<=9/\u.2<128^u.1/\ik (b.drop u.1) u.1 u.2=ik b 0 0) hc hb (0,0) ⟨A3 _,A3 _,dC,rfl⟩ ?_ ?_
 .exact iu rfl (zP (by simp[go_sem,eF]) rfl)
 rintro⟨i,v⟩ ⟨hi,h9,hv,ht⟩
 simp only at hi h9 hv ht
 refine zA ?_
 simp[go_sem,eF]
 refine zV (λq=> ?_) (λq=> ?_)
 .have q:i<b.length:=sU q
  obtain⟨c0,ae⟩: ∃c,b[i]=c:=⟨_,rfl⟩
  rw[A5 q,ae,ik]at ht
  have al:c0.toNat<256:=c0.toNat_lt
  have ei:IntKind.i64.wrap ((i:Int)+1)=((i+1:Nat):Int):=zU q (by unfold cH at ai;omega)
  have ret: ∀(r:Nat×Nat×Int) (I:St),r=ik b 0 0->cw (some (F9 r)) 0 (λr s=>r=F9 (ik b 0 0)/\s= []) I:=λr I h=>by subst h;exact wR
  by_cases hA:i=9/\1<c0.toNat
  .rw[ai2 hA]at ht
   simp[go_sem,zQ,q,KL,ae]
   have f1:((i:Int)==9)=true:=by simp;omega
   refine xD (λw=> ?_) (λw=>absurd (f1.symm.trans w) dC)
   simp[go_sem,w]
   refine zV (λw2=> ?_) (λw2=>absurd w2 (by simp;omega))
   simp[go_sem]
   exact ret (0,0,5) _ ht
  rw[ai1 hA]at ht
  have aj:i<=8\/i=9/\c0.toNat%128<=1:=by
   by_cases h:i=9
   .exact .inr ⟨h,by
     have: ¬1<c0.toNat:=λw=>hA ⟨h,w⟩
     omega⟩
   .exact .inl om
  have hx:c0.toNat%128<128:=Cs _ om
  have n12:=S1 hv hx aj
  have fA:i=9-> ¬1<c0.toNat:=λh w=>hA ⟨h,w⟩
  have a1:=xA1 c0
  have e1:IntKind.i64.wrap (7*(i:Int))=7*(i:Int):=bX om om
  have e2:IntKind.u64.wrap (7*(i:Int))=7*(i:Int):=cW om om
  have e3:IntKind.u64.wrap ((c0.toNat:Int)%128)=(c0.toNat:Int)%128:=cW om om
  obtain⟨x,ad⟩: ∃x:Nat,x=c0.toNat%128*128^i:=⟨_,rfl⟩
  obtain⟨m,af⟩: ∃m:Nat,m=v+x:=⟨_,rfl⟩
  have ah:m<128^(i+1):=by rw[af,ad];exact Og hv hx
  have ak:v|||x=m:=by rw[af,ad];exact wm1 hv
  rw[<-ad,<-af]at ht n12
  have e4:IntKind.u64.wrap ((c0.toNat:Int)%128*2^min (7*(i:Int)).toNat 64)=(x:Int):=by
   have:min (7*(i:Int)).toNat 64=7*i:=om
   rw[this]
   have h3:(c0.toNat:Int)%128*2^(7*i)=(x:Int):=by rw[ad,S0];simp
   rw[h3,cW om om]
  have e5:jo .or .u64 (v:Int) (x:Int)=(m:Int):=by rw[wn7 om om om,ak]
  simp[go_sem,zQ,q,KL,ae]
  refine xD (λw=> ?_) (λw=> ?_)
  .have w9:i=9:=by simp at w;omega
   have w1:=fA w9
   simp[go_sem,w]
   refine zV (λw2=>absurd w2 (by simp;omega)) (λw2=> ?_)
   simp[go_sem,a1,e1,e2,e3,e4]
   try (refine zH om ?_;simp[go_sem,e5])
   refine zV (λw3=> ?_) (λw3=> ?_)
   .have w4: ¬c0.toNat<128:=by have:=aia w3;omega
    have i8:i+1<=9:=om
    rw[ai1 w4]at ht
    simp[go_sem,ei]
    exact zJ (i+1,m) ⟨by simp only;omega,⟨q,i8,ah,ht⟩,iu rfl (zP (by simp[go_sem]) rfl)⟩
   .have w4:c0.toNat<128:=by have:=aid w3;omega
    rw[ai2 w4]at ht
    simp[go_sem]
    refine xD (λw5=> ?_) (λw5=> ?_)
    .have aa:c0.toNat=0:=by simp at w5;omega
     simp[go_sem,w5]
     refine zV (λw6=> ?_) (λw6=> ?_)
     .have ab:0<i:=sU w6
      rw[ai2 ⟨aa,ab⟩]at ht
      simp[go_sem]
      exact ret (0,0,9) _ ht
     .have ab: ¬0<i:=sU w6
      rw[ai1 (λh=>ab h.2)]at ht
      simp[go_sem,ei]
      exact ret (m,i+1,0) _ ht
    .have aa: ¬c0.toNat=0:=by simp at w5;omega
     rw[ai1 (λh=>aa h.1)]at ht
     simp[go_sem,w5,ei]
     exact ret (m,i+1,0) _ ht
  .have w9: ¬i=9:=by simp at w;omega
   simp[go_sem,w,a1,e1,e2,e3,e4]
   try (refine zH om ?_;simp[go_sem,e5])
   refine zV (λw3=> ?_) (λw3=> ?_)
   .have w4: ¬c0.toNat<128:=by have:=aia w3;omega
    have i8:i+1<=9:=om
    rw[ai1 w4]at ht
    simp[go_sem,ei]
    exact zJ (i+1,m) ⟨by simp only;omega,⟨q,i8,ah,ht⟩,iu rfl (zP (by simp[go_sem]) rfl)⟩
   .have w4:c0.toNat<128:=by have:=aid w3;omega
    rw[ai2 w4]at ht
    simp[go_sem]
    refine xD (λw5=> ?_) (λw5=> ?_)
    .have aa:c0.toNat=0:=by simp at w5;omega
     simp[go_sem,w5]
     refine zV (λw6=> ?_) (λw6=> ?_)
     .have ab:0<i:=sU w6
      rw[ai2 ⟨aa,ab⟩]at ht
      simp[go_sem]
      exact ret (0,0,9) _ ht
     .have ab: ¬0<i:=sU w6
      rw[ai1 (λh=>ab h.2)]at ht
      simp[go_sem,ei]
      exact ret (m,i+1,0) _ ht
    .have aa: ¬c0.toNat=0:=by simp at w5;omega
     rw[ai1 (λh=>aa h.1)]at ht
     simp[go_sem,w5,ei]
     exact ret (m,i+1,0) _ ht
 .have q:i=b.length:=by
   have: ¬i<b.length:=sU q
   omega
  subst q
  rw[Ci,ik]at ht
  simp[go_sem]
  rw[<-ht]
  exact wR
theorem Ga: ∀(l:aiA) (i v:Nat),(ik l i v).2.2=0->(ik l i v).2.1<=i+l.length
 | [],i,v,h=>by simp[ik]at h
 |c::rest,i,v,h=>by
  unfold ik at h⊢
  split
  .simp_all
  .rename_i h1
   rw[ai1 h1]at h
   split
   .rename_i h2
    rw[ai2 h2]at h
    split
    .rename_i h3
     rw[ai2 h3]at h
     simp at h
    .simp
   .rename_i h2
    rw[ai1 h2]at h
    have:=Ga rest (i+1) _ h
    simp only[Af]
    omega
def wS (b:aiA) (r:Nat×Nat×Int):aiA×Nat×Int:=
 if r.2.2≠0 then([],0,r.2.2)else if 1048576<r.1 then([],0,3)else if b.length - r.2.1<r.1 then([],0,2)else((b.take (r.2.1+r.1)).drop r.2.1,r.2.1+r.1,0)
def tO (b:aiA):aiA×Nat×Int:=wS b (ik b 0 0)
def KM (r:aiA×Nat×Int):V:= .cz [eF r.1,.int .i64 r.2.1,.int .i64 r.2.2]
theorem KN {r:aiA×Nat×Int} {rows:List (List V)} (h1:zN r.1=rows) (h2:r.2.1=n) (h3:r.2.2=e):
  cw (some (.cz [.sl g rows,.int .i64 n,.int .i64 e])) 0 (λv s=>v=KM r/\s= []) I:=by
 subst h1 h2 h3
 have h:cP (cK [] I.length) (KM r) (.cz [.sl g (zN r.1),.int .i64 r.2.1,.int .i64 r.2.2]):=yW ⟨uQ,xV rfl,xV rfl,tV⟩
 exact zW h ⟨rfl,rfl⟩
theorem yY4 (b:aiA) (ab:b.length<=cH):Pure prog 211 [eF b] (KM (tO b)):=by
 have hle:=Ga b 0 0
 have aa:=Oh b ab
 unfold tO
 revert hle aa
 generalize ik b 0 0=r
 obtain⟨n,k,e⟩:=r
 intro hle aa
 simp only at hle
 refine iW 0 func211 ntmps211 results211 λc hc hb=>zM ?_
 simp[go_sem]
 refine pC aa ?_
 simp[go_sem,F9]
 refine zV (λh=> ?_) (λh=> ?_)
 .have h:e≠0:=sU h
  simp[go_sem]
  exact KN (by simp[wS,h,zN]) (by simp[wS,h]) (by simp[wS,h])
 have h:e=0:=sU h
 have hk:=hle h
 have e1:IntKind.i64.wrap ((b.length:Int) - (k:Int))=((b.length - k:Nat):Int):=by rw[bX (by unfold cH at*;omega) (by unfold cH at*;omega)];omega
 have e2:IntKind.u64.wrap ((b.length - k:Nat):Int)=((b.length - k:Nat):Int):=cW om (by unfold cH at*;omega)
 simp[go_sem]
 refine zV (λh2=> ?_) (λh2=> ?_)
 .have h2:1048576<n:=by have:=aia h2;omega
  simp[go_sem]
  exact KN (by simp[wS,h,h2,zN]) (by simp[wS,h,h2]) (by simp[wS,h,h2])
 have h2: ¬1048576<n:=by have:=aid h2;omega
 simp[go_sem,eF,zQ,e1,e2]
 refine zV (λh3=> ?_) (λh3=> ?_)
 .have h3:b.length - k<n:=by have:=aia h3;omega
  simp[go_sem]
  exact KN (by simp[wS,h,h2,h3,zN]) (by simp[wS,h,h2,h3]) (by simp[wS,h,h2,h3])
 have h3: ¬b.length - k<n:=by have:=aid h3;omega
 have e3:IntKind.i64.wrap (n:Int)=(n:Int):=bX om om
 have e4:IntKind.i64.wrap ((k:Int)+(n:Int))=((k+n:Nat):Int):=by rw[bX (by unfold cH at*;omega) (by unfold cH at*;omega)];omega
 simp[go_sem,zQ,e3,e4]
 refine zH ⟨om,om,q9 b⟩ ?_
 have e5:((k:Int)+(n:Int)).toNat=k+n:=om
 have hlen:((b.take (k+n)).drop k).length<=cH:=by simp;omega
 simp[go_sem,e5]
 refine AD (Od ((b.take (k+n)).drop k) 0 hlen dC) cB ⟨wQ (by simp[zN,List.map_take]),zC rfl,tV⟩ ?_
 rintro r s ⟨rfl,rfl⟩
 simp[go_sem,gv,gj]
 exact KN (by simp[wS,h,h2,h3]) (by simp[wS,h,h2,h3]) (by simp[wS,h,h2,h3])
def kN (u:Nat):Int:=if u%2=0 then((u/2:Nat):Int)else -((u/2:Nat):Int) - 1
structure jv where
 v:bK
 n:Nat
 e:Int
def jv.V (r:jv):V:= .cz [.agg r.v.row,.int .i64 r.n,.int .i64 r.e]
def v0:bK:=⟨0,0,[]⟩
def vj (b:aiA):jv:=
 if b.length<2 then⟨v0,0,2⟩else if 1<(b.getD 1 0).toNat then⟨v0,0,9⟩else⟨⟨1,(b.getD 1 0).toNat,[]⟩,2,0⟩
theorem sj {r:jv} {k m:Int} {s:aiA} (h:r=⟨⟨k,m,s⟩,n,e⟩):
  cw (some (.cz [.agg [.int .i64 k,.int .i64 m,.str s],.int .i64 n,.int .i64 e])) 0 (λv s=>v=r.V/\s= []) I:=by
 subst h
 exact wR
theorem xf4 (b:aiA) (_:b.length<=cH):Pure prog 209 [eF b] (vj b).V:=by
 refine iW 0 func209 ntmps209 results209 λc hc hb=>zM ?_
 simp[go_sem,eF,zQ]
 refine zV (λh=> ?_) (λh=> ?_)
 .have h:b.length<2:=by have:=aia h;omega
  simp[go_sem]
  exact sj (n:=0) (by simp[vj,h,v0])
 have h: ¬b.length<2:=by have:=aid h;omega
 have h1:1<b.length:=om
 obtain⟨c0,aa⟩: ∃c,b[1]=c:=⟨_,rfl⟩
 have ab:b.getD 1 0=c0:=by rw[Al,A0 h1,aa];rfl
 have e1:IntKind.i64.wrap (c0.toNat:Int)=(c0.toNat:Int):=bX om (by have:=c0.toNat_lt;omega)
 simp[go_sem,zQ,h1,KL,aa]
 refine zH om ?_
 simp[go_sem]
 refine zV (λh2=> ?_) (λh2=> ?_)
 .have h2:1<c0.toNat:=by have:=aia h2;omega
  simp[go_sem]
  exact sj (n:=0) (by simp only[vj,ab];rw[ai1 h,ai2 h2];rfl)
 .have h2: ¬1<c0.toNat:=by have:=aid h2;omega
  simp[go_sem,zQ,h1,KL,aa]
  refine zH om ?_
  simp[go_sem,e1]
  exact sj (n:=2) (by simp only[vj,ab];rw[ai1 h,ai1 h2])
theorem wo3 {x:Int} (h:0<=x) (h2:x<=9223372036854775807):jo .xor .i64 x 0=x:=by
 obtain⟨m,rfl⟩:=Dv h
 show IntKind.i64.wrap ((BitVec.ofInt 64 (m:Int)^^^BitVec.ofInt 64 0).toNat:Int)=m
 have e:BitVec.ofInt 64 (0:Int)=0#64:=rfl
 rw[e,BitVec.xor_zero,aif,aii,Cx om]
 exact bX om om
theorem wo4 {x:Int} (h:0<=x) (h2:x<=9223372036854775807):jo .xor .i64 x (-1)= -x - 1:=by
 obtain⟨m,rfl⟩:=Dv h
 show IntKind.i64.wrap ((BitVec.ofInt 64 (m:Int)^^^BitVec.ofInt 64 (-1)).toNat:Int)=_
 have e:BitVec.ofInt 64 (-1:Int)=BitVec.allOnes 64:=by decide+kernel
 rw[e,BitVec.xor_allOnes,aif,BitVec.toNat_not,aii,Cx om]
 rw[IntKind.wrap_i64]
 omega
theorem wp6 {m:Nat} (h:m<18446744073709551616):jo .and .u64 (m:Int) 1=(m:Int)%2:=by
 show IntKind.u64.wrap ((BitVec.ofInt 64 (m:Int)&&&BitVec.ofInt 64 1).toNat:Int)=_
 have e:BitVec.ofInt 64 (1:Int)=1#64:=rfl
 rw[e,aif,BitVec.toNat_and,aii,Cx om]
 have e2:m&&&(1#64).toNat=m%2:=Nat.and_one_is_mod m
 rw[e2,cW om om]
 omega
theorem wp4 (u:Nat) (hu:u<18446744073709551616):Pure prog 210 [.int .u64 u] (.int .i64 (kN u)):=by
 have e0:=wp6 hu
 have e1:(u:Int).fdiv 2=(u:Int)/2:=Dn _ om
 have e3:IntKind.i64.wrap ((u:Int)/2)=(u:Int)/2:=bX om om
 have e4:IntKind.i64.wrap ((u:Int)%2)=(u:Int)%2:=bX om om
 have e5:IntKind.i64.wrap (-((u:Int)%2))= -((u:Int)%2):=bX om om
 have e6:jo .xor .i64 ((u:Int)/2) (-((u:Int)%2))=kN u:=by
  unfold kN
  by_cases h:u%2=0
  .rw[ai2 h,show -((u:Int)%2)=0 by omega,wo3 om om];omega
  .rw[ai1 h,show -((u:Int)%2)= -1 by omega,wo4 om om];omega
 refine iW 0 func210 ntmps210 results210 λc hc hb=>zM ?_
 simp[go_sem,e0,e1,e3,e4,e5,e6]
 exact wR
theorem KO: ∀(l:aiA) (i v:Nat),v<128^i->i<=9->(ik l i v).1<18446744073709551616
 | [],i,v,_,_=>by simp[ik]
 |c::rest,i,v,hv,h9=>by
  have hc:=c.toNat_lt
  unfold ik
  split
  .simp
  .rename_i h1
   have aa:i<=8\/i=9/\c.toNat%128<=1:=by
    by_cases h:i=9
    .exact .inr ⟨h,by
      have: ¬1<c.toNat:=λw=>h1 ⟨h,w⟩
      omega⟩
    .exact .inl om
   have hx:c.toNat%128<128:=Cs _ om
   have n12:=S1 hv hx aa
   split
   .split
    .simp
    .exact n12.1
   .rename_i h2
    refine KO rest (i+1) _ (Og hv hx) ?_
    rcases aa with h|h
    .omega
    .exfalso
     have: ¬1<c.toNat:=λw=>h1 ⟨h.1,w⟩
     omega
def pd (k:Nat) (tb:jv) (r:Nat×Nat×Int) (t:aiA×Nat×Int):jv:=
 if k=0 then⟨v0,1,0⟩
 else if k=1 then tb
 else if k=2 then(if r.2.2≠0 then⟨v0,0,r.2.2⟩else⟨⟨2,kN r.1,[]⟩,1+r.2.1,0⟩)
 else if k=3 then(if t.2.2≠0 then⟨v0,0,t.2.2⟩else if 64<t.1.length then⟨v0,0,3⟩else⟨⟨3,0,t.1⟩,1+t.2.1,0⟩)
 else⟨v0,0,9⟩
def lG:aiA->jv
 | []=>⟨v0,0,2⟩
 |c::rest=>pd c.toNat (vj (c::rest)) (ik rest 0 0) (tO rest)
theorem S2 (b:aiA):(tO b).2.1<=b.length/\((tO b).2.2=0->(tO b).1.length<=b.length):=by
 have hle:=Ga b 0 0
 unfold tO wS
 revert hle
 generalize ik b 0 0=r
 obtain⟨n,k,e⟩:=r
 intro hle
 simp only at hle⊢
 split
 .simp
 .rename_i h
  have h:e=0:=Decidable.not_not.1 h
  have hk:=hle h
  split
  .simp
  .split
   .simp
   .refine⟨?_,λ_=> ?_⟩
    .simp only;omega
    .simp;omega
theorem wi0 (b:aiA) (ai:b.length<=cH):Pure prog 149 [eF b] (lG b).V:=by
 cases b with
 |nil=>
  refine iW 0 func149 ntmps149 results149 λc hc hb=>zM ?_
  simp[go_sem,eF,zN]
  exact sj (n:=0) rfl
 |cons c0 rest=>
  have hc:=c0.toNat_lt
  have hr:rest.length<=cH:=by simp only[Af]at ai;omega
  have ab:=KO rest 0 0 dC dC
  have hle:=Ga rest 0 0
  have ad:=Oh rest hr
  have ae:=yY4 rest hr
  have af:=S2 rest
  have ah:=xf4 (c0::rest) ai
  have e1:IntKind.i64.wrap (c0.toNat:Int)=(c0.toNat:Int):=bX om om
  have aa:zN (c0::rest)= [.int .u8 c0.toNat]::zN rest:=rfl
  rw[lG]
  revert ab hle ad ae ah af
  generalize ik rest 0 0=r
  generalize tO rest=t
  generalize vj (c0::rest)=tb
  obtain⟨n,k,e⟩:=r
  obtain⟨tx,tk,te⟩:=t
  obtain⟨⟨bk,bn,bs⟩,bm,be⟩:=tb
  obtain⟨q,hq⟩:=eX c0.toNat
  intro ab hle ad ae af ah
  simp only at ab hle af
  rw[hq]at hc e1 aa⊢
  have e2:e=0->IntKind.i64.wrap (1+(k:Int))=((1+k:Nat):Int):=λh=>by
   have:=hle h
   rw[bX om (by unfold cH at*;omega)];omega
  have e3:IntKind.i64.wrap (1+(tk:Int))=((1+tk:Nat):Int):=by rw[bX om (by unfold cH at*;omega)];omega
  have e4:(zN rest).take rest.length=zN rest:=Aa (by rw[zQ];omega)
  have hu:eK 1 ([V.int .u8 (q:Int)]::zN rest):=aa▸q9 (c0::rest)
  refine iW 0 func149 ntmps149 results149 λc hc hb=>zM ?_
  simp[go_sem,eF,aa,zQ]
  refine zV (λw=>absurd w (by simp;omega)) (λw=> ?_)
  simp[go_sem,zQ,e1]
  refine zV (λw1=> ?_) (λw1=> ?_)
  .have w1:q=0:=by simp at w1;omega
   simp[go_sem]
   exact sj (n:=1) (by simp[pd,w1,v0])
  have w1: ¬q=0:=by simp at w1;omega
  simp[go_sem]
  refine zV (λw2=> ?_) (λw2=> ?_)
  .have w2:q=1:=by simp at w2;omega
   simp[go_sem]
   refine zL ah cB (zP (by simp[eF,aa]) rfl) rfl ?_
   simp[go_sem,jv.V]
   exact sj (n:=bm) (by simp[pd,w2])
  have w2: ¬q=1:=by simp at w2;omega
  simp[go_sem]
  refine zV (λw3=> ?_) (λw3=> ?_)
  .have w3:q=2:=by simp at w3;omega
   simp[go_sem,zQ]
   refine zH ⟨om,hu⟩ ?_
   simp[go_sem,e4]
   refine pC ad ?_
   simp[go_sem,F9]
   refine zV (λw4=> ?_) (λw4=> ?_)
   .have w4:e≠0:=sU w4
    simp[go_sem]
    exact sj (n:=0) (by simp[pd,w3,w4,v0])
   have w4:e=0:=sU w4
   have e5:=e2 w4
   simp[go_sem]
   refine pC (wp4 n ab) ?_
   simp[go_sem,e5]
   exact sj (n:=1+k) (by simp[pd,w3,w4])
  have w3: ¬q=2:=by simp at w3;omega
  simp[go_sem]
  refine zV (λw4=> ?_) (λw4=> ?_)
  .have w4:q=3:=by simp at w4;omega
   simp[go_sem,zQ]
   refine zH ⟨om,hu⟩ ?_
   simp[go_sem,e4]
   refine pC ae ?_
   simp[go_sem,KM,eF]
   refine zV (λw5=> ?_) (λw5=> ?_)
   .have w5:te≠0:=sU w5
    simp[go_sem]
    exact sj (n:=0) (by simp[pd,w4,w5,v0])
   have w5:te=0:=sU w5
   simp[go_sem,zQ]
   refine zV (λw6=> ?_) (λw6=> ?_)
   .have w6:64<tx.length:=by have:=aia w6;omega
    simp[go_sem]
    exact sj (n:=0) (by simp[pd,w4,w5,w6,v0])
   have w6: ¬64<tx.length:=by have:=aid w6;omega
   simp[go_sem]
   refine zH (xR _) ?_
   simp[go_sem,e3,GP]
   exact sj (n:=1+tk) (by simp[pd,w4,w5,w6])
  have w4: ¬q=3:=by simp at w4;omega
  simp[go_sem]
  exact sj (n:=0) (by simp[pd,w1,w2,w3,w4,v0])
theorem jt (aa fG:List (List V)) (t:Int):Pure prog 147 [.agg [.sl .ro aa,.sl .ro fG],.int .i64 t] (.bool (decide (0<=t)&&decide (t<fG.length))):=by
 refine iW 0 func147 ntmps147 results147 λc hc hb=>zM ?_
 simp[go_sem]
 repeat' (first|(refine xD (λq=> ?_) (λq=> ?_)<;>simp[go_sem,q])|(refine zV (λq=> ?_) (λq=> ?_)<;>simp[go_sem,q]))
 all_goals exact zW (zC rfl) ⟨by simp_all,rfl⟩
theorem xP8 (b:aiA):(lG b).e=0->(lG b).n<=b.length:=by
 cases b<;>grind[lG,Ga,S2,pd,vj]
def iA:Nat->aiA->Option (List bK)
 |0,b=>if b= []then some []else none
 |n+1,b=>if(lG b).e=0 then(iA n (b.drop (lG b).n)).map ((lG b).v:: ·)else none
def tP (o:Option (List bK)):List bK×Int:=match o with
 |some l=>(l,0)
 |none=>([],9)
def jP (nc:Nat) (data:aiA):List bK×Int:=
 if(ik data 0 0).2.2=0/\(ik data 0 0).1=nc then tP (iA nc (data.drop (ik data 0 0).2.1))else([],9)
def ee (ts:List bL) (table:Int) (data:aiA):List bK×Int:=
 if h:0<=table/\table<ts.length then jP (ts[table.toNat]'om).cm.length data else([],1)
theorem yB2 (b:aiA) (k:Nat):List.drop k (List.take b.length (zN b))=zN (b.drop k):=by
 simp[Aa,zN]
def eH (r:List bK×Int):V:= .cz [.sl .ro (r.1.map bK.row),.int .i64 r.2]
theorem S3 {r:List bK×Int} {l:List bK} (h:r=(l,e)):cw (some (.cz [.sl g (l.map bK.row),.int .i64 e])) 0 (λv s=>v=eH r/\s= []) I:=by
 subst h
 exact zW (r:=eH (l,e)) (yW (gZ:= [.sl .ro (l.map bK.row),.int .i64 e]) ⟨uQ,xV rfl,tV⟩) sm
theorem KP {r:List bK×Int} (h:r=([],e)):cw (some (.cz [.sl g [],.int .i64 e])) 0 (λv s=>v=eH r/\s= []) I:=S3 (l:= []) h
theorem S4 (ab:List (List V)) (ts:List bL) (table:Int) (data:aiA) (hd:data.length<=cH) (al: ∀t∈ts,t.cm.length<=cH):
  Pure prog 103 [.agg [.sl .ro ab,.sl .ro (ts.map bL.row)],.int .i64 table,.str data] (eH (ee ts table data)):=by
 have af:=KO data 0 0 dC dC
 have hle:=Ga data 0 0
 have ah:=Oh data hd
 by_cases ht:0<=table/\table<ts.length
 .obtain⟨j,rfl⟩: ∃j:Nat,table=j:=⟨table.toNat,om⟩
  have hj:j<ts.length:=om
  obtain⟨t,ak⟩:=eX (ts[j])
  have an:=al t (ak▸A8 hj)
  have hF:ee ts j data=jP t.cm.length data:=by
   simp_all[ee]
  rw[hF]
  unfold jP
  revert af hle ah
  generalize ik data 0 0=r
  obtain⟨n,k,e⟩:=r
  intro af hle ah
  simp only at af hle⊢
  obtain⟨nc,ae⟩:=eX t.cm.length
  rw[ae]at an⊢
  have eu:IntKind.u64.wrap (nc:Int)=nc:=cW om (by grind)
  refine iV 0 func103 ntmps103 results103 λc hc hb=> ?_
  refine zA ?_
  simp[go_sem]
  refine pC (jt ab (ts.map bL.row) j) ?_
  simp[go_sem,hj]
  refine zL ah cB (zP (by rfl) rfl) rfl ?_
  simp[go_sem,F9]
  have bad: ∀I:St,¬(e=0/\n=nc)->cw (some (.cz [.sl .full [],.int .i64 9])) 0 (λv s=>v=eH (if e=0/\n=nc then tP (iA nc (data.drop k))else([],9))/\s= []) I:=λI h=>KP (by grind)
  refine xD (λai=> ?_) (λai=> ?_)
  .have q1:e=0:=by grind
   simp[go_sem,ai,hj,ak,ae,eu]
   refine zV (λq2=> ?_) (λq2=> ?_)
   .have q2: ¬n=nc:=by grind
    simp[go_sem]
    exact bad _ om
   have q2:n=nc:=by grind
   have hk:=hle q1
   rw[ai2 ⟨q1,q2⟩]
   simp[go_sem]
   refine l7 12 3 dC rfl ?_
   refine zI (S:=Nat×Nat×List bK) [8,10,12,42,43] (λu=> [eF data,.int .i64 u.2.1,.sl (.app 1) (u.2.2.map bK.row),.int .u64 nc,.int .u64 u.1]) (λu=> [.box [.sl .ro ab,.sl .ro (ts.map bL.row)],.app u.2.2.length 3]) (λu=>nc - u.1)
    (λu=>u.1<=nc/\u.2.1<=data.length/\u.2.2.length=u.1/\(iA (nc - u.1) (data.drop u.2.1)).map (u.2.2++ ·)=iA nc (data.drop k)) hc hb (0,k,[]) (by simp_all) ?_ ?_
   .exact cc 2 sm rfl rfl om (zD (by simp[go_sem,eF,zN,q2]) rfl)
   rintro⟨i,at_,l⟩ ⟨hi,ao,aq,aa⟩
   simp only at hi ao aq aa
   have ar:data.length - at_<=cH:=om
   have aj:=wi0 (data.drop at_) (by simp;omega)
   have ad:=xP8 (data.drop at_)
   rw[D6]at ad
   refine zA ?_
   simp[go_sem]
   refine zV (λq3=> ?_) (λq3=> ?_)
   .have q3:i<nc:=by grind
    rw[show nc - i=(nc - i - 1)+1 by omega,iA]at aa
    revert aj ad aa
    generalize lG (data.drop at_)=r
    obtain⟨⟨vk,vn,vs⟩,rn,re⟩:=r
    intro aa aj ad
    simp only at ad aa
    simp[go_sem,eF,zQ]
    refine zH (by grind[q9]) ?_
    simp[go_sem]
    refine zL aj cB (zP (by grind[eF,yB2]) rfl) rfl ?_
    simp[go_sem,jv.V]
    refine zV (λq4=> ?_) (λq4=> ?_)
    .have q4: ¬re=0:=by grind
     rw[ai1 q4]at aa
     simp[go_sem]
     rw[<-aa]
     exact KP rfl
    have q4:re=0:=by grind
    rw[ai2 q4]at aa
    have au:=ad q4
    have ea:IntKind.i64.wrap ((at_:Int)+rn)=((at_+rn:Nat):Int):=by rw[bX om (by grind)];omega
    have ei:IntKind.u64.wrap ((i:Int)+1)=((i+1:Nat):Int):=by rw[cW om om];omega
    have av:(l.length+1)*32<=140737488355328:=by grind
    simp[go_sem]
    refine zH ⟨om,zY rfl⟩ ?_
    simp[go_sem,ea,ei]
    refine zJ (i+1,at_+rn,l++ [⟨vk,vn,vs⟩]) ⟨om,⟨q3,by grind,by grind, ?_⟩,cc 2 sm rfl rfl om (zD (by simp[go_sem]) rfl)⟩
    rw[<-aa]
    simp only
    rw[show nc - (i+1)=nc - i - 1 by omega,ais]
    cases iA (nc - i - 1) (data.drop (at_+rn))<;>simp
   .have q3:i=nc:=by grind
    subst q3
    simp[iA]at aa
    simp[go_sem,eF,zQ]
    refine zV (λq4=> ?_) (λq4=> ?_)
    .have q4:at_<data.length:=by grind
     rw[ai1 om]at aa
     simp[go_sem]
     rw[<-aa]
     exact KP rfl
    have q4:data.length<=at_:=by grind
    rw[ai2 q4]at aa
    simp[go_sem]
    rw[<-aa]
    exact S3 (by rfl)
  .have q1: ¬e=0:=by grind
   simp[go_sem,ai]
   exact bad _ om
 .have hF:ee ts table data=([],1):=by
   simp_all[ee,dif_neg]
  rw[hF]
  refine iV 0 func103 ntmps103 results103 λc hc hb=> ?_
  refine zA ?_
  simp[go_sem]
  refine pC (jt ab (ts.map bL.row) table) ?_
  have hn:(decide (0<=table)&&decide (table<((ts.map bL.row).length:Int)))=false:=by grind
  rw[hn]
  simp[go_sem]
  exact KP rfl
def be (v:Nat):Nat->aiA
 |0=> []
 |k+1=>UInt8.ofNat (v/256^k)::be v k
theorem sk (v:Nat): ∀k,(be v k).length=k
 |0=>rfl
 |k+1=>by simp[be,sk v k]
theorem KQ (a b:UInt8) (l m:aiA):Op.bytesLess (a::l) (b::m)=if a.toNat<b.toNat then true else if b.toNat<a.toNat then false else Op.bytesLess l m:=by
 rw[Op.bytesLess]
 simp only[UInt8.lt_iff_toNat_lt]
 by_cases h1:a.toNat<b.toNat
 .grind
 .by_cases h2:b.toNat<a.toNat
  .grind
  .have:a=b:=E5.1 om
   grind
def mY:aiA->aiA
 | []=> []
 |c::s=>if c=0 then 0::255::mY s else c::mY s
theorem Oi: ∀s,(mY s).length<=2*s.length
 | []=>by decide
 |c::s=>by
  have:=Oi s
  unfold mY
  split<;>simp<;>omega
theorem S5: ∀a b,mY (a++b)=mY a++mY b
 | [],b=>rfl
 |c::a,b=>by
  have:=S5 a b
  rw[Bs,mY,mY]
  split<;>simp[this]
def kO (v:bK):aiA:=
 if eD v=true then
  UInt8.ofNat v.kind.toNat::(if v.kind=1 then [UInt8.ofNat v.n.toNat]else if v.kind=2 then be (v.n+9223372036854775808).toNat 8 else if v.kind=3 then mY v.s++ [0,1]else [])
 else []
theorem S6 {v:bK}:(kO v).length<=2*v.s.length+10:=by
 grind[Oi,sk,kO]
theorem ws9 (a:Nat) (h:a<2^64):a^^^2^63=(2^63+a)%2^64:=by
 apply Nat.eq_of_testBit_eq
 intro j
 rw[Nat.testBit_xor,Nat.testBit_two_pow,Nat.testBit_mod_two_pow]
 rcases Be j 63 with h1|h1|h1
 .rw[Nat.testBit_two_pow_add_gt h1]
  simp[show j<64 by omega,show ¬63=j by omega]
 .subst h1
  rw[Nat.testBit_two_pow_add_eq]
  simp
 .rw[Nat.testBit_lt_two_pow (Df h (Nat.pow_le_pow_right dC om))]
  simp[show ¬j<64 by omega,show ¬63=j by omega]
theorem xZ4 {n:Int} (h1: -9223372036854775808<=n) (h2:n<=9223372036854775807):jo .xor .u64 (IntKind.u64.wrap n) 9223372036854775808=(((n+9223372036854775808).toNat:Nat):Int):=by
 obtain⟨a,ha,aa⟩: ∃a:Nat,IntKind.u64.wrap n=(a:Int)/\(a:Int)=n%18446744073709551616:=by
  unfold IntKind.wrap
  simp[IntKind.bits,IntKind.signed]
  exact⟨(n%18446744073709551616).toNat,om,om⟩
 have hl:a<2^64:=om
 show IntKind.u64.wrap ((BitVec.ofInt 64 (IntKind.u64.wrap n)^^^BitVec.ofInt 64 ((9223372036854775808:Nat):Int)).toNat:Int)=_
 rw[ha,aif,aif,BitVec.toNat_xor,aii,aii,Cx hl,show 9223372036854775808%2^64=2^63 by decide,ws9 a hl]
 unfold IntKind.wrap
 simp[IntKind.bits,IntKind.signed]
 omega
theorem xT7 (n:Int) (hn:cZ n):Pure prog 257 [.int .i64 n] (.int .u64 (n+9223372036854775808).toNat):=by
 have e:=xZ4 hn.1 hn.2
 refine iW 0 func257 ntmps257 results257 λc hc hb=>zM ?_
 simp[go_sem,e]
 exact wR
theorem S7 (n:Int) (hn:cZ n):Pure prog 189 [.int .i64 n] (.int .u64 (n+9223372036854775808).toNat):=by
 unfold cZ at hn
 refine iW 0 func189 ntmps189 results189 λc hc hb=>zM ?_
 simp[go_sem]
 refine zV (λq=> ?_) (λq=> ?_)
 .have q:0<=n:=sU q
  have e1:IntKind.u64.wrap n=n:=cW om om
  have e2:IntKind.u64.wrap (9223372036854775808+n)=((n+9223372036854775808).toNat:Int):=by rw[cW om om];omega
  simp[go_sem,e1,e2]
  exact wR
 .have q:n<0:=sU q
  have e1:IntKind.i64.wrap (n+9223372036854775807)=n+9223372036854775807:=bX om om
  have e2:IntKind.i64.wrap (n+9223372036854775807+1)=n+9223372036854775807+1:=bX om om
  have e3:IntKind.u64.wrap (n+9223372036854775807+1)=((n+9223372036854775808).toNat:Int):=by rw[cW om om];omega
  simp[go_sem,e1,e2,e3]
  exact wR
theorem ws5 (n:Int):IntKind.u8.wrap n<256:=by
 unfold IntKind.wrap
 simp[IntKind.bits,IntKind.signed]
 omega
theorem wn3 (l:aiA) (h:l.all (λc=>decide (c.toNat<=8))) (i:Nat):(l[i]?.getD 0).toNat<=8:=by
 rcases Bv i l.length with q|q
 .rw[A0 q]
  simpa using Am.1 h _ (A8 q)
 .rw[Di q];decide
theorem S8 {n:Int} (h0:0<=n) (h:n<=64): ∃m:Nat,V.int .i64 n= .int .i64 m/\m<=64:=⟨n.toNat,by congr 1;omega,om⟩
theorem xT4 (v:Nat) (_hv:v<18446744073709551616):bN prog 235 [.int .u64 v] [] λr s=>(∃n:Nat,r= .int .i64 n/\n<=64)/\s= []:=by
 have aa:IntKind.i64.wrap 48=48:=by decide+kernel
 have ab:IntKind.i64.wrap 40=40:=by decide+kernel
 have ad:IntKind.i64.wrap 16=16:=by decide+kernel
 have w8:IntKind.i64.wrap 8=8:=by decide+kernel
 have ae:IntKind.i64.wrap (48+8)=56:=by decide+kernel
 have af:IntKind.i64.wrap (16+8)=24:=by decide+kernel
 refine iW 0 func235 ntmps235 results235 λc hc hb=>zM ?_
 simp[go_sem]
 repeat' (refine zV (λq=> ?_) (λq=> ?_)<;>simp[go_sem])
 all_goals
  refine zH (ws5 _) ?_
  generalize hx:UInt8.toNat (Option.getD _ _)=x
  have h8:x<=8:=hx▸wn3 _ (by decide+kernel) _
  clear hx
  have e8:IntKind.i64.wrap (x:Int)=x:=bX om om
  simp[go_sem,e8]
 all_goals
  try simp only[aa,ab,ad,w8,ae,af]
  first
  |exact zW (zC rfl) ⟨S8 om om,rfl⟩
  |(rw[bX om om]
    exact zW (zC rfl) ⟨S8 om om,rfl⟩)
theorem xV7 (v k:Nat) (_hk:k<=7):IntKind.u8.wrap ((v:Int).fdiv (2^(8*k)))=((UInt8.ofNat (v/256^k)).toNat:Int):=by
 have e:(v:Int).fdiv (2^(8*k))=((v/256^k:Nat):Int):=by
  rw[Dn _ (by exact Int.le_of_lt (Int.pow_pos dC))]
  rw[show(2:Int)^(8*k)=((256^k:Nat):Int) by rw[Int.pow_mul];simp]
  rw[Int.natCast_ediv]
 rw[e,tN]
theorem wp0 (b:aiA) (v:Nat) (ab:b.length<=cH) (hv:v<18446744073709551616):Pure prog 256 [eF b,.int .u64 v,.int .i64 8] (.cz [eF (b++be v 8),.int .i64 0]):=by
 refine iV 0 func256 ntmps256 results256 λc hc hb=> ?_
 refine zA ?_
 simp[go_sem,eF]
 refine Y9 (R:=λr=> ∃n:Nat,r= .int .i64 n/\n<=64) (xT4 v hv) cB (yE rfl) (λr h=>by obtain⟨b,rfl,_⟩:=h;rfl) ?_
 rintro r ⟨n,rfl,hn⟩
 have ad:IntKind.i64.wrap 64=64:=by decide+kernel
 simp[go_sem,ad]
 refine zV (λq=>absurd q (by simp;omega)) (λq=> ?_)
 simp[go_sem]
 refine AD (Od b 8 ab dC) cB (yE rfl) ?_
 rintro r s ⟨rfl,rfl⟩
 simp[go_sem,gv,gj]
 have ew: ∀k:Nat,k<=8->IntKind.i64.wrap (8*(k:Int) - 8)=8*(k:Int) - 8:=λk h=>bX om om
 have ae:IntKind.i64.wrap (8*IntKind.i64.wrap 7)=56:=by decide+kernel
 refine zI (S:=Nat×aiA) [1,8,9] (λu=> [.int .u64 v,gv u.2,.int .i64 (8*(u.1:Int) - 8)]) (λu=>gj u.2) (λu=>u.1) (λu=>u.1<=8/\u.2++be v u.1=b++be v 8) hc hb (8,b) ⟨A7 _,rfl⟩ ?_ ?_
 .exact cc 1 (by simp[gj]) rfl rfl (A3 _) (zD (by simp[go_sem,gv]) rfl)
 rintro⟨k,out⟩ ⟨hk,aa⟩
 simp only at hk aa
 have af:out.length+k=b.length+8:=by
  have:=ai6 List.length aa
  simpa[sk]using this
 refine zA ?_
 simp[go_sem,gv,gj]
 refine zV (λq=> ?_) (λq=> ?_)
 .obtain⟨j,rfl⟩: ∃j,k=j+1:=⟨k - 1,by simp at q;omega⟩
  have e1:IntKind.u64.wrap (8*((j+1:Nat):Int) - 8)=((8*j:Nat):Int):=by rw[cW om om];omega
  have e2:IntKind.i64.wrap (8*((j+1:Nat):Int) - 8 - 8)=8*(j:Int) - 8:=by rw[bX om om];omega
  have e3:=xV7 v j om
  simp[go_sem]at e1 e2
  simp[go_sem,e1]
  refine zH om ?_
  have e4:min (8*(j:Int)).toNat 64=8*j:=om
  simp[go_sem,e4,e3]
  refine zH ⟨zQ out,by rw[zQ];unfold cH at ab;omega,zY rfl⟩ ?_
  simp[go_sem,e2]
  rw[be]at aa
  refine zJ (j,out++ [UInt8.ofNat (v/256^j)]) ⟨by simp only;omega,⟨by simp only;omega,by simpa using aa⟩,cc 1 sm rfl rfl (A3 _) (zD (by simp[go_sem,zN]) rfl)⟩
 .have:k=0:=by simp at q;omega
  subst this
  rw[show be v 0= [] from rfl,Az]at aa
  simp[go_sem]
  rw[<-aa]
  exact zW (yW (gZ:= [eF out,.int .i64 0]) ⟨uQ,xV rfl,tV⟩) ⟨rfl,rfl⟩
def gJ (v k:Nat):List (List V):=List.replicate (8 - k) [.int .u8 0]++zN (be v k)
theorem S9 {v k:Nat} (h:k<=8):(gJ v k).length=8:=by simp[gJ,zQ,sk];omega
theorem Ta {v k:Nat} (h:k+1<=8):(gJ v k).set (7 - k) [.int .u8 (UInt8.ofNat (v/256^k)).toNat]=gJ v (k+1):=by
 unfold gJ
 rw[be,show(8 - k)=(8 - (k+1))+1 by omega,List.replicate_succ',Cn,List.set_append_right _ _ sm]
 rw[show 7 - k - (List.replicate (8 - (k+1)) [V.int IntKind.u8 0]).length=0 by simp]
 rfl
def Oj (r:List V):Prop:= ∃x,r= [.int .u8 x]
theorem Gb (v k:Nat): ∀r∈gJ v k,Oj r:=λr hr=>by
 unfold gJ at hr
 rcases Ak.1 hr with h|h
 .exact⟨0,(List.mem_replicate.1 h).2⟩
 .obtain⟨x,_,rfl⟩:=Ab.1 h
  exact⟨_,rfl⟩
theorem KR {rows:List (List V)} (h: ∀r∈rows,Oj r) (n:Nat): [Ob.cd rows 1].all (bT n)=true:=by
 simp only[Bt,D9,Db,bT,Am]
 intro r hr
 obtain⟨x,rfl⟩:=h r hr
 intro y hy
 cases hy with
 |head=>rfl
 |tail _ h=>cases h
theorem Tb {rows:List (List V)} (h: ∀r∈rows,Oj r):xI rows=true:=by
 simp only[xI,Am]
 intro r hr
 obtain⟨x,rfl⟩:=h r hr
 intro y hy
 cases hy with
 |head=>rfl
 |tail _ h=>cases h
theorem Tc (v:Nat):gJ v 8=zN (be v 8):=by simp[gJ]
theorem xN2 (v:Nat) (hv:v<18446744073709551616):Pure prog 248 [eF [],.int .u64 v,.int .i64 8] (.cz [eF (be v 8),.int .i64 0]):=by
 refine iV 0 func248 ntmps248 results248 λc hc hb=> ?_
 refine uO 17 dC ?_
 refine zA ?_
 simp[go_sem,eF,zN]
 refine zI (S:=Nat×Nat) [0,1,8,9] (λu=> [eF [],.int .u64 u.2,.cL 0 1 8 0 8,.int .i64 (7 - (u.1:Int))]) (λu=> [.cd (gJ v u.1) 1]) (λu=>8 - u.1) (λu=>u.1<=8/\u.2=v/256^u.1) hc hb (0,v) ⟨A3 _,sm⟩ ?_ ?_
 .exact cc 1 (by simp[gJ,be,zN]) rfl (KR (Gb _ _) _) (A3 _) (zD (by simp[go_sem,eF,zN]) rfl)
 rintro⟨k,z⟩ ⟨hk,hz⟩
 simp only at hk hz
 have ah:z<=v:=hz▸Nat.div_le_self _ _
 have ab:=S9 (v:=v) hk
 refine zA ?_
 simp[go_sem]
 refine zV (λq=> ?_) (λq=> ?_)
 .have q:k+1<=8:=by simp at q;omega
  have e0:((7:Int) - k).toNat=7 - k:=om
  have e1:IntKind.i64.wrap (7 - (k:Int) - 1)=7 - ((k:Int)+1):=by rw[bX om om];omega
  have e2:IntKind.u64.wrap ((z:Int)/256)=((z/256:Nat):Int):=by rw[cW om om];omega
  have e3:IntKind.u8.wrap ((z:Int).tmod 256)=((UInt8.ofNat z).toNat:Int):=by
   rw[Dm om,show(z:Int)%256=((z%256:Nat):Int) by omega,tN]
   simp
  have aa:=Ta (v:=v) q
  rw[<-hz]at aa
  simp[go_sem]
  refine zH ⟨om,om⟩ ?_
  have ad: ∀h,(gJ v k)[7 - k]'h= [.int .u8 0]:=λh=>by
   have:(gJ v k)[7 - k]? =some [.int .u8 0]:=by
    unfold gJ
    rw[Ao (by simp;omega),Du,ai2 om]
   exact(A4.1 this).2
  simp at aa
  simp[go_sem,ab,show 7 - k<8 by omega,ad,e1,e2,e3]
  refine zJ (k+1,z/256) ⟨by simp only;omega,⟨q,by rw[hz,E4,Nat.div_div_eq_div_mul]⟩,cc 1 (by simp[aa]) rfl (KR (Gb _ _) _) (A3 _) (zD (by simp[go_sem,eF,zN]) rfl)⟩
 .have:k=8:=by simp at q;omega
  subst this
  have ae:z=0:=by rw[hz];exact Nat.div_eq_of_lt om
  subst ae
  simp[go_sem,eF,zN]
  refine zH (λr h=>by cases h) ?_
  have af:wY (gJ v 8) 0 8=zN (be v 8):=by
   rw[Tc]
   simp[wY,Aa,sk,zN,kZ]
  simp[go_sem,ab,af]
  refine zH ⟨Tb λr hr=>Gb v 8 r (B4 hr),by rw[zQ,sk];decide,q9 _⟩ ?_
  simp[go_sem]
  exact zW (yW (gZ:= [eF (be v 8),.int .i64 0]) ⟨uQ,xV rfl,tV⟩) ⟨rfl,rfl⟩
theorem xT3 (v:Nat) (hv:v<18446744073709551616):Pure prog 188 [.int .u64 v] (eF (be v 8)):=by
 refine iW 0 func188 ntmps188 results188 λc hc hb=>zM ?_
 simp[go_sem]
 refine zL (xN2 v hv) cB ⟨wQ rfl,zC rfl,zC rfl,tV⟩ rfl ?_
 simp[go_sem]
 exact wR
theorem xa9 {v:bK} (h:eD v):v.kind=0\/v.kind=1\/v.kind=2\/v.kind=3:=by
 unfold eD at h
 by_cases h0:v.kind=0
 .exact .inl h0
 .by_cases h1:v.kind=1
  .exact .inr (.inl h1)
  .by_cases h2:v.kind=2
   .exact .inr (.inr (.inl h2))
   .by_cases h3:v.kind=3
    .exact .inr (.inr (.inr h3))
    .simp[h0,h1,h2,h3]at h
theorem xF0 {s:aiA} (h:i<s.length):mY (s.take (i+1))=mY (s.take i)++(if s[i]=0 then [0,255]else [s[i]]):=by
 rw[Ag h,S5]
 simp only[mY]
theorem wc7 {s:Nat} {a b:List V} (h1:a.length=s) (h2:b.length=s):eK s [a,b]:=λr hr=>by
 simp at hr
 rcases hr with rfl|rfl<;>assumption
theorem Td {v:bK} (h:eD v):v.s.length<=64:=by
 unfold eD at h
 split at h
 .simp at h;rw[h.2];decide
 split at h
 .simp at h;rw[h.2];decide
 split at h
 .simp at h;rw[h];decide
 split at h
 .simp at h;exact h.2
 .cases h
theorem wh8 (b:aiA) (v:bK) (hv:v.ok) (ad:b.length<=cH - 1):Pure prog 212 [eF b,.agg v.row] (eF (b++kO v)):=by
 refine iV 0 func212 ntmps212 results212 λc hc hb=> ?_
 refine zA ?_
 obtain⟨k,n,s⟩:=v
 have hn:=hv.n
 simp only at hn
 simp[go_sem,eF,zQ]
 refine zH ⟨by unfold cH at*;omega,by simp[eK],q9 b⟩ ?_
 simp[go_sem]
 refine pC (F8 ⟨k,n,s⟩) ?_
 simp[go_sem]
 refine zV (λh=> ?_) (λh=> ?_)
 .simp[go_sem]
  refine vi ?_
  have h:eD ⟨k,n,s⟩=false:=sU h
  simp[kO,h,zN]
 have h:eD ⟨k,n,s⟩:=sU h
 have hs:s.length<=500:=by
   have:s.length<=64:=Td h
   omega
 have hk:=xa9 h
 simp only at hk
 simp[go_sem,zQ]
 refine zH ⟨by unfold cH at*;omega,zY rfl⟩ ?_
 have w0:IntKind.u8.wrap 0=0:=by decide+kernel
 have w1:IntKind.u8.wrap 1=1:=by decide+kernel
 have w2:IntKind.u8.wrap 2=2:=by decide+kernel
 have w3:IntKind.u8.wrap 3=3:=by decide+kernel
 rcases hk with rfl|rfl|rfl|rfl
 .simp[go_sem]
  refine vi ?_
  simp[kO,h,zN,w0]
 .have h1:n=0\/n=1:=by
   unfold eD at h
   simp at h
   exact h.1
  simp[go_sem]
  refine zH ⟨zQ b,by rw[zQ];unfold cH at*;omega,zY rfl⟩ ?_
  simp[go_sem]
  refine vi ?_
  rcases h1 with rfl|rfl<;>simp[kO,h,zN,w0,w1]
 .simp[go_sem]
  obtain⟨u,hu⟩:=eX ((n+9223372036854775808).toNat)
  have hO:=xT7 n hn
  rw[hu]at hO
  refine pC hO ?_
  simp[go_sem]
  refine zL (wp0 (b++ [2]) u (by simp;unfold cH at*;omega) om) cB ⟨wQ (by simp[zN,w2]),zC rfl,zC rfl,tV⟩ rfl ?_
  simp[go_sem]
  refine vi ?_
  simp[kO,h,hu]
 .simp[go_sem]
  refine zI (S:=Nat) [3,5,44,45] (λi=> [.ptr 0 0,.sl (.app 1) (zN (b++3::mY (s.take i))),.int .i64 s.length,.int .i64 i]) (λi=> [.box [.int .i64 3,.int .i64 n,.str s],.app (b++3::mY (s.take i)).length 1]) (λi=>s.length - i) (λi=>i<=s.length) hc hb 0 (A3 _) ?_ ?_
  .exact cc 2 (by simp[mY]) rfl rfl (A3 _) (zD (by simp[go_sem,mY,zN,w3]) rfl)
  intro i hi
  have ae:=Oi (s.take i)
  have af:(s.take i).length<=s.length:=by simp;omega
  obtain⟨o,ho⟩: ∃o,b++3::mY (s.take i)=o:=⟨_,rfl⟩
  have ah:o.length<=cH+1100:=by
   rw[<-ho]
   simp
   unfold cH at*
   omega
  rw[ho]
  refine zA ?_
  simp[go_sem]
  refine zV (λq=> ?_) (λq=> ?_)
  .have q:i<s.length:=sU q
   have ei:=zU q om
   have aa:=xF0 q
   obtain⟨c0,ab⟩:=eX (s[i])
   simp[go_sem,q,ab,zQ]
   refine zH ⟨by unfold cH at*;omega,zY rfl⟩ ?_
   simp[go_sem,q,ab]
   refine zV (λq2=> ?_) (λq2=> ?_)
   .have q2:c0=0:=by
     have:c0.toNat=0:=by simp at q2;omega
     exact E5.1 (sU this)
    rw[ab,ai2 q2]at aa
    simp[go_sem,zQ]
    refine zH ⟨by unfold cH at*;omega,zY rfl⟩ ?_
    simp[go_sem,ei]
    exact zJ (i+1) ⟨om,q,cc 2 (by simp[aa,<-ho];omega) rfl rfl (A3 _) (zD (by simp[go_sem,aa,<-ho,zN,q2]) rfl)⟩
   .have q2: ¬c0=0:=λh=>by rw[h]at q2;simp at q2
    rw[ab,ai1 q2]at aa
    simp[go_sem,ei]
    exact zJ (i+1) ⟨om,q,cc 2 (by simp[aa,<-ho];omega) rfl rfl (A3 _) (zD (by simp[go_sem,aa,<-ho,zN]) rfl)⟩
  .have q:i=s.length:=by
    have: ¬i<s.length:=sU q
    omega
   subst q
   simp[go_sem,zQ]
   refine zH ⟨by unfold cH at*;omega,wc7 rfl rfl⟩ ?_
   simp[go_sem]
   refine vi ?_
   rw[List.take_length]at ho
   simp[kO,h,zN,<-ho]
def tQ (n:Nat) (t:Int):Bool:=decide (0<=t)&&decide (t<n)
theorem Ol {t:Int} (h:tQ n t): ∃j:Nat,t=j/\j<n:=by
 simp[tQ]at h
 exact⟨t.toNat,om,om⟩
def nK (n:Nat) (t:Int) (v:bK):aiA:=if tQ n t=true then UInt8.ofNat (t.toNat+1)::kO v else []
def lH (n:Nat) (t:Int):aiA×aiA:=if tQ n t=true then([UInt8.ofNat (t.toNat+1)],[UInt8.ofNat (t.toNat+2)])else([],[])
theorem Te (aa fG:List (List V)) (t:Int) (v:bK) (hn:fG.length<=cH) (hv:v.ok):Pure prog 151 [.agg [.sl .ro aa,.sl .ro fG],.int .i64 t,.agg v.row] (.str (nK fG.length t v)):=by
 have ab:=jt aa fG t
 rw[show(decide (0<=t)&&decide (t<fG.length))=tQ fG.length t from rfl]at ab
 refine iW 0 func151 ntmps151 results151 λc hc hb=>zM ?_
 simp[go_sem]
 refine pC ab ?_
 unfold nK
 refine(A6 (tQ fG.length t)).elim (λh=> ?_) (λh=> ?_)
 .obtain⟨j,rfl,hj⟩:=Ol h
  rw[h,ai2 rfl]
  have e1:IntKind.u8.wrap (IntKind.i64.wrap ((j:Int)+1))=((UInt8.ofNat (j+1)).toNat:Int):=by
   rw[bX om (by unfold cH at hn;omega),show(j:Int)+1=((j+1:Nat):Int) by omega,tN]
  simp[go_sem,e1]
  refine zL (wh8 [UInt8.ofNat (j+1)] v hv (by simp[cH])) cB ⟨wQ (by simp[zN]),zC rfl,tV⟩ rfl ?_
  simp[go_sem,eF]
  refine zH (xR _) ?_
  simp[go_sem,GP]
  exact wR
 .rw[h]
  simp[go_sem]
  exact wR
theorem Tf (aa fG:List (List V)) (t:Int) (v:bK) (hn:fG.length<=cH) (hv:v.ok) (_hs:v.s.length<=500):Pure prog 151 [.agg [.sl .ro aa,.sl .ro fG],.int .i64 t,.agg v.row] (.str (nK fG.length t v)):=Te aa fG t v hn hv
theorem wo6 (aa fG:List (List V)) (t:Int) (hn:fG.length<=cH):Pure prog 167 [.agg [.sl .ro aa,.sl .ro fG],.int .i64 t] (.cz [.str (lH fG.length t).1,.str (lH fG.length t).2]):=by
 have ab:=jt aa fG t
 rw[show(decide (0<=t)&&decide (t<fG.length))=tQ fG.length t from rfl]at ab
 refine iW 0 func167 ntmps167 results167 λc hc hb=>zM ?_
 simp[go_sem]
 refine pC ab ?_
 unfold lH
 refine(A6 (tQ fG.length t)).elim (λh=> ?_) (λh=> ?_)
 .obtain⟨j,rfl,hj⟩:=Ol h
  rw[h,ai2 rfl]
  obtain⟨x,hx⟩:=eX (UInt8.ofNat (j+1))
  obtain⟨y,hy⟩:=eX (UInt8.ofNat (j+2))
  have e1:IntKind.u8.wrap (IntKind.i64.wrap ((j:Int)+1))=(x.toNat:Int):=by
   rw[bX om (by unfold cH at hn;omega),show(j:Int)+1=((j+1:Nat):Int) by omega,tN,hx]
  have e2:IntKind.u8.wrap (IntKind.i64.wrap ((j:Int)+2))=(y.toNat:Int):=by
   rw[bX om (by unfold cH at hn;omega),show(j:Int)+2=((j+2:Nat):Int) by omega,tN,hy]
  simp only
  simp[go_sem]
  refine yI [] 1 rfl kR kR ?_
  simp[go_sem,e1]
  refine zH (xR [x]) ?_
  have r1:uD [V.int IntKind.u8 x.toNat]=x:=by simp[uD]
  have r2:uD [V.int IntKind.u8 y.toNat]=y:=by simp[uD]
  simp[go_sem,e2,r1]
  refine zH (xR [y]) ?_
  simp[go_sem,r2]
  exact zW (zC rfl) ⟨by rw[<-hx,<-hy];simp,rfl⟩
 .rw[h]
  simp[go_sem]
  exact wR
end Go.Proofs.YtplackkccmeioaaGreat.R
namespace Go.Proofs.YtplackkccmeioaaGreat
open Go Go.Vx R Go.Proofs.Tryz
set_option maxRecDepth 100000
theorem Tg (v:bK):(kO v).length<=140:=by
 by_cases h:eD v=true
 .have h1:=S6 (v:=v)
  have h2:=Td h
  omega
 .unfold kO;rw[ai1 h];simp
def nM (x y:aiA):aiA:=if Op.bytesLess x y=true then y else x
def tR (x y:aiA):aiA:=if Op.bytesLess x y=true\/x=y then x else y
def pe (at_:aiA) (sign:aiA) (b:aiA×aiA):aiA×aiA:=
 if sign= [61]then(nM b.1 at_,tR b.2 (at_++ [0]))
 else if sign= [60]then(b.1,tR b.2 at_)
 else if sign= [60,61]then(b.1,tR b.2 (at_++ [0]))
 else if sign= [62]then(nM b.1 (at_++ [0]),b.2)
 else if sign= [62,61]then(nM b.1 at_,b.2)
 else b
def tS (n:Nat) (t:Int) (name:aiA) (l:List bJ) (b:aiA×aiA):aiA×aiA:=
 l.foldl (λb e=>match ow e name with|none=>b|some (s,v)=>pe (nK n t v) s b) b
def HZ (T:bL):Option aiA:=if 0<=T.key then(T.cm[T.key.toNat]?).map (·.name)else none
def nP (ts:List bL) (t:Int) (st:bW):aiA×aiA:=
 if tQ ts.length t=true then
  match (ts[t.toNat]?).bind HZ with
  |none=>lH ts.length t
  |some name=>let b:=tS ts.length t name (nI st) (lH ts.length t);(b.1,nM b.2 b.1)
 else lH ts.length t
def KS (b:aiA×aiA):V:= .cz [.str b.1,.str b.2]
theorem Th (o:Option (aiA×bK)):gM (nJ o)=true:=by
 obtain _|⟨s,v⟩:=o<;>rfl
theorem Ti (aa:List (List V)) (ts:List bL) (t:Int) (st:bW) (hn:ts.length<=cH) (_hc0: ∀T∈ts,T.cm.length<=maxLen) (hl:(nI st).length<=maxLen)
  (hv: ∀e∈nI st,∀name s v,ow e name=some (s,v)->v.ok):
  Pure prog 112 [.agg [.sl .ro aa,.sl .ro (ts.map bL.row)],.int .i64 t,.agg st.row] (KS (nP ts t st)):=by
 generalize hM:nP ts t st=M
 have ret: ∀(r:aiA×aiA) (I:St),r=M->cw (some (.cz [.str r.1,.str r.2])) 0 (λr s=>r=KS M/\s= []) I:=λr I h=>by subst h;exact wR
 have ab:=wo6 aa (ts.map bL.row) t (sU hn)
 have ah:=SQ st
 simp only[Ai]at ab
 unfold nP at hM
 generalize hA:lH ts.length t=A at ab hM
 generalize hL:nI st=L at ah hM hl hv
 refine iV 0 func112 ntmps112 results112 λc hc hb=> ?_
 refine zA ?_
 simp[go_sem]
 refine pC ab ?_
 simp[go_sem]
 refine(A6 (tQ ts.length t)).elim (λh=> ?_) (λh=> ?_)
 rotate_left
 .simp only[h]at hM
  have h2:decide (t<0)=true\/(decide (t<0)=false/\decide ((ts.length:Int)<=t)=true):=by
   unfold tQ at h
   simp only[Bool.and_eq_false_iff,ai9]at h
   simp only[ai7,ai9]
   omega
  refine h2.elim (λq=> ?_) (λq=> ?_)
  all_goals simp[go_sem,q]
  all_goals exact ret _ _ hM
 obtain⟨j,rfl,hj⟩:=Ol h
 obtain⟨T,hT⟩:=eX (ts[j])
 have ay:decide ((ts.length:Int)<=j)=false:=ai3 om
 have ai:decide ((j:Int)<0)=false:=ai3 om
 simp only[h,aib,B1,A0 hj,hT,Ay]at hM
 have aj:decide (ts.length<=j)=false:=ai3 om
 simp[go_sem,ai,aj,hj,hT]
 by_cases hk:0<=T.key/\T.key<T.cm.length
 rotate_left
 .have ad:HZ T=none:=by
   unfold HZ
   split
   .rw[Di om];rfl
   .rfl
  rw[ad]at hM
  have h2:decide (T.key<0)=true\/(decide (T.key<0)=false/\decide ((T.cm.length:Int)<=T.key)=true):=by
   simp only[ai7,ai9]
   omega
  refine h2.elim (λq=> ?_) (λq=> ?_)
  all_goals simp[go_sem,q]
  all_goals exact ret _ _ hM
 obtain⟨m,hm⟩: ∃m:Nat,T.key=m:=⟨T.key.toNat,om⟩
 have ae:m<T.cm.length:=om
 obtain⟨C,hC⟩:=eX (T.cm[m])
 have ad:HZ T=some C.name:=by
  unfold HZ
  rw[ai2 om,hm,B1,A0 ae,hC];rfl
 simp only[ad]at hM
 have ak:decide (T.key<0)=false:=ai3 om
 have al:decide ((T.cm.length:Int)<=T.key)=false:=ai3 om
 simp[go_sem,ak,al]
 refine zL ah cB (zP sg rfl) rfl ?_
 simp[go_sem]
 refine zI (S:=Nat×aiA×aiA) [1,3,6,7,8,52,53,54] (λu=> [.int .i64 j,.ptr 0 0,.str u.2.1,.str u.2.2,.ptr 1 0,.sl .ro (L.map bJ.row),.int .i64 L.length,.int .i64 u.1])
  (λ_=> [.box [.sl .ro aa,.sl .ro (ts.map bL.row)],.box T.row]) (λu=>L.length - u.1)
  (λu=>u.1<=L.length/\tS ts.length j C.name (L.drop u.1) u.2=tS ts.length j C.name L A) hc hb (0,A) ⟨A3 _,rfl⟩ ?_ ?_
 .exact DB [0,2] dC rfl ⟨by simp[go_sem,yA,dj,dt],by simp[go_sem,yA,dj,dt],tV⟩
   ⟨zC rfl,.inl (by simp[go_sem,dH,dM,dj,dt,cK]),zC rfl,zC rfl,.inl (by simp[go_sem,dH,dM,dj,dt,cK]),zK,zC rfl,zC rfl,tV⟩
 rintro⟨i,b⟩ ⟨hi,hinv⟩
 simp only at hi hinv
 by_cases q:i<L.length
 rotate_left
 .rw[A9 om]at hinv
  have an:b=tS ts.length j C.name L A:=hinv
  rw[<-an]at hM
  refine zA ?_
  simp[go_sem,q]
  exact ret (b.1,nM b.2 b.1) _ hM
 have ei:=zU q (by unfold maxLen at hl;omega)
 obtain⟨x,hx⟩:=eX (L[i])
 have ao:x∈L:=hx▸A8 q
 rw[A5 q,hx]at hinv
 have aq:=SR x C.name
 have ar:=hv x ao C.name
 have ax:=bJ.bR x
 refine zA ?_
 simp[go_sem,q,hx]
 refine yI [(8,0),(15,3)] 3 sm kR kR ?_
 have au:T.cm[m]? =some C:=by rw[A0 ae,hC]
 simp[go_sem,hm,au]
 refine zH ae ?_
 simp[go_sem]
 refine wP aq cB (λ_=>zP sg (by rw[bJ.bR];rfl)) (Th _) ?_
 cases ha:ow x C.name with
 |none=>
  simp only[tS,Bm,ha]at hinv
  simp[go_sem,nJ,KJ,ei]
  refine zJ (i+1,b) ⟨by simp only;omega,⟨by simp only;omega,hinv⟩, ?_⟩
  exact cc 2 (by simp[go_sem,hm]) rfl (by rfl) (A3 _) (zD sg rfl)
 |some p=>
  obtain⟨s,v⟩:=p
  have av:=ar s v ha
  have af:=Te aa (ts.map bL.row) j v (sU hn) av
  simp only[Ai]at af
  simp only[tS,Bm,ha]at hinv
  obtain⟨B,hB⟩:=eX (nK ts.length j v)
  have aw:B.length<=9223372036854775806:=by
   have:=Tg v
   rw[<-hB];unfold nK;rw[ai2 h];simp only[Af];omega
  rw[hB]at af
  simp[go_sem,nJ]
  refine zL af cB (zP sg rfl) rfl ?_
  simp[go_sem]
  refine zH aw ?_
  simp[go_sem]
  have fin: ∀b',pe B s b=b'->tS ts.length j C.name (L.drop (i+1)) b'=tS ts.length j C.name L A:=λb' h=>by rw[<-h,<-hB];exact hinv
  repeat' (first|(refine zV (λq=> ?_) (λq=> ?_)<;>simp[go_sem,q,ei]))
  all_goals simp only[ai8,beq_eq_false_iff_ne]at*
  all_goals refine zJ (i+1,pe B s b) ⟨by simp only;omega,⟨by simp only;omega,fin _ rfl⟩, ?_⟩
  all_goals refine cc 2 (by simp[go_sem,hm]) rfl (by rfl) (A3 _) (zD ?_ rfl)
  all_goals unfold pe nM tR
  all_goals simp[go_sem, *]
theorem vl:(Tryz.prog.funcs.all λfn=> !(fn.name== "runtime.NumGoroutine"))=true:=kR
theorem vm:Tryz.prog.follows .mixedOrders=true:=kR
def marks (f:Nat):aiB:=if f=206 then [7]else []
def Om:AE:=⟨[1],[],[0,1],0,0,0⟩
def xg:bL:=⟨[84],[⟨[82],2,false⟩,⟨[75],2,false⟩,⟨[86],3,true⟩,⟨[78],2,true⟩],1,0,0,Om⟩
def Ek:bL:=⟨[71],[⟨[75],3,false⟩,⟨[78],2,false⟩,⟨[66],1,true⟩],0,1,0,Om⟩
def El:bL:=⟨[72],[⟨[66],1,false⟩,⟨[78],2,true⟩],0,2,1,Om⟩
def bO:List bL:= [xg,Ek,El]
def xJ:List (List V):= [[.int .i64 0],[.int .i64 0],[.int .i64 1],[.int .i64 1]]
def Em:V:= .agg [.sl .full xJ,.sl .full (bO.map bL.row)]
def dG (ts:List bL):V:= .agg [.sl .ro xJ,.sl .ro (ts.map bL.row)]
theorem xB0:Pure prog 20 [] Em:=wu vl vm marks 10000 kR
theorem xO4 {ρ:Nat->Nat}:cP ρ (dG bO) Em:=wN ⟨zX,zX,tV⟩
def xF (t r:Int):Int×Int:=if t=0 then(if r=0 then(0,0)else if r=1 then(1,0)else(0,19))else if t=1 then(2,0)else if t=2 then(3,0)else(0,1)
def En (p:Int×Int):V:= .cz [.int .i64 p.1,.int .i64 p.2]
theorem H0 (t r:Int) (h:t=0\/t=1\/t=2) (hr:r= -1\/r=0\/r=1\/r=2\/r=3\/r=4):Pure prog 114 [dG bO,.int .i64 t,.int .i64 r] (En (xF t r)):=by
 rcases h with rfl|rfl|rfl<;>rcases hr with rfl|rfl|rfl|rfl|rfl|rfl<;>exact wu vl vm marks 10000 kR
theorem xr2 (j:Nat) (hj:j<3):Pure prog 114 [dG (bO.take (j+1)),.int .i64 j,.int .i64 0] (En (xF j 0)):=by
 match j,hj with
 |0,_=>exact wu vl vm marks 10000 kR
 |1,_=>exact wu vl vm marks 10000 kR
 |2,_=>exact wu vl vm marks 10000 kR
def fC (r:Int):Int×Int×Int:=if r=0 then(0,0,0)else if r=1 then(0,1,0)else if r=2 then(1,-1,0)else if r=3 then(2,1,0)else(0,0,1)
def Gc (p:Int×Int×Int):V:= .cz [.int .i64 p.1,.int .i64 p.2.1,.int .i64 p.2.2]
theorem xX7:Pure prog 170 [dG bO] (.int .i64 0):=wu vl vm marks 10000 kR
theorem xx9:Pure prog 146 [dG bO] (.sl .ro [[.int .i64 0],[.int .i64 1]]):=
 bN.Je (ZW vl vm marks 10000 (v:= .cL 1 1 4 0 2) (I':= [.box [.sl .ro xJ,.sl .ro (bO.map bL.row)],.cd [[.int .i64 0],[.int .i64 1],[.int .i64 0],[.int .i64 0]] 1]) kR)
  (λr s ⟨h1,h2⟩=>by subst h1;subst h2;exact⟨_,_,.step 1 1 [[.int .i64 0],[.int .i64 1],[.int .i64 0],[.int .i64 0]] rfl rfl (.refl _ _),zK⟩)
def KU (t:Nat):Int:=if t=0 then 2 else 1
theorem On (j:Nat) (hj:j<3):Pure prog 145 [dG bO,.agg (bO[j]'hj).row] (.int .i64 (KU j)):=by
 match j,hj with
 |0,_=>exact wu vl vm marks 10000 kR
 |1,_=>exact wu vl vm marks 10000 kR
 |2,_=>exact wu vl vm marks 10000 kR
theorem KW {M:Int×Int×Int} {a b e:Int} {I:St} (h:(a,b,e)=M):cw (some (.cz [.int .i64 a,.int .i64 b,.int .i64 e])) 0 (λr s=>r=Gc M/\s= []) I:=by subst h;exact wR
theorem H2 (g:Nat) (hg:g<1000):Pure prog 102 [dG bO,.int .i64 g] (Gc (fC g)):=by
 have ab:=On 0 dC
 have ad:=On 1 dC
 have ae:=On 2 dC
 have hr:=xx9
 generalize hM:fC g=M
 refine iV 0 func102 ntmps102 results102 λc hc hb=> ?_
 refine zA ?_
 simp[go_sem,dG]
 have h0:decide ((g:Int)<0)=false:=ai3 om
 simp[go_sem,h0]
 refine zI (S:=Nat×Nat) [1,2,13,14,15] (λu=> [.int .i64 u.2,.ptr 0 0,.sl .ro (bO.map bL.row),.int .i64 3,.int .i64 u.1]) (λ_=> [.box [.sl .ro xJ,.sl .ro (bO.map bL.row)]]) (λu=>3 - u.1)
  (λu=>(u.1=0/\u.2=g)\/(u.1=1/\u.2+2=g)\/(u.1=2/\u.2+3=g)\/(u.1=3/\u.2+4=g)) hc hb (0,g) (.inl ⟨rfl,rfl⟩) ?_ ?_
 .exact aM 1 (by rfl) (zD (by simp[go_sem];rfl) rfl)
 rintro⟨i,r⟩ h
 simp only at h
 refine h.elim (λ⟨h1,h2⟩=> ?_) λh=>h.elim (λ⟨h1,h2⟩=> ?_) λh=>h.elim (λ⟨h1,h2⟩=> ?_) λ⟨h1,h2⟩=> ?_
 .subst h1
  refine zA ?_
  simp[go_sem,bO]
  refine zL ab cB (zP (by simp[go_sem,dG,bO]) rfl) rfl ?_
  simp[go_sem,KU]
  by_cases q:2<=r
  .have q':decide ((2:Int)<=r)=true:=ai4 om
   have e:IntKind.i64.wrap ((r:Int) - 2)=((r - 2:Nat):Int):=by rw[bX om om];omega
   simp[go_sem,q',e]
   exact zJ (1,r - 2) ⟨by simp only;omega,.inr (.inl ⟨rfl,by simp only;omega⟩),aN 1 (by rfl)⟩
  .have q':decide ((2:Int)<=r)=false:=ai3 om
   simp[go_sem,q',show xg.place=0 from rfl]
   refine yI [(2,0)] 2 sm kR kR ?_
   simp[go_sem]
   refine wP hr cB (λ_=>zP (by simp[go_sem,dG,bO,show xg.place=0 from rfl]) rfl) rfl ?_
   have aa:r=0\/r=1:=om
   refine aa.elim (λe=> ?_) (λe=> ?_)
   all_goals subst e
   all_goals simp[go_sem]
   all_goals exact KW (by rw[<-hM,<-h2];rfl)
 .subst h1
  refine zA ?_
  simp[go_sem,bO]
  refine zL ad cB (zP (by simp[go_sem,dG,bO]) rfl) rfl ?_
  simp[go_sem,KU]
  by_cases q:1<=r
  .have q':decide ((1:Int)<=r)=true:=ai4 om
   have e:IntKind.i64.wrap ((r:Int) - 1)=((r - 1:Nat):Int):=by rw[bX om om];omega
   simp[go_sem,q',e]
   exact zJ (2,r - 1) ⟨by simp only;omega,.inr (.inr (.inl ⟨rfl,by simp only;omega⟩)),aN 1 (by rfl)⟩
  .have q':decide ((1:Int)<=r)=false:=ai3 om
   simp[go_sem,q',show Ek.place=1 from rfl]
   have aa:r=0:=om
   subst aa
   exact KW (by rw[<-hM,<-h2];rfl)
 .subst h1
  refine zA ?_
  simp[go_sem,bO]
  refine zL ae cB (zP (by simp[go_sem,dG,bO]) rfl) rfl ?_
  simp[go_sem,KU]
  by_cases q:1<=r
  .have q':decide ((1:Int)<=r)=true:=ai4 om
   have e:IntKind.i64.wrap ((r:Int) - 1)=((r - 1:Nat):Int):=by rw[bX om om];omega
   simp[go_sem,q',e]
   exact zJ (3,r - 1) ⟨by simp only;omega,.inr (.inr (.inr ⟨rfl,by simp only;omega⟩)),aN 1 (by rfl)⟩
  .have q':decide ((1:Int)<=r)=false:=ai3 om
   have aa:r=0:=om
   subst aa
   simp[go_sem,show El.place=2 from rfl]
   refine yI [] 2 sm kR kR ?_
   simp[go_sem]
   exact KW (by rw[<-hM,<-h2];rfl)
 .subst h1
  refine zA ?_
  simp[go_sem,bO]
  exact KW (by rw[<-hM,<-h2];unfold fC;rw[ai1 om,ai1 om,ai1 om,ai1 om])
theorem wn1 (v:bK) (l:aiD):([.box v.row,.cd (l.map yS) 1]:St).all (bT 2)=true:=by simp[bT,cS,cN,yS,bK.row]
theorem Tj (v:bK) (r:Int):bN prog 172 [.int .i64 r,.ptr 0 0] [.box v.row] (λx s=>x= .bool (r !=v.n)/\s= [.box v.row]):=by
 refine iW 1 func172 ntmps172 results172 λc hc hb=>zM ?_
 simp[go_sem]
 exact yZ 1 sg rfl rfl (A7 _) (zC rfl) ⟨rfl,rfl⟩
def kP (p:Int->Bool):aiD->Nat->Int
 | [],_=> -1
 |x::l,i=>if p x=true then i else kP p l (i+1)
theorem wq5 (v:bK) (xs:aiD) (m:Nat) (hm:m<=xs.length) (hl:xs.length<=1000):
  bN prog 240 [.cL 1 1 xs.length 0 m,.fn 172 [.ptr 0 0]] [.box v.row,.cd (xs.map yS) 1]
   (λr s=>r= .int .i64 (kP (λx=>x !=v.n) (xs.take m) 0)/\s= [.box v.row,.cd (xs.map yS) 1]):=by
 generalize hM:kP (λx=>x !=v.n) (xs.take m) 0=M
 have ret: ∀(r:Int) (I:St),r=M->I.take 2= [.box v.row,.cd (xs.map yS) 1]->cw (some (.int .i64 r)) 2 (λr s=>r= .int .i64 M/\s= [.box v.row,.cd (xs.map yS) 1]) I:=λr I h hs=>by subst h;exact yZ 2 hs rfl (by simp[bT,cS,cN,yS,bK.row]) (A7 _) (zC rfl) ⟨rfl,rfl⟩
 refine iV 2 func240 ntmps240 results240 λc hc hb=> ?_
 refine zA ?_
 simp[go_sem]
 refine zI (S:=Nat) [0,1,7,8] (λi=> [.cL 1 1 xs.length 0 m,.fn 172 [.ptr 0 0],.int .i64 m,.int .i64 i]) (λ_=> [.box v.row,.cd (xs.map yS) 1]) (λi=>m - i) (λi=>i<=m/\kP (λx=>x !=v.n) ((xs.take m).drop i) i=M) hc hb 0 ⟨A3 _,hM⟩ ?_ ?_
 .exact aN 2 (by simp[bT,cS,cN,yS,bK.row])
 rintro i ⟨hi,hinv⟩
 by_cases q:i<m
 rotate_left
 .rw[A9 (by simp;omega)]at hinv
  refine zA ?_
  simp[go_sem,q]
  exact ret _ _ hinv rfl
 have ei:=zU q om
 have aa:i<xs.length:=om
 obtain⟨x,hx⟩:=eX (xs[i])
 have ab:(xs.take m)[i]'(by simp;omega)=x:=by rw[aiv];exact hx
 rw[A5 (by simp;omega),ab,kP]at hinv
 have hd:=Tj v x
 obtain⟨b,ad⟩:=eX ((x !=v.n))
 rw[ad]at hd hinv
 refine zA ?_
 simp[go_sem,q,aa,hx]
 refine uR 1 hd cB sg rfl rfl (rU rfl) (λr s h=>by obtain⟨rfl,rfl⟩:=h;exact⟨rfl,rfl,rfl⟩) ?_
 rintro r s ⟨rfl,rfl⟩
 simp[go_sem]
 refine zV (λw=> ?_) (λw=> ?_)
 .rw[ai2 w]at hinv
  simp[go_sem]
  exact ret _ _ hinv rfl
 .rw[ai1 (by rw[w];decide)]at hinv
  simp[go_sem,ei]
  exact zJ (i+1) ⟨om,⟨q,hinv⟩,aN 2 (by simp[bT,cS,cN,yS])⟩
def kQ (n:Int) (l:aiD):aiD:=l.filter (· ==n)
theorem Tk {n:Int}: ∀(l:aiD) (i:Nat),kP (λx=>x !=n) l i= -1->kQ n l=l
 | [],_,_=>rfl
 |x::l,i,h=>by
  unfold kP at h
  split at h
  .omega
  .rename_i q
   have:=Tk l (i+1) h
   have hx:(x==n)=true:=sU q
   unfold kQ at this⊢
   rw[List.filter_cons_of_pos (sU hx),this]
theorem Tl {n:Int}: ∀(l:aiD) (i:Nat),kP (λx=>x !=n) l i≠ -1-> ∃k,kP (λx=>x !=n) l i=((i+k:Nat):Int)/\k<l.length/\kQ n (l.take k)=l.take k/\(∀x,l[k]? =some x->x≠n)
 | [],i,h=>absurd rfl h
 |x::l,i,h=>by
  unfold kP at h⊢
  split
  .rename_i q
   exact⟨0,sm,sm,rfl,λy hy=>by simp at hy;subst hy;simpa using q⟩
  .rename_i q
   rw[ai1 q]at h
   obtain⟨k,h1,h2,h3,h4⟩:=Tl l (i+1) h
   have hx:(x==n)=true:=sU q
   refine⟨k+1,by rw[h1];congr 1;omega,by simp;omega, ?_,λy hy=>h4 y (sU hy)⟩
   unfold kQ at h3⊢
   rw[Cr,List.filter_cons_of_pos (sU hx),h3]
theorem Oo {n:Int} {xs:aiD} {j:Nat} {x:Int} (h:xs[j]? =some x):kQ n (xs.take (j+1))=kQ n (xs.take j)++(if x=n then [x]else []):=by
 unfold kQ
 rw[Cp,h,List.filter_append]
 by_cases q:x=n
 .simp[q]
 .simp[q]
theorem wi9 (v:bK) (xs:aiD) (m:Nat) (hm:m<=xs.length) (hl:xs.length<=1000):
  bN prog 171 [.cL 1 1 xs.length 0 m,.fn 172 [.ptr 0 0]] [.box v.row,.cd (xs.map yS) 1]
   (λr s=> ∃ys:aiD,ys.length=xs.length/\(kQ v.n (xs.take m)).length<=m/\ys.take (kQ v.n (xs.take m)).length=kQ v.n (xs.take m)/\r= .cL 1 1 xs.length 0 (kQ v.n (xs.take m)).length/\s= [.box v.row,.cd (ys.map yS) 1]):=by
 obtain⟨K,hK⟩:=eX (kQ v.n (xs.take m))
 have ao:K.length<=m:=by rw[<-hK];unfold kQ;exact Ax (Dj _ _) (by simp;omega)
 rw[hK]
 have ret: ∀(ys:aiD) (k:Nat) (I:St),ys.length=xs.length->k=K.length->ys.take K.length=K->I.take 2= [.box v.row,.cd (ys.map yS) 1]->
   cw (some (.cL 1 1 xs.length 0 k)) 2 (λr s=> ∃ys:aiD,ys.length=xs.length/\K.length<=m/\ys.take K.length=K/\r= .cL 1 1 xs.length 0 K.length/\s= [.box v.row,.cd (ys.map yS) 1]) I:=λys k I h1 h2 h3 h4=>by
  subst h2
  exact yZ 2 h4 rfl (by simp[bT,cS,cN,yS,bK.row]) (A7 _) (xQ rfl) ⟨ys,h1,ao,h3,rfl,rfl⟩
 have aq:=wq5 v xs m hm hl
 refine iV 2 func171 ntmps171 results171 λc hc hb=> ?_
 refine zA ?_
 simp[go_sem]
 refine uR 2 aq cB sg rfl (by simp[bT,cS,cN,yS,bK.row]) (rU rfl) (λr s h=>by obtain⟨rfl,rfl⟩:=h;exact⟨rfl,by simp[bT,cS,cN,yS,bK.row],rfl⟩) ?_
 rintro r s ⟨rfl,rfl⟩
 by_cases h0:kP (λx=>x !=v.n) (xs.take m) 0= -1
 .have ah:=Tk _ _ h0
  rw[hK]at ah
  rw[h0]
  simp[go_sem]
  exact ret xs m _ rfl (by rw[ah];simp;omega) (by rw[ah];simp) (by rfl)
 obtain⟨k,h1,h2,h3,h4⟩:=Tl _ _ h0
 rw[Ad]at h1
 rw[h1]
 have ar:k<m:=by simp at h2;omega
 have au:((k:Int)== -1)=false:=sm
 have ek:IntKind.i64.wrap ((k:Int)+1)=((k+1:Nat):Int):=by rw[bX om om];omega
 have av:kQ v.n (xs.take (k+1))=xs.take k:=by
  have aj:k<xs.length:=om
  have h5:=h4 xs[k] (by rw[Ap,ai2 ar,A0 aj])
  rw[Oo (A0 aj),ai1 h5,Az]
  rw[ait,C8 om]at h3
  exact h3
 simp[go_sem,au,ek]
 refine zI (S:=Nat×Nat×aiD) [0,1,5,6] (λu=> [.cL 1 1 xs.length 0 m,.fn 172 [.ptr 0 0],.int .i64 u.1,.int .i64 u.2.1]) (λu=> [.box v.row,.cd (u.2.2.map yS) 1]) (λu=>m - u.2.1)
  (λu=>u.1<u.2.1/\u.2.1<=m/\u.2.2.length=xs.length/\u.2.2.take u.1=kQ v.n (xs.take u.2.1)/\u.2.2.drop u.2.1=xs.drop u.2.1) hc hb (k,k+1,xs) ⟨by simp only;omega,by simp only;omega,rfl,av.symm,rfl⟩ ?_ ?_
 .exact aN 2 (by simp[bT,cS,cN,yS,bK.row])
 rintro⟨i,j,ys⟩ ⟨aw,ax,ad,aa,ab⟩
 simp only at aw ax ad aa ab
 by_cases q:j<m
 rotate_left
 .have hj:j=m:=om
  subst hj
  rw[hK]at aa
  have ak:i=K.length:=by rw[<-aa];simp;omega
  have af:i<=j:=om
  refine zA ?_
  simp[go_sem]
  refine zH af ?_
  simp[go_sem,ad]
  refine zH om ?_
  simp[go_sem]
  refine zH (.inl af) ?_
  simp[go_sem]
  refine ret (ys.take i++List.replicate (j - i) 0++ys.drop (i+(j - i))) i _ (by simp;omega) ak (by rw[<-ak,Cn,List.take_append_of_le_length (by simp;omega)];rw[ait,Nat.min_self,aa]) ?_
  simp[go_sem,yS]
 have ej:=zU q om
 have ay:j<ys.length:=om
 have az:j<xs.length:=om
 obtain⟨x,hx⟩:=eX (ys[j])
 have a1:ys[j]? =some x:=by rw[A0 ay,hx]
 have al:xs[j]? =some x:=by
  have:=ai6 (λl=>l[0]?) ab
  simp only[C6,D4]at this
  rw[<-this,a1]
 have ei:IntKind.i64.wrap ((i:Int)+1)=((i+1:Nat):Int):=by rw[bX om om];omega
 have hd:=Tj v x
 obtain⟨b,ai⟩:=eX ((x !=v.n))
 rw[ai]at hd
 refine zA ?_
 simp[go_sem,q,az,hx,ad]
 refine uR 1 hd cB sg rfl rfl (rU rfl) (λr s h=>by obtain⟨rfl,rfl⟩:=h;exact⟨rfl,rfl,rfl⟩) ?_
 rintro r s ⟨rfl,rfl⟩
 simp[go_sem]
 refine zV (λw=> ?_) (λw=> ?_)
 all_goals simp[go_sem,ej]
 .have q2:x=v.n:=by simpa using (show(x !=v.n)=false by rw[ai];simpa using w)
  have ae:=Oo (n:=v.n) al
  rw[ai2 q2]at ae
  refine zH om ?_
  have an:i<xs.length:=om
  obtain⟨y,a6⟩: ∃y,ys[i]? =some y:=⟨_,A0 om⟩
  simp[go_sem,ad,an,ei,ej]
  refine zJ (i+1,j+1,ys.set i x) ⟨by simp only;omega,⟨by simp only;omega,by simp only;omega,by simp[ad], ?_, ?_⟩, ?_⟩
  .rw[ae,<-aa,Cp,Bi om,List.take_set_of_le (A7 i)]
   simp
  .simp only
   rw[List.drop_set,ai2 om]
   have:=ai6 (List.drop 1) ab
   simpa[ais,E2]using this
  .exact cc 2 (by simp[go_sem,yS]) rfl (wn1 v _) (A7 _) (zD sg rfl)
 .have q2: ¬x=v.n:=by
   have:(x !=v.n)=true:=by rw[ai];simpa using w
   simpa using this
  have ae:=Oo (n:=v.n) al
  rw[ai1 q2,Az]at ae
  refine zJ (i,j+1,ys) ⟨by simp only;omega,⟨by simp only;omega,by simp only;omega,ad,by rw[ae];exact aa, ?_⟩, ?_⟩
  .have:=ai6 (List.drop 1) ab
   simpa[ais,E2]using this
  .exact aN 2 (by simp[bT,cS,cN,yS])
def sq (t:Nat):aiD:=if t=0 then [0,1]else if t=1 then [-1]else [1]
def iZ (l:List bJ) (rs:aiD):aiD:=l.foldl (λrs e=>match ow e [82]with|none=>rs|some (s,v)=>if s= [61]/\v.kind=2 then kQ v.n rs else rs) rs
def wA (t:Int) (st:bW):aiD:=if t=0 then iZ (nI st) [0,1]else if t=1 then [-1]else if t=2 then [1]else []
theorem xu2 {n:Int} (l:aiD):(kQ n l).length<=l.length:=Dj _ _
theorem xu0 (l:aiD):xI (l.map yS)=true:=by simp[xI,yS,pP]
theorem yY7 (l:aiD) (m:Nat):wY (l.map yS) 0 m=(l.take m).map yS:=by
 unfold wY
 rw[Bj,<-List.map_take,Bb]
 rfl
theorem Tm (st:bW) (T:bL) (l:aiD):([.box [.sl .ro xJ,.sl .ro (bO.map bL.row)],.box st.row,.box T.row,.cd (l.map yS) 1]:St).all (bT 4)=true:=by simp[bT,cS,cN,yS,bW.row,bL.row]
theorem Oq (T:bL) (l:aiD):([.box T.row,.cd (l.map yS) 1]:St).all (bT 2)=true:=by simp[bT,cS,cN,yS,bL.row]
theorem Tn (n:Nat) (l:aiD):bT n (.cd (l.map yS) 1)=true:=by simp[bT,cS,cN,yS]
theorem xd5 (j:Nat) (hj:j<3): ∃s0:Nat,xF j 0=((s0:Int),0)/\s0+(sq j).length<5/\(∀(k:Nat) x,(sq j)[k]? =some x->fC ((s0+k:Nat):Int)=((j:Int),x,0))/\
  ((fC ((s0+(sq j).length:Nat):Int)).2.2≠0\/((fC ((s0+(sq j).length:Nat):Int)).2.2=0/\(fC ((s0+(sq j).length:Nat):Int)).1≠j)):=by
 match j,hj with
 |0,_=>exact⟨0,rfl,dC,λk x h=>(by match k with
   |0=>cases h;rfl
   |1=>cases h;rfl
   |k+2=>cases h),.inr dC⟩
 |1,_=>exact⟨2,rfl,dC,λk x h=>(by match k with
   |0=>cases h;rfl
   |k+1=>cases h),.inr dC⟩
 |2,_=>exact⟨3,rfl,dC,λk x h=>(by match k with
   |0=>cases h;rfl
   |k+1=>cases h),.inl dC⟩
theorem Ou: ∀(l:List bJ) (rs:aiD),(iZ l rs).length<=rs.length
 | [],_=>A7 _
 |e::l,rs=>by
  have h1:iZ (e::l) rs=iZ l (match ow e [82]with|none=>rs|some (s,v)=>if s= [61]/\v.kind=2 then kQ v.n rs else rs):=rfl
  rw[h1]
  refine Ax (Ou l _) ?_
  split
  .exact A7 _
  .split
   .exact xu2 _
   .exact A7 _
theorem To (t:Int) (st:bW) (hl:(nI st).length<=maxLen):Pure prog 113 [dG bO,.int .i64 t,.agg st.row] (.sl .ro ((wA t st).map yS)):=by
 have an:=SQ st
 generalize hM:wA t st=M
 unfold wA at hM
 generalize hL:nI st=L at an hM hl
 have ao: ∀(g:Tag) (I:St),[]=M->cw (some (.sl g [])) 0 (λr s=>r= .sl .ro (M.map yS)/\s= []) I:=λg I h=>by subst h;exact zW zK ⟨rfl,rfl⟩
 have ai: ∀(id:Nat) (ys:aiD) (N m:Nat) (I:St),I[id]? =some (.cd (ys.map yS) 1)->ys.length=N->m<=N->ys.take m=M->cw (some (.cL id 1 N 0 m)) 0 (λr s=>r= .sl .ro (M.map yS)/\s= []) I:=λid ys N m I h1 h2 h3 h4=>by
  refine MA id 1 (ys.map yS) h1 (xu0 ys) ?_
  simp only[gp,gn,gu,fZ,Ai,h2,Ad,h3,and_self,aib,yY7,h4]
  exact zW zK ⟨rfl,rfl⟩
 refine iV 0 func113 ntmps113 results113 λc hc hb=> ?_
 refine zA ?_
 simp[go_sem,dG]
 by_cases ht:0<=t/\t<3
 rotate_left
 .have au: []=M:=by rw[<-hM,ai1 om,ai1 om,ai1 om]
  have h2:decide (t<0)=true\/(decide (t<0)=false/\decide ((bO.length:Int)<=t)=true):=by
   simp only[ai7,ai9,show bO.length=3 from rfl]
   omega
  refine h2.elim (λq=> ?_) (λq=> ?_)
  all_goals simp[go_sem,q]
  all_goals exact ao _ _ au
 obtain⟨j,rfl⟩: ∃j:Nat,t=j:=⟨t.toNat,om⟩
 have hj:j<3:=om
 obtain⟨T,hT⟩:=eX (bO[j]'(by exact hj))
 have aq:=xr2 j hj
 obtain⟨s0,av,aw,db,aa⟩:=xd5 j hj
 obtain⟨n,hn⟩:=eX ((sq j).length)
 rw[hn]at aw aa
 rw[av]at aq
 have ax:decide ((j:Int)<0)=false:=ai3 om
 have aH:decide ((bO.length:Int)<=j)=false:=ai3 (by simp only[show bO.length=3 from rfl];omega)
 have ay:decide (bO.length<=j)=false:=ai3 (by simp only[show bO.length=3 from rfl];omega)
 have az:j<bO.length:=hj
 have hle:=xX7
 have e1:IntKind.i64.wrap ((j:Int)+1)=((j+1:Nat):Int):=by rw[bX om om];omega
 simp[go_sem,ax,ay,az]
 refine FM 8 1 dC sg ?_
 refine yI [(10,0),(11,0)] 4 sm kR kR ?_
 simp[go_sem,e1]
 refine zH ⟨om,by simp only[show bO.length=3 from rfl];omega,my λT=>rfl⟩ ?_
 simp[go_sem]
 refine wP hle cB (λ_=>zP (by simp[go_sem,dG]) rfl) rfl ?_
 simp[go_sem]
 refine wP aq cB (λ_=>zP (by simp[go_sem,dG]) rfl) rfl ?_
 simp[go_sem,En]
 refine zI (S:=Nat) [1,3,5,7,8,9] (λk=> [.int .i64 j,.ptr 0 0,.ptr 1 0,.ptr 2 0,.cL 3 1 k 0 k,.int .i64 ((s0+k:Nat):Int)])
  (λk=> [.box [.sl .ro xJ,.sl .ro (bO.map bL.row)],.box st.row,.box T.row,.cd (((sq j).take k).map yS) 1]) (λk=>n - k) (λk=>k<=n) hc hb 0 (A3 _) ?_ ?_
 .exact cc 4 (by simp[go_sem,<-hT];exact⟨rfl,rfl,rfl,rfl,rfl,rfl,rfl,rfl,rfl,rfl,rfl⟩) rfl (Tm st T _) (A3 _) (zD sg rfl)
 intro k hk
 have a1:=H2 (s0+k) om
 refine zA ?_
 simp[go_sem]
 refine zL a1 cB (zP (by simp[go_sem,dG]) rfl) rfl ?_
 by_cases aI:k<n
 .obtain⟨x,hx⟩: ∃x,(sq j)[k]? =some x:=⟨_,A0 om⟩
  rw[db k x hx]
  have a6: ¬(k+1<=k):=om
  have ei:IntKind.i64.wrap (((s0:Int)+k)+1)=(s0:Int)+k+1:=by rw[bX om om]
  simp[go_sem,Gc,a6]
  refine zH ⟨om,zY rfl,om⟩ ?_
  simp[go_sem,ei]
  refine zJ (k+1) ⟨om,om, ?_⟩
  exact cc 4 (by simp[go_sem,Cp,hx,yS]) rfl (Tm st T _) (A3 _) (zD (by simp[go_sem];omega) rfl)
 .obtain rfl:k=n:=om
  obtain⟨⟨a,b2,e⟩,hp⟩: ∃p,fC ((s0+k:Nat):Int)=p:=⟨_,rfl⟩
  rw[hp]at aa⊢
  simp only at aa
  have hY:((sq j).take k).length=k:=by simp;omega
  have ad:(e !=0)=true\/((e !=0)=false/\(a !=j)=true):=by
   rcases aa with h|h
   .exact .inl (sU h)
   .exact .inr ⟨by simpa using h.1,by simpa using h.2⟩
  by_cases aj:j=0
  rotate_left
  .have ak:(T.place !=0)=true:=by
    rw[<-hT]
    match j,hj,aj with
    |1,_,_=>rfl
    |2,_,_=>rfl
   have a7:(sq j)=M:=by
    rw[<-hM]
    match j,hj,aj with
    |1,_,_=>rfl
    |2,_,_=>rfl
   refine ad.elim (λq=> ?_) (λq=> ?_)
   all_goals simp[go_sem,Gc,q,ak]
   all_goals exact ai 3 ((sq j).take k) k k _ sg hY (A7 _) (by rw[ait,Nat.min_self,Aa om];exact a7)
  subst aj
  have ak:(T.place !=0)=false:=by rw[<-hT];rfl
  have ab:T.cm= [⟨[82],2,false⟩,⟨[75],2,false⟩,⟨[86],3,true⟩,⟨[78],2,true⟩]:=by rw[<-hT];rfl
  have a8:k=2:=by rw[<-hn];rfl
  subst a8
  have al:(e !=0)=true\/((e !=0)=false/\(a !=0)=true):=sU ad
  refine al.elim (λq=> ?_) (λq=> ?_)
  all_goals simp[go_sem,Gc,q,ak,ab]
  all_goals refine zL an cB (zP sg rfl) rfl ?_
  all_goals simp[go_sem]
  all_goals refine zI (S:=Nat×aiD×aiD) [7,8,79,80,81] (λu=> [.ptr 0 0,.cL 1 1 2 0 u.2.1.length,.sl .ro (L.map bJ.row),.int .i64 L.length,.int .i64 u.1]) (λu=> [.box T.row,.cd (u.2.2.map yS) 1]) (λu=>L.length - u.1) (λu=>u.1<=L.length/\u.2.1.length<=2/\u.2.2.length=2/\u.2.2.take u.2.1.length=u.2.1/\iZ (L.drop u.1) u.2.1=M) hc hb (0,[0,1],[0,1]) ⟨A3 _,A7 _,rfl,rfl,hM⟩ ?_ ?_
  all_goals try exact DB [2,3] dC rfl ⟨by simp[go_sem,yA,dj,dt,ab],by simp[go_sem,yA,dj,dt,sq,yS],tV⟩ ⟨.inl (by simp[go_sem,dH,dM,dj,dt,cK]),.inl (by simp[go_sem,dH,dM,dj,dt,cK]),zK,zC rfl,zC rfl,tV⟩
  all_goals rintro⟨i,rs,ys⟩ ⟨hi,ah,ae,af,hinv⟩
  all_goals simp only at hi ah ae af hinv
  all_goals (
   by_cases hq:i<L.length
   rotate_left
   .rw[A9 om]at hinv
    have aA:rs=M:=hinv
    refine zA ?_
    simp[go_sem,hq]
    exact ai 1 ys 2 rs.length _ sg ae ah (by rw[af];exact aA)
   have ei:=zU hq (by unfold maxLen at hl;omega)
   obtain⟨x,hx⟩:=eX (L[i])
   rw[A5 hq,hx]at hinv
   have aB:=SR x [82]
   refine zA ?_
   simp[go_sem,hq,hx,ab]
   refine yI [(6,0),(13,3)] 3 sm kR kR ?_
   simp[go_sem]
   refine wP aB cB (λ_=>zP sg (by rw[bJ.bR];rfl)) (Th _) ?_
   cases ha:ow x [82]with
   |none=>
    simp only[iZ,Bm,ha]at hinv
    simp[go_sem,nJ,KJ,ei]
    refine zJ (i+1,rs,ys) ⟨by simp only;omega,⟨by simp only;omega,ah,ae,af,hinv⟩, ?_⟩
    exact cc 2 (by simp[go_sem,ab]) rfl (Oq T _) (A3 _) (zD sg rfl)
   |some p=>
    obtain⟨s,v⟩:=p
    simp only[iZ,Bm,ha]at hinv
    simp[go_sem,nJ]
    by_cases hs:s= [61]/\v.kind=2
    .rw[ai2 hs]at hinv
     have aC:(s== [61])=true:=sU hs.1
     have aD:(v.kind==2)=true:=sU hs.2
     have ar:=wi9 v ys rs.length om om
     rw[af,ae]at ar
     simp[go_sem,aC,aD]
     refine Zk 3 1 ar cB dC sg sg rfl (Tn _ _) ⟨.inl (by simp[go_sem,dH,dM,dj,dt,cK]),.inl (by simp[go_sem,dH,dM,dj,dt,cK]),tV⟩ (λr s h=>by
      obtain⟨zs,_,_,_,_,rfl⟩:=h
      exact⟨_,_,rfl,rfl,Tn _ _⟩) ?_
     rintro r o2 p2 ⟨zs,aJ,aK,aE,rfl,aF⟩
     obtain⟨rfl,rfl⟩:o2= .box v.row/\p2= .cd (zs.map yS) 1:=sU aF
     simp[go_sem,dH,dM,dj,dt,cK,ei]
     refine zJ (i+1,kQ v.n rs,zs) ⟨by simp only;omega,⟨by simp only;omega,by simp only;omega,om,aE,hinv⟩, ?_⟩
     exact cc 2 (by simp[go_sem,ab]) rfl (Oq T _) (A3 _) (zD sg rfl)
    .rw[ai1 hs]at hinv
     have aG:(s== [61])=false\/((s== [61])=true/\(v.kind==2)=false):=by
      by_cases h1:s= [61]
      .exact .inr ⟨by simpa using h1,by simpa using λh2=>hs ⟨h1,h2⟩⟩
      .exact .inl (sU h1)
     refine aG.elim (λq1=> ?_) (λq1=> ?_)
     all_goals simp[go_sem,q1,ei]
     all_goals refine zJ (i+1,rs,ys) ⟨by simp only;omega,⟨by simp only;omega,ah,ae,af,hinv⟩, ?_⟩
     all_goals exact cc 2 (by simp[go_sem,ab]) rfl (Oq T _) (A3 _) (zD sg rfl))
def iG {U:Type} (p:U->Bool):List U->Nat->Int
 | [],_=> -1
 |x::l,i=>if p x=true then(i:Int)else iG p l (i+1)
theorem Eo {U:Type} (p:U->Bool): ∀(l:List U) (i:Nat),iG p l i= -1\/((i:Int)<=iG p l i/\iG p l i<i+l.length)
 | [],i=> .inl rfl
 |x::l,i=>by
  unfold iG
  split
  .right;simp;omega
  .have:=Eo p l (i+1)
   simp only[Af]
   omega
theorem wq3 (t:bL) (name:aiA):bN prog 139 [.agg t.row,.ptr 0 0] [.box [.str name]] (λr s=>r= .bool (t.name==name)/\s= [.box [.str name]]):=by
 refine iW 1 func139 ntmps139 results139 λc hc hb=>zM ?_
 simp[go_sem]
 exact mV 1 rfl rfl (A7 _) (zC rfl) ⟨rfl,rfl⟩
theorem wq0 (t:fy) (name:aiA):bN prog 204 [.agg t.row,.ptr 0 0] [.box [.str name]] (λr s=>r= .bool (t.name==name)/\s= [.box [.str name]]):=by
 refine iW 1 func204 ntmps204 results204 λc hc hb=>zM ?_
 simp[go_sem]
 exact mV 1 rfl rfl (A7 _) (zC rfl) ⟨rfl,rfl⟩
theorem wk3 (l:List bL) (name:aiA) (hl:l.length<=maxLen):bN prog 138 [.sl .ro (l.map bL.row),.fn 139 [.ptr 0 0]] [.box [.str name]] (λr s=>r= .int .i64 (iG (λt:bL=>t.name==name) l 0)/\s= [.box [.str name]]):=by
 generalize hM:iG (λt:bL=>t.name==name) l 0=M
 have ret: ∀(r:Int) (I:St),r=M->cw (some (.int .i64 r)) 1 (λr s=>r= .int .i64 M/\s= [.box [.str name]]) (.box [.str name]::I):=λr I h=>by subst h;exact mV 1 rfl rfl (A7 _) (zC rfl) ⟨rfl,rfl⟩
 refine iV 1 func138 ntmps138 results138 λc hc hb=> ?_
 refine zA ?_
 simp[go_sem]
 refine zI (S:=Nat) [0,1,7,8] (λi=> [.sl .ro (l.map bL.row),.fn 139 [.ptr 0 0],.int .i64 l.length,.int .i64 i]) (λ_=> [.box [.str name]]) (λi=>l.length - i) (λi=>i<=l.length/\iG (λt:bL=>t.name==name) (l.drop i) i=M) hc hb 0 ⟨A3 _,hM⟩ ?_ ?_
 .exact aN 1 rfl
 rintro i ⟨hi,hinv⟩
 by_cases q:i<l.length
 rotate_left
 .rw[Bo om,iG]at hinv
  refine zA ?_
  simp[go_sem,q]
  exact ret _ _ hinv
 have ei:=zU q (by unfold maxLen at hl;omega)
 obtain⟨x,hx⟩:=eX (l[i])
 rw[A5 q,hx,iG]at hinv
 obtain⟨b,ab⟩:=eX ((x.name==name))
 have aa:=wq3 x name
 rw[ab]at aa hinv
 refine zA ?_
 simp[go_sem,q,hx]
 refine mz 0 aa cB rfl rfl ⟨zC rfl,.inl rfl,tV⟩ (by rintro r s ⟨rfl,rfl⟩;exact⟨_,rfl,rfl⟩) ?_
 rintro r o ⟨rfl,ho⟩
 cases ho
 simp[go_sem]
 refine zV (λw=> ?_) (λw=> ?_)
 .rw[ai2 w]at hinv
  simp[go_sem]
  exact ret _ _ hinv
 .rw[ai1 (by rw[w];decide)]at hinv
  simp[go_sem,ei]
  exact zJ (i+1) ⟨om,⟨q,hinv⟩,aN 1 rfl⟩
theorem wj9 (l:List fy) (name:aiA) (hl:l.length<=maxLen):bN prog 203 [.sl .ro (l.map fy.row),.fn 204 [.ptr 0 0]] [.box [.str name]] (λr s=>r= .int .i64 (iG (λt:fy=>t.name==name) l 0)/\s= [.box [.str name]]):=by
 generalize hM:iG (λt:fy=>t.name==name) l 0=M
 have ret: ∀(r:Int) (I:St),r=M->cw (some (.int .i64 r)) 1 (λr s=>r= .int .i64 M/\s= [.box [.str name]]) (.box [.str name]::I):=λr I h=>by subst h;exact mV 1 rfl rfl (A7 _) (zC rfl) ⟨rfl,rfl⟩
 refine iV 1 func203 ntmps203 results203 λc hc hb=> ?_
 refine zA ?_
 simp[go_sem]
 refine zI (S:=Nat) [0,1,7,8] (λi=> [.sl .ro (l.map fy.row),.fn 204 [.ptr 0 0],.int .i64 l.length,.int .i64 i]) (λ_=> [.box [.str name]]) (λi=>l.length - i) (λi=>i<=l.length/\iG (λt:fy=>t.name==name) (l.drop i) i=M) hc hb 0 ⟨A3 _,hM⟩ ?_ ?_
 .exact aN 1 rfl
 rintro i ⟨hi,hinv⟩
 by_cases q:i<l.length
 rotate_left
 .rw[Bo om,iG]at hinv
  refine zA ?_
  simp[go_sem,q]
  exact ret _ _ hinv
 have ei:=zU q (by unfold maxLen at hl;omega)
 obtain⟨x,hx⟩:=eX (l[i])
 rw[A5 q,hx,iG]at hinv
 obtain⟨b,ab⟩:=eX ((x.name==name))
 have aa:=wq0 x name
 rw[ab]at aa hinv
 refine zA ?_
 simp[go_sem,q,hx]
 refine mz 0 aa cB rfl rfl ⟨zC rfl,.inl rfl,tV⟩ (by rintro r s ⟨rfl,rfl⟩;exact⟨_,rfl,rfl⟩) ?_
 rintro r o ⟨rfl,ho⟩
 cases ho
 simp[go_sem]
 refine zV (λw=> ?_) (λw=> ?_)
 .rw[ai2 w]at hinv
  simp[go_sem]
  exact ret _ _ hinv
 .rw[ai1 (by rw[w];decide)]at hinv
  simp[go_sem,ei]
  exact zJ (i+1) ⟨om,⟨q,hinv⟩,aN 1 rfl⟩
theorem Ov (ts:List bL) (name:aiA) (hl:ts.length<=maxLen):Pure prog 97 [dG ts,.str name] (.int .i64 (iG (λt:bL=>t.name==name) ts 0)):=by
 have hx:=wk3 ts name hl
 refine iW 0 func97 ntmps97 results97 λc hc hb=>zM ?_
 simp[go_sem,dG]
 refine mz 1 hx cB rfl rfl ⟨zC rfl,.inl rfl,tV⟩ (by rintro r s ⟨rfl,rfl⟩;exact⟨_,rfl,rfl⟩) ?_
 rintro r o ⟨rfl,ho⟩
 cases ho
 simp[go_sem]
 exact wR
theorem Gd (t:bL) (name:aiA) (hl:t.cm.length<=maxLen):Pure prog 142 [.agg t.row,.str name] (.int .i64 (iG (λt:fy=>t.name==name) t.cm 0)):=by
 have hx:=wj9 t.cm name hl
 refine iW 0 func142 ntmps142 results142 λc hc hb=>zM ?_
 simp[go_sem]
 refine mz 1 hx cB rfl rfl ⟨zC rfl,.inl rfl,tV⟩ (by rintro r s ⟨rfl,rfl⟩;exact⟨_,rfl,rfl⟩) ?_
 rintro r o ⟨rfl,ho⟩
 cases ho
 simp[go_sem]
 exact wR
def cU (T:bL) (name:aiA):Int:=iG (λc:fy=>c.name==name) T.cm 0
def kS (T:bL) (c:Int):Int:=((T.cm[c.toNat]?).map (·.kind)).getD 0
def nQ (v:bK):Bool:=v.kind==0&&(v.n==0&&v.s.isEmpty)
theorem Tp (v:bK):(!(v.kind==0)||(!(v.n==0)|| !v.s.isEmpty))= !nQ v:=by unfold nQ;cases v.kind==0<;>cases v.n==0<;>cases v.s.isEmpty<;>rfl
mutual
def lI (T:bL):bJ->Int×Int
 | .mk k s v args=>
  if k=1 then(if s.isEmpty=false\/args.isEmpty=false\/eD v=false then(0,9)else(v.kind,0))
  else if k=2 then(if cU T s<0 then(0,14)else if args.isEmpty=false\/nQ v=false then(0,9)else(kS T (cU T s),0))
  else if k=3 then(if(wU T args).2≠0 then(0,(wU T args).2)else if nQ v=false then(0,9)else oW s (wU T args).1)
  else(0,9)
def wU (T:bL):List bJ->aiD×Int
 | []=>([],0)
 |e::l=>if(lI T e).2≠0 then([],(lI T e).2)else((lI T e).1::(wU T l).1,(wU T l).2)
end
theorem Ow (T:bL) (e:bJ):lI T e=
  if e.kind=1 then(if e.s.isEmpty=false\/e.args.isEmpty=false\/eD e.v=false then(0,9)else(e.v.kind,0))
  else if e.kind=2 then(if cU T e.s<0 then(0,14)else if e.args.isEmpty=false\/nQ e.v=false then(0,9)else(kS T (cU T e.s),0))
  else if e.kind=3 then(if(wU T e.args).2≠0 then(0,(wU T e.args).2)else if nQ e.v=false then(0,9)else oW e.s (wU T e.args).1)
  else(0,9):=by cases e;rw[lI];rfl
theorem Ep {M:Int×Int} {a e:Int} {I:St} (h:(a,e)=M):cw (some (.cz [.int .i64 a,.int .i64 e])) 0 (λr s=>r=wI M/\s= []) I:=by
 subst h
 exact wR
theorem KX (T:bL) (s:aiA) (h: ¬cU T s<0): ∃j:Nat,cU T s=j/\j<T.cm.length:=by
 have:=Eo (λc:fy=>c.name==s) T.cm 0
 unfold cU at h⊢
 refine⟨(iG (λc:fy=>c.name==s) T.cm 0).toNat,om,om⟩
theorem xB8 (l:List bJ):decide ((0:Int)<l.length)= !l.isEmpty:=by
 cases l with
 |nil=>rfl
 |cons _ _=>exact ai4 (by simp only[Af];omega)
theorem xr5 (l:List bJ):decide (0<l.length)= !l.isEmpty:=by
 cases l with
 |nil=>rfl
 |cons _ _=>exact ai4 (by simp only[Af];omega)
theorem Tq (T:bL) (hT:T.cm.length<=maxLen): ∀(n:Nat) (e:bJ),ig e<=n->fB e->Good e->Pure prog 202 [.agg T.row,.agg e.row] (wI (lI T e))
 |0,e,h,_,_=>by have:=KH e;omega
 |n+1,e,h,hw,hg=>by
  have ih:=Tq T hT n
  have az:=uW e
  have hlen:=hw.len
  have al:=hw.sub
  have av:=hg.sub
  have an:=F8 e.v
  have ao:=Gd T e.s hT
  obtain⟨M,hM⟩:=eX (lI T e)
  rw[hM]
  rw[Ow]at hM
  rw[show iG (λc:fy=>c.name==e.s) T.cm 0=cU T e.s from rfl]at ao
  have hz:=Tp e.v
  have aw:=xB8 e.args
  have ai:=xr5 e.args
  have ret: ∀(a b:Int) (I:St),(a,b)=M->cw (some (.cz [.int .i64 a,.int .i64 b])) 0 (λr s=>r=wI M/\s= []) I:=λa b I h=>Ep h
  refine iV 0 func202 ntmps202 results202 λc hc hb=> ?_
  refine zA ?_
  simp[go_sem]
  by_cases q1:e.kind=1
  .have af:(e.kind==1)=true:=sU q1
   rw[ai2 q1]at hM
   generalize eD e.v=b at an hM
   generalize e.args.isEmpty=ae at aw ai hM
   simp[go_sem,af]
   repeat' (first
    |(refine xD (λq=> ?_) (λq=> ?_)<;>simp[go_sem,q,ai])
    |(refine zV (λq=> ?_) (λq=> ?_)<;>simp[go_sem,q])
    |(refine zL an cB (zP sg rfl) rfl ?_;simp[go_sem]))
   all_goals exact ret _ _ _ (by rw[<-hM];simp_all)
  rw[ai1 q1]at hM
  have af:(e.kind==1)=false:=sU q1
  by_cases q2:e.kind=2
  .have aj:(e.kind==2)=true:=sU q2
   rw[ai2 q2]at hM
   simp[go_sem,af,aj]
   refine zL ao cB (zP sg rfl) rfl ?_
   by_cases qc:cU T e.s<0
   .have ak:decide (cU T e.s<0)=true:=ai4 qc
    rw[ai2 qc]at hM
    simp[go_sem,ak]
    exact ret _ _ _ hM
   have ak:decide (cU T e.s<0)=false:=ai3 qc
   rw[ai1 qc]at hM
   obtain⟨j,hj,ax⟩:=KX T e.s qc
   obtain⟨C,hC⟩:=eX (T.cm[j])
   have a1:kS T (cU T e.s)=C.kind:=by
    unfold kS
    rw[hj,B1,A0 ax,hC];rfl
   rw[a1]at hM
   rw[hj]at ak⊢
   generalize nQ e.v=z at hz hM
   generalize e.args.isEmpty=ae at aw ai hM
   simp[go_sem,ak,ai]
   repeat' (first
    |(refine xD (λq=> ?_) (λq=> ?_)<;>simp[go_sem,q,hz])
    |(refine zV (λq=> ?_) (λq=> ?_)<;>simp[go_sem,q,ax,hC]))
   all_goals exact ret _ _ _ (by rw[<-hM];simp_all)
  rw[ai1 q2]at hM
  have aj:(e.kind==2)=false:=sU q2
  by_cases q3:e.kind=3
  rotate_left
  .rw[ai1 q3]at hM
   have aq:(e.kind==3)=false:=sU q3
   simp[go_sem,af,aj,aq]
   exact ret _ _ _ hM
  have aq:(e.kind==3)=true:=sU q3
  rw[ai2 q3]at hM
  obtain⟨args,ab⟩:=eX e.args
  rw[ab]at az hlen al av hM
  obtain⟨K,hK⟩:=eX (wU T args)
  rw[hK]at hM
  simp[go_sem,af,aj,aq,ab]
  refine l7 7 1 dC sg ?_
  refine zI (S:=Nat×aiD) [2,3,7,61,62,63] (λu=> [.ptr 0 0,.ptr 1 0,.sl (.app 2) (u.2.map λn=> [V.int .i64 n]),.sl .ro (args.map bJ.row),.int .i64 args.length,.int .i64 (u.1:Int)]) (λu=> [.box T.row,.box e.row,.app u.2.length 1]) (λu=>args.length - u.1)
   (λu=>u.1<=args.length/\u.2.length=u.1/\(wU T (args.drop u.1)).2=K.2/\(K.2=0->u.2++(wU T (args.drop u.1)).1=K.1)) hc hb (0,[])
   ⟨A3 _,rfl,by simp only[Bj];rw[hK],λ_=>by simp only[Bj];rw[hK];rfl⟩ ?_ ?_
  .exact cc 3 (by simp[go_sem,ab]) rfl (by simp[bT,cS,cN,bJ.bR,bL.row]) (A3 _) (zD sg rfl)
  rintro⟨i,l⟩ ⟨hi,hl,hinv,aa⟩
  simp only at hi hl hinv aa
  by_cases q:i<args.length
  rotate_left
  .rw[A9 om,wU]at hinv aa
   have ah:K.2=0:=hinv.symm
   have a6:l=K.1:=by have:=aa ah;simpa using this
   rw[ai1 (λh=>h ah),<-a6]at hM
   have ay:=xc8 e.s l (by unfold maxLen;omega)
   generalize oW e.s l=o at ay hM
   generalize nQ e.v=z at hz hM
   refine zA ?_
   simp[go_sem,q,hz]
   refine(A6 z).elim (λw=> ?_) (λw=> ?_)
   .rw[ai1 (by rw[w];decide)]at hM
    subst w
    simp[go_sem]
    refine pC ay ?_
    simp[go_sem,wI]
    exact ret _ _ _ hM
   .rw[ai2 w]at hM
    subst w
    simp[go_sem]
    exact ret _ _ _ hM
  have ei:=zU q om
  obtain⟨x,hx⟩:=eX (args[i])
  have ar:x∈args:=hx▸A8 q
  have a7:=DS args x ar
  rw[A5 q,hx,wU]at hinv aa
  have ad:=ih x om (al x ar) (av x ar)
  generalize lI T x=kx at ad hinv aa
  by_cases q4:kx.2=0
  .rw[ai1 (λh=>h q4)]at hinv aa
   have au:(kx.2 !=0)=false:=sU q4
   refine zA ?_
   simp[go_sem,q,hx]
   refine zL ad cB (zP sg (by rw[bJ.bR];rfl)) rfl ?_
   simp[go_sem,wI,au]
   refine zH ⟨om,zY rfl⟩ ?_
   simp[go_sem,ei]
   refine zJ (i+1,l++ [kx.1]) ⟨by simp only;omega,⟨by simp only;omega,by simp;omega,hinv,λh=>by have:=aa h;simpa using this⟩, ?_⟩
   exact aN 3 (by simp[bT,cS,cN,bJ.bR])
  .rw[ai2 q4]at hinv
   have au:(kx.2 !=0)=true:=sU q4
   have ah:kx.2=K.2:=hinv
   rw[ai2 (by rw[<-ah];exact q4),<-ah]at hM
   refine zA ?_
   simp[go_sem,q,hx]
   refine zL ad cB (zP sg (by rw[bJ.bR];rfl)) rfl ?_
   simp[go_sem,wI,au]
   exact ret _ _ _ hM
def iL (T:bL) (e:bJ):Int×Int:=if ig e<=64 then lI T e else(0,3)
theorem Tr: ∀(n:Nat) (e:bJ),mH e<=n->ig e<=n
 |0,e,h=>by grind[Oc]
 |n+1,e,h=>by
  rw[FY]at h
  rw[uW]
  have: ∀l:List bJ,mW l<=n->wL l<=n:=by
   intro l
   induction l with
   |nil=>intro _;simpa
   |cons x l ih=>
    intro hl
    rw[mW]at hl
    rw[wL]
    have h1:=Tr n x om
    omega
  grind
theorem KY (T:bL) (hT:T.cm.length<=maxLen) (e:bJ) (he:jl e):Pure prog 140 [.agg T.row,.agg e.row] (wI (iL T e)):=by
 have hs:=he.size
 have hd:=Tr 4000 e hs
 have ab:=SO 4000 e 1 0 hd he.wide om om om om
 have aa:=Tq T hT 4000 e hd he.wide he.dV
 generalize hM:iL T e=M
 unfold iL at hM
 generalize lI T e=k at aa hM
 have ret: ∀(x:Int×Int) (I:St),x=M->cw (some (.cz [.int .i64 x.1,.int .i64 x.2])) 0 (λr s=>r=wI M/\s= []) I:=λx I h=>Ep h
 refine iW 0 func140 ntmps140 results140 λc hc hb=>zM ?_
 simp[go_sem]
 refine mz 2 ab cB rfl (by rfl) ⟨.inl (by simp[go_sem,dH,dM,dj,dt]),zC rfl,.inl rfl,tV⟩ (λr I h=>by
  obtain⟨_,m2,rfl,_⟩:=h
  exact⟨_,rfl,rfl⟩) ?_
 rintro r o2 ⟨rfl,m2,h1,h2,h3⟩
 obtain rfl:o2= .box [.int .i64 m2]:=by grind
 by_cases q:ig e<=64
 .rw[ai2 q]at hM
  rw[ai4 om]
  simp[go_sem]
  refine zL aa cB (zP sg (by rw[bJ.bR];rfl)) rfl ?_
  simp[go_sem,wI]
  exact ret _ _ hM
 .rw[ai1 q]at hM
  rw[ai3 om]
  simp[go_sem]
  exact ret (0,3) _ hM
end Go.Proofs.YtplackkccmeioaaGreat
