/-
  The kinds of expressions by the document, over trees (the library Vx); used by the theorem at the end of the claim.
  Conditions: as each theorem states them.
-/
import Derived.Test.YtplackkccmeioaaGreatKBAJ
import Derived.Test.YtplackkccmeioaaGreatKBAF
set_option maxHeartbeats 8000000
namespace Go.Proofs.YtplackkccmeioaaGreat.R
open Go Go.Vx Go.Proofs.Tryz
set_option maxRecDepth 100000
variable {i:Nat}{n:Nat}{e:Int}{I:St}{x:Nat}{g:Tag}
def gV:ahP->Nat->Nat->Nat×Nat×Int
 | [],_,_=>(0,0,2)
 |c::rest,i,v=>if i=9/\1<c.toNat then(0,0,5)else if c.toNat<128 then(if c.toNat=0/\0<i then(0,0,9)else(v+c.toNat%128*128^i,i+1,0))else gV rest (i+1) (v+c.toNat%128*128^i)
def FB (r:Nat×Nat×Int):V:= .cy [.int .u64 r.1,.int .i64 r.2.1,.int .i64 r.2.2]
theorem yW4:((List.range 256).all λm=>jc .andNot .u8 (m:Int) 128==((m%128:Nat):Int))=true:=by decide+kernel
theorem xy0 (c:UInt8):jc .andNot .u8 (c.toNat:Int) 128=((c.toNat%128:Nat):Int):=by
 have h:=Am.1 yW4 c.toNat (Co.2 c.toNat_lt)
 exact beq_iff_eq.1 h
theorem wm3 {m:Nat} (hm:m<18446744073709551616) (hn:n<18446744073709551616) (ho:m|||n<18446744073709551616):jc .or .u64 (m:Int) (n:Int)=((m|||n:Nat):Int):=by
 show IntKind.u64.wrap ((BitVec.ofInt 64 (m:Int)|||BitVec.ofInt 64 (n:Int)).toNat:Int)=_
 rw[ahs,ahs,BitVec.toNat_or,ahw,ahw,Cy om,Cy om]
 exact dL om om
theorem Sf (i:Nat):128^i=2^(7*i):=by rw[Nat.pow_mul]
theorem wk7 {v:Nat} (hv:v<128^i):v|||(x*128^i)=v+x*128^i:=by
 rw[Sf]at*
 have:=Nat.shiftLeft_add_eq_or_of_lt hv x
 rw[Nat.shiftLeft_eq]at this
 rw[Nat.or_comm,<-this,Dz]
theorem Nx {v:Nat} (hv:v<128^i) (hx:x<128):v+x*128^i<128^(i+1):=by
 have:(x+1)*128^i<=128*128^i:=Aj _ om
 rw[ahO]
 rw[B4]at this
 omega
theorem Sg {v:Nat} (hv:v<128^i) (hx:x<128) (h9:i<=8\/i=9/\x<=1):v+x*128^i<18446744073709551616/\x*128^i<18446744073709551616:=by
 rcases h9 with h|⟨rfl,h⟩
 .have h1:=Nx hv hx
  have h2:128^(i+1)<=128^9:=Nat.pow_le_pow_right om om
  omega
 .have:x=0\/x=1:=om
  rcases this with rfl|rfl<;>omega
theorem J8 {b:ahP} (h:i<(zR b).length):(zR b)[i]= [.int .u8 (b[i]'(by rw[zV]at h;exact h)).toNat]:=by simp[zR]
theorem Ny (b:ahP) (ai:b.length<=du):Pure prog 148 [gj b] (FB (gV b 0 0)):=by
 refine iV 0 func148 ntmps148 results148 λc hc hb=> ?_
 refine zA ?_
 simp[go_sem,gj,zV]
 refine zI (S:=Nat×Nat) [2,7,8,9] (λu=> [.int .u64 u.2,gj b,.int .i64 b.length,.int .i64 u.1]) (λ_=> []) (λu=>b.length - u.1) (λu=>u.1<=b.length/\u.1<=9/\u.2<128^u.1/\gV (b.drop u.1) u.1 u.2=gV b 0 0) hc hb (0,0) ⟨A4 _,A4 _,dC,rfl⟩ ?_ ?_
 .exact ia rfl (zO (by simp[go_sem,gj]) rfl)
 rintro⟨i,v⟩ ⟨hi,h9,hv,ht⟩
 simp only at hi h9 hv ht
 refine zA ?_
 simp[go_sem,gj]
 refine zU (λq=> ?_) (λq=> ?_)
 .have q:i<b.length:=sU q
  obtain⟨c0,ae⟩: ∃c,b[i]=c:=⟨_,rfl⟩
  rw[A5 q,ae,gV]at ht
  have al:c0.toNat<256:=c0.toNat_lt
  have ei:IntKind.i64.wrap ((i:Int)+1)=((i+1:Nat):Int):=zQ q (by unfold du at ai;omega)
  have ret: ∀(r:Nat×Nat×Int) (I:St),r=gV b 0 0->cw (some (FB r)) 0 (λr s=>r=FB (gV b 0 0)/\s= []) I:=λr I h=>by subst h;exact wR
  by_cases hA:i=9/\1<c0.toNat
  .rw[ahg hA]at ht
   simp[go_sem,zV,q,J8,ae]
   have f1:((i:Int)==9)=true:=by simp;omega
   refine xE (λw=> ?_) (λw=>absurd (f1.symm.trans w) dC)
   simp[go_sem,w]
   refine zU (λw2=> ?_) (λw2=>absurd w2 (by simp;omega))
   simp[go_sem]
   exact ret (0,0,5) _ ht
  rw[ahf hA]at ht
  have aj:i<=8\/i=9/\c0.toNat%128<=1:=by
   by_cases h:i=9
   .exact .inr ⟨h,by
     have: ¬1<c0.toNat:=λw=>hA ⟨h,w⟩
     omega⟩
   .exact .inl om
  have hx:c0.toNat%128<128:=Cs _ om
  have n12:=Sg hv hx aj
  have fA:i=9-> ¬1<c0.toNat:=λh w=>hA ⟨h,w⟩
  have a1:=xy0 c0
  have e1:IntKind.i64.wrap (7*(i:Int))=7*(i:Int):=bX om om
  have e2:IntKind.u64.wrap (7*(i:Int))=7*(i:Int):=dL om om
  have e3:IntKind.u64.wrap ((c0.toNat:Int)%128)=(c0.toNat:Int)%128:=dL om om
  obtain⟨x,ad⟩: ∃x:Nat,x=c0.toNat%128*128^i:=⟨_,rfl⟩
  obtain⟨m,af⟩: ∃m:Nat,m=v+x:=⟨_,rfl⟩
  have ah:m<128^(i+1):=by rw[af,ad];exact Nx hv hx
  have ak:v|||x=m:=by rw[af,ad];exact wk7 hv
  rw[<-ad,<-af]at ht n12
  have e4:IntKind.u64.wrap ((c0.toNat:Int)%128*2^min (7*(i:Int)).toNat 64)=(x:Int):=by
   have:min (7*(i:Int)).toNat 64=7*i:=om
   rw[this]
   have h3:(c0.toNat:Int)%128*2^(7*i)=(x:Int):=by rw[ad,Sf];simp
   rw[h3,dL om om]
  have e5:jc .or .u64 (v:Int) (x:Int)=(m:Int):=by rw[wm3 om om om,ak]
  simp[go_sem,zV,q,J8,ae]
  refine xE (λw=> ?_) (λw=> ?_)
  .have w9:i=9:=by simp at w;omega
   have w1:=fA w9
   simp[go_sem,w]
   refine zU (λw2=>absurd w2 (by simp;omega)) (λw2=> ?_)
   simp[go_sem,a1,e1,e2,e3,e4]
   try (refine zJ om ?_;simp[go_sem,e5])
   refine zU (λw3=> ?_) (λw3=> ?_)
   .have w4: ¬c0.toNat<128:=by have:=ahp w3;omega
    have i8:i+1<=9:=om
    rw[ahf w4]at ht
    simp[go_sem,ei]
    exact zH (i+1,m) ⟨by simp only;omega,⟨q,i8,ah,ht⟩,ia rfl (zO (by simp[go_sem]) rfl)⟩
   .have w4:c0.toNat<128:=by have:=ahv w3;omega
    rw[ahg w4]at ht
    simp[go_sem]
    refine xE (λw5=> ?_) (λw5=> ?_)
    .have aa:c0.toNat=0:=by simp at w5;omega
     simp[go_sem,w5]
     refine zU (λw6=> ?_) (λw6=> ?_)
     .have ab:0<i:=sU w6
      rw[ahg ⟨aa,ab⟩]at ht
      simp[go_sem]
      exact ret (0,0,9) _ ht
     .have ab: ¬0<i:=sU w6
      rw[ahf (λh=>ab h.2)]at ht
      simp[go_sem,ei]
      exact ret (m,i+1,0) _ ht
    .have aa: ¬c0.toNat=0:=by simp at w5;omega
     rw[ahf (λh=>aa h.1)]at ht
     simp[go_sem,w5,ei]
     exact ret (m,i+1,0) _ ht
  .have w9: ¬i=9:=by simp at w;omega
   simp[go_sem,w,a1,e1,e2,e3,e4]
   try (refine zJ om ?_;simp[go_sem,e5])
   refine zU (λw3=> ?_) (λw3=> ?_)
   .have w4: ¬c0.toNat<128:=by have:=ahp w3;omega
    have i8:i+1<=9:=om
    rw[ahf w4]at ht
    simp[go_sem,ei]
    exact zH (i+1,m) ⟨by simp only;omega,⟨q,i8,ah,ht⟩,ia rfl (zO (by simp[go_sem]) rfl)⟩
   .have w4:c0.toNat<128:=by have:=ahv w3;omega
    rw[ahg w4]at ht
    simp[go_sem]
    refine xE (λw5=> ?_) (λw5=> ?_)
    .have aa:c0.toNat=0:=by simp at w5;omega
     simp[go_sem,w5]
     refine zU (λw6=> ?_) (λw6=> ?_)
     .have ab:0<i:=sU w6
      rw[ahg ⟨aa,ab⟩]at ht
      simp[go_sem]
      exact ret (0,0,9) _ ht
     .have ab: ¬0<i:=sU w6
      rw[ahf (λh=>ab h.2)]at ht
      simp[go_sem,ei]
      exact ret (m,i+1,0) _ ht
    .have aa: ¬c0.toNat=0:=by simp at w5;omega
     rw[ahf (λh=>aa h.1)]at ht
     simp[go_sem,w5,ei]
     exact ret (m,i+1,0) _ ht
 .have q:i=b.length:=by
   have: ¬i<b.length:=sU q
   omega
  subst q
  rw[Ck,gV]at ht
  simp[go_sem]
  rw[<-ht]
  exact wR
theorem FC: ∀(l:ahP) (i v:Nat),(gV l i v).2.2=0->(gV l i v).2.1<=i+l.length
 | [],i,v,h=>by simp[gV]at h
 |c::rest,i,v,h=>by
  unfold gV at h⊢
  split
  .simp_all
  .rename_i h1
   rw[ahf h1]at h
   split
   .rename_i h2
    rw[ahg h2]at h
    split
    .rename_i h3
     rw[ahg h3]at h
     simp at h
    .simp
   .rename_i h2
    rw[ahf h2]at h
    have:=FC rest (i+1) _ h
    simp only[Ak]
    omega
def wN (b:ahP) (r:Nat×Nat×Int):ahP×Nat×Int:=
 if r.2.2≠0 then([],0,r.2.2)else if 1048576<r.1 then([],0,3)else if b.length - r.2.1<r.1 then([],0,2)else((b.take (r.2.1+r.1)).drop r.2.1,r.2.1+r.1,0)
def sY (b:ahP):ahP×Nat×Int:=wN b (gV b 0 0)
def J9 (r:ahP×Nat×Int):V:= .cy [gj r.1,.int .i64 r.2.1,.int .i64 r.2.2]
theorem Ka {r:ahP×Nat×Int} {rows:List (List V)} (h1:zR r.1=rows) (h2:r.2.1=n) (h3:r.2.2=e):
  cw (some (.cy [.sl g rows,.int .i64 n,.int .i64 e])) 0 (λv s=>v=J9 r/\s= []) I:=by
 subst h1 h2 h3
 have h:cP (cH [] I.length) (J9 r) (.cy [.sl g (zR r.1),.int .i64 r.2.1,.int .i64 r.2.2]):=yZ ⟨vF,xZ rfl,xZ rfl,tV⟩
 exact zX h ⟨rfl,rfl⟩
theorem yW3 (b:ahP) (ab:b.length<=du):Pure prog 211 [gj b] (J9 (sY b)):=by
 have hle:=FC b 0 0
 have aa:=Ny b ab
 unfold sY
 revert hle aa
 generalize gV b 0 0=r
 obtain⟨n,k,e⟩:=r
 intro hle aa
 simp only at hle
 refine iW 0 func211 ntmps211 results211 λc hc hb=>zM ?_
 simp[go_sem]
 refine pC aa ?_
 simp[go_sem,FB]
 refine zU (λh=> ?_) (λh=> ?_)
 .have h:e≠0:=sU h
  simp[go_sem]
  exact Ka (by simp[wN,h,zR]) (by simp[wN,h]) (by simp[wN,h])
 have h:e=0:=sU h
 have hk:=hle h
 have e1:IntKind.i64.wrap ((b.length:Int) - (k:Int))=((b.length - k:Nat):Int):=by rw[bX (by unfold du at*;omega) (by unfold du at*;omega)];omega
 have e2:IntKind.u64.wrap ((b.length - k:Nat):Int)=((b.length - k:Nat):Int):=dL om (by unfold du at*;omega)
 simp[go_sem]
 refine zU (λh2=> ?_) (λh2=> ?_)
 .have h2:1048576<n:=by have:=ahp h2;omega
  simp[go_sem]
  exact Ka (by simp[wN,h,h2,zR]) (by simp[wN,h,h2]) (by simp[wN,h,h2])
 have h2: ¬1048576<n:=by have:=ahv h2;omega
 simp[go_sem,gj,zV,e1,e2]
 refine zU (λh3=> ?_) (λh3=> ?_)
 .have h3:b.length - k<n:=by have:=ahp h3;omega
  simp[go_sem]
  exact Ka (by simp[wN,h,h2,h3,zR]) (by simp[wN,h,h2,h3]) (by simp[wN,h,h2,h3])
 have h3: ¬b.length - k<n:=by have:=ahv h3;omega
 have e3:IntKind.i64.wrap (n:Int)=(n:Int):=bX om om
 have e4:IntKind.i64.wrap ((k:Int)+(n:Int))=((k+n:Nat):Int):=by rw[bX (by unfold du at*;omega) (by unfold du at*;omega)];omega
 simp[go_sem,zV,e3,e4]
 refine zJ ⟨om,om,DJ b⟩ ?_
 have e5:((k:Int)+(n:Int)).toNat=k+n:=om
 have hlen:((b.take (k+n)).drop k).length<=du:=by simp;omega
 simp[go_sem,e5]
 refine Jk (Nt ((b.take (k+n)).drop k) 0 hlen dC) cB ⟨zf (by simp[zR,List.map_take]),zC rfl,tV⟩ ?_
 rintro r s ⟨rfl,rfl⟩
 simp[go_sem,qu,qv]
 exact Ka (by simp[wN,h,h2,h3]) (by simp[wN,h,h2,h3]) (by simp[wN,h,h2,h3])
def kC (u:Nat):Int:=if u%2=0 then((u/2:Nat):Int)else -((u/2:Nat):Int) - 1
structure jj where
 v:bK
 n:Nat
 e:Int
def jj.V (r:jj):V:= .cy [.agg r.v.row,.int .i64 r.n,.int .i64 r.e]
def v0:bK:=⟨0,0,[]⟩
def uD (b:ahP):jj:=
 if b.length<2 then⟨v0,0,2⟩else if 1<(b.getD 1 0).toNat then⟨v0,0,9⟩else⟨⟨1,(b.getD 1 0).toNat,[]⟩,2,0⟩
theorem rH {r:jj} {k m:Int} {s:ahP} (h:r=⟨⟨k,m,s⟩,n,e⟩):
  cw (some (.cy [.agg [.int .i64 k,.int .i64 m,.str s],.int .i64 n,.int .i64 e])) 0 (λv s=>v=r.V/\s= []) I:=by
 subst h
 exact wR
theorem xd2 (b:ahP) (_:b.length<=du):Pure prog 209 [gj b] (uD b).V:=by
 refine iW 0 func209 ntmps209 results209 λc hc hb=>zM ?_
 simp[go_sem,gj,zV]
 refine zU (λh=> ?_) (λh=> ?_)
 .have h:b.length<2:=by have:=ahp h;omega
  simp[go_sem]
  exact rH (n:=0) (by simp[uD,h,v0])
 have h: ¬b.length<2:=by have:=ahv h;omega
 have h1:1<b.length:=om
 obtain⟨c0,aa⟩: ∃c,b[1]=c:=⟨_,rfl⟩
 have ab:b.getD 1 0=c0:=by rw[Ae,A0 h1,aa];rfl
 have e1:IntKind.i64.wrap (c0.toNat:Int)=(c0.toNat:Int):=bX om (by have:=c0.toNat_lt;omega)
 simp[go_sem,zV,h1,J8,aa]
 refine zJ om ?_
 simp[go_sem]
 refine zU (λh2=> ?_) (λh2=> ?_)
 .have h2:1<c0.toNat:=by have:=ahp h2;omega
  simp[go_sem]
  exact rH (n:=0) (by simp only[uD,ab];rw[ahf h,ahg h2];rfl)
 .have h2: ¬1<c0.toNat:=by have:=ahv h2;omega
  simp[go_sem,zV,h1,J8,aa]
  refine zJ om ?_
  simp[go_sem,e1]
  exact rH (n:=2) (by simp only[uD,ab];rw[ahf h,ahf h2])
theorem wm9 {x:Int} (h:0<=x) (h2:x<=9223372036854775807):jc .xor .i64 x 0=x:=by
 obtain⟨m,rfl⟩:=Dt h
 show IntKind.i64.wrap ((BitVec.ofInt 64 (m:Int)^^^BitVec.ofInt 64 0).toNat:Int)=m
 have e:BitVec.ofInt 64 (0:Int)=0#64:=rfl
 rw[e,BitVec.xor_zero,ahs,ahw,Cy om]
 exact bX om om
theorem wn0 {x:Int} (h:0<=x) (h2:x<=9223372036854775807):jc .xor .i64 x (-1)= -x - 1:=by
 obtain⟨m,rfl⟩:=Dt h
 show IntKind.i64.wrap ((BitVec.ofInt 64 (m:Int)^^^BitVec.ofInt 64 (-1)).toNat:Int)=_
 have e:BitVec.ofInt 64 (-1:Int)=BitVec.allOnes 64:=by decide+kernel
 rw[e,BitVec.xor_allOnes,ahs,BitVec.toNat_not,ahw,Cy om]
 rw[IntKind.wrap_i64]
 omega
theorem wo0 {m:Nat} (h:m<18446744073709551616):jc .and .u64 (m:Int) 1=(m:Int)%2:=by
 show IntKind.u64.wrap ((BitVec.ofInt 64 (m:Int)&&&BitVec.ofInt 64 1).toNat:Int)=_
 have e:BitVec.ofInt 64 (1:Int)=1#64:=rfl
 rw[e,ahs,BitVec.toNat_and,ahw,Cy om]
 have e2:m&&&(1#64).toNat=m%2:=Nat.and_one_is_mod m
 rw[e2,dL om om]
 omega
theorem wn8 (u:Nat) (hu:u<18446744073709551616):Pure prog 210 [.int .u64 u] (.int .i64 (kC u)):=by
 have e0:=wo0 hu
 have e1:(u:Int).fdiv 2=(u:Int)/2:=Dm _ om
 have e3:IntKind.i64.wrap ((u:Int)/2)=(u:Int)/2:=bX om om
 have e4:IntKind.i64.wrap ((u:Int)%2)=(u:Int)%2:=bX om om
 have e5:IntKind.i64.wrap (-((u:Int)%2))= -((u:Int)%2):=bX om om
 have e6:jc .xor .i64 ((u:Int)/2) (-((u:Int)%2))=kC u:=by
  unfold kC
  by_cases h:u%2=0
  .rw[ahg h,show -((u:Int)%2)=0 by omega,wm9 om om];omega
  .rw[ahf h,show -((u:Int)%2)= -1 by omega,wn0 om om];omega
 refine iW 0 func210 ntmps210 results210 λc hc hb=>zM ?_
 simp[go_sem,e0,e1,e3,e4,e5,e6]
 exact wR
theorem Kb: ∀(l:ahP) (i v:Nat),v<128^i->i<=9->(gV l i v).1<18446744073709551616
 | [],i,v,_,_=>by simp[gV]
 |c::rest,i,v,hv,h9=>by
  have hc:=c.toNat_lt
  unfold gV
  split
  .simp
  .rename_i h1
   have aa:i<=8\/i=9/\c.toNat%128<=1:=by
    by_cases h:i=9
    .exact .inr ⟨h,by
      have: ¬1<c.toNat:=λw=>h1 ⟨h,w⟩
      omega⟩
    .exact .inl om
   have hx:c.toNat%128<128:=Cs _ om
   have n12:=Sg hv hx aa
   split
   .split
    .simp
    .exact n12.1
   .rename_i h2
    refine Kb rest (i+1) _ (Nx hv hx) ?_
    rcases aa with h|h
    .omega
    .exfalso
     have: ¬1<c.toNat:=λw=>h1 ⟨h.1,w⟩
     omega
def oG (k:Nat) (tb:jj) (r:Nat×Nat×Int) (t:ahP×Nat×Int):jj:=
 if k=0 then⟨v0,1,0⟩
 else if k=1 then tb
 else if k=2 then(if r.2.2≠0 then⟨v0,0,r.2.2⟩else⟨⟨2,kC r.1,[]⟩,1+r.2.1,0⟩)
 else if k=3 then(if t.2.2≠0 then⟨v0,0,t.2.2⟩else if 64<t.1.length then⟨v0,0,3⟩else⟨⟨3,0,t.1⟩,1+t.2.1,0⟩)
 else⟨v0,0,9⟩
def la:ahP->jj
 | []=>⟨v0,0,2⟩
 |c::rest=>oG c.toNat (uD (c::rest)) (gV rest 0 0) (sY rest)
theorem Sh (b:ahP):(sY b).2.1<=b.length/\((sY b).2.2=0->(sY b).1.length<=b.length):=by
 have hle:=FC b 0 0
 unfold sY wN
 revert hle
 generalize gV b 0 0=r
 obtain⟨n,k,e⟩:=r
 intro hle
 simp only at hle⊢
 split
 .simp
 .rename_i h
  have h:e=0:=Decidable.not_not.1 h
  have hk:=hle h
  split
  .simp
  .split
   .simp
   .refine⟨?_,λ_=> ?_⟩
    .simp only;omega
    .simp;omega
theorem wg5 (b:ahP) (ai:b.length<=du):Pure prog 149 [gj b] (la b).V:=by
 cases b with
 |nil=>
  refine iW 0 func149 ntmps149 results149 λc hc hb=>zM ?_
  simp[go_sem,gj,zR]
  exact rH (n:=0) rfl
 |cons c0 rest=>
  have hc:=c0.toNat_lt
  have hr:rest.length<=du:=by simp only[Ak]at ai;omega
  have ab:=Kb rest 0 0 dC dC
  have hle:=FC rest 0 0
  have ad:=Ny rest hr
  have ae:=yW3 rest hr
  have af:=Sh rest
  have ah:=xd2 (c0::rest) ai
  have e1:IntKind.i64.wrap (c0.toNat:Int)=(c0.toNat:Int):=bX om om
  have aa:zR (c0::rest)= [.int .u8 c0.toNat]::zR rest:=rfl
  rw[la]
  revert ab hle ad ae ah af
  generalize gV rest 0 0=r
  generalize sY rest=t
  generalize uD (c0::rest)=tb
  obtain⟨n,k,e⟩:=r
  obtain⟨tx,tk,te⟩:=t
  obtain⟨⟨bk,bn,bs⟩,bm,be⟩:=tb
  obtain⟨q,hq⟩:=eX c0.toNat
  intro ab hle ad ae af ah
  simp only at ab hle af
  rw[hq]at hc e1 aa⊢
  have e2:e=0->IntKind.i64.wrap (1+(k:Int))=((1+k:Nat):Int):=λh=>by
   have:=hle h
   rw[bX om (by unfold du at*;omega)];omega
  have e3:IntKind.i64.wrap (1+(tk:Int))=((1+tk:Nat):Int):=by rw[bX om (by unfold du at*;omega)];omega
  have e4:(zR rest).take rest.length=zR rest:=Aa (by rw[zV];omega)
  have hu:eI 1 ([V.int .u8 (q:Int)]::zR rest):=aa▸DJ (c0::rest)
  refine iW 0 func149 ntmps149 results149 λc hc hb=>zM ?_
  simp[go_sem,gj,aa,zV]
  refine zU (λw=>absurd w (by simp;omega)) (λw=> ?_)
  simp[go_sem,zV,e1]
  refine zU (λw1=> ?_) (λw1=> ?_)
  .have w1:q=0:=by simp at w1;omega
   simp[go_sem]
   exact rH (n:=1) (by simp[oG,w1,v0])
  have w1: ¬q=0:=by simp at w1;omega
  simp[go_sem]
  refine zU (λw2=> ?_) (λw2=> ?_)
  .have w2:q=1:=by simp at w2;omega
   simp[go_sem]
   refine zL ah cB (zO (by simp[gj,aa]) rfl) rfl ?_
   simp[go_sem,jj.V]
   exact rH (n:=bm) (by simp[oG,w2])
  have w2: ¬q=1:=by simp at w2;omega
  simp[go_sem]
  refine zU (λw3=> ?_) (λw3=> ?_)
  .have w3:q=2:=by simp at w3;omega
   simp[go_sem,zV]
   refine zJ ⟨om,hu⟩ ?_
   simp[go_sem,e4]
   refine pC ad ?_
   simp[go_sem,FB]
   refine zU (λw4=> ?_) (λw4=> ?_)
   .have w4:e≠0:=sU w4
    simp[go_sem]
    exact rH (n:=0) (by simp[oG,w3,w4,v0])
   have w4:e=0:=sU w4
   have e5:=e2 w4
   simp[go_sem]
   refine pC (wn8 n ab) ?_
   simp[go_sem,e5]
   exact rH (n:=1+k) (by simp[oG,w3,w4])
  have w3: ¬q=2:=by simp at w3;omega
  simp[go_sem]
  refine zU (λw4=> ?_) (λw4=> ?_)
  .have w4:q=3:=by simp at w4;omega
   simp[go_sem,zV]
   refine zJ ⟨om,hu⟩ ?_
   simp[go_sem,e4]
   refine pC ae ?_
   simp[go_sem,J9,gj]
   refine zU (λw5=> ?_) (λw5=> ?_)
   .have w5:te≠0:=sU w5
    simp[go_sem]
    exact rH (n:=0) (by simp[oG,w4,w5,v0])
   have w5:te=0:=sU w5
   simp[go_sem,zV]
   refine zU (λw6=> ?_) (λw6=> ?_)
   .have w6:64<tx.length:=by have:=ahp w6;omega
    simp[go_sem]
    exact rH (n:=0) (by simp[oG,w4,w5,w6,v0])
   have w6: ¬64<tx.length:=by have:=ahv w6;omega
   simp[go_sem]
   refine zJ (wV _) ?_
   simp[go_sem,e3,Gb]
   exact rH (n:=1+tk) (by simp[oG,w4,w5,w6])
  have w4: ¬q=3:=by simp at w4;omega
  simp[go_sem]
  exact rH (n:=0) (by simp[oG,w1,w2,w3,w4,v0])
theorem jg (aa fr:List (List V)) (t:Int):Pure prog 147 [.agg [.sl .ro aa,.sl .ro fr],.int .i64 t] (.bool (decide (0<=t)&&decide (t<fr.length))):=by
 refine iW 0 func147 ntmps147 results147 λc hc hb=>zM ?_
 simp[go_sem]
 repeat' (first|(refine xE (λq=> ?_) (λq=> ?_)<;>simp[go_sem,q])|(refine zU (λq=> ?_) (λq=> ?_)<;>simp[go_sem,q]))
 all_goals exact zX (zC rfl) ⟨by simp_all,rfl⟩
theorem xO1 (b:ahP):(la b).e=0->(la b).n<=b.length:=by
 cases b<;>grind[la,FC,Sh,oG,uD]
def ik:Nat->ahP->Option (List bK)
 |0,b=>if b= []then some []else none
 |n+1,b=>if(la b).e=0 then(ik n (b.drop (la b).n)).map ((la b).v:: ·)else none
def sZ (o:Option (List bK)):List bK×Int:=match o with
 |some l=>(l,0)
 |none=>([],9)
def jB (nc:Nat) (data:ahP):List bK×Int:=
 if(gV data 0 0).2.2=0/\(gV data 0 0).1=nc then sZ (ik nc (data.drop (gV data 0 0).2.1))else([],9)
def eF (ts:List bL) (table:Int) (data:ahP):List bK×Int:=
 if h:0<=table/\table<ts.length then jB (ts[table.toNat]'om).ca.length data else([],1)
theorem yz6 (b:ahP) (k:Nat):List.drop k (List.take b.length (zR b))=zR (b.drop k):=by
 simp[Aa,zR]
def eD (r:List bK×Int):V:= .cy [.sl .ro (r.1.map bK.row),.int .i64 r.2]
theorem Si {r:List bK×Int} {l:List bK} (h:r=(l,e)):cw (some (.cy [.sl g (l.map bK.row),.int .i64 e])) 0 (λv s=>v=eD r/\s= []) I:=by
 subst h
 exact zX (r:=eD (l,e)) (yZ (gT:= [.sl .ro (l.map bK.row),.int .i64 e]) ⟨vF,xZ rfl,tV⟩) sm
theorem Kc {r:List bK×Int} (h:r=([],e)):cw (some (.cy [.sl g [],.int .i64 e])) 0 (λv s=>v=eD r/\s= []) I:=Si (l:= []) h
theorem Sj (ab:List (List V)) (ts:List bL) (table:Int) (data:ahP) (hd:data.length<=du) (al: ∀t∈ts,t.ca.length<=du):
  Pure prog 103 [.agg [.sl .ro ab,.sl .ro (ts.map bL.row)],.int .i64 table,.str data] (eD (eF ts table data)):=by
 have af:=Kb data 0 0 dC dC
 have hle:=FC data 0 0
 have ah:=Ny data hd
 by_cases ht:0<=table/\table<ts.length
 .obtain⟨j,rfl⟩: ∃j:Nat,table=j:=⟨table.toNat,om⟩
  have hj:j<ts.length:=om
  obtain⟨t,ak⟩:=eX (ts[j])
  have an:=al t (ak▸A8 hj)
  have hF:eF ts j data=jB t.ca.length data:=by
   simp_all[eF]
  rw[hF]
  unfold jB
  revert af hle ah
  generalize gV data 0 0=r
  obtain⟨n,k,e⟩:=r
  intro af hle ah
  simp only at af hle⊢
  obtain⟨nc,ae⟩:=eX t.ca.length
  rw[ae]at an⊢
  have eu:IntKind.u64.wrap (nc:Int)=nc:=dL om (by grind)
  refine iV 0 func103 ntmps103 results103 λc hc hb=> ?_
  refine zA ?_
  simp[go_sem]
  refine pC (jg ab (ts.map bL.row) j) ?_
  simp[go_sem,hj]
  refine zL ah cB (zO (by rfl) rfl) rfl ?_
  simp[go_sem,FB]
  have bad: ∀I:St,¬(e=0/\n=nc)->cw (some (.cy [.sl .full [],.int .i64 9])) 0 (λv s=>v=eD (if e=0/\n=nc then sZ (ik nc (data.drop k))else([],9))/\s= []) I:=λI h=>Kc (by grind)
  refine xE (λai=> ?_) (λai=> ?_)
  .have q1:e=0:=by grind
   simp[go_sem,ai,hj,ak,ae,eu]
   refine zU (λq2=> ?_) (λq2=> ?_)
   .have q2: ¬n=nc:=by grind
    simp[go_sem]
    exact bad _ om
   have q2:n=nc:=by grind
   have hk:=hle q1
   rw[ahg ⟨q1,q2⟩]
   simp[go_sem]
   refine lE 12 3 dC rfl ?_
   refine zI (S:=Nat×Nat×List bK) [8,10,12,42,43] (λu=> [gj data,.int .i64 u.2.1,.sl (.app 1) (u.2.2.map bK.row),.int .u64 nc,.int .u64 u.1]) (λu=> [.box [.sl .ro ab,.sl .ro (ts.map bL.row)],.app u.2.2.length 3]) (λu=>nc - u.1)
    (λu=>u.1<=nc/\u.2.1<=data.length/\u.2.2.length=u.1/\(ik (nc - u.1) (data.drop u.2.1)).map (u.2.2++ ·)=ik nc (data.drop k)) hc hb (0,k,[]) (by simp_all) ?_ ?_
   .exact cd 2 sm rfl rfl om (zD (by simp[go_sem,gj,zR,q2]) rfl)
   rintro⟨i,at_,l⟩ ⟨hi,ao,aq,aa⟩
   simp only at hi ao aq aa
   have ar:data.length - at_<=du:=om
   have aj:=wg5 (data.drop at_) (by simp;omega)
   have ad:=xO1 (data.drop at_)
   rw[D7]at ad
   refine zA ?_
   simp[go_sem]
   refine zU (λq3=> ?_) (λq3=> ?_)
   .have q3:i<nc:=by grind
    rw[show nc - i=(nc - i - 1)+1 by omega,ik]at aa
    revert aj ad aa
    generalize la (data.drop at_)=r
    obtain⟨⟨vk,vn,vs⟩,rn,re⟩:=r
    intro aa aj ad
    simp only at ad aa
    simp[go_sem,gj,zV]
    refine zJ (by grind[DJ]) ?_
    simp[go_sem]
    refine zL aj cB (zO (by grind[gj,yz6]) rfl) rfl ?_
    simp[go_sem,jj.V]
    refine zU (λq4=> ?_) (λq4=> ?_)
    .have q4: ¬re=0:=by grind
     rw[ahf q4]at aa
     simp[go_sem]
     rw[<-aa]
     exact Kc rfl
    have q4:re=0:=by grind
    rw[ahg q4]at aa
    have au:=ad q4
    have ea:IntKind.i64.wrap ((at_:Int)+rn)=((at_+rn:Nat):Int):=by rw[bX om (by grind)];omega
    have ei:IntKind.u64.wrap ((i:Int)+1)=((i+1:Nat):Int):=by rw[dL om om];omega
    have av:(l.length+1)*32<=140737488355328:=by grind
    simp[go_sem]
    refine zJ ⟨om,zY rfl⟩ ?_
    simp[go_sem,ea,ei]
    refine zH (i+1,at_+rn,l++ [⟨vk,vn,vs⟩]) ⟨om,⟨q3,by grind,by grind, ?_⟩,cd 2 sm rfl rfl om (zD (by simp[go_sem]) rfl)⟩
    rw[<-aa]
    simp only
    rw[show nc - (i+1)=nc - i - 1 by omega,ahH]
    cases ik (nc - i - 1) (data.drop (at_+rn))<;>simp
   .have q3:i=nc:=by grind
    subst q3
    simp[ik]at aa
    simp[go_sem,gj,zV]
    refine zU (λq4=> ?_) (λq4=> ?_)
    .have q4:at_<data.length:=by grind
     rw[ahf om]at aa
     simp[go_sem]
     rw[<-aa]
     exact Kc rfl
    have q4:data.length<=at_:=by grind
    rw[ahg q4]at aa
    simp[go_sem]
    rw[<-aa]
    exact Si (by rfl)
  .have q1: ¬e=0:=by grind
   simp[go_sem,ai]
   exact bad _ om
 .have hF:eF ts table data=([],1):=by
   simp_all[eF,dif_neg]
  rw[hF]
  refine iV 0 func103 ntmps103 results103 λc hc hb=> ?_
  refine zA ?_
  simp[go_sem]
  refine pC (jg ab (ts.map bL.row) table) ?_
  have hn:(decide (0<=table)&&decide (table<((ts.map bL.row).length:Int)))=false:=by grind
  rw[hn]
  simp[go_sem]
  exact Kc rfl
def be (v:Nat):Nat->ahP
 |0=> []
 |k+1=>UInt8.ofNat (v/256^k)::be v k
theorem Nz (v:Nat): ∀k,(be v k).length=k
 |0=>rfl
 |k+1=>by simp[be,Nz v k]
theorem Ke (a b:UInt8) (l m:ahP):Op.bytesLess (a::l) (b::m)=if a.toNat<b.toNat then true else if b.toNat<a.toNat then false else Op.bytesLess l m:=by
 rw[Op.bytesLess]
 simp only[UInt8.lt_iff_toNat_lt]
 by_cases h1:a.toNat<b.toNat
 .grind
 .by_cases h2:b.toNat<a.toNat
  .grind
  .have:a=b:=E2.1 om
   grind
def mE:ahP->ahP
 | []=> []
 |c::s=>if c=0 then 0::255::mE s else c::mE s
theorem NA: ∀s,(mE s).length<=2*s.length
 | []=>by decide
 |c::s=>by
  have:=NA s
  unfold mE
  split<;>simp<;>omega
theorem Sk: ∀a b,mE (a++b)=mE a++mE b
 | [],b=>rfl
 |c::a,b=>by
  have:=Sk a b
  rw[Bm,mE,mE]
  split<;>simp[this]
def kD (v:bK):ahP:=
 if ep v=true then
  UInt8.ofNat v.kind.toNat::(if v.kind=1 then [UInt8.ofNat v.n.toNat]else if v.kind=2 then be (v.n+9223372036854775808).toNat 8 else if v.kind=3 then mE v.s++ [0,1]else [])
 else []
theorem Sl {v:bK}:(kD v).length<=2*v.s.length+10:=by
 grind[NA,Nz,kD]
theorem wr5 (a:Nat) (h:a<2^64):a^^^2^63=(2^63+a)%2^64:=by
 apply Nat.eq_of_testBit_eq
 intro j
 rw[Nat.testBit_xor,Nat.testBit_two_pow,Nat.testBit_mod_two_pow]
 rcases Ba j 63 with h1|h1|h1
 .rw[Nat.testBit_two_pow_add_gt h1]
  simp[show j<64 by omega,show ¬63=j by omega]
 .subst h1
  rw[Nat.testBit_two_pow_add_eq]
  simp
 .rw[Nat.testBit_lt_two_pow (Dg h (Nat.pow_le_pow_right dC om))]
  simp[show ¬j<64 by omega,show ¬63=j by omega]
theorem xX9 {n:Int} (h1: -9223372036854775808<=n) (h2:n<=9223372036854775807):jc .xor .u64 (IntKind.u64.wrap n) 9223372036854775808=(((n+9223372036854775808).toNat:Nat):Int):=by
 obtain⟨a,ha,aa⟩: ∃a:Nat,IntKind.u64.wrap n=(a:Int)/\(a:Int)=n%18446744073709551616:=by
  unfold IntKind.wrap
  simp[IntKind.bits,IntKind.signed]
  exact⟨(n%18446744073709551616).toNat,om,om⟩
 have hl:a<2^64:=om
 show IntKind.u64.wrap ((BitVec.ofInt 64 (IntKind.u64.wrap n)^^^BitVec.ofInt 64 ((9223372036854775808:Nat):Int)).toNat:Int)=_
 rw[ha,ahs,ahs,BitVec.toNat_xor,ahw,ahw,Cy hl,show 9223372036854775808%2^64=2^63 by decide,wr5 a hl]
 unfold IntKind.wrap
 simp[IntKind.bits,IntKind.signed]
 omega
theorem xS1 (n:Int) (hn:dp n):Pure prog 257 [.int .i64 n] (.int .u64 (n+9223372036854775808).toNat):=by
 have e:=xX9 hn.1 hn.2
 refine iW 0 func257 ntmps257 results257 λc hc hb=>zM ?_
 simp[go_sem,e]
 exact wR
theorem wr0 (n:Int):IntKind.u8.wrap n<256:=by
 unfold IntKind.wrap
 simp[IntKind.bits,IntKind.signed]
 omega
theorem wl9 (l:ahP) (h:l.all (λc=>decide (c.toNat<=8))) (i:Nat):(l[i]?.getD 0).toNat<=8:=by
 rcases Bx i l.length with q|q
 .rw[A0 q]
  simpa using Am.1 h _ (A8 q)
 .rw[Dk q];decide
theorem Sn {n:Int} (h0:0<=n) (h:n<=64): ∃m:Nat,V.int .i64 n= .int .i64 m/\m<=64:=⟨n.toNat,by congr 1;omega,om⟩
theorem xR8 (v:Nat) (_hv:v<18446744073709551616):bN prog 235 [.int .u64 v] [] λr s=>(∃n:Nat,r= .int .i64 n/\n<=64)/\s= []:=by
 have aa:IntKind.i64.wrap 48=48:=by decide+kernel
 have ab:IntKind.i64.wrap 40=40:=by decide+kernel
 have ad:IntKind.i64.wrap 16=16:=by decide+kernel
 have w8:IntKind.i64.wrap 8=8:=by decide+kernel
 have ae:IntKind.i64.wrap (48+8)=56:=by decide+kernel
 have af:IntKind.i64.wrap (16+8)=24:=by decide+kernel
 refine iW 0 func235 ntmps235 results235 λc hc hb=>zM ?_
 simp[go_sem]
 repeat' (refine zU (λq=> ?_) (λq=> ?_)<;>simp[go_sem])
 all_goals
  refine zJ (wr0 _) ?_
  generalize hx:UInt8.toNat (Option.getD _ _)=x
  have h8:x<=8:=hx▸wl9 _ (by decide+kernel) _
  clear hx
  have e8:IntKind.i64.wrap (x:Int)=x:=bX om om
  simp[go_sem,e8]
 all_goals
  try simp only[aa,ab,ad,w8,ae,af]
  first
  |exact zX (zC rfl) ⟨Sn om om,rfl⟩
  |(rw[bX om om]
    exact zX (zC rfl) ⟨Sn om om,rfl⟩)
theorem xU2 (v k:Nat) (_hk:k<=7):IntKind.u8.wrap ((v:Int).fdiv (2^(8*k)))=((UInt8.ofNat (v/256^k)).toNat:Int):=by
 have e:(v:Int).fdiv (2^(8*k))=((v/256^k:Nat):Int):=by
  rw[Dm _ (by exact Int.le_of_lt (Int.pow_pos dC))]
  rw[show(2:Int)^(8*k)=((256^k:Nat):Int) by rw[Int.pow_mul];simp]
  rw[Int.natCast_ediv]
 rw[e,Fz]
theorem wn4 (b:ahP) (v:Nat) (ab:b.length<=du) (hv:v<18446744073709551616):Pure prog 256 [gj b,.int .u64 v,.int .i64 8] (.cy [gj (b++be v 8),.int .i64 0]):=by
 refine iV 0 func256 ntmps256 results256 λc hc hb=> ?_
 refine zA ?_
 simp[go_sem,gj]
 refine Yn (R:=λr=> ∃n:Nat,r= .int .i64 n/\n<=64) (xR8 v hv) cB (yF rfl) (λr h=>by obtain⟨b,rfl,_⟩:=h;rfl) ?_
 rintro r ⟨n,rfl,hn⟩
 have ad:IntKind.i64.wrap 64=64:=by decide+kernel
 simp[go_sem,ad]
 refine zU (λq=>absurd q (by simp;omega)) (λq=> ?_)
 simp[go_sem]
 refine Jk (Nt b 8 ab dC) cB (yF rfl) ?_
 rintro r s ⟨rfl,rfl⟩
 simp[go_sem,qu,qv]
 have ew: ∀k:Nat,k<=8->IntKind.i64.wrap (8*(k:Int) - 8)=8*(k:Int) - 8:=λk h=>bX om om
 have ae:IntKind.i64.wrap (8*IntKind.i64.wrap 7)=56:=by decide+kernel
 refine zI (S:=Nat×ahP) [1,8,9] (λu=> [.int .u64 v,qu u.2,.int .i64 (8*(u.1:Int) - 8)]) (λu=>qv u.2) (λu=>u.1) (λu=>u.1<=8/\u.2++be v u.1=b++be v 8) hc hb (8,b) ⟨A7 _,rfl⟩ ?_ ?_
 .exact cd 1 (by simp[qv]) rfl rfl (A4 _) (zD (by simp[go_sem,qu]) rfl)
 rintro⟨k,out⟩ ⟨hk,aa⟩
 simp only at hk aa
 have af:out.length+k=b.length+8:=by
  have:=ahj List.length aa
  simpa[Nz]using this
 refine zA ?_
 simp[go_sem,qu,qv]
 refine zU (λq=> ?_) (λq=> ?_)
 .obtain⟨j,rfl⟩: ∃j,k=j+1:=⟨k - 1,by simp at q;omega⟩
  have e1:IntKind.u64.wrap (8*((j+1:Nat):Int) - 8)=((8*j:Nat):Int):=by rw[dL om om];omega
  have e2:IntKind.i64.wrap (8*((j+1:Nat):Int) - 8 - 8)=8*(j:Int) - 8:=by rw[bX om om];omega
  have e3:=xU2 v j om
  simp[go_sem]at e1 e2
  simp[go_sem,e1]
  refine zJ om ?_
  have e4:min (8*(j:Int)).toNat 64=8*j:=om
  simp[go_sem,e4,e3]
  refine zJ ⟨zV out,by rw[zV];unfold du at ab;omega,zY rfl⟩ ?_
  simp[go_sem,e2]
  rw[be]at aa
  refine zH (j,out++ [UInt8.ofNat (v/256^j)]) ⟨by simp only;omega,⟨by simp only;omega,by simpa using aa⟩,cd 1 sm rfl rfl (A4 _) (zD (by simp[go_sem,zR]) rfl)⟩
 .have:k=0:=by simp at q;omega
  subst this
  rw[show be v 0= [] from rfl,Ax]at aa
  simp[go_sem]
  rw[<-aa]
  exact zX (yZ (gT:= [gj out,.int .i64 0]) ⟨vF,xZ rfl,tV⟩) ⟨rfl,rfl⟩
theorem yY7 {v:bK} (h:ep v):v.kind=0\/v.kind=1\/v.kind=2\/v.kind=3:=by
 unfold ep at h
 by_cases h0:v.kind=0
 .exact .inl h0
 .by_cases h1:v.kind=1
  .exact .inr (.inl h1)
  .by_cases h2:v.kind=2
   .exact .inr (.inr (.inl h2))
   .by_cases h3:v.kind=3
    .exact .inr (.inr (.inr h3))
    .simp[h0,h1,h2,h3]at h
theorem xD6 {s:ahP} (h:i<s.length):mE (s.take (i+1))=mE (s.take i)++(if s[i]=0 then [0,255]else [s[i]]):=by
 rw[Ah h,Sk]
 simp only[mE]
theorem wb4 {s:Nat} {a b:List V} (h1:a.length=s) (h2:b.length=s):eI s [a,b]:=λr hr=>by
 simp at hr
 rcases hr with rfl|rfl<;>assumption
theorem Sp {v:bK} (h:ep v):v.s.length<=64:=by
 unfold ep at h
 split at h
 .simp at h;rw[h.2];decide
 split at h
 .simp at h;rw[h.2];decide
 split at h
 .simp at h;rw[h];decide
 split at h
 .simp at h;exact h.2
 .cases h
theorem wg3 (b:ahP) (v:bK) (hv:v.ok) (ad:b.length<=du - 1):Pure prog 212 [gj b,.agg v.row] (gj (b++kD v)):=by
 refine iV 0 func212 ntmps212 results212 λc hc hb=> ?_
 refine zA ?_
 obtain⟨k,n,s⟩:=v
 have hn:=hv.n
 simp only at hn
 simp[go_sem,gj,zV]
 refine zJ ⟨by unfold du at*;omega,by simp[eI],DJ b⟩ ?_
 simp[go_sem]
 refine pC (FA ⟨k,n,s⟩) ?_
 simp[go_sem]
 refine zU (λh=> ?_) (λh=> ?_)
 .simp[go_sem]
  refine uC ?_
  have h:ep ⟨k,n,s⟩=false:=sU h
  simp[kD,h,zR]
 have h:ep ⟨k,n,s⟩:=sU h
 have hs:s.length<=500:=by
   have:s.length<=64:=Sp h
   omega
 have hk:=yY7 h
 simp only at hk
 simp[go_sem,zV]
 refine zJ ⟨by unfold du at*;omega,zY rfl⟩ ?_
 have w0:IntKind.u8.wrap 0=0:=by decide+kernel
 have w1:IntKind.u8.wrap 1=1:=by decide+kernel
 have w2:IntKind.u8.wrap 2=2:=by decide+kernel
 have w3:IntKind.u8.wrap 3=3:=by decide+kernel
 rcases hk with rfl|rfl|rfl|rfl
 .simp[go_sem]
  refine uC ?_
  simp[kD,h,zR,w0]
 .have h1:n=0\/n=1:=by
   unfold ep at h
   simp at h
   exact h.1
  simp[go_sem]
  refine zJ ⟨zV b,by rw[zV];unfold du at*;omega,zY rfl⟩ ?_
  simp[go_sem]
  refine uC ?_
  rcases h1 with rfl|rfl<;>simp[kD,h,zR,w0,w1]
 .simp[go_sem]
  obtain⟨u,hu⟩:=eX ((n+9223372036854775808).toNat)
  have hO:=xS1 n hn
  rw[hu]at hO
  refine pC hO ?_
  simp[go_sem]
  refine zL (wn4 (b++ [2]) u (by simp;unfold du at*;omega) om) cB ⟨zf (by simp[zR,w2]),zC rfl,zC rfl,tV⟩ rfl ?_
  simp[go_sem]
  refine uC ?_
  simp[kD,h,hu]
 .simp[go_sem]
  refine zI (S:=Nat) [3,5,44,45] (λi=> [.ptr 0 0,.sl (.app 1) (zR (b++3::mE (s.take i))),.int .i64 s.length,.int .i64 i]) (λi=> [.box [.int .i64 3,.int .i64 n,.str s],.app (b++3::mE (s.take i)).length 1]) (λi=>s.length - i) (λi=>i<=s.length) hc hb 0 (A4 _) ?_ ?_
  .exact cd 2 (by simp[mE]) rfl rfl (A4 _) (zD (by simp[go_sem,mE,zR,w3]) rfl)
  intro i hi
  have ae:=NA (s.take i)
  have af:(s.take i).length<=s.length:=by simp;omega
  obtain⟨o,ho⟩: ∃o,b++3::mE (s.take i)=o:=⟨_,rfl⟩
  have ah:o.length<=du+1100:=by
   rw[<-ho]
   simp
   unfold du at*
   omega
  rw[ho]
  refine zA ?_
  simp[go_sem]
  refine zU (λq=> ?_) (λq=> ?_)
  .have q:i<s.length:=sU q
   have ei:=zQ q om
   have aa:=xD6 q
   obtain⟨c0,ab⟩:=eX (s[i])
   simp[go_sem,q,ab,zV]
   refine zJ ⟨by unfold du at*;omega,zY rfl⟩ ?_
   simp[go_sem,q,ab]
   refine zU (λq2=> ?_) (λq2=> ?_)
   .have q2:c0=0:=by
     have:c0.toNat=0:=by simp at q2;omega
     exact E2.1 (sU this)
    rw[ab,ahg q2]at aa
    simp[go_sem,zV]
    refine zJ ⟨by unfold du at*;omega,zY rfl⟩ ?_
    simp[go_sem,ei]
    exact zH (i+1) ⟨om,q,cd 2 (by simp[aa,<-ho];omega) rfl rfl (A4 _) (zD (by simp[go_sem,aa,<-ho,zR,q2]) rfl)⟩
   .have q2: ¬c0=0:=λh=>by rw[h]at q2;simp at q2
    rw[ab,ahf q2]at aa
    simp[go_sem,ei]
    exact zH (i+1) ⟨om,q,cd 2 (by simp[aa,<-ho];omega) rfl rfl (A4 _) (zD (by simp[go_sem,aa,<-ho,zR]) rfl)⟩
  .have q:i=s.length:=by
    have: ¬i<s.length:=sU q
    omega
   subst q
   simp[go_sem,zV]
   refine zJ ⟨by unfold du at*;omega,wb4 rfl rfl⟩ ?_
   simp[go_sem]
   refine uC ?_
   rw[List.take_length]at ho
   simp[kD,h,zR,<-ho]
def s7 (n:Nat) (t:Int):Bool:=decide (0<=t)&&decide (t<n)
theorem NB {t:Int} (h:s7 n t): ∃j:Nat,t=j/\j<n:=by
 simp[s7]at h
 exact⟨t.toNat,om,om⟩
def nP (n:Nat) (t:Int) (v:bK):ahP:=if s7 n t=true then UInt8.ofNat (t.toNat+1)::kD v else []
def oH (n:Nat) (t:Int):ahP×ahP:=if s7 n t=true then([UInt8.ofNat (t.toNat+1)],[UInt8.ofNat (t.toNat+2)])else([],[])
theorem Sq (aa fr:List (List V)) (t:Int) (v:bK) (hn:fr.length<=du) (hv:v.ok):Pure prog 151 [.agg [.sl .ro aa,.sl .ro fr],.int .i64 t,.agg v.row] (.str (nP fr.length t v)):=by
 have ab:=jg aa fr t
 rw[show(decide (0<=t)&&decide (t<fr.length))=s7 fr.length t from rfl]at ab
 refine iW 0 func151 ntmps151 results151 λc hc hb=>zM ?_
 simp[go_sem]
 refine pC ab ?_
 unfold nP
 refine(A6 (s7 fr.length t)).elim (λh=> ?_) (λh=> ?_)
 .obtain⟨j,rfl,hj⟩:=NB h
  rw[h,ahg rfl]
  have e1:IntKind.u8.wrap (IntKind.i64.wrap ((j:Int)+1))=((UInt8.ofNat (j+1)).toNat:Int):=by
   rw[bX om (by unfold du at hn;omega),show(j:Int)+1=((j+1:Nat):Int) by omega,Fz]
  simp[go_sem,e1]
  refine zL (wg3 [UInt8.ofNat (j+1)] v hv (by simp[du])) cB ⟨zf (by simp[zR]),zC rfl,tV⟩ rfl ?_
  simp[go_sem,gj]
  refine zJ (wV _) ?_
  simp[go_sem,Gb]
  exact wR
 .rw[h]
  simp[go_sem]
  exact wR
theorem Sr (aa fr:List (List V)) (t:Int) (v:bK) (hn:fr.length<=du) (hv:v.ok) (_hs:v.s.length<=500):Pure prog 151 [.agg [.sl .ro aa,.sl .ro fr],.int .i64 t,.agg v.row] (.str (nP fr.length t v)):=Sq aa fr t v hn hv
theorem wn1 (aa fr:List (List V)) (t:Int) (hn:fr.length<=du):Pure prog 167 [.agg [.sl .ro aa,.sl .ro fr],.int .i64 t] (.cy [.str (oH fr.length t).1,.str (oH fr.length t).2]):=by
 have ab:=jg aa fr t
 rw[show(decide (0<=t)&&decide (t<fr.length))=s7 fr.length t from rfl]at ab
 refine iW 0 func167 ntmps167 results167 λc hc hb=>zM ?_
 simp[go_sem]
 refine pC ab ?_
 unfold oH
 refine(A6 (s7 fr.length t)).elim (λh=> ?_) (λh=> ?_)
 .obtain⟨j,rfl,hj⟩:=NB h
  rw[h,ahg rfl]
  obtain⟨x,hx⟩:=eX (UInt8.ofNat (j+1))
  obtain⟨y,hy⟩:=eX (UInt8.ofNat (j+2))
  have e1:IntKind.u8.wrap (IntKind.i64.wrap ((j:Int)+1))=(x.toNat:Int):=by
   rw[bX om (by unfold du at hn;omega),show(j:Int)+1=((j+1:Nat):Int) by omega,Fz,hx]
  have e2:IntKind.u8.wrap (IntKind.i64.wrap ((j:Int)+2))=(y.toNat:Int):=by
   rw[bX om (by unfold du at hn;omega),show(j:Int)+2=((j+2:Nat):Int) by omega,Fz,hy]
  simp only
  simp[go_sem]
  refine yL [] 1 rfl kR kR ?_
  simp[go_sem,e1]
  refine zJ (wV [x]) ?_
  have r1:tW [V.int IntKind.u8 x.toNat]=x:=by simp[tW]
  have r2:tW [V.int IntKind.u8 y.toNat]=y:=by simp[tW]
  simp[go_sem,e2,r1]
  refine zJ (wV [y]) ?_
  simp[go_sem,r2]
  exact zX (zC rfl) ⟨by rw[<-hx,<-hy];simp,rfl⟩
 .rw[h]
  simp[go_sem]
  exact wR
end Go.Proofs.YtplackkccmeioaaGreat.R
namespace Go.Proofs.YtplackkccmeioaaGreat
open Go Go.Vx R Go.Proofs.Tryz
set_option maxRecDepth 100000
theorem xH0 (v:bK):(kD v).length<=140:=by
 by_cases h:ep v=true
 .have h1:=Sl (v:=v)
  have h2:=Sp h
  omega
 .unfold kD;rw[ahf h];simp
def qx (x y:ahP):ahP:=if Op.bytesLess x y=true then y else x
def vV (x y:ahP):ahP:=if Op.bytesLess x y=true\/x=y then x else y
def vW (at_:ahP) (sign:ahP) (b:ahP×ahP):ahP×ahP:=
 if sign= [61]then(qx b.1 at_,vV b.2 (at_++ [0]))
 else if sign= [60]then(b.1,vV b.2 at_)
 else if sign= [60,61]then(b.1,vV b.2 (at_++ [0]))
 else if sign= [62]then(qx b.1 (at_++ [0]),b.2)
 else if sign= [62,61]then(qx b.1 at_,b.2)
 else b
def zn (n:Nat) (t:Int) (name:ahP) (l:List bJ) (b:ahP×ahP):ahP×ahP:=
 l.foldl (λb e=>match nM e name with|none=>b|some (s,v)=>vW (nP n t v) s b) b
def Hm (T:bL):Option ahP:=if 0<=T.key then(T.ca[T.key.toNat]?).map (·.name)else none
def pv (ts:List bL) (t:Int) (st:bW):ahP×ahP:=
 if s7 ts.length t=true then
  match (ts[t.toNat]?).bind Hm with
  |none=>oH ts.length t
  |some name=>let b:=zn ts.length t name (nK st) (oH ts.length t);(b.1,qx b.2 b.1)
 else oH ts.length t
def Kf (b:ahP×ahP):V:= .cy [.str b.1,.str b.2]
theorem Ss (o:Option (ahP×bK)):gA (nj o)=true:=by
 obtain _|⟨s,v⟩:=o<;>rfl
theorem Su (aa:List (List V)) (ts:List bL) (t:Int) (st:bW) (hn:ts.length<=du) (_hc0: ∀T∈ts,T.ca.length<=maxLen) (hl:(nK st).length<=maxLen)
  (hv: ∀e∈nK st,∀name s v,nM e name=some (s,v)->v.ok):
  Pure prog 112 [.agg [.sl .ro aa,.sl .ro (ts.map bL.row)],.int .i64 t,.agg st.row] (Kf (pv ts t st)):=by
 generalize hM:pv ts t st=M
 have ret: ∀(r:ahP×ahP) (I:St),r=M->cw (some (.cy [.str r.1,.str r.2])) 0 (λr s=>r=Kf M/\s= []) I:=λr I h=>by subst h;exact wR
 have ab:=wn1 aa (ts.map bL.row) t (sU hn)
 have ah:=R7 st
 simp only[Ag]at ab
 unfold pv at hM
 generalize hA:oH ts.length t=A at ab hM
 generalize hL:nK st=L at ah hM hl hv
 refine iV 0 func112 ntmps112 results112 λc hc hb=> ?_
 refine zA ?_
 simp[go_sem]
 refine pC ab ?_
 simp[go_sem]
 refine(A6 (s7 ts.length t)).elim (λh=> ?_) (λh=> ?_)
 rotate_left
 .simp only[h]at hM
  have h2:decide (t<0)=true\/(decide (t<0)=false/\decide ((ts.length:Int)<=t)=true):=by
   unfold s7 at h
   simp only[Bool.and_eq_false_iff,ahn]at h
   simp only[ahl,ahn]
   omega
  refine h2.elim (λq=> ?_) (λq=> ?_)
  all_goals simp[go_sem,q]
  all_goals exact ret _ _ hM
 obtain⟨j,rfl,hj⟩:=NB h
 obtain⟨T,hT⟩:=eX (ts[j])
 have ay:decide ((ts.length:Int)<=j)=false:=ahh om
 have ai:decide ((j:Int)<0)=false:=ahh om
 simp only[h,aho,Az,A0 hj,hT,Ay]at hM
 have aj:decide (ts.length<=j)=false:=ahh om
 simp[go_sem,ai,aj,hj,hT]
 by_cases hk:0<=T.key/\T.key<T.ca.length
 rotate_left
 .have ad:Hm T=none:=by
   unfold Hm
   split
   .rw[Dk om];rfl
   .rfl
  rw[ad]at hM
  have h2:decide (T.key<0)=true\/(decide (T.key<0)=false/\decide ((T.ca.length:Int)<=T.key)=true):=by
   simp only[ahl,ahn]
   omega
  refine h2.elim (λq=> ?_) (λq=> ?_)
  all_goals simp[go_sem,q]
  all_goals exact ret _ _ hM
 obtain⟨m,hm⟩: ∃m:Nat,T.key=m:=⟨T.key.toNat,om⟩
 have ae:m<T.ca.length:=om
 obtain⟨C,hC⟩:=eX (T.ca[m])
 have ad:Hm T=some C.name:=by
  unfold Hm
  rw[ahg om,hm,Az,A0 ae,hC];rfl
 simp only[ad]at hM
 have ak:decide (T.key<0)=false:=ahh om
 have al:decide ((T.ca.length:Int)<=T.key)=false:=ahh om
 simp[go_sem,ak,al]
 refine zL ah cB (zO sg rfl) rfl ?_
 simp[go_sem]
 refine zI (S:=Nat×ahP×ahP) [1,3,6,7,8,52,53,54] (λu=> [.int .i64 j,.ptr 0 0,.str u.2.1,.str u.2.2,.ptr 1 0,.sl .ro (L.map bJ.row),.int .i64 L.length,.int .i64 u.1])
  (λ_=> [.box [.sl .ro aa,.sl .ro (ts.map bL.row)],.box T.row]) (λu=>L.length - u.1)
  (λu=>u.1<=L.length/\zn ts.length j C.name (L.drop u.1) u.2=zn ts.length j C.name L A) hc hb (0,A) ⟨A4 _,rfl⟩ ?_ ?_
 .exact CA [0,2] dC rfl ⟨by simp[go_sem,yE,de,di],by simp[go_sem,yE,de,di],tV⟩
   ⟨zC rfl,.inl (by simp[go_sem,dF,dK,de,di,cH]),zC rfl,zC rfl,.inl (by simp[go_sem,dF,dK,de,di,cH]),zK,zC rfl,zC rfl,tV⟩
 rintro⟨i,b⟩ ⟨hi,hinv⟩
 simp only at hi hinv
 by_cases q:i<L.length
 rotate_left
 .rw[A9 om]at hinv
  have an:b=zn ts.length j C.name L A:=hinv
  rw[<-an]at hM
  refine zA ?_
  simp[go_sem,q]
  exact ret (b.1,qx b.2 b.1) _ hM
 have ei:=zQ q (by unfold maxLen at hl;omega)
 obtain⟨x,hx⟩:=eX (L[i])
 have ao:x∈L:=hx▸A8 q
 rw[A5 q,hx]at hinv
 have aq:=R8 x C.name
 have ar:=hv x ao C.name
 have ax:=bJ.bS x
 refine zA ?_
 simp[go_sem,q,hx]
 refine yL [(8,0),(15,3)] 3 sm kR kR ?_
 have au:T.ca[m]? =some C:=by rw[A0 ae,hC]
 simp[go_sem,hm,au]
 refine zJ ae ?_
 simp[go_sem]
 refine pg aq cB (λ_=>zO sg (by rw[bJ.bS];rfl)) (Ss _) ?_
 cases ha:nM x C.name with
 |none=>
  simp only[zn,Bt,ha]at hinv
  simp[go_sem,nj,J6,ei]
  refine zH (i+1,b) ⟨by simp only;omega,⟨by simp only;omega,hinv⟩, ?_⟩
  exact cd 2 (by simp[go_sem,hm]) rfl (by rfl) (A4 _) (zD sg rfl)
 |some p=>
  obtain⟨s,v⟩:=p
  have av:=ar s v ha
  have af:=Sq aa (ts.map bL.row) j v (sU hn) av
  simp only[Ag]at af
  simp only[zn,Bt,ha]at hinv
  obtain⟨B,hB⟩:=eX (nP ts.length j v)
  have aw:B.length<=9223372036854775806:=by
   have:=xH0 v
   rw[<-hB];unfold nP;rw[ahg h];simp only[Ak];omega
  rw[hB]at af
  simp[go_sem,nj]
  refine zL af cB (zO sg rfl) rfl ?_
  simp[go_sem]
  refine zJ aw ?_
  simp[go_sem]
  have fin: ∀b',vW B s b=b'->zn ts.length j C.name (L.drop (i+1)) b'=zn ts.length j C.name L A:=λb' h=>by rw[<-h,<-hB];exact hinv
  repeat' (first|(refine zU (λq=> ?_) (λq=> ?_)<;>simp[go_sem,q,ei]))
  all_goals simp only[ahm,beq_eq_false_iff_ne]at*
  all_goals refine zH (i+1,vW B s b) ⟨by simp only;omega,⟨by simp only;omega,fin _ rfl⟩, ?_⟩
  all_goals refine cd 2 (by simp[go_sem,hm]) rfl (by rfl) (A4 _) (zD ?_ rfl)
  all_goals unfold vW qx vV
  all_goals simp[go_sem, *]
theorem uE:(Tryz.prog.funcs.all λfn=> !(fn.name== "runtime.NumGoroutine"))=true:=kR
theorem uF:Tryz.prog.follows .mixedOrders=true:=kR
def marks (f:Nat):ahQ:=if f=206 then [7]else []
def NC:y9:=⟨[1],[],[0,1],0,0,0⟩
def s8:bL:=⟨[84],[⟨[82],2,false⟩,⟨[75],2,false⟩,⟨[86],3,true⟩,⟨[78],2,true⟩],1,0,0,NC⟩
def DK:bL:=⟨[71],[⟨[75],3,false⟩,⟨[78],2,false⟩,⟨[66],1,true⟩],0,1,0,NC⟩
def DL:bL:=⟨[72],[⟨[66],1,false⟩,⟨[78],2,true⟩],0,2,1,NC⟩
def bO:List bL:= [s8,DK,DL]
def xJ:List (List V):= [[.int .i64 0],[.int .i64 0],[.int .i64 1],[.int .i64 1]]
def DM:V:= .agg [.sl .full xJ,.sl .full (bO.map bL.row)]
def dG (ts:List bL):V:= .agg [.sl .ro xJ,.sl .ro (ts.map bL.row)]
theorem xz1:Pure prog 20 [] DM:=vK uE uF marks 10000 kR
theorem xM6 {ρ:Nat->Nat}:cP ρ (dG bO) DM:=wL ⟨zW,zW,tV⟩
def xA (t r:Int):Int×Int:=if t=0 then(if r=0 then(0,0)else if r=1 then(1,0)else(0,19))else if t=1 then(2,0)else if t=2 then(3,0)else(0,1)
def DN (p:Int×Int):V:= .cy [.int .i64 p.1,.int .i64 p.2]
theorem Hn (t r:Int) (h:t=0\/t=1\/t=2) (hr:r= -1\/r=0\/r=1\/r=2\/r=3\/r=4):Pure prog 114 [dG bO,.int .i64 t,.int .i64 r] (DN (xA t r)):=by
 rcases h with rfl|rfl|rfl<;>rcases hr with rfl|rfl|rfl|rfl|rfl|rfl<;>exact vK uE uF marks 10000 kR
theorem xp4 (j:Nat) (hj:j<3):Pure prog 114 [dG (bO.take (j+1)),.int .i64 j,.int .i64 0] (DN (xA j 0)):=by
 match j,hj with
 |0,_=>exact vK uE uF marks 10000 kR
 |1,_=>exact vK uE uF marks 10000 kR
 |2,_=>exact vK uE uF marks 10000 kR
def fT (r:Int):Int×Int×Int:=if r=0 then(0,0,0)else if r=1 then(0,1,0)else if r=2 then(1,-1,0)else if r=3 then(2,1,0)else(0,0,1)
def FD (p:Int×Int×Int):V:= .cy [.int .i64 p.1,.int .i64 p.2.1,.int .i64 p.2.2]
theorem xW2:Pure prog 170 [dG bO] (.int .i64 0):=vK uE uF marks 10000 kR
theorem xw0:Pure prog 146 [dG bO] (.sl .ro [[.int .i64 0],[.int .i64 1]]):=
 bN.Iy (Za uE uF marks 10000 (v:= .cJ 1 1 4 0 2) (I':= [.box [.sl .ro xJ,.sl .ro (bO.map bL.row)],.cj [[.int .i64 0],[.int .i64 1],[.int .i64 0],[.int .i64 0]] 1]) kR)
  (λr s ⟨h1,h2⟩=>by subst h1;subst h2;exact⟨_,_,.step 1 1 [[.int .i64 0],[.int .i64 1],[.int .i64 0],[.int .i64 0]] rfl rfl (.refl _ _),zK⟩)
def Kg (t:Nat):Int:=if t=0 then 2 else 1
theorem ND (j:Nat) (hj:j<3):Pure prog 145 [dG bO,.agg (bO[j]'hj).row] (.int .i64 (Kg j)):=by
 match j,hj with
 |0,_=>exact vK uE uF marks 10000 kR
 |1,_=>exact vK uE uF marks 10000 kR
 |2,_=>exact vK uE uF marks 10000 kR
theorem Kh {M:Int×Int×Int} {a b e:Int} {I:St} (h:(a,b,e)=M):cw (some (.cy [.int .i64 a,.int .i64 b,.int .i64 e])) 0 (λr s=>r=FD M/\s= []) I:=by subst h;exact wR
theorem Ho (g:Nat) (hg:g<1000):Pure prog 102 [dG bO,.int .i64 g] (FD (fT g)):=by
 have ab:=ND 0 dC
 have ad:=ND 1 dC
 have ae:=ND 2 dC
 have hr:=xw0
 generalize hM:fT g=M
 refine iV 0 func102 ntmps102 results102 λc hc hb=> ?_
 refine zA ?_
 simp[go_sem,dG]
 have h0:decide ((g:Int)<0)=false:=ahh om
 simp[go_sem,h0]
 refine zI (S:=Nat×Nat) [1,2,13,14,15] (λu=> [.int .i64 u.2,.ptr 0 0,.sl .ro (bO.map bL.row),.int .i64 3,.int .i64 u.1]) (λ_=> [.box [.sl .ro xJ,.sl .ro (bO.map bL.row)]]) (λu=>3 - u.1)
  (λu=>(u.1=0/\u.2=g)\/(u.1=1/\u.2+2=g)\/(u.1=2/\u.2+3=g)\/(u.1=3/\u.2+4=g)) hc hb (0,g) (.inl ⟨rfl,rfl⟩) ?_ ?_
 .exact aM 1 (by rfl) (zD (by simp[go_sem];rfl) rfl)
 rintro⟨i,r⟩ h
 simp only at h
 refine h.elim (λ⟨h1,h2⟩=> ?_) λh=>h.elim (λ⟨h1,h2⟩=> ?_) λh=>h.elim (λ⟨h1,h2⟩=> ?_) λ⟨h1,h2⟩=> ?_
 .subst h1
  refine zA ?_
  simp[go_sem,bO]
  refine zL ab cB (zO (by simp[go_sem,dG,bO]) rfl) rfl ?_
  simp[go_sem,Kg]
  by_cases q:2<=r
  .have q':decide ((2:Int)<=r)=true:=ahi om
   have e:IntKind.i64.wrap ((r:Int) - 2)=((r - 2:Nat):Int):=by rw[bX om om];omega
   simp[go_sem,q',e]
   exact zH (1,r - 2) ⟨by simp only;omega,.inr (.inl ⟨rfl,by simp only;omega⟩),aN 1 (by rfl)⟩
  .have q':decide ((2:Int)<=r)=false:=ahh om
   simp[go_sem,q',show s8.place=0 from rfl]
   refine yL [(2,0)] 2 sm kR kR ?_
   simp[go_sem]
   refine pg hr cB (λ_=>zO (by simp[go_sem,dG,bO,show s8.place=0 from rfl]) rfl) rfl ?_
   have aa:r=0\/r=1:=om
   refine aa.elim (λe=> ?_) (λe=> ?_)
   all_goals subst e
   all_goals simp[go_sem]
   all_goals exact Kh (by rw[<-hM,<-h2];rfl)
 .subst h1
  refine zA ?_
  simp[go_sem,bO]
  refine zL ad cB (zO (by simp[go_sem,dG,bO]) rfl) rfl ?_
  simp[go_sem,Kg]
  by_cases q:1<=r
  .have q':decide ((1:Int)<=r)=true:=ahi om
   have e:IntKind.i64.wrap ((r:Int) - 1)=((r - 1:Nat):Int):=by rw[bX om om];omega
   simp[go_sem,q',e]
   exact zH (2,r - 1) ⟨by simp only;omega,.inr (.inr (.inl ⟨rfl,by simp only;omega⟩)),aN 1 (by rfl)⟩
  .have q':decide ((1:Int)<=r)=false:=ahh om
   simp[go_sem,q',show DK.place=1 from rfl]
   have aa:r=0:=om
   subst aa
   exact Kh (by rw[<-hM,<-h2];rfl)
 .subst h1
  refine zA ?_
  simp[go_sem,bO]
  refine zL ae cB (zO (by simp[go_sem,dG,bO]) rfl) rfl ?_
  simp[go_sem,Kg]
  by_cases q:1<=r
  .have q':decide ((1:Int)<=r)=true:=ahi om
   have e:IntKind.i64.wrap ((r:Int) - 1)=((r - 1:Nat):Int):=by rw[bX om om];omega
   simp[go_sem,q',e]
   exact zH (3,r - 1) ⟨by simp only;omega,.inr (.inr (.inr ⟨rfl,by simp only;omega⟩)),aN 1 (by rfl)⟩
  .have q':decide ((1:Int)<=r)=false:=ahh om
   have aa:r=0:=om
   subst aa
   simp[go_sem,show DL.place=2 from rfl]
   refine yL [] 2 sm kR kR ?_
   simp[go_sem]
   exact Kh (by rw[<-hM,<-h2];rfl)
 .subst h1
  refine zA ?_
  simp[go_sem,bO]
  exact Kh (by rw[<-hM,<-h2];unfold fT;rw[ahf om,ahf om,ahf om,ahf om])
theorem wl6 (v:bK) (l:ahS):([.box v.row,.cj (l.map yN) 1]:St).all (bT 2)=true:=by simp[bT,cQ,cL,yN,bK.row]
theorem Sv (v:bK) (r:Int):bN prog 172 [.int .i64 r,.ptr 0 0] [.box v.row] (λx s=>x= .bool (r !=v.n)/\s= [.box v.row]):=by
 refine iW 1 func172 ntmps172 results172 λc hc hb=>zM ?_
 simp[go_sem]
 exact yX 1 sg rfl rfl (A7 _) (zC rfl) ⟨rfl,rfl⟩
def kE (p:Int->Bool):ahS->Nat->Int
 | [],_=> -1
 |x::l,i=>if p x=true then i else kE p l (i+1)
theorem wp0 (v:bK) (xs:ahS) (m:Nat) (hm:m<=xs.length) (hl:xs.length<=1000):
  bN prog 240 [.cJ 1 1 xs.length 0 m,.fn 172 [.ptr 0 0]] [.box v.row,.cj (xs.map yN) 1]
   (λr s=>r= .int .i64 (kE (λx=>x !=v.n) (xs.take m) 0)/\s= [.box v.row,.cj (xs.map yN) 1]):=by
 generalize hM:kE (λx=>x !=v.n) (xs.take m) 0=M
 have ret: ∀(r:Int) (I:St),r=M->I.take 2= [.box v.row,.cj (xs.map yN) 1]->cw (some (.int .i64 r)) 2 (λr s=>r= .int .i64 M/\s= [.box v.row,.cj (xs.map yN) 1]) I:=λr I h hs=>by subst h;exact yX 2 hs rfl (by simp[bT,cQ,cL,yN,bK.row]) (A7 _) (zC rfl) ⟨rfl,rfl⟩
 refine iV 2 func240 ntmps240 results240 λc hc hb=> ?_
 refine zA ?_
 simp[go_sem]
 refine zI (S:=Nat) [0,1,7,8] (λi=> [.cJ 1 1 xs.length 0 m,.fn 172 [.ptr 0 0],.int .i64 m,.int .i64 i]) (λ_=> [.box v.row,.cj (xs.map yN) 1]) (λi=>m - i) (λi=>i<=m/\kE (λx=>x !=v.n) ((xs.take m).drop i) i=M) hc hb 0 ⟨A4 _,hM⟩ ?_ ?_
 .exact aN 2 (by simp[bT,cQ,cL,yN,bK.row])
 rintro i ⟨hi,hinv⟩
 by_cases q:i<m
 rotate_left
 .rw[A9 (by simp;omega)]at hinv
  refine zA ?_
  simp[go_sem,q]
  exact ret _ _ hinv rfl
 have ei:=zQ q om
 have aa:i<xs.length:=om
 obtain⟨x,hx⟩:=eX (xs[i])
 have ab:(xs.take m)[i]'(by simp;omega)=x:=by rw[ahK];exact hx
 rw[A5 (by simp;omega),ab,kE]at hinv
 have hd:=Sv v x
 obtain⟨b,ad⟩:=eX ((x !=v.n))
 rw[ad]at hd hinv
 refine zA ?_
 simp[go_sem,q,aa,hx]
 refine uh 1 hd cB sg rfl rfl (rk rfl) (λr s h=>by obtain⟨rfl,rfl⟩:=h;exact⟨rfl,rfl,rfl⟩) ?_
 rintro r s ⟨rfl,rfl⟩
 simp[go_sem]
 refine zU (λw=> ?_) (λw=> ?_)
 .rw[ahg w]at hinv
  simp[go_sem]
  exact ret _ _ hinv rfl
 .rw[ahf (by rw[w];decide)]at hinv
  simp[go_sem,ei]
  exact zH (i+1) ⟨om,⟨q,hinv⟩,aN 2 (by simp[bT,cQ,cL,yN])⟩
def kF (n:Int) (l:ahS):ahS:=l.filter (· ==n)
theorem Sw {n:Int}: ∀(l:ahS) (i:Nat),kE (λx=>x !=n) l i= -1->kF n l=l
 | [],_,_=>rfl
 |x::l,i,h=>by
  unfold kE at h
  split at h
  .omega
  .rename_i q
   have:=Sw l (i+1) h
   have hx:(x==n)=true:=sU q
   unfold kF at this⊢
   rw[List.filter_cons_of_pos (sU hx),this]
theorem Sx {n:Int}: ∀(l:ahS) (i:Nat),kE (λx=>x !=n) l i≠ -1-> ∃k,kE (λx=>x !=n) l i=((i+k:Nat):Int)/\k<l.length/\kF n (l.take k)=l.take k/\(∀x,l[k]? =some x->x≠n)
 | [],i,h=>absurd rfl h
 |x::l,i,h=>by
  unfold kE at h⊢
  split
  .rename_i q
   exact⟨0,sm,sm,rfl,λy hy=>by simp at hy;subst hy;simpa using q⟩
  .rename_i q
   rw[ahf q]at h
   obtain⟨k,h1,h2,h3,h4⟩:=Sx l (i+1) h
   have hx:(x==n)=true:=sU q
   refine⟨k+1,by rw[h1];congr 1;omega,by simp;omega, ?_,λy hy=>h4 y (sU hy)⟩
   unfold kF at h3⊢
   rw[Cr,List.filter_cons_of_pos (sU hx),h3]
theorem NF {n:Int} {xs:ahS} {j:Nat} {x:Int} (h:xs[j]? =some x):kF n (xs.take (j+1))=kF n (xs.take j)++(if x=n then [x]else []):=by
 unfold kF
 rw[Dd,h,List.filter_append]
 by_cases q:x=n
 .simp[q]
 .simp[q]
theorem wh4 (v:bK) (xs:ahS) (m:Nat) (hm:m<=xs.length) (hl:xs.length<=1000):
  bN prog 171 [.cJ 1 1 xs.length 0 m,.fn 172 [.ptr 0 0]] [.box v.row,.cj (xs.map yN) 1]
   (λr s=> ∃ys:ahS,ys.length=xs.length/\(kF v.n (xs.take m)).length<=m/\ys.take (kF v.n (xs.take m)).length=kF v.n (xs.take m)/\r= .cJ 1 1 xs.length 0 (kF v.n (xs.take m)).length/\s= [.box v.row,.cj (ys.map yN) 1]):=by
 obtain⟨K,hK⟩:=eX (kF v.n (xs.take m))
 have ao:K.length<=m:=by rw[<-hK];unfold kF;exact B1 (ahA _ _) (by simp;omega)
 rw[hK]
 have ret: ∀(ys:ahS) (k:Nat) (I:St),ys.length=xs.length->k=K.length->ys.take K.length=K->I.take 2= [.box v.row,.cj (ys.map yN) 1]->
   cw (some (.cJ 1 1 xs.length 0 k)) 2 (λr s=> ∃ys:ahS,ys.length=xs.length/\K.length<=m/\ys.take K.length=K/\r= .cJ 1 1 xs.length 0 K.length/\s= [.box v.row,.cj (ys.map yN) 1]) I:=λys k I h1 h2 h3 h4=>by
  subst h2
  exact yX 2 h4 rfl (by simp[bT,cQ,cL,yN,bK.row]) (A7 _) (lR rfl) ⟨ys,h1,ao,h3,rfl,rfl⟩
 have aq:=wp0 v xs m hm hl
 refine iV 2 func171 ntmps171 results171 λc hc hb=> ?_
 refine zA ?_
 simp[go_sem]
 refine uh 2 aq cB sg rfl (by simp[bT,cQ,cL,yN,bK.row]) (rk rfl) (λr s h=>by obtain⟨rfl,rfl⟩:=h;exact⟨rfl,by simp[bT,cQ,cL,yN,bK.row],rfl⟩) ?_
 rintro r s ⟨rfl,rfl⟩
 by_cases h0:kE (λx=>x !=v.n) (xs.take m) 0= -1
 .have ah:=Sw _ _ h0
  rw[hK]at ah
  rw[h0]
  simp[go_sem]
  exact ret xs m _ rfl (by rw[ah];simp;omega) (by rw[ah];simp) (by rfl)
 obtain⟨k,h1,h2,h3,h4⟩:=Sx _ _ h0
 rw[Ad]at h1
 rw[h1]
 have ar:k<m:=by simp at h2;omega
 have au:((k:Int)== -1)=false:=sm
 have ek:IntKind.i64.wrap ((k:Int)+1)=((k+1:Nat):Int):=by rw[bX om om];omega
 have av:kF v.n (xs.take (k+1))=xs.take k:=by
  have aj:k<xs.length:=om
  have h5:=h4 xs[k] (by rw[An,ahg ar,A0 aj])
  rw[NF (A0 aj),ahf h5,Ax]
  rw[ahI,Ca om]at h3
  exact h3
 simp[go_sem,au,ek]
 refine zI (S:=Nat×Nat×ahS) [0,1,5,6] (λu=> [.cJ 1 1 xs.length 0 m,.fn 172 [.ptr 0 0],.int .i64 u.1,.int .i64 u.2.1]) (λu=> [.box v.row,.cj (u.2.2.map yN) 1]) (λu=>m - u.2.1)
  (λu=>u.1<u.2.1/\u.2.1<=m/\u.2.2.length=xs.length/\u.2.2.take u.1=kF v.n (xs.take u.2.1)/\u.2.2.drop u.2.1=xs.drop u.2.1) hc hb (k,k+1,xs) ⟨by simp only;omega,by simp only;omega,rfl,av.symm,rfl⟩ ?_ ?_
 .exact aN 2 (by simp[bT,cQ,cL,yN,bK.row])
 rintro⟨i,j,ys⟩ ⟨aw,ax,ad,aa,ab⟩
 simp only at aw ax ad aa ab
 by_cases q:j<m
 rotate_left
 .have hj:j=m:=om
  subst hj
  rw[hK]at aa
  have ak:i=K.length:=by rw[<-aa];simp;omega
  have af:i<=j:=om
  refine zA ?_
  simp[go_sem]
  refine zJ af ?_
  simp[go_sem,ad]
  refine zJ om ?_
  simp[go_sem]
  refine zJ (.inl af) ?_
  simp[go_sem]
  refine ret (ys.take i++List.replicate (j - i) 0++ys.drop (i+(j - i))) i _ (by simp;omega) ak (by rw[<-ak,Ce,List.take_append_of_le_length (by simp;omega)];rw[ahI,Nat.min_self,aa]) ?_
  simp[go_sem,yN]
 have ej:=zQ q om
 have ay:j<ys.length:=om
 have az:j<xs.length:=om
 obtain⟨x,hx⟩:=eX (ys[j])
 have a1:ys[j]? =some x:=by rw[A0 ay,hx]
 have al:xs[j]? =some x:=by
  have:=ahj (λl=>l[0]?) ab
  simp only[C8,D5]at this
  rw[<-this,a1]
 have ei:IntKind.i64.wrap ((i:Int)+1)=((i+1:Nat):Int):=by rw[bX om om];omega
 have hd:=Sv v x
 obtain⟨b,ai⟩:=eX ((x !=v.n))
 rw[ai]at hd
 refine zA ?_
 simp[go_sem,q,az,hx,ad]
 refine uh 1 hd cB sg rfl rfl (rk rfl) (λr s h=>by obtain⟨rfl,rfl⟩:=h;exact⟨rfl,rfl,rfl⟩) ?_
 rintro r s ⟨rfl,rfl⟩
 simp[go_sem]
 refine zU (λw=> ?_) (λw=> ?_)
 all_goals simp[go_sem,ej]
 .have q2:x=v.n:=by simpa using (show(x !=v.n)=false by rw[ai];simpa using w)
  have ae:=NF (n:=v.n) al
  rw[ahg q2]at ae
  refine zJ om ?_
  have an:i<xs.length:=om
  obtain⟨y,a6⟩: ∃y,ys[i]? =some y:=⟨_,A0 om⟩
  simp[go_sem,ad,an,ei,ej]
  refine zH (i+1,j+1,ys.set i x) ⟨by simp only;omega,⟨by simp only;omega,by simp only;omega,by simp[ad], ?_, ?_⟩, ?_⟩
  .rw[ae,<-aa,Dd,Bi om,List.take_set_of_le (A7 i)]
   simp
  .simp only
   rw[List.drop_set,ahg om]
   have:=ahj (List.drop 1) ab
   simpa[ahH,Dz]using this
  .exact cd 2 (by simp[go_sem,yN]) rfl (wl6 v _) (A7 _) (zD sg rfl)
 .have q2: ¬x=v.n:=by
   have:(x !=v.n)=true:=by rw[ai];simpa using w
   simpa using this
  have ae:=NF (n:=v.n) al
  rw[ahf q2,Ax]at ae
  refine zH (i,j+1,ys) ⟨by simp only;omega,⟨by simp only;omega,by simp only;omega,ad,by rw[ae];exact aa, ?_⟩, ?_⟩
  .have:=ahj (List.drop 1) ab
   simpa[ahH,Dz]using this
  .exact aN 2 (by simp[bT,cQ,cL,yN])
def rI (t:Nat):ahS:=if t=0 then [0,1]else if t=1 then [-1]else [1]
def iQ (l:List bJ) (rs:ahS):ahS:=l.foldl (λrs e=>match nM e [82]with|none=>rs|some (s,v)=>if s= [61]/\v.kind=2 then kF v.n rs else rs) rs
def xX (t:Int) (st:bW):ahS:=if t=0 then iQ (nK st) [0,1]else if t=1 then [-1]else if t=2 then [1]else []
theorem xs5 {n:Int} (l:ahS):(kF n l).length<=l.length:=ahA _ _
theorem xs3 (l:ahS):xQ (l.map yN)=true:=by simp[xQ,yN,pc]
theorem yW8 (l:ahS) (m:Nat):iz (l.map yN) 0 m=(l.take m).map yN:=by
 unfold iz
 rw[Bj,<-List.map_take,B9]
 rfl
theorem Sy (st:bW) (T:bL) (l:ahS):([.box [.sl .ro xJ,.sl .ro (bO.map bL.row)],.box st.row,.box T.row,.cj (l.map yN) 1]:St).all (bT 4)=true:=by simp[bT,cQ,cL,yN,bW.row,bL.row]
theorem NG (T:bL) (l:ahS):([.box T.row,.cj (l.map yN) 1]:St).all (bT 2)=true:=by simp[bT,cQ,cL,yN,bL.row]
theorem Sz (n:Nat) (l:ahS):bT n (.cj (l.map yN) 1)=true:=by simp[bT,cQ,cL,yN]
theorem xb4 (j:Nat) (hj:j<3): ∃s0:Nat,xA j 0=((s0:Int),0)/\s0+(rI j).length<5/\(∀(k:Nat) x,(rI j)[k]? =some x->fT ((s0+k:Nat):Int)=((j:Int),x,0))/\
  ((fT ((s0+(rI j).length:Nat):Int)).2.2≠0\/((fT ((s0+(rI j).length:Nat):Int)).2.2=0/\(fT ((s0+(rI j).length:Nat):Int)).1≠j)):=by
 match j,hj with
 |0,_=>exact⟨0,rfl,dC,λk x h=>(by match k with
   |0=>cases h;rfl
   |1=>cases h;rfl
   |k+2=>cases h),.inr dC⟩
 |1,_=>exact⟨2,rfl,dC,λk x h=>(by match k with
   |0=>cases h;rfl
   |k+1=>cases h),.inr dC⟩
 |2,_=>exact⟨3,rfl,dC,λk x h=>(by match k with
   |0=>cases h;rfl
   |k+1=>cases h),.inl dC⟩
theorem NH: ∀(l:List bJ) (rs:ahS),(iQ l rs).length<=rs.length
 | [],_=>A7 _
 |e::l,rs=>by
  have h1:iQ (e::l) rs=iQ l (match nM e [82]with|none=>rs|some (s,v)=>if s= [61]/\v.kind=2 then kF v.n rs else rs):=rfl
  rw[h1]
  refine B1 (NH l _) ?_
  split
  .exact A7 _
  .split
   .exact xs5 _
   .exact A7 _
theorem SA (t:Int) (st:bW) (hl:(nK st).length<=maxLen):Pure prog 113 [dG bO,.int .i64 t,.agg st.row] (.sl .ro ((xX t st).map yN)):=by
 have an:=R7 st
 generalize hM:xX t st=M
 unfold xX at hM
 generalize hL:nK st=L at an hM hl
 have ao: ∀(g:Tag) (I:St),[]=M->cw (some (.sl g [])) 0 (λr s=>r= .sl .ro (M.map yN)/\s= []) I:=λg I h=>by subst h;exact zX zK ⟨rfl,rfl⟩
 have ai: ∀(id:Nat) (ys:ahS) (N m:Nat) (I:St),I[id]? =some (.cj (ys.map yN) 1)->ys.length=N->m<=N->ys.take m=M->cw (some (.cJ id 1 N 0 m)) 0 (λr s=>r= .sl .ro (M.map yN)/\s= []) I:=λid ys N m I h1 h2 h3 h4=>by
  refine LM id 1 (ys.map yN) h1 (xs3 ys) ?_
  simp only[fZ,fY,gi,fP,Ag,h2,Ad,h3,and_self,aho,yW8,h4]
  exact zX zK ⟨rfl,rfl⟩
 refine iV 0 func113 ntmps113 results113 λc hc hb=> ?_
 refine zA ?_
 simp[go_sem,dG]
 by_cases ht:0<=t/\t<3
 rotate_left
 .have au: []=M:=by rw[<-hM,ahf om,ahf om,ahf om]
  have h2:decide (t<0)=true\/(decide (t<0)=false/\decide ((bO.length:Int)<=t)=true):=by
   simp only[ahl,ahn,show bO.length=3 from rfl]
   omega
  refine h2.elim (λq=> ?_) (λq=> ?_)
  all_goals simp[go_sem,q]
  all_goals exact ao _ _ au
 obtain⟨j,rfl⟩: ∃j:Nat,t=j:=⟨t.toNat,om⟩
 have hj:j<3:=om
 obtain⟨T,hT⟩:=eX (bO[j]'(by exact hj))
 have aq:=xp4 j hj
 obtain⟨s0,av,aw,cN,aa⟩:=xb4 j hj
 obtain⟨n,hn⟩:=eX ((rI j).length)
 rw[hn]at aw aa
 rw[av]at aq
 have ax:decide ((j:Int)<0)=false:=ahh om
 have aH:decide ((bO.length:Int)<=j)=false:=ahh (by simp only[show bO.length=3 from rfl];omega)
 have ay:decide (bO.length<=j)=false:=ahh (by simp only[show bO.length=3 from rfl];omega)
 have az:j<bO.length:=hj
 have hle:=xW2
 have e1:IntKind.i64.wrap ((j:Int)+1)=((j+1:Nat):Int):=by rw[bX om om];omega
 simp[go_sem,ax,ay,az]
 refine Fb 8 1 dC sg ?_
 refine yL [(10,0),(11,0)] 4 sm kR kR ?_
 simp[go_sem,e1]
 refine zJ ⟨om,by simp only[show bO.length=3 from rfl];omega,lU λT=>rfl⟩ ?_
 simp[go_sem]
 refine pg hle cB (λ_=>zO (by simp[go_sem,dG]) rfl) rfl ?_
 simp[go_sem]
 refine pg aq cB (λ_=>zO (by simp[go_sem,dG]) rfl) rfl ?_
 simp[go_sem,DN]
 refine zI (S:=Nat) [1,3,5,7,8,9] (λk=> [.int .i64 j,.ptr 0 0,.ptr 1 0,.ptr 2 0,.cJ 3 1 k 0 k,.int .i64 ((s0+k:Nat):Int)])
  (λk=> [.box [.sl .ro xJ,.sl .ro (bO.map bL.row)],.box st.row,.box T.row,.cj (((rI j).take k).map yN) 1]) (λk=>n - k) (λk=>k<=n) hc hb 0 (A4 _) ?_ ?_
 .exact cd 4 (by simp[go_sem,<-hT];exact⟨rfl,rfl,rfl,rfl,rfl,rfl,rfl,rfl,rfl,rfl,rfl⟩) rfl (Sy st T _) (A4 _) (zD sg rfl)
 intro k hk
 have a1:=Ho (s0+k) om
 refine zA ?_
 simp[go_sem]
 refine zL a1 cB (zO (by simp[go_sem,dG]) rfl) rfl ?_
 by_cases aI:k<n
 .obtain⟨x,hx⟩: ∃x,(rI j)[k]? =some x:=⟨_,A0 om⟩
  rw[cN k x hx]
  have a6: ¬(k+1<=k):=om
  have ei:IntKind.i64.wrap (((s0:Int)+k)+1)=(s0:Int)+k+1:=by rw[bX om om]
  simp[go_sem,FD,a6]
  refine zJ ⟨om,zY rfl,om⟩ ?_
  simp[go_sem,ei]
  refine zH (k+1) ⟨om,om, ?_⟩
  exact cd 4 (by simp[go_sem,Dd,hx,yN]) rfl (Sy st T _) (A4 _) (zD (by simp[go_sem];omega) rfl)
 .obtain rfl:k=n:=om
  obtain⟨⟨a,b2,e⟩,hp⟩: ∃p,fT ((s0+k:Nat):Int)=p:=⟨_,rfl⟩
  rw[hp]at aa⊢
  simp only at aa
  have hY:((rI j).take k).length=k:=by simp;omega
  have ad:(e !=0)=true\/((e !=0)=false/\(a !=j)=true):=by
   rcases aa with h|h
   .exact .inl (sU h)
   .exact .inr ⟨by simpa using h.1,by simpa using h.2⟩
  by_cases aj:j=0
  rotate_left
  .have ak:(T.place !=0)=true:=by
    rw[<-hT]
    match j,hj,aj with
    |1,_,_=>rfl
    |2,_,_=>rfl
   have a7:(rI j)=M:=by
    rw[<-hM]
    match j,hj,aj with
    |1,_,_=>rfl
    |2,_,_=>rfl
   refine ad.elim (λq=> ?_) (λq=> ?_)
   all_goals simp[go_sem,FD,q,ak]
   all_goals exact ai 3 ((rI j).take k) k k _ sg hY (A7 _) (by rw[ahI,Nat.min_self,Aa om];exact a7)
  subst aj
  have ak:(T.place !=0)=false:=by rw[<-hT];rfl
  have ab:T.ca= [⟨[82],2,false⟩,⟨[75],2,false⟩,⟨[86],3,true⟩,⟨[78],2,true⟩]:=by rw[<-hT];rfl
  have a8:k=2:=by rw[<-hn];rfl
  subst a8
  have al:(e !=0)=true\/((e !=0)=false/\(a !=0)=true):=sU ad
  refine al.elim (λq=> ?_) (λq=> ?_)
  all_goals simp[go_sem,FD,q,ak,ab]
  all_goals refine zL an cB (zO sg rfl) rfl ?_
  all_goals simp[go_sem]
  all_goals refine zI (S:=Nat×ahS×ahS) [7,8,79,80,81] (λu=> [.ptr 0 0,.cJ 1 1 2 0 u.2.1.length,.sl .ro (L.map bJ.row),.int .i64 L.length,.int .i64 u.1]) (λu=> [.box T.row,.cj (u.2.2.map yN) 1]) (λu=>L.length - u.1) (λu=>u.1<=L.length/\u.2.1.length<=2/\u.2.2.length=2/\u.2.2.take u.2.1.length=u.2.1/\iQ (L.drop u.1) u.2.1=M) hc hb (0,[0,1],[0,1]) ⟨A4 _,A7 _,rfl,rfl,hM⟩ ?_ ?_
  all_goals try exact CA [2,3] dC rfl ⟨by simp[go_sem,yE,de,di,ab],by simp[go_sem,yE,de,di,rI,yN],tV⟩ ⟨.inl (by simp[go_sem,dF,dK,de,di,cH]),.inl (by simp[go_sem,dF,dK,de,di,cH]),zK,zC rfl,zC rfl,tV⟩
  all_goals rintro⟨i,rs,ys⟩ ⟨hi,ah,ae,af,hinv⟩
  all_goals simp only at hi ah ae af hinv
  all_goals (
   by_cases hq:i<L.length
   rotate_left
   .rw[A9 om]at hinv
    have aA:rs=M:=hinv
    refine zA ?_
    simp[go_sem,hq]
    exact ai 1 ys 2 rs.length _ sg ae ah (by rw[af];exact aA)
   have ei:=zQ hq (by unfold maxLen at hl;omega)
   obtain⟨x,hx⟩:=eX (L[i])
   rw[A5 hq,hx]at hinv
   have aB:=R8 x [82]
   refine zA ?_
   simp[go_sem,hq,hx,ab]
   refine yL [(6,0),(13,3)] 3 sm kR kR ?_
   simp[go_sem]
   refine pg aB cB (λ_=>zO sg (by rw[bJ.bS];rfl)) (Ss _) ?_
   cases ha:nM x [82]with
   |none=>
    simp only[iQ,Bt,ha]at hinv
    simp[go_sem,nj,J6,ei]
    refine zH (i+1,rs,ys) ⟨by simp only;omega,⟨by simp only;omega,ah,ae,af,hinv⟩, ?_⟩
    exact cd 2 (by simp[go_sem,ab]) rfl (NG T _) (A4 _) (zD sg rfl)
   |some p=>
    obtain⟨s,v⟩:=p
    simp only[iQ,Bt,ha]at hinv
    simp[go_sem,nj]
    by_cases hs:s= [61]/\v.kind=2
    .rw[ahg hs]at hinv
     have aC:(s== [61])=true:=sU hs.1
     have aD:(v.kind==2)=true:=sU hs.2
     have ar:=wh4 v ys rs.length om om
     rw[af,ae]at ar
     simp[go_sem,aC,aD]
     refine Yy 3 1 ar cB dC sg sg rfl (Sz _ _) ⟨.inl (by simp[go_sem,dF,dK,de,di,cH]),.inl (by simp[go_sem,dF,dK,de,di,cH]),tV⟩ (λr s h=>by
      obtain⟨zs,_,_,_,_,rfl⟩:=h
      exact⟨_,_,rfl,rfl,Sz _ _⟩) ?_
     rintro r o2 p2 ⟨zs,aJ,aK,aE,rfl,aF⟩
     obtain⟨rfl,rfl⟩:o2= .box v.row/\p2= .cj (zs.map yN) 1:=sU aF
     simp[go_sem,dF,dK,de,di,cH,ei]
     refine zH (i+1,kF v.n rs,zs) ⟨by simp only;omega,⟨by simp only;omega,by simp only;omega,om,aE,hinv⟩, ?_⟩
     exact cd 2 (by simp[go_sem,ab]) rfl (NG T _) (A4 _) (zD sg rfl)
    .rw[ahf hs]at hinv
     have aG:(s== [61])=false\/((s== [61])=true/\(v.kind==2)=false):=by
      by_cases h1:s= [61]
      .exact .inr ⟨by simpa using h1,by simpa using λh2=>hs ⟨h1,h2⟩⟩
      .exact .inl (sU h1)
     refine aG.elim (λq1=> ?_) (λq1=> ?_)
     all_goals simp[go_sem,q1,ei]
     all_goals refine zH (i+1,rs,ys) ⟨by simp only;omega,⟨by simp only;omega,ah,ae,af,hinv⟩, ?_⟩
     all_goals exact cd 2 (by simp[go_sem,ab]) rfl (NG T _) (A4 _) (zD sg rfl))
def iy {U:Type} (p:U->Bool):List U->Nat->Int
 | [],_=> -1
 |x::l,i=>if p x=true then(i:Int)else iy p l (i+1)
theorem DO {U:Type} (p:U->Bool): ∀(l:List U) (i:Nat),iy p l i= -1\/((i:Int)<=iy p l i/\iy p l i<i+l.length)
 | [],i=> .inl rfl
 |x::l,i=>by
  unfold iy
  split
  .right;simp;omega
  .have:=DO p l (i+1)
   simp only[Ak]
   omega
theorem wo7 (t:bL) (name:ahP):bN prog 139 [.agg t.row,.ptr 0 0] [.box [.str name]] (λr s=>r= .bool (t.name==name)/\s= [.box [.str name]]):=by
 refine iW 1 func139 ntmps139 results139 λc hc hb=>zM ?_
 simp[go_sem]
 exact ud 1 rfl rfl (A7 _) (zC rfl) ⟨rfl,rfl⟩
theorem wo4 (t:fg) (name:ahP):bN prog 204 [.agg t.row,.ptr 0 0] [.box [.str name]] (λr s=>r= .bool (t.name==name)/\s= [.box [.str name]]):=by
 refine iW 1 func204 ntmps204 results204 λc hc hb=>zM ?_
 simp[go_sem]
 exact ud 1 rfl rfl (A7 _) (zC rfl) ⟨rfl,rfl⟩
theorem wi9 (l:List bL) (name:ahP) (hl:l.length<=maxLen):bN prog 138 [.sl .ro (l.map bL.row),.fn 139 [.ptr 0 0]] [.box [.str name]] (λr s=>r= .int .i64 (iy (λt:bL=>t.name==name) l 0)/\s= [.box [.str name]]):=by
 generalize hM:iy (λt:bL=>t.name==name) l 0=M
 have ret: ∀(r:Int) (I:St),r=M->cw (some (.int .i64 r)) 1 (λr s=>r= .int .i64 M/\s= [.box [.str name]]) (.box [.str name]::I):=λr I h=>by subst h;exact ud 1 rfl rfl (A7 _) (zC rfl) ⟨rfl,rfl⟩
 refine iV 1 func138 ntmps138 results138 λc hc hb=> ?_
 refine zA ?_
 simp[go_sem]
 refine zI (S:=Nat) [0,1,7,8] (λi=> [.sl .ro (l.map bL.row),.fn 139 [.ptr 0 0],.int .i64 l.length,.int .i64 i]) (λ_=> [.box [.str name]]) (λi=>l.length - i) (λi=>i<=l.length/\iy (λt:bL=>t.name==name) (l.drop i) i=M) hc hb 0 ⟨A4 _,hM⟩ ?_ ?_
 .exact aN 1 rfl
 rintro i ⟨hi,hinv⟩
 by_cases q:i<l.length
 rotate_left
 .rw[Bn om,iy]at hinv
  refine zA ?_
  simp[go_sem,q]
  exact ret _ _ hinv
 have ei:=zQ q (by unfold maxLen at hl;omega)
 obtain⟨x,hx⟩:=eX (l[i])
 rw[A5 q,hx,iy]at hinv
 obtain⟨b,ab⟩:=eX ((x.name==name))
 have aa:=wo7 x name
 rw[ab]at aa hinv
 refine zA ?_
 simp[go_sem,q,hx]
 refine lV 0 aa cB rfl rfl ⟨zC rfl,.inl rfl,tV⟩ (by rintro r s ⟨rfl,rfl⟩;exact⟨_,rfl,rfl⟩) ?_
 rintro r o ⟨rfl,ho⟩
 cases ho
 simp[go_sem]
 refine zU (λw=> ?_) (λw=> ?_)
 .rw[ahg w]at hinv
  simp[go_sem]
  exact ret _ _ hinv
 .rw[ahf (by rw[w];decide)]at hinv
  simp[go_sem,ei]
  exact zH (i+1) ⟨om,⟨q,hinv⟩,aN 1 rfl⟩
theorem wi5 (l:List fg) (name:ahP) (hl:l.length<=maxLen):bN prog 203 [.sl .ro (l.map fg.row),.fn 204 [.ptr 0 0]] [.box [.str name]] (λr s=>r= .int .i64 (iy (λt:fg=>t.name==name) l 0)/\s= [.box [.str name]]):=by
 generalize hM:iy (λt:fg=>t.name==name) l 0=M
 have ret: ∀(r:Int) (I:St),r=M->cw (some (.int .i64 r)) 1 (λr s=>r= .int .i64 M/\s= [.box [.str name]]) (.box [.str name]::I):=λr I h=>by subst h;exact ud 1 rfl rfl (A7 _) (zC rfl) ⟨rfl,rfl⟩
 refine iV 1 func203 ntmps203 results203 λc hc hb=> ?_
 refine zA ?_
 simp[go_sem]
 refine zI (S:=Nat) [0,1,7,8] (λi=> [.sl .ro (l.map fg.row),.fn 204 [.ptr 0 0],.int .i64 l.length,.int .i64 i]) (λ_=> [.box [.str name]]) (λi=>l.length - i) (λi=>i<=l.length/\iy (λt:fg=>t.name==name) (l.drop i) i=M) hc hb 0 ⟨A4 _,hM⟩ ?_ ?_
 .exact aN 1 rfl
 rintro i ⟨hi,hinv⟩
 by_cases q:i<l.length
 rotate_left
 .rw[Bn om,iy]at hinv
  refine zA ?_
  simp[go_sem,q]
  exact ret _ _ hinv
 have ei:=zQ q (by unfold maxLen at hl;omega)
 obtain⟨x,hx⟩:=eX (l[i])
 rw[A5 q,hx,iy]at hinv
 obtain⟨b,ab⟩:=eX ((x.name==name))
 have aa:=wo4 x name
 rw[ab]at aa hinv
 refine zA ?_
 simp[go_sem,q,hx]
 refine lV 0 aa cB rfl rfl ⟨zC rfl,.inl rfl,tV⟩ (by rintro r s ⟨rfl,rfl⟩;exact⟨_,rfl,rfl⟩) ?_
 rintro r o ⟨rfl,ho⟩
 cases ho
 simp[go_sem]
 refine zU (λw=> ?_) (λw=> ?_)
 .rw[ahg w]at hinv
  simp[go_sem]
  exact ret _ _ hinv
 .rw[ahf (by rw[w];decide)]at hinv
  simp[go_sem,ei]
  exact zH (i+1) ⟨om,⟨q,hinv⟩,aN 1 rfl⟩
theorem NI (ts:List bL) (name:ahP) (hl:ts.length<=maxLen):Pure prog 97 [dG ts,.str name] (.int .i64 (iy (λt:bL=>t.name==name) ts 0)):=by
 have hx:=wi9 ts name hl
 refine iW 0 func97 ntmps97 results97 λc hc hb=>zM ?_
 simp[go_sem,dG]
 refine lV 1 hx cB rfl rfl ⟨zC rfl,.inl rfl,tV⟩ (by rintro r s ⟨rfl,rfl⟩;exact⟨_,rfl,rfl⟩) ?_
 rintro r o ⟨rfl,ho⟩
 cases ho
 simp[go_sem]
 exact wR
theorem FE (t:bL) (name:ahP) (hl:t.ca.length<=maxLen):Pure prog 142 [.agg t.row,.str name] (.int .i64 (iy (λt:fg=>t.name==name) t.ca 0)):=by
 have hx:=wi5 t.ca name hl
 refine iW 0 func142 ntmps142 results142 λc hc hb=>zM ?_
 simp[go_sem]
 refine lV 1 hx cB rfl rfl ⟨zC rfl,.inl rfl,tV⟩ (by rintro r s ⟨rfl,rfl⟩;exact⟨_,rfl,rfl⟩) ?_
 rintro r o ⟨rfl,ho⟩
 cases ho
 simp[go_sem]
 exact wR
def cR (T:bL) (name:ahP):Int:=iy (λc:fg=>c.name==name) T.ca 0
def kG (T:bL) (c:Int):Int:=((T.ca[c.toNat]?).map (·.kind)).getD 0
def nk (v:bK):Bool:=v.kind==0&&(v.n==0&&v.s.isEmpty)
theorem SB (v:bK):(!(v.kind==0)||(!(v.n==0)|| !v.s.isEmpty))= !nk v:=by unfold nk;cases v.kind==0<;>cases v.n==0<;>cases v.s.isEmpty<;>rfl
mutual
def lf (T:bL):bJ->Int×Int
 | .mk k s v args=>
  if k=1 then(if s.isEmpty=false\/args.isEmpty=false\/ep v=false then(0,9)else(v.kind,0))
  else if k=2 then(if cR T s<0 then(0,14)else if args.isEmpty=false\/nk v=false then(0,9)else(kG T (cR T s),0))
  else if k=3 then(if(wP T args).2≠0 then(0,(wP T args).2)else if nk v=false then(0,9)else oy s (wP T args).1)
  else(0,9)
def wP (T:bL):List bJ->ahS×Int
 | []=>([],0)
 |e::l=>if(lf T e).2≠0 then([],(lf T e).2)else((lf T e).1::(wP T l).1,(wP T l).2)
end
theorem NJ (T:bL) (e:bJ):lf T e=
  if e.kind=1 then(if e.s.isEmpty=false\/e.args.isEmpty=false\/ep e.v=false then(0,9)else(e.v.kind,0))
  else if e.kind=2 then(if cR T e.s<0 then(0,14)else if e.args.isEmpty=false\/nk e.v=false then(0,9)else(kG T (cR T e.s),0))
  else if e.kind=3 then(if(wP T e.args).2≠0 then(0,(wP T e.args).2)else if nk e.v=false then(0,9)else oy e.s (wP T e.args).1)
  else(0,9):=by cases e;rw[lf];rfl
theorem DP {M:Int×Int} {a e:Int} {I:St} (h:(a,e)=M):cw (some (.cy [.int .i64 a,.int .i64 e])) 0 (λr s=>r=wF M/\s= []) I:=by
 subst h
 exact wR
theorem Ki (T:bL) (s:ahP) (h: ¬cR T s<0): ∃j:Nat,cR T s=j/\j<T.ca.length:=by
 have:=DO (λc:fg=>c.name==s) T.ca 0
 unfold cR at h⊢
 refine⟨(iy (λc:fg=>c.name==s) T.ca 0).toNat,om,om⟩
theorem xz8 (l:List bJ):decide ((0:Int)<l.length)= !l.isEmpty:=by
 cases l with
 |nil=>rfl
 |cons _ _=>exact ahi (by simp only[Ak];omega)
theorem xp7 (l:List bJ):decide (0<l.length)= !l.isEmpty:=by
 cases l with
 |nil=>rfl
 |cons _ _=>exact ahi (by simp only[Ak];omega)
theorem SD (T:bL) (hT:T.ca.length<=maxLen): ∀(n:Nat) (e:bJ),wZ e<=n->fp e->Good e->Pure prog 202 [.agg T.row,.agg e.row] (wF (lf T e))
 |0,e,h,_,_=>by have:=J4 e;omega
 |n+1,e,h,hw,hg=>by
  have ih:=SD T hT n
  have az:=uo e
  have hlen:=hw.len
  have al:=hw.sub
  have av:=hg.sub
  have an:=FA e.v
  have ao:=FE T e.s hT
  obtain⟨M,hM⟩:=eX (lf T e)
  rw[hM]
  rw[NJ]at hM
  rw[show iy (λc:fg=>c.name==e.s) T.ca 0=cR T e.s from rfl]at ao
  have hz:=SB e.v
  have aw:=xz8 e.args
  have ai:=xp7 e.args
  have ret: ∀(a b:Int) (I:St),(a,b)=M->cw (some (.cy [.int .i64 a,.int .i64 b])) 0 (λr s=>r=wF M/\s= []) I:=λa b I h=>DP h
  refine iV 0 func202 ntmps202 results202 λc hc hb=> ?_
  refine zA ?_
  simp[go_sem]
  by_cases q1:e.kind=1
  .have af:(e.kind==1)=true:=sU q1
   rw[ahg q1]at hM
   generalize ep e.v=b at an hM
   generalize e.args.isEmpty=ae at aw ai hM
   simp[go_sem,af]
   repeat' (first
    |(refine xE (λq=> ?_) (λq=> ?_)<;>simp[go_sem,q,ai])
    |(refine zU (λq=> ?_) (λq=> ?_)<;>simp[go_sem,q])
    |(refine zL an cB (zO sg rfl) rfl ?_;simp[go_sem]))
   all_goals exact ret _ _ _ (by rw[<-hM];simp_all)
  rw[ahf q1]at hM
  have af:(e.kind==1)=false:=sU q1
  by_cases q2:e.kind=2
  .have aj:(e.kind==2)=true:=sU q2
   rw[ahg q2]at hM
   simp[go_sem,af,aj]
   refine zL ao cB (zO sg rfl) rfl ?_
   by_cases qc:cR T e.s<0
   .have ak:decide (cR T e.s<0)=true:=ahi qc
    rw[ahg qc]at hM
    simp[go_sem,ak]
    exact ret _ _ _ hM
   have ak:decide (cR T e.s<0)=false:=ahh qc
   rw[ahf qc]at hM
   obtain⟨j,hj,ax⟩:=Ki T e.s qc
   obtain⟨C,hC⟩:=eX (T.ca[j])
   have a1:kG T (cR T e.s)=C.kind:=by
    unfold kG
    rw[hj,Az,A0 ax,hC];rfl
   rw[a1]at hM
   rw[hj]at ak⊢
   generalize nk e.v=z at hz hM
   generalize e.args.isEmpty=ae at aw ai hM
   simp[go_sem,ak,ai]
   repeat' (first
    |(refine xE (λq=> ?_) (λq=> ?_)<;>simp[go_sem,q,hz])
    |(refine zU (λq=> ?_) (λq=> ?_)<;>simp[go_sem,q,ax,hC]))
   all_goals exact ret _ _ _ (by rw[<-hM];simp_all)
  rw[ahf q2]at hM
  have aj:(e.kind==2)=false:=sU q2
  by_cases q3:e.kind=3
  rotate_left
  .rw[ahf q3]at hM
   have aq:(e.kind==3)=false:=sU q3
   simp[go_sem,af,aj,aq]
   exact ret _ _ _ hM
  have aq:(e.kind==3)=true:=sU q3
  rw[ahg q3]at hM
  obtain⟨args,ab⟩:=eX e.args
  rw[ab]at az hlen al av hM
  obtain⟨K,hK⟩:=eX (wP T args)
  rw[hK]at hM
  simp[go_sem,af,aj,aq,ab]
  refine lE 7 1 dC sg ?_
  refine zI (S:=Nat×ahS) [2,3,7,61,62,63] (λu=> [.ptr 0 0,.ptr 1 0,.sl (.app 2) (u.2.map λn=> [V.int .i64 n]),.sl .ro (args.map bJ.row),.int .i64 args.length,.int .i64 (u.1:Int)]) (λu=> [.box T.row,.box e.row,.app u.2.length 1]) (λu=>args.length - u.1)
   (λu=>u.1<=args.length/\u.2.length=u.1/\(wP T (args.drop u.1)).2=K.2/\(K.2=0->u.2++(wP T (args.drop u.1)).1=K.1)) hc hb (0,[])
   ⟨A4 _,rfl,by simp only[Bj];rw[hK],λ_=>by simp only[Bj];rw[hK];rfl⟩ ?_ ?_
  .exact cd 3 (by simp[go_sem,ab]) rfl (by simp[bT,cQ,cL,bJ.bS,bL.row]) (A4 _) (zD sg rfl)
  rintro⟨i,l⟩ ⟨hi,hl,hinv,aa⟩
  simp only at hi hl hinv aa
  by_cases q:i<args.length
  rotate_left
  .rw[A9 om,wP]at hinv aa
   have ah:K.2=0:=hinv.symm
   have a6:l=K.1:=by have:=aa ah;simpa using this
   rw[ahf (λh=>h ah),<-a6]at hM
   have ay:=ZN e.s l (by unfold maxLen;omega)
   generalize oy e.s l=o at ay hM
   generalize nk e.v=z at hz hM
   refine zA ?_
   simp[go_sem,q,hz]
   refine(A6 z).elim (λw=> ?_) (λw=> ?_)
   .rw[ahf (by rw[w];decide)]at hM
    subst w
    simp[go_sem]
    refine pC ay ?_
    simp[go_sem,wF]
    exact ret _ _ _ hM
   .rw[ahg w]at hM
    subst w
    simp[go_sem]
    exact ret _ _ _ hM
  have ei:=zQ q om
  obtain⟨x,hx⟩:=eX (args[i])
  have ar:x∈args:=hx▸A8 q
  have a7:=CR args x ar
  rw[A5 q,hx,wP]at hinv aa
  have ad:=ih x om (al x ar) (av x ar)
  generalize lf T x=kx at ad hinv aa
  by_cases q4:kx.2=0
  .rw[ahf (λh=>h q4)]at hinv aa
   have au:(kx.2 !=0)=false:=sU q4
   refine zA ?_
   simp[go_sem,q,hx]
   refine zL ad cB (zO sg (by rw[bJ.bS];rfl)) rfl ?_
   simp[go_sem,wF,au]
   refine zJ ⟨om,zY rfl⟩ ?_
   simp[go_sem,ei]
   refine zH (i+1,l++ [kx.1]) ⟨by simp only;omega,⟨by simp only;omega,by simp;omega,hinv,λh=>by have:=aa h;simpa using this⟩, ?_⟩
   exact aN 3 (by simp[bT,cQ,cL,bJ.bS])
  .rw[ahg q4]at hinv
   have au:(kx.2 !=0)=true:=sU q4
   have ah:kx.2=K.2:=hinv
   rw[ahg (by rw[<-ah];exact q4),<-ah]at hM
   refine zA ?_
   simp[go_sem,q,hx]
   refine zL ad cB (zO sg (by rw[bJ.bS];rfl)) rfl ?_
   simp[go_sem,wF,au]
   exact ret _ _ _ hM
def iD (T:bL) (e:bJ):Int×Int:=if wZ e<=64 then lf T e else(0,3)
theorem SF: ∀(n:Nat) (e:bJ),mb e<=n->wZ e<=n
 |0,e,h=>by grind[Ns]
 |n+1,e,h=>by
  rw[Fo]at h
  rw[uo]
  have: ∀l:List bJ,mC l<=n->wJ l<=n:=by
   intro l
   induction l with
   |nil=>intro _;simpa
   |cons x l ih=>
    intro hl
    rw[mC]at hl
    rw[wJ]
    have h1:=SF n x om
    omega
  grind
theorem Kj (T:bL) (hT:T.ca.length<=maxLen) (e:bJ) (he:ja e):Pure prog 140 [.agg T.row,.agg e.row] (wF (iD T e)):=by
 have hs:=he.size
 have hd:=SF 4000 e hs
 have ab:=R5 4000 e 1 0 hd he.wide om om om om
 have aa:=SD T hT 4000 e hd he.wide he.dU
 generalize hM:iD T e=M
 unfold iD at hM
 generalize lf T e=k at aa hM
 have ret: ∀(x:Int×Int) (I:St),x=M->cw (some (.cy [.int .i64 x.1,.int .i64 x.2])) 0 (λr s=>r=wF M/\s= []) I:=λx I h=>DP h
 refine iW 0 func140 ntmps140 results140 λc hc hb=>zM ?_
 simp[go_sem]
 refine lV 2 ab cB rfl (by rfl) ⟨.inl (by simp[go_sem,dF,dK,de,di]),zC rfl,.inl rfl,tV⟩ (λr I h=>by
  obtain⟨_,m2,rfl,_⟩:=h
  exact⟨_,rfl,rfl⟩) ?_
 rintro r o2 ⟨rfl,m2,h1,h2,h3⟩
 obtain rfl:o2= .box [.int .i64 m2]:=by grind
 by_cases q:wZ e<=64
 .rw[ahg q]at hM
  rw[ahi om]
  simp[go_sem]
  refine zL aa cB (zO sg (by rw[bJ.bS];rfl)) rfl ?_
  simp[go_sem,wF]
  exact ret _ _ hM
 .rw[ahf q]at hM
  rw[ahh om]
  simp[go_sem]
  exact ret (0,3) _ hM
end Go.Proofs.YtplackkccmeioaaGreat
