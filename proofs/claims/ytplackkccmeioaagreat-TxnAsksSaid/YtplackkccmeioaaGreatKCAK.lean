/-
  The kinds of expressions by the document, over trees (the library Vx); used by the theorem at the end of the claim.
  Conditions: as each theorem states them.
-/
import Derived.Test.YtplackkccmeioaaGreatKCAJ
import Derived.Test.YtplackkccmeioaaGreatKCAF
set_option maxHeartbeats 8000000
namespace Go.Proofs.YtplackkccmeioaaGreat.R
open Go Go.Vx Go.Proofs.Tryz
set_option maxRecDepth 100000
variable {i:Nat}{n:Nat}{e:Int}{I:St}{x:Nat}{g:Tag}
def il:aiZ->Nat->Nat->Nat×Nat×Int
 | [],_,_=>(0,0,2)
 |c::rest,i,v=>if i=9/\1<c.toNat then(0,0,5)else if c.toNat<128 then(if c.toNat=0/\0<i then(0,0,9)else(v+c.toNat%128*128^i,i+1,0))else il rest (i+1) (v+c.toNat%128*128^i)
def Gc (r:Nat×Nat×Int):V:= .cy [.int .u64 r.1,.int .i64 r.2.1,.int .i64 r.2.2]
theorem yX5:((List.range 256).all λm=>jr .andNot .u8 (m:Int) 128==((m%128:Nat):Int))=true:=by decide+kernel
theorem xB0 (c:UInt8):jr .andNot .u8 (c.toNat:Int) 128=((c.toNat%128:Nat):Int):=by
 have h:=Am.1 yX5 c.toNat (Cn.2 c.toNat_lt)
 exact beq_iff_eq.1 h
theorem wq0 {m:Nat} (hm:m<18446744073709551616) (hn:n<18446744073709551616) (ho:m|||n<18446744073709551616):jr .or .u64 (m:Int) (n:Int)=((m|||n:Nat):Int):=by
 show IntKind.u64.wrap ((BitVec.ofInt 64 (m:Int)|||BitVec.ofInt 64 (n:Int)).toNat:Int)=_
 rw[aiI,aiI,BitVec.toNat_or,aiK,aiK,Cw om,Cw om]
 exact db om om
theorem Te (i:Nat):128^i=2^(7*i):=by rw[Nat.pow_mul]
theorem wo3 {v:Nat} (hv:v<128^i):v|||(x*128^i)=v+x*128^i:=by
 rw[Te]at*
 have:=Nat.shiftLeft_add_eq_or_of_lt hv x
 rw[Nat.shiftLeft_eq]at this
 rw[Nat.or_comm,<-this,E1]
theorem Om {v:Nat} (hv:v<128^i) (hx:x<128):v+x*128^i<128^(i+1):=by
 have:(x+1)*128^i<=128*128^i:=Ak _ om
 rw[E4]
 rw[B4]at this
 omega
theorem Tf {v:Nat} (hv:v<128^i) (hx:x<128) (h9:i<=8\/i=9/\x<=1):v+x*128^i<18446744073709551616/\x*128^i<18446744073709551616:=by
 rcases h9 with h|⟨rfl,h⟩
 .have h1:=Om hv hx
  have h2:128^(i+1)<=128^9:=Nat.pow_le_pow_right om om
  omega
 .have:x=0\/x=1:=om
  rcases this with rfl|rfl<;>omega
theorem KQ {b:aiZ} (h:i<(zO b).length):(zO b)[i]= [.int .u8 (b[i]'(by rw[zU]at h;exact h)).toNat]:=by simp[zO]
theorem On (b:aiZ) (ai:b.length<=cG):Pure prog 148 [eD b] (Gc (il b 0 0)):=by
 refine iV 0 func148 ntmps148 results148 λc hc hb=> ?_
 refine zA ?_
 simp[go_sem,eD,zU]
 refine zH (S:=Nat×Nat) [2,7,8,9] (λu=> [.int .u64 u.2,eD b,.int .i64 b.length,.int .i64 u.1]) (λ_=> []) (λu=>b.length - u.1) (λu=>u.1<=b.length/\u.1<=9/\u.2<128^u.1/\il (b.drop u.1) u.1 u.2=il b 0 0) hc hb (0,0) ⟨A3 _,A3 _,dC,rfl⟩ ?_ ?_
 .exact gZ rfl (zP (by simp[go_sem,eD]) rfl)
 rintro⟨i,v⟩ ⟨hi,h9,hv,ht⟩
 simp only at hi h9 hv ht
 refine zA ?_
 simp[go_sem,eD]
 refine zV (λq=> ?_) (λq=> ?_)
 .have q:i<b.length:=sU q
  obtain⟨c0,ae⟩: ∃c,b[i]=c:=⟨_,rfl⟩
  rw[A5 q,ae,il]at ht
  have al:c0.toNat<256:=c0.toNat_lt
  have ei:IntKind.i64.wrap ((i:Int)+1)=((i+1:Nat):Int):=zQ q (by unfold cG at ai;omega)
  have ret: ∀(r:Nat×Nat×Int) (I:St),r=il b 0 0->cx (some (Gc r)) 0 (λr s=>r=Gc (il b 0 0)/\s= []) I:=λr I h=>by subst h;exact wR
  by_cases hA:i=9/\1<c0.toNat
  .rw[aiv hA]at ht
   simp[go_sem,zU,q,KQ,ae]
   have f1:((i:Int)==9)=true:=by simp;omega
   refine xD (λw=> ?_) (λw=>absurd (f1.symm.trans w) dC)
   simp[go_sem,w]
   refine zV (λw2=> ?_) (λw2=>absurd w2 (by simp;omega))
   simp[go_sem]
   exact ret (0,0,5) _ ht
  rw[aiu hA]at ht
  have aj:i<=8\/i=9/\c0.toNat%128<=1:=by
   by_cases h:i=9
   .exact .inr ⟨h,by
     have: ¬1<c0.toNat:=λw=>hA ⟨h,w⟩
     omega⟩
   .exact .inl om
  have hx:c0.toNat%128<128:=Cr _ om
  have n12:=Tf hv hx aj
  have fA:i=9-> ¬1<c0.toNat:=λh w=>hA ⟨h,w⟩
  have a1:=xB0 c0
  have e1:IntKind.i64.wrap (7*(i:Int))=7*(i:Int):=bX om om
  have e2:IntKind.u64.wrap (7*(i:Int))=7*(i:Int):=db om om
  have e3:IntKind.u64.wrap ((c0.toNat:Int)%128)=(c0.toNat:Int)%128:=db om om
  obtain⟨x,ad⟩: ∃x:Nat,x=c0.toNat%128*128^i:=⟨_,rfl⟩
  obtain⟨m,af⟩: ∃m:Nat,m=v+x:=⟨_,rfl⟩
  have ah:m<128^(i+1):=by rw[af,ad];exact Om hv hx
  have ak:v|||x=m:=by rw[af,ad];exact wo3 hv
  rw[<-ad,<-af]at ht n12
  have e4:IntKind.u64.wrap ((c0.toNat:Int)%128*2^min (7*(i:Int)).toNat 64)=(x:Int):=by
   have:min (7*(i:Int)).toNat 64=7*i:=om
   rw[this]
   have h3:(c0.toNat:Int)%128*2^(7*i)=(x:Int):=by rw[ad,Te];simp
   rw[h3,db om om]
  have e5:jr .or .u64 (v:Int) (x:Int)=(m:Int):=by rw[wq0 om om om,ak]
  simp[go_sem,zU,q,KQ,ae]
  refine xD (λw=> ?_) (λw=> ?_)
  .have w9:i=9:=by simp at w;omega
   have w1:=fA w9
   simp[go_sem,w]
   refine zV (λw2=>absurd w2 (by simp;omega)) (λw2=> ?_)
   simp[go_sem,a1,e1,e2,e3,e4]
   try (refine zJ om ?_;simp[go_sem,e5])
   refine zV (λw3=> ?_) (λw3=> ?_)
   .have w4: ¬c0.toNat<128:=by have:=aiD w3;omega
    have i8:i+1<=9:=om
    rw[aiu w4]at ht
    simp[go_sem,ei]
    exact zI (i+1,m) ⟨by simp only;omega,⟨q,i8,ah,ht⟩,gZ rfl (zP (by simp[go_sem]) rfl)⟩
   .have w4:c0.toNat<128:=by have:=aiG w3;omega
    rw[aiv w4]at ht
    simp[go_sem]
    refine xD (λw5=> ?_) (λw5=> ?_)
    .have aa:c0.toNat=0:=by simp at w5;omega
     simp[go_sem,w5]
     refine zV (λw6=> ?_) (λw6=> ?_)
     .have ab:0<i:=sU w6
      rw[aiv ⟨aa,ab⟩]at ht
      simp[go_sem]
      exact ret (0,0,9) _ ht
     .have ab: ¬0<i:=sU w6
      rw[aiu (λh=>ab h.2)]at ht
      simp[go_sem,ei]
      exact ret (m,i+1,0) _ ht
    .have aa: ¬c0.toNat=0:=by simp at w5;omega
     rw[aiu (λh=>aa h.1)]at ht
     simp[go_sem,w5,ei]
     exact ret (m,i+1,0) _ ht
  .have w9: ¬i=9:=by simp at w;omega
   simp[go_sem,w,a1,e1,e2,e3,e4]
   try (refine zJ om ?_;simp[go_sem,e5])
   refine zV (λw3=> ?_) (λw3=> ?_)
   .have w4: ¬c0.toNat<128:=by have:=aiD w3;omega
    have i8:i+1<=9:=om
    rw[aiu w4]at ht
    simp[go_sem,ei]
    exact zI (i+1,m) ⟨by simp only;omega,⟨q,i8,ah,ht⟩,gZ rfl (zP (by simp[go_sem]) rfl)⟩
   .have w4:c0.toNat<128:=by have:=aiG w3;omega
    rw[aiv w4]at ht
    simp[go_sem]
    refine xD (λw5=> ?_) (λw5=> ?_)
    .have aa:c0.toNat=0:=by simp at w5;omega
     simp[go_sem,w5]
     refine zV (λw6=> ?_) (λw6=> ?_)
     .have ab:0<i:=sU w6
      rw[aiv ⟨aa,ab⟩]at ht
      simp[go_sem]
      exact ret (0,0,9) _ ht
     .have ab: ¬0<i:=sU w6
      rw[aiu (λh=>ab h.2)]at ht
      simp[go_sem,ei]
      exact ret (m,i+1,0) _ ht
    .have aa: ¬c0.toNat=0:=by simp at w5;omega
     rw[aiu (λh=>aa h.1)]at ht
     simp[go_sem,w5,ei]
     exact ret (m,i+1,0) _ ht
 .have q:i=b.length:=by
   have: ¬i<b.length:=sU q
   omega
  subst q
  rw[Cj,il]at ht
  simp[go_sem]
  rw[<-ht]
  exact wR
theorem Gd: ∀(l:aiZ) (i v:Nat),(il l i v).2.2=0->(il l i v).2.1<=i+l.length
 | [],i,v,h=>by simp[il]at h
 |c::rest,i,v,h=>by
  unfold il at h⊢
  split
  .simp_all
  .rename_i h1
   rw[aiu h1]at h
   split
   .rename_i h2
    rw[aiv h2]at h
    split
    .rename_i h3
     rw[aiv h3]at h
     simp at h
    .simp
   .rename_i h2
    rw[aiu h2]at h
    have:=Gd rest (i+1) _ h
    simp only[Ah]
    omega
def wQ (b:aiZ) (r:Nat×Nat×Int):aiZ×Nat×Int:=
 if r.2.2≠0 then([],0,r.2.2)else if 1048576<r.1 then([],0,3)else if b.length - r.2.1<r.1 then([],0,2)else((b.take (r.2.1+r.1)).drop r.2.1,r.2.1+r.1,0)
def tK (b:aiZ):aiZ×Nat×Int:=wQ b (il b 0 0)
def KR (r:aiZ×Nat×Int):V:= .cy [eD r.1,.int .i64 r.2.1,.int .i64 r.2.2]
theorem KS {r:aiZ×Nat×Int} {rows:List (List V)} (h1:zO r.1=rows) (h2:r.2.1=n) (h3:r.2.2=e):
  cx (some (.cy [.sl g rows,.int .i64 n,.int .i64 e])) 0 (λv s=>v=KR r/\s= []) I:=by
 subst h1 h2 h3
 have h:cT (cK [] I.length) (KR r) (.cy [.sl g (zO r.1),.int .i64 r.2.1,.int .i64 r.2.2]):=yW ⟨uL,xV rfl,xV rfl,tV⟩
 exact zW h ⟨rfl,rfl⟩
theorem yX4 (b:aiZ) (ab:b.length<=cG):Pure prog 211 [eD b] (KR (tK b)):=by
 have hle:=Gd b 0 0
 have aa:=On b ab
 unfold tK
 revert hle aa
 generalize il b 0 0=r
 obtain⟨n,k,e⟩:=r
 intro hle aa
 simp only at hle
 refine iW 0 func211 ntmps211 results211 λc hc hb=>zM ?_
 simp[go_sem]
 refine pC aa ?_
 simp[go_sem,Gc]
 refine zV (λh=> ?_) (λh=> ?_)
 .have h:e≠0:=sU h
  simp[go_sem]
  exact KS (by simp[wQ,h,zO]) (by simp[wQ,h]) (by simp[wQ,h])
 have h:e=0:=sU h
 have hk:=hle h
 have e1:IntKind.i64.wrap ((b.length:Int) - (k:Int))=((b.length - k:Nat):Int):=by rw[bX (by unfold cG at*;omega) (by unfold cG at*;omega)];omega
 have e2:IntKind.u64.wrap ((b.length - k:Nat):Int)=((b.length - k:Nat):Int):=db om (by unfold cG at*;omega)
 simp[go_sem]
 refine zV (λh2=> ?_) (λh2=> ?_)
 .have h2:1048576<n:=by have:=aiD h2;omega
  simp[go_sem]
  exact KS (by simp[wQ,h,h2,zO]) (by simp[wQ,h,h2]) (by simp[wQ,h,h2])
 have h2: ¬1048576<n:=by have:=aiG h2;omega
 simp[go_sem,eD,zU,e1,e2]
 refine zV (λh3=> ?_) (λh3=> ?_)
 .have h3:b.length - k<n:=by have:=aiD h3;omega
  simp[go_sem]
  exact KS (by simp[wQ,h,h2,h3,zO]) (by simp[wQ,h,h2,h3]) (by simp[wQ,h,h2,h3])
 have h3: ¬b.length - k<n:=by have:=aiG h3;omega
 have e3:IntKind.i64.wrap (n:Int)=(n:Int):=bX om om
 have e4:IntKind.i64.wrap ((k:Int)+(n:Int))=((k+n:Nat):Int):=by rw[bX (by unfold cG at*;omega) (by unfold cG at*;omega)];omega
 simp[go_sem,zU,e3,e4]
 refine zJ ⟨om,om,qZ b⟩ ?_
 have e5:((k:Int)+(n:Int)).toNat=k+n:=om
 have hlen:((b.take (k+n)).drop k).length<=cG:=by simp;omega
 simp[go_sem,e5]
 refine AH (Oi ((b.take (k+n)).drop k) 0 hlen dC) cB ⟨wP (by simp[zO,List.map_take]),zC rfl,tV⟩ ?_
 rintro r s ⟨rfl,rfl⟩
 simp[go_sem,gG,gq]
 exact KS (by simp[wQ,h,h2,h3]) (by simp[wQ,h,h2,h3]) (by simp[wQ,h,h2,h3])
def kO (u:Nat):Int:=if u%2=0 then((u/2:Nat):Int)else -((u/2:Nat):Int) - 1
structure jy where
 v:bK
 n:Nat
 e:Int
def jy.V (r:jy):V:= .cy [.agg r.v.row,.int .i64 r.n,.int .i64 r.e]
def v0:bK:=⟨0,0,[]⟩
def ve (b:aiZ):jy:=
 if b.length<2 then⟨v0,0,2⟩else if 1<(b.getD 1 0).toNat then⟨v0,0,9⟩else⟨⟨1,(b.getD 1 0).toNat,[]⟩,2,0⟩
theorem sd {r:jy} {k m:Int} {s:aiZ} (h:r=⟨⟨k,m,s⟩,n,e⟩):
  cx (some (.cy [.agg [.int .i64 k,.int .i64 m,.str s],.int .i64 n,.int .i64 e])) 0 (λv s=>v=r.V/\s= []) I:=by
 subst h
 exact wR
theorem xe9 (b:aiZ) (_:b.length<=cG):Pure prog 209 [eD b] (ve b).V:=by
 refine iW 0 func209 ntmps209 results209 λc hc hb=>zM ?_
 simp[go_sem,eD,zU]
 refine zV (λh=> ?_) (λh=> ?_)
 .have h:b.length<2:=by have:=aiD h;omega
  simp[go_sem]
  exact sd (n:=0) (by simp[ve,h,v0])
 have h: ¬b.length<2:=by have:=aiG h;omega
 have h1:1<b.length:=om
 obtain⟨c0,aa⟩: ∃c,b[1]=c:=⟨_,rfl⟩
 have ab:b.getD 1 0=c0:=by rw[Al,A0 h1,aa];rfl
 have e1:IntKind.i64.wrap (c0.toNat:Int)=(c0.toNat:Int):=bX om (by have:=c0.toNat_lt;omega)
 simp[go_sem,zU,h1,KQ,aa]
 refine zJ om ?_
 simp[go_sem]
 refine zV (λh2=> ?_) (λh2=> ?_)
 .have h2:1<c0.toNat:=by have:=aiD h2;omega
  simp[go_sem]
  exact sd (n:=0) (by simp only[ve,ab];rw[aiu h,aiv h2];rfl)
 .have h2: ¬1<c0.toNat:=by have:=aiG h2;omega
  simp[go_sem,zU,h1,KQ,aa]
  refine zJ om ?_
  simp[go_sem,e1]
  exact sd (n:=2) (by simp only[ve,ab];rw[aiu h,aiu h2])
theorem wq5 {x:Int} (h:0<=x) (h2:x<=9223372036854775807):jr .xor .i64 x 0=x:=by
 obtain⟨m,rfl⟩:=Dw h
 show IntKind.i64.wrap ((BitVec.ofInt 64 (m:Int)^^^BitVec.ofInt 64 0).toNat:Int)=m
 have e:BitVec.ofInt 64 (0:Int)=0#64:=rfl
 rw[e,BitVec.xor_zero,aiI,aiK,Cw om]
 exact bX om om
theorem wq6 {x:Int} (h:0<=x) (h2:x<=9223372036854775807):jr .xor .i64 x (-1)= -x - 1:=by
 obtain⟨m,rfl⟩:=Dw h
 show IntKind.i64.wrap ((BitVec.ofInt 64 (m:Int)^^^BitVec.ofInt 64 (-1)).toNat:Int)=_
 have e:BitVec.ofInt 64 (-1:Int)=BitVec.allOnes 64:=by decide+kernel
 rw[e,BitVec.xor_allOnes,aiI,BitVec.toNat_not,aiK,Cw om]
 rw[IntKind.wrap_i64]
 omega
theorem wr8 {m:Nat} (h:m<18446744073709551616):jr .and .u64 (m:Int) 1=(m:Int)%2:=by
 show IntKind.u64.wrap ((BitVec.ofInt 64 (m:Int)&&&BitVec.ofInt 64 1).toNat:Int)=_
 have e:BitVec.ofInt 64 (1:Int)=1#64:=rfl
 rw[e,aiI,BitVec.toNat_and,aiK,Cw om]
 have e2:m&&&(1#64).toNat=m%2:=Nat.and_one_is_mod m
 rw[e2,db om om]
 omega
theorem wr6 (u:Nat) (hu:u<18446744073709551616):Pure prog 210 [.int .u64 u] (.int .i64 (kO u)):=by
 have e0:=wr8 hu
 have e1:(u:Int).fdiv 2=(u:Int)/2:=Dp _ om
 have e3:IntKind.i64.wrap ((u:Int)/2)=(u:Int)/2:=bX om om
 have e4:IntKind.i64.wrap ((u:Int)%2)=(u:Int)%2:=bX om om
 have e5:IntKind.i64.wrap (-((u:Int)%2))= -((u:Int)%2):=bX om om
 have e6:jr .xor .i64 ((u:Int)/2) (-((u:Int)%2))=kO u:=by
  unfold kO
  by_cases h:u%2=0
  .rw[aiv h,show -((u:Int)%2)=0 by omega,wq5 om om];omega
  .rw[aiu h,show -((u:Int)%2)= -1 by omega,wq6 om om];omega
 refine iW 0 func210 ntmps210 results210 λc hc hb=>zM ?_
 simp[go_sem,e0,e1,e3,e4,e5,e6]
 exact wR
theorem KU: ∀(l:aiZ) (i v:Nat),v<128^i->i<=9->(il l i v).1<18446744073709551616
 | [],i,v,_,_=>by simp[il]
 |c::rest,i,v,hv,h9=>by
  have hc:=c.toNat_lt
  unfold il
  split
  .simp
  .rename_i h1
   have aa:i<=8\/i=9/\c.toNat%128<=1:=by
    by_cases h:i=9
    .exact .inr ⟨h,by
      have: ¬1<c.toNat:=λw=>h1 ⟨h,w⟩
      omega⟩
    .exact .inl om
   have hx:c.toNat%128<128:=Cr _ om
   have n12:=Tf hv hx aa
   split
   .split
    .simp
    .exact n12.1
   .rename_i h2
    refine KU rest (i+1) _ (Om hv hx) ?_
    rcases aa with h|h
    .omega
    .exfalso
     have: ¬1<c.toNat:=λw=>h1 ⟨h.1,w⟩
     omega
def pe (k:Nat) (tb:jy) (r:Nat×Nat×Int) (t:aiZ×Nat×Int):jy:=
 if k=0 then⟨v0,1,0⟩
 else if k=1 then tb
 else if k=2 then(if r.2.2≠0 then⟨v0,0,r.2.2⟩else⟨⟨2,kO r.1,[]⟩,1+r.2.1,0⟩)
 else if k=3 then(if t.2.2≠0 then⟨v0,0,t.2.2⟩else if 64<t.1.length then⟨v0,0,3⟩else⟨⟨3,0,t.1⟩,1+t.2.1,0⟩)
 else⟨v0,0,9⟩
def lA:aiZ->jy
 | []=>⟨v0,0,2⟩
 |c::rest=>pe c.toNat (ve (c::rest)) (il rest 0 0) (tK rest)
theorem Tg (b:aiZ):(tK b).2.1<=b.length/\((tK b).2.2=0->(tK b).1.length<=b.length):=by
 have hle:=Gd b 0 0
 unfold tK wQ
 revert hle
 generalize il b 0 0=r
 obtain⟨n,k,e⟩:=r
 intro hle
 simp only at hle⊢
 split
 .simp
 .rename_i h
  have h:e=0:=Decidable.not_not.1 h
  have hk:=hle h
  split
  .simp
  .split
   .simp
   .refine⟨?_,λ_=> ?_⟩
    .simp only;omega
    .simp;omega
theorem wk1 (b:aiZ) (ai:b.length<=cG):Pure prog 149 [eD b] (lA b).V:=by
 cases b with
 |nil=>
  refine iW 0 func149 ntmps149 results149 λc hc hb=>zM ?_
  simp[go_sem,eD,zO]
  exact sd (n:=0) rfl
 |cons c0 rest=>
  have hc:=c0.toNat_lt
  have hr:rest.length<=cG:=by simp only[Ah]at ai;omega
  have ab:=KU rest 0 0 dC dC
  have hle:=Gd rest 0 0
  have ad:=On rest hr
  have ae:=yX4 rest hr
  have af:=Tg rest
  have ah:=xe9 (c0::rest) ai
  have e1:IntKind.i64.wrap (c0.toNat:Int)=(c0.toNat:Int):=bX om om
  have aa:zO (c0::rest)= [.int .u8 c0.toNat]::zO rest:=rfl
  rw[lA]
  revert ab hle ad ae ah af
  generalize il rest 0 0=r
  generalize tK rest=t
  generalize ve (c0::rest)=tb
  obtain⟨n,k,e⟩:=r
  obtain⟨tx,tk,te⟩:=t
  obtain⟨⟨bk,bn,bs⟩,bm,be⟩:=tb
  obtain⟨q,hq⟩:=eX c0.toNat
  intro ab hle ad ae af ah
  simp only at ab hle af
  rw[hq]at hc e1 aa⊢
  have e2:e=0->IntKind.i64.wrap (1+(k:Int))=((1+k:Nat):Int):=λh=>by
   have:=hle h
   rw[bX om (by unfold cG at*;omega)];omega
  have e3:IntKind.i64.wrap (1+(tk:Int))=((1+tk:Nat):Int):=by rw[bX om (by unfold cG at*;omega)];omega
  have e4:(zO rest).take rest.length=zO rest:=Aa (by rw[zU];omega)
  have hu:eI 1 ([V.int .u8 (q:Int)]::zO rest):=aa▸qZ (c0::rest)
  refine iW 0 func149 ntmps149 results149 λc hc hb=>zM ?_
  simp[go_sem,eD,aa,zU]
  refine zV (λw=>absurd w (by simp;omega)) (λw=> ?_)
  simp[go_sem,zU,e1]
  refine zV (λw1=> ?_) (λw1=> ?_)
  .have w1:q=0:=by simp at w1;omega
   simp[go_sem]
   exact sd (n:=1) (by simp[pe,w1,v0])
  have w1: ¬q=0:=by simp at w1;omega
  simp[go_sem]
  refine zV (λw2=> ?_) (λw2=> ?_)
  .have w2:q=1:=by simp at w2;omega
   simp[go_sem]
   refine zL ah cB (zP (by simp[eD,aa]) rfl) rfl ?_
   simp[go_sem,jy.V]
   exact sd (n:=bm) (by simp[pe,w2])
  have w2: ¬q=1:=by simp at w2;omega
  simp[go_sem]
  refine zV (λw3=> ?_) (λw3=> ?_)
  .have w3:q=2:=by simp at w3;omega
   simp[go_sem,zU]
   refine zJ ⟨om,hu⟩ ?_
   simp[go_sem,e4]
   refine pC ad ?_
   simp[go_sem,Gc]
   refine zV (λw4=> ?_) (λw4=> ?_)
   .have w4:e≠0:=sU w4
    simp[go_sem]
    exact sd (n:=0) (by simp[pe,w3,w4,v0])
   have w4:e=0:=sU w4
   have e5:=e2 w4
   simp[go_sem]
   refine pC (wr6 n ab) ?_
   simp[go_sem,e5]
   exact sd (n:=1+k) (by simp[pe,w3,w4])
  have w3: ¬q=2:=by simp at w3;omega
  simp[go_sem]
  refine zV (λw4=> ?_) (λw4=> ?_)
  .have w4:q=3:=by simp at w4;omega
   simp[go_sem,zU]
   refine zJ ⟨om,hu⟩ ?_
   simp[go_sem,e4]
   refine pC ae ?_
   simp[go_sem,KR,eD]
   refine zV (λw5=> ?_) (λw5=> ?_)
   .have w5:te≠0:=sU w5
    simp[go_sem]
    exact sd (n:=0) (by simp[pe,w4,w5,v0])
   have w5:te=0:=sU w5
   simp[go_sem,zU]
   refine zV (λw6=> ?_) (λw6=> ?_)
   .have w6:64<tx.length:=by have:=aiD w6;omega
    simp[go_sem]
    exact sd (n:=0) (by simp[pe,w4,w5,w6,v0])
   have w6: ¬64<tx.length:=by have:=aiG w6;omega
   simp[go_sem]
   refine zJ (xR _) ?_
   simp[go_sem,e3,GU]
   exact sd (n:=1+tk) (by simp[pe,w4,w5,w6])
  have w4: ¬q=3:=by simp at w4;omega
  simp[go_sem]
  exact sd (n:=0) (by simp[pe,w1,w2,w3,w4,v0])
theorem jw (aa fG:List (List V)) (t:Int):Pure prog 147 [.agg [.sl .ro aa,.sl .ro fG],.int .i64 t] (.bool (decide (0<=t)&&decide (t<fG.length))):=by
 refine iW 0 func147 ntmps147 results147 λc hc hb=>zM ?_
 simp[go_sem]
 repeat' (first|(refine xD (λq=> ?_) (λq=> ?_)<;>simp[go_sem,q])|(refine zV (λq=> ?_) (λq=> ?_)<;>simp[go_sem,q]))
 all_goals exact zW (zC rfl) ⟨by simp_all,rfl⟩
theorem xR4 (b:aiZ):(lA b).e=0->(lA b).n<=b.length:=by
 cases b<;>grind[lA,Gd,Tg,pe,ve]
def iA:Nat->aiZ->Option (List bK)
 |0,b=>if b= []then some []else none
 |n+1,b=>if(lA b).e=0 then(iA n (b.drop (lA b).n)).map ((lA b).v:: ·)else none
def tL (o:Option (List bK)):List bK×Int:=match o with
 |some l=>(l,0)
 |none=>([],9)
def jR (nc:Nat) (data:aiZ):List bK×Int:=
 if(il data 0 0).2.2=0/\(il data 0 0).1=nc then tL (iA nc (data.drop (il data 0 0).2.1))else([],9)
def dZ (ts:List bL) (table:Int) (data:aiZ):List bK×Int:=
 if h:0<=table/\table<ts.length then jR (ts[table.toNat]'om).cm.length data else([],1)
theorem yy6 (b:aiZ) (k:Nat):List.drop k (List.take b.length (zO b))=zO (b.drop k):=by
 simp[Aa,zO]
def eH (r:List bK×Int):V:= .cy [.sl .ro (r.1.map bK.row),.int .i64 r.2]
theorem Th {r:List bK×Int} {l:List bK} (h:r=(l,e)):cx (some (.cy [.sl g (l.map bK.row),.int .i64 e])) 0 (λv s=>v=eH r/\s= []) I:=by
 subst h
 exact zW (r:=eH (l,e)) (yW (gY:= [.sl .ro (l.map bK.row),.int .i64 e]) ⟨uL,xV rfl,tV⟩) sm
theorem KW {r:List bK×Int} (h:r=([],e)):cx (some (.cy [.sl g [],.int .i64 e])) 0 (λv s=>v=eH r/\s= []) I:=Th (l:= []) h
theorem Ti (ab:List (List V)) (ts:List bL) (table:Int) (data:aiZ) (hd:data.length<=cG) (al: ∀t∈ts,t.cm.length<=cG):
  Pure prog 103 [.agg [.sl .ro ab,.sl .ro (ts.map bL.row)],.int .i64 table,.str data] (eH (dZ ts table data)):=by
 have af:=KU data 0 0 dC dC
 have hle:=Gd data 0 0
 have ah:=On data hd
 by_cases ht:0<=table/\table<ts.length
 .obtain⟨j,rfl⟩: ∃j:Nat,table=j:=⟨table.toNat,om⟩
  have hj:j<ts.length:=om
  obtain⟨t,ak⟩:=eX (ts[j])
  have an:=al t (ak▸A8 hj)
  have hF:dZ ts j data=jR t.cm.length data:=by
   simp_all[dZ]
  rw[hF]
  unfold jR
  revert af hle ah
  generalize il data 0 0=r
  obtain⟨n,k,e⟩:=r
  intro af hle ah
  simp only at af hle⊢
  obtain⟨nc,ae⟩:=eX t.cm.length
  rw[ae]at an⊢
  have eu:IntKind.u64.wrap (nc:Int)=nc:=db om (by grind)
  refine iV 0 func103 ntmps103 results103 λc hc hb=> ?_
  refine zA ?_
  simp[go_sem]
  refine pC (jw ab (ts.map bL.row) j) ?_
  simp[go_sem,hj]
  refine zL ah cB (zP (by rfl) rfl) rfl ?_
  simp[go_sem,Gc]
  have bad: ∀I:St,¬(e=0/\n=nc)->cx (some (.cy [.sl .full [],.int .i64 9])) 0 (λv s=>v=eH (if e=0/\n=nc then tL (iA nc (data.drop k))else([],9))/\s= []) I:=λI h=>KW (by grind)
  refine xD (λai=> ?_) (λai=> ?_)
  .have q1:e=0:=by grind
   simp[go_sem,ai,hj,ak,ae,eu]
   refine zV (λq2=> ?_) (λq2=> ?_)
   .have q2: ¬n=nc:=by grind
    simp[go_sem]
    exact bad _ om
   have q2:n=nc:=by grind
   have hk:=hle q1
   rw[aiv ⟨q1,q2⟩]
   simp[go_sem]
   refine lU 12 3 dC rfl ?_
   refine zH (S:=Nat×Nat×List bK) [8,10,12,42,43] (λu=> [eD data,.int .i64 u.2.1,.sl (.app 1) (u.2.2.map bK.row),.int .u64 nc,.int .u64 u.1]) (λu=> [.box [.sl .ro ab,.sl .ro (ts.map bL.row)],.app u.2.2.length 3]) (λu=>nc - u.1)
    (λu=>u.1<=nc/\u.2.1<=data.length/\u.2.2.length=u.1/\(iA (nc - u.1) (data.drop u.2.1)).map (u.2.2++ ·)=iA nc (data.drop k)) hc hb (0,k,[]) (by simp_all) ?_ ?_
   .exact cc 2 sm rfl rfl om (zD (by simp[go_sem,eD,zO,q2]) rfl)
   rintro⟨i,at_,l⟩ ⟨hi,ao,aq,aa⟩
   simp only at hi ao aq aa
   have ar:data.length - at_<=cG:=om
   have aj:=wk1 (data.drop at_) (by simp;omega)
   have ad:=xR4 (data.drop at_)
   rw[D6]at ad
   refine zA ?_
   simp[go_sem]
   refine zV (λq3=> ?_) (λq3=> ?_)
   .have q3:i<nc:=by grind
    rw[show nc - i=(nc - i - 1)+1 by omega,iA]at aa
    revert aj ad aa
    generalize lA (data.drop at_)=r
    obtain⟨⟨vk,vn,vs⟩,rn,re⟩:=r
    intro aa aj ad
    simp only at ad aa
    simp[go_sem,eD,zU]
    refine zJ (by grind[qZ]) ?_
    simp[go_sem]
    refine zL aj cB (zP (by grind[eD,yy6]) rfl) rfl ?_
    simp[go_sem,jy.V]
    refine zV (λq4=> ?_) (λq4=> ?_)
    .have q4: ¬re=0:=by grind
     rw[aiu q4]at aa
     simp[go_sem]
     rw[<-aa]
     exact KW rfl
    have q4:re=0:=by grind
    rw[aiv q4]at aa
    have au:=ad q4
    have ea:IntKind.i64.wrap ((at_:Int)+rn)=((at_+rn:Nat):Int):=by rw[bX om (by grind)];omega
    have ei:IntKind.u64.wrap ((i:Int)+1)=((i+1:Nat):Int):=by rw[db om om];omega
    have av:(l.length+1)*32<=140737488355328:=by grind
    simp[go_sem]
    refine zJ ⟨om,zY rfl⟩ ?_
    simp[go_sem,ea,ei]
    refine zI (i+1,at_+rn,l++ [⟨vk,vn,vs⟩]) ⟨om,⟨q3,by grind,by grind, ?_⟩,cc 2 sm rfl rfl om (zD (by simp[go_sem]) rfl)⟩
    rw[<-aa]
    simp only
    rw[show nc - (i+1)=nc - i - 1 by omega,aiT]
    cases iA (nc - i - 1) (data.drop (at_+rn))<;>simp
   .have q3:i=nc:=by grind
    subst q3
    simp[iA]at aa
    simp[go_sem,eD,zU]
    refine zV (λq4=> ?_) (λq4=> ?_)
    .have q4:at_<data.length:=by grind
     rw[aiu om]at aa
     simp[go_sem]
     rw[<-aa]
     exact KW rfl
    have q4:data.length<=at_:=by grind
    rw[aiv q4]at aa
    simp[go_sem]
    rw[<-aa]
    exact Th (by rfl)
  .have q1: ¬e=0:=by grind
   simp[go_sem,ai]
   exact bad _ om
 .have hF:dZ ts table data=([],1):=by
   simp_all[dZ,dif_neg]
  rw[hF]
  refine iV 0 func103 ntmps103 results103 λc hc hb=> ?_
  refine zA ?_
  simp[go_sem]
  refine pC (jw ab (ts.map bL.row) table) ?_
  have hn:(decide (0<=table)&&decide (table<((ts.map bL.row).length:Int)))=false:=by grind
  rw[hn]
  simp[go_sem]
  exact KW rfl
def be (v:Nat):Nat->aiZ
 |0=> []
 |k+1=>UInt8.ofNat (v/256^k)::be v k
theorem sf (v:Nat): ∀k,(be v k).length=k
 |0=>rfl
 |k+1=>by simp[be,sf v k]
theorem KX (a b:UInt8) (l m:aiZ):Op.bytesLess (a::l) (b::m)=if a.toNat<b.toNat then true else if b.toNat<a.toNat then false else Op.bytesLess l m:=by
 rw[Op.bytesLess]
 simp only[UInt8.lt_iff_toNat_lt]
 by_cases h1:a.toNat<b.toNat
 .grind
 .by_cases h2:b.toNat<a.toNat
  .grind
  .have:a=b:=E6.1 om
   grind
def mY:aiZ->aiZ
 | []=> []
 |c::s=>if c=0 then 0::255::mY s else c::mY s
theorem Oo: ∀s,(mY s).length<=2*s.length
 | []=>by decide
 |c::s=>by
  have:=Oo s
  unfold mY
  split<;>simp<;>omega
theorem Tj: ∀a b,mY (a++b)=mY a++mY b
 | [],b=>rfl
 |c::a,b=>by
  have:=Tj a b
  rw[Bt,mY,mY]
  split<;>simp[this]
def kP (v:bK):aiZ:=
 if ez v=true then
  UInt8.ofNat v.kind.toNat::(if v.kind=1 then [UInt8.ofNat v.n.toNat]else if v.kind=2 then be (v.n+9223372036854775808).toNat 8 else if v.kind=3 then mY v.s++ [0,1]else [])
 else []
theorem Tk {v:bK}:(kP v).length<=2*v.s.length+10:=by
 grind[Oo,sf,kP]
theorem wv1 (a:Nat) (h:a<2^64):a^^^2^63=(2^63+a)%2^64:=by
 apply Nat.eq_of_testBit_eq
 intro j
 rw[Nat.testBit_xor,Nat.testBit_two_pow,Nat.testBit_mod_two_pow]
 rcases Bc j 63 with h1|h1|h1
 .rw[Nat.testBit_two_pow_add_gt h1]
  simp[show j<64 by omega,show ¬63=j by omega]
 .subst h1
  rw[Nat.testBit_two_pow_add_eq]
  simp
 .rw[Nat.testBit_lt_two_pow (Dg h (Nat.pow_le_pow_right dC om))]
  simp[show ¬j<64 by omega,show ¬63=j by omega]
theorem wb3 {n:Int} (h1: -9223372036854775808<=n) (h2:n<=9223372036854775807):jr .xor .u64 (IntKind.u64.wrap n) 9223372036854775808=(((n+9223372036854775808).toNat:Nat):Int):=by
 obtain⟨a,ha,aa⟩: ∃a:Nat,IntKind.u64.wrap n=(a:Int)/\(a:Int)=n%18446744073709551616:=by
  unfold IntKind.wrap
  simp[IntKind.bits,IntKind.signed]
  exact⟨(n%18446744073709551616).toNat,om,om⟩
 have hl:a<2^64:=om
 show IntKind.u64.wrap ((BitVec.ofInt 64 (IntKind.u64.wrap n)^^^BitVec.ofInt 64 ((9223372036854775808:Nat):Int)).toNat:Int)=_
 rw[ha,aiI,aiI,BitVec.toNat_xor,aiK,aiK,Cw hl,show 9223372036854775808%2^64=2^63 by decide,wv1 a hl]
 unfold IntKind.wrap
 simp[IntKind.bits,IntKind.signed]
 omega
theorem xV5 (n:Int) (hn:cI n):Pure prog 257 [.int .i64 n] (.int .u64 (n+9223372036854775808).toNat):=by
 have e:=wb3 hn.1 hn.2
 refine iW 0 func257 ntmps257 results257 λc hc hb=>zM ?_
 simp[go_sem,e]
 exact wR
theorem Tl (n:Int) (hn:cI n):Pure prog 189 [.int .i64 n] (.int .u64 (n+9223372036854775808).toNat):=by
 unfold cI at hn
 refine iW 0 func189 ntmps189 results189 λc hc hb=>zM ?_
 simp[go_sem]
 refine zV (λq=> ?_) (λq=> ?_)
 .have q:0<=n:=sU q
  have e1:IntKind.u64.wrap n=n:=db om om
  have e2:IntKind.u64.wrap (9223372036854775808+n)=((n+9223372036854775808).toNat:Int):=by rw[db om om];omega
  simp[go_sem,e1,e2]
  exact wR
 .have q:n<0:=sU q
  have e1:IntKind.i64.wrap (n+9223372036854775807)=n+9223372036854775807:=bX om om
  have e2:IntKind.i64.wrap (n+9223372036854775807+1)=n+9223372036854775807+1:=bX om om
  have e3:IntKind.u64.wrap (n+9223372036854775807+1)=((n+9223372036854775808).toNat:Int):=by rw[db om om];omega
  simp[go_sem,e1,e2,e3]
  exact wR
theorem wu7 (n:Int):IntKind.u8.wrap n<256:=by
 unfold IntKind.wrap
 simp[IntKind.bits,IntKind.signed]
 omega
theorem wp6 (l:aiZ) (h:l.all (λc=>decide (c.toNat<=8))) (i:Nat):(l[i]?.getD 0).toNat<=8:=by
 rcases Bv i l.length with q|q
 .rw[A0 q]
  simpa using Am.1 h _ (A8 q)
 .rw[Dk q];decide
theorem Tm {n:Int} (h0:0<=n) (h:n<=64): ∃m:Nat,V.int .i64 n= .int .i64 m/\m<=64:=⟨n.toNat,by congr 1;omega,om⟩
theorem xV2 (v:Nat) (_hv:v<18446744073709551616):bN prog 235 [.int .u64 v] [] λr s=>(∃n:Nat,r= .int .i64 n/\n<=64)/\s= []:=by
 have aa:IntKind.i64.wrap 48=48:=by decide+kernel
 have ab:IntKind.i64.wrap 40=40:=by decide+kernel
 have ad:IntKind.i64.wrap 16=16:=by decide+kernel
 have w8:IntKind.i64.wrap 8=8:=by decide+kernel
 have ae:IntKind.i64.wrap (48+8)=56:=by decide+kernel
 have af:IntKind.i64.wrap (16+8)=24:=by decide+kernel
 refine iW 0 func235 ntmps235 results235 λc hc hb=>zM ?_
 simp[go_sem]
 repeat' (refine zV (λq=> ?_) (λq=> ?_)<;>simp[go_sem])
 all_goals
  refine zJ (wu7 _) ?_
  generalize hx:UInt8.toNat (Option.getD _ _)=x
  have h8:x<=8:=hx▸wp6 _ (by decide+kernel) _
  clear hx
  have e8:IntKind.i64.wrap (x:Int)=x:=bX om om
  simp[go_sem,e8]
 all_goals
  try simp only[aa,ab,ad,w8,ae,af]
  first
  |exact zW (zC rfl) ⟨Tm om om,rfl⟩
  |(rw[bX om om]
    exact zW (zC rfl) ⟨Tm om om,rfl⟩)
theorem xX6 (v k:Nat) (_hk:k<=7):IntKind.u8.wrap ((v:Int).fdiv (2^(8*k)))=((UInt8.ofNat (v/256^k)).toNat:Int):=by
 have e:(v:Int).fdiv (2^(8*k))=((v/256^k:Nat):Int):=by
  rw[Dp _ (by exact Int.le_of_lt (Int.pow_pos dC))]
  rw[show(2:Int)^(8*k)=((256^k:Nat):Int) by rw[Int.pow_mul];simp]
  rw[Int.natCast_ediv]
 rw[e,tJ]
theorem wr2 (b:aiZ) (v:Nat) (ab:b.length<=cG) (hv:v<18446744073709551616):Pure prog 256 [eD b,.int .u64 v,.int .i64 8] (.cy [eD (b++be v 8),.int .i64 0]):=by
 refine iV 0 func256 ntmps256 results256 λc hc hb=> ?_
 refine zA ?_
 simp[go_sem,eD]
 refine Zm (R:=λr=> ∃n:Nat,r= .int .i64 n/\n<=64) (xV2 v hv) cB (yG rfl) (λr h=>by obtain⟨b,rfl,_⟩:=h;rfl) ?_
 rintro r ⟨n,rfl,hn⟩
 have ad:IntKind.i64.wrap 64=64:=by decide+kernel
 simp[go_sem,ad]
 refine zV (λq=>absurd q (by simp;omega)) (λq=> ?_)
 simp[go_sem]
 refine AH (Oi b 8 ab dC) cB (yG rfl) ?_
 rintro r s ⟨rfl,rfl⟩
 simp[go_sem,gG,gq]
 have ew: ∀k:Nat,k<=8->IntKind.i64.wrap (8*(k:Int) - 8)=8*(k:Int) - 8:=λk h=>bX om om
 have ae:IntKind.i64.wrap (8*IntKind.i64.wrap 7)=56:=by decide+kernel
 refine zH (S:=Nat×aiZ) [1,8,9] (λu=> [.int .u64 v,gG u.2,.int .i64 (8*(u.1:Int) - 8)]) (λu=>gq u.2) (λu=>u.1) (λu=>u.1<=8/\u.2++be v u.1=b++be v 8) hc hb (8,b) ⟨A7 _,rfl⟩ ?_ ?_
 .exact cc 1 (by simp[gq]) rfl rfl (A3 _) (zD (by simp[go_sem,gG]) rfl)
 rintro⟨k,out⟩ ⟨hk,aa⟩
 simp only at hk aa
 have af:out.length+k=b.length+8:=by
  have:=aiz List.length aa
  simpa[sf]using this
 refine zA ?_
 simp[go_sem,gG,gq]
 refine zV (λq=> ?_) (λq=> ?_)
 .obtain⟨j,rfl⟩: ∃j,k=j+1:=⟨k - 1,by simp at q;omega⟩
  have e1:IntKind.u64.wrap (8*((j+1:Nat):Int) - 8)=((8*j:Nat):Int):=by rw[db om om];omega
  have e2:IntKind.i64.wrap (8*((j+1:Nat):Int) - 8 - 8)=8*(j:Int) - 8:=by rw[bX om om];omega
  have e3:=xX6 v j om
  simp[go_sem]at e1 e2
  simp[go_sem,e1]
  refine zJ om ?_
  have e4:min (8*(j:Int)).toNat 64=8*j:=om
  simp[go_sem,e4,e3]
  refine zJ ⟨zU out,by rw[zU];unfold cG at ab;omega,zY rfl⟩ ?_
  simp[go_sem,e2]
  rw[be]at aa
  refine zI (j,out++ [UInt8.ofNat (v/256^j)]) ⟨by simp only;omega,⟨by simp only;omega,by simpa using aa⟩,cc 1 sm rfl rfl (A3 _) (zD (by simp[go_sem,zO]) rfl)⟩
 .have:k=0:=by simp at q;omega
  subst this
  rw[show be v 0= [] from rfl,Ay]at aa
  simp[go_sem]
  rw[<-aa]
  exact zW (yW (gY:= [eD out,.int .i64 0]) ⟨uL,xV rfl,tV⟩) ⟨rfl,rfl⟩
def gI (v k:Nat):List (List V):=List.replicate (8 - k) [.int .u8 0]++zO (be v k)
theorem Tn {v k:Nat} (h:k<=8):(gI v k).length=8:=by simp[gI,zU,sf];omega
theorem To {v k:Nat} (h:k+1<=8):(gI v k).set (7 - k) [.int .u8 (UInt8.ofNat (v/256^k)).toNat]=gI v (k+1):=by
 unfold gI
 rw[be,show(8 - k)=(8 - (k+1))+1 by omega,List.replicate_succ',D0,List.set_append_right _ _ sm]
 rw[show 7 - k - (List.replicate (8 - (k+1)) [V.int IntKind.u8 0]).length=0 by simp]
 rfl
def Oq (r:List V):Prop:= ∃x,r= [.int .u8 x]
theorem Ge (v k:Nat): ∀r∈gI v k,Oq r:=λr hr=>by
 unfold gI at hr
 rcases Af.1 hr with h|h
 .exact⟨0,(List.mem_replicate.1 h).2⟩
 .obtain⟨x,_,rfl⟩:=Ac.1 h
  exact⟨_,rfl⟩
theorem KY {rows:List (List V)} (h: ∀r∈rows,Oq r) (n:Nat): [Ob.cj rows 1].all (bS n)=true:=by
 simp only[Bl,D4,Db,bS,Am]
 intro r hr
 obtain⟨x,rfl⟩:=h r hr
 intro y hy
 cases hy with
 |head=>rfl
 |tail _ h=>cases h
theorem Tp {rows:List (List V)} (h: ∀r∈rows,Oq r):xI rows=true:=by
 simp only[xI,Am]
 intro r hr
 obtain⟨x,rfl⟩:=h r hr
 intro y hy
 cases hy with
 |head=>rfl
 |tail _ h=>cases h
theorem Tq (v:Nat):gI v 8=zO (be v 8):=by simp[gI]
theorem xO6 (v:Nat) (hv:v<18446744073709551616):Pure prog 248 [eD [],.int .u64 v,.int .i64 8] (.cy [eD (be v 8),.int .i64 0]):=by
 refine iV 0 func248 ntmps248 results248 λc hc hb=> ?_
 refine uH 17 dC ?_
 refine zA ?_
 simp[go_sem,eD,zO]
 refine zH (S:=Nat×Nat) [0,1,8,9] (λu=> [eD [],.int .u64 u.2,.cM 0 1 8 0 8,.int .i64 (7 - (u.1:Int))]) (λu=> [.cj (gI v u.1) 1]) (λu=>8 - u.1) (λu=>u.1<=8/\u.2=v/256^u.1) hc hb (0,v) ⟨A3 _,sm⟩ ?_ ?_
 .exact cc 1 (by simp[gI,be,zO]) rfl (KY (Ge _ _) _) (A3 _) (zD (by simp[go_sem,eD,zO]) rfl)
 rintro⟨k,z⟩ ⟨hk,hz⟩
 simp only at hk hz
 have ah:z<=v:=hz▸Nat.div_le_self _ _
 have ab:=Tn (v:=v) hk
 refine zA ?_
 simp[go_sem]
 refine zV (λq=> ?_) (λq=> ?_)
 .have q:k+1<=8:=by simp at q;omega
  have e0:((7:Int) - k).toNat=7 - k:=om
  have e1:IntKind.i64.wrap (7 - (k:Int) - 1)=7 - ((k:Int)+1):=by rw[bX om om];omega
  have e2:IntKind.u64.wrap ((z:Int)/256)=((z/256:Nat):Int):=by rw[db om om];omega
  have e3:IntKind.u8.wrap ((z:Int).tmod 256)=((UInt8.ofNat z).toNat:Int):=by
   rw[Do om,show(z:Int)%256=((z%256:Nat):Int) by omega,tJ]
   simp
  have aa:=To (v:=v) q
  rw[<-hz]at aa
  simp[go_sem]
  refine zJ ⟨om,om⟩ ?_
  have ad: ∀h,(gI v k)[7 - k]'h= [.int .u8 0]:=λh=>by
   have:(gI v k)[7 - k]? =some [.int .u8 0]:=by
    unfold gI
    rw[Ao (by simp;omega),Dv,aiv om]
   exact(A4.1 this).2
  simp at aa
  simp[go_sem,ab,show 7 - k<8 by omega,ad,e1,e2,e3]
  refine zI (k+1,z/256) ⟨by simp only;omega,⟨q,by rw[hz,E4,Nat.div_div_eq_div_mul]⟩,cc 1 (by simp[aa]) rfl (KY (Ge _ _) _) (A3 _) (zD (by simp[go_sem,eD,zO]) rfl)⟩
 .have:k=8:=by simp at q;omega
  subst this
  have ae:z=0:=by rw[hz];exact Nat.div_eq_of_lt om
  subst ae
  simp[go_sem,eD,zO]
  refine zJ (λr h=>by cases h) ?_
  have af:wX (gI v 8) 0 8=zO (be v 8):=by
   rw[Tq]
   simp[wX,Aa,sf,zO,k5]
  simp[go_sem,ab,af]
  refine zJ ⟨Tp λr hr=>Ge v 8 r (B5 hr),by rw[zU,sf];decide,qZ _⟩ ?_
  simp[go_sem]
  exact zW (yW (gY:= [eD (be v 8),.int .i64 0]) ⟨uL,xV rfl,tV⟩) ⟨rfl,rfl⟩
theorem xV1 (v:Nat) (hv:v<18446744073709551616):Pure prog 188 [.int .u64 v] (eD (be v 8)):=by
 refine iW 0 func188 ntmps188 results188 λc hc hb=>zM ?_
 simp[go_sem]
 refine zL (xO6 v hv) cB ⟨wP rfl,zC rfl,zC rfl,tV⟩ rfl ?_
 simp[go_sem]
 exact wR
theorem xa1 {v:bK} (h:ez v):v.kind=0\/v.kind=1\/v.kind=2\/v.kind=3:=by
 unfold ez at h
 by_cases h0:v.kind=0
 .exact .inl h0
 .by_cases h1:v.kind=1
  .exact .inr (.inl h1)
  .by_cases h2:v.kind=2
   .exact .inr (.inr (.inl h2))
   .by_cases h3:v.kind=3
    .exact .inr (.inr (.inr h3))
    .simp[h0,h1,h2,h3]at h
theorem xG3 {s:aiZ} (h:i<s.length):mY (s.take (i+1))=mY (s.take i)++(if s[i]=0 then [0,255]else [s[i]]):=by
 rw[Ai h,Tj]
 simp only[mY]
theorem we8 {s:Nat} {a b:List V} (h1:a.length=s) (h2:b.length=s):eI s [a,b]:=λr hr=>by
 simp at hr
 rcases hr with rfl|rfl<;>assumption
theorem Tr {v:bK} (h:ez v):v.s.length<=64:=by
 unfold ez at h
 split at h
 .simp at h;rw[h.2];decide
 split at h
 .simp at h;rw[h.2];decide
 split at h
 .simp at h;rw[h];decide
 split at h
 .simp at h;exact h.2
 .cases h
theorem wj9 (b:aiZ) (v:bK) (hv:v.ok) (ad:b.length<=cG - 1):Pure prog 212 [eD b,.agg v.row] (eD (b++kP v)):=by
 refine iV 0 func212 ntmps212 results212 λc hc hb=> ?_
 refine zA ?_
 obtain⟨k,n,s⟩:=v
 have hn:=hv.n
 simp only at hn
 simp[go_sem,eD,zU]
 refine zJ ⟨by unfold cG at*;omega,by simp[eI],qZ b⟩ ?_
 simp[go_sem]
 refine pC (Gb ⟨k,n,s⟩) ?_
 simp[go_sem]
 refine zV (λh=> ?_) (λh=> ?_)
 .simp[go_sem]
  refine vd ?_
  have h:ez ⟨k,n,s⟩=false:=sU h
  simp[kP,h,zO]
 have h:ez ⟨k,n,s⟩:=sU h
 have hs:s.length<=500:=by
   have:s.length<=64:=Tr h
   omega
 have hk:=xa1 h
 simp only at hk
 simp[go_sem,zU]
 refine zJ ⟨by unfold cG at*;omega,zY rfl⟩ ?_
 have w0:IntKind.u8.wrap 0=0:=by decide+kernel
 have w1:IntKind.u8.wrap 1=1:=by decide+kernel
 have w2:IntKind.u8.wrap 2=2:=by decide+kernel
 have w3:IntKind.u8.wrap 3=3:=by decide+kernel
 rcases hk with rfl|rfl|rfl|rfl
 .simp[go_sem]
  refine vd ?_
  simp[kP,h,zO,w0]
 .have h1:n=0\/n=1:=by
   unfold ez at h
   simp at h
   exact h.1
  simp[go_sem]
  refine zJ ⟨zU b,by rw[zU];unfold cG at*;omega,zY rfl⟩ ?_
  simp[go_sem]
  refine vd ?_
  rcases h1 with rfl|rfl<;>simp[kP,h,zO,w0,w1]
 .simp[go_sem]
  obtain⟨u,hu⟩:=eX ((n+9223372036854775808).toNat)
  have hO:=xV5 n hn
  rw[hu]at hO
  refine pC hO ?_
  simp[go_sem]
  refine zL (wr2 (b++ [2]) u (by simp;unfold cG at*;omega) om) cB ⟨wP (by simp[zO,w2]),zC rfl,zC rfl,tV⟩ rfl ?_
  simp[go_sem]
  refine vd ?_
  simp[kP,h,hu]
 .simp[go_sem]
  refine zH (S:=Nat) [3,5,44,45] (λi=> [.ptr 0 0,.sl (.app 1) (zO (b++3::mY (s.take i))),.int .i64 s.length,.int .i64 i]) (λi=> [.box [.int .i64 3,.int .i64 n,.str s],.app (b++3::mY (s.take i)).length 1]) (λi=>s.length - i) (λi=>i<=s.length) hc hb 0 (A3 _) ?_ ?_
  .exact cc 2 (by simp[mY]) rfl rfl (A3 _) (zD (by simp[go_sem,mY,zO,w3]) rfl)
  intro i hi
  have ae:=Oo (s.take i)
  have af:(s.take i).length<=s.length:=by simp;omega
  obtain⟨o,ho⟩: ∃o,b++3::mY (s.take i)=o:=⟨_,rfl⟩
  have ah:o.length<=cG+1100:=by
   rw[<-ho]
   simp
   unfold cG at*
   omega
  rw[ho]
  refine zA ?_
  simp[go_sem]
  refine zV (λq=> ?_) (λq=> ?_)
  .have q:i<s.length:=sU q
   have ei:=zQ q om
   have aa:=xG3 q
   obtain⟨c0,ab⟩:=eX (s[i])
   simp[go_sem,q,ab,zU]
   refine zJ ⟨by unfold cG at*;omega,zY rfl⟩ ?_
   simp[go_sem,q,ab]
   refine zV (λq2=> ?_) (λq2=> ?_)
   .have q2:c0=0:=by
     have:c0.toNat=0:=by simp at q2;omega
     exact E6.1 (sU this)
    rw[ab,aiv q2]at aa
    simp[go_sem,zU]
    refine zJ ⟨by unfold cG at*;omega,zY rfl⟩ ?_
    simp[go_sem,ei]
    exact zI (i+1) ⟨om,q,cc 2 (by simp[aa,<-ho];omega) rfl rfl (A3 _) (zD (by simp[go_sem,aa,<-ho,zO,q2]) rfl)⟩
   .have q2: ¬c0=0:=λh=>by rw[h]at q2;simp at q2
    rw[ab,aiu q2]at aa
    simp[go_sem,ei]
    exact zI (i+1) ⟨om,q,cc 2 (by simp[aa,<-ho];omega) rfl rfl (A3 _) (zD (by simp[go_sem,aa,<-ho,zO]) rfl)⟩
  .have q:i=s.length:=by
    have: ¬i<s.length:=sU q
    omega
   subst q
   simp[go_sem,zU]
   refine zJ ⟨by unfold cG at*;omega,we8 rfl rfl⟩ ?_
   simp[go_sem]
   refine vd ?_
   rw[List.take_length]at ho
   simp[kP,h,zO,<-ho]
def tM (n:Nat) (t:Int):Bool:=decide (0<=t)&&decide (t<n)
theorem Ou {t:Int} (h:tM n t): ∃j:Nat,t=j/\j<n:=by
 simp[tM]at h
 exact⟨t.toNat,om,om⟩
def nP (n:Nat) (t:Int) (v:bK):aiZ:=if tM n t=true then UInt8.ofNat (t.toNat+1)::kP v else []
def lB (n:Nat) (t:Int):aiZ×aiZ:=if tM n t=true then([UInt8.ofNat (t.toNat+1)],[UInt8.ofNat (t.toNat+2)])else([],[])
theorem Ts (aa fG:List (List V)) (t:Int) (v:bK) (hn:fG.length<=cG) (hv:v.ok):Pure prog 151 [.agg [.sl .ro aa,.sl .ro fG],.int .i64 t,.agg v.row] (.str (nP fG.length t v)):=by
 have ab:=jw aa fG t
 rw[show(decide (0<=t)&&decide (t<fG.length))=tM fG.length t from rfl]at ab
 refine iW 0 func151 ntmps151 results151 λc hc hb=>zM ?_
 simp[go_sem]
 refine pC ab ?_
 unfold nP
 refine(A6 (tM fG.length t)).elim (λh=> ?_) (λh=> ?_)
 .obtain⟨j,rfl,hj⟩:=Ou h
  rw[h,aiv rfl]
  have e1:IntKind.u8.wrap (IntKind.i64.wrap ((j:Int)+1))=((UInt8.ofNat (j+1)).toNat:Int):=by
   rw[bX om (by unfold cG at hn;omega),show(j:Int)+1=((j+1:Nat):Int) by omega,tJ]
  simp[go_sem,e1]
  refine zL (wj9 [UInt8.ofNat (j+1)] v hv (by simp[cG])) cB ⟨wP (by simp[zO]),zC rfl,tV⟩ rfl ?_
  simp[go_sem,eD]
  refine zJ (xR _) ?_
  simp[go_sem,GU]
  exact wR
 .rw[h]
  simp[go_sem]
  exact wR
theorem Tt (aa fG:List (List V)) (t:Int) (v:bK) (hn:fG.length<=cG) (hv:v.ok) (_hs:v.s.length<=500):Pure prog 151 [.agg [.sl .ro aa,.sl .ro fG],.int .i64 t,.agg v.row] (.str (nP fG.length t v)):=Ts aa fG t v hn hv
theorem wq8 (aa fG:List (List V)) (t:Int) (hn:fG.length<=cG):Pure prog 167 [.agg [.sl .ro aa,.sl .ro fG],.int .i64 t] (.cy [.str (lB fG.length t).1,.str (lB fG.length t).2]):=by
 have ab:=jw aa fG t
 rw[show(decide (0<=t)&&decide (t<fG.length))=tM fG.length t from rfl]at ab
 refine iW 0 func167 ntmps167 results167 λc hc hb=>zM ?_
 simp[go_sem]
 refine pC ab ?_
 unfold lB
 refine(A6 (tM fG.length t)).elim (λh=> ?_) (λh=> ?_)
 .obtain⟨j,rfl,hj⟩:=Ou h
  rw[h,aiv rfl]
  obtain⟨x,hx⟩:=eX (UInt8.ofNat (j+1))
  obtain⟨y,hy⟩:=eX (UInt8.ofNat (j+2))
  have e1:IntKind.u8.wrap (IntKind.i64.wrap ((j:Int)+1))=(x.toNat:Int):=by
   rw[bX om (by unfold cG at hn;omega),show(j:Int)+1=((j+1:Nat):Int) by omega,tJ,hx]
  have e2:IntKind.u8.wrap (IntKind.i64.wrap ((j:Int)+2))=(y.toNat:Int):=by
   rw[bX om (by unfold cG at hn;omega),show(j:Int)+2=((j+2:Nat):Int) by omega,tJ,hy]
  simp only
  simp[go_sem]
  refine yE [] 1 rfl kR kR ?_
  simp[go_sem,e1]
  refine zJ (xR [x]) ?_
  have r1:uy [V.int IntKind.u8 x.toNat]=x:=by simp[uy]
  have r2:uy [V.int IntKind.u8 y.toNat]=y:=by simp[uy]
  simp[go_sem,e2,r1]
  refine zJ (xR [y]) ?_
  simp[go_sem,r2]
  exact zW (zC rfl) ⟨by rw[<-hx,<-hy];simp,rfl⟩
 .rw[h]
  simp[go_sem]
  exact wR
end Go.Proofs.YtplackkccmeioaaGreat.R
namespace Go.Proofs.YtplackkccmeioaaGreat
open Go Go.Vx R Go.Proofs.Tryz
set_option maxRecDepth 100000
theorem Tu (v:bK):(kP v).length<=140:=by
 by_cases h:ez v=true
 .have h1:=Tk (v:=v)
  have h2:=Tr h
  omega
 .unfold kP;rw[aiu h];simp
def nQ (x y:aiZ):aiZ:=if Op.bytesLess x y=true then y else x
def tN (x y:aiZ):aiZ:=if Op.bytesLess x y=true\/x=y then x else y
def pf (at_:aiZ) (sign:aiZ) (b:aiZ×aiZ):aiZ×aiZ:=
 if sign= [61]then(nQ b.1 at_,tN b.2 (at_++ [0]))
 else if sign= [60]then(b.1,tN b.2 at_)
 else if sign= [60,61]then(b.1,tN b.2 (at_++ [0]))
 else if sign= [62]then(nQ b.1 (at_++ [0]),b.2)
 else if sign= [62,61]then(nQ b.1 at_,b.2)
 else b
def tO (n:Nat) (t:Int) (name:aiZ) (l:List bJ) (b:aiZ×aiZ):aiZ×aiZ:=
 l.foldl (λb e=>match oy e name with|none=>b|some (s,v)=>pf (nP n t v) s b) b
def H4 (T:bL):Option aiZ:=if 0<=T.key then(T.cm[T.key.toNat]?).map (·.name)else none
def nR (ts:List bL) (t:Int) (st:bW):aiZ×aiZ:=
 if tM ts.length t=true then
  match (ts[t.toNat]?).bind H4 with
  |none=>lB ts.length t
  |some name=>let b:=tO ts.length t name (nK st) (lB ts.length t);(b.1,nQ b.2 b.1)
 else lB ts.length t
def KZ (b:aiZ×aiZ):V:= .cy [.str b.1,.str b.2]
theorem Tw (o:Option (aiZ×bK)):gK (nM o)=true:=by
 obtain _|⟨s,v⟩:=o<;>rfl
theorem Ty (aa:List (List V)) (ts:List bL) (t:Int) (st:bW) (hn:ts.length<=cG) (_hc0: ∀T∈ts,T.cm.length<=maxLen) (hl:(nK st).length<=maxLen)
  (hv: ∀e∈nK st,∀name s v,oy e name=some (s,v)->v.ok):
  Pure prog 112 [.agg [.sl .ro aa,.sl .ro (ts.map bL.row)],.int .i64 t,.agg st.row] (KZ (nR ts t st)):=by
 generalize hM:nR ts t st=M
 have ret: ∀(r:aiZ×aiZ) (I:St),r=M->cx (some (.cy [.str r.1,.str r.2])) 0 (λr s=>r=KZ M/\s= []) I:=λr I h=>by subst h;exact wR
 have ab:=wq8 aa (ts.map bL.row) t (sU hn)
 have ah:=S7 st
 simp only[Ag]at ab
 unfold nR at hM
 generalize hA:lB ts.length t=A at ab hM
 generalize hL:nK st=L at ah hM hl hv
 refine iV 0 func112 ntmps112 results112 λc hc hb=> ?_
 refine zA ?_
 simp[go_sem]
 refine pC ab ?_
 simp[go_sem]
 refine(A6 (tM ts.length t)).elim (λh=> ?_) (λh=> ?_)
 rotate_left
 .simp only[h]at hM
  have h2:decide (t<0)=true\/(decide (t<0)=false/\decide ((ts.length:Int)<=t)=true):=by
   unfold tM at h
   simp only[Bool.and_eq_false_iff,aiC]at h
   simp only[aiA,aiC]
   omega
  refine h2.elim (λq=> ?_) (λq=> ?_)
  all_goals simp[go_sem,q]
  all_goals exact ret _ _ hM
 obtain⟨j,rfl,hj⟩:=Ou h
 obtain⟨T,hT⟩:=eX (ts[j])
 have ay:decide ((ts.length:Int)<=j)=false:=aiw om
 have ai:decide ((j:Int)<0)=false:=aiw om
 simp only[h,aiE,B0,A0 hj,hT,Ax]at hM
 have aj:decide (ts.length<=j)=false:=aiw om
 simp[go_sem,ai,aj,hj,hT]
 by_cases hk:0<=T.key/\T.key<T.cm.length
 rotate_left
 .have ad:H4 T=none:=by
   unfold H4
   split
   .rw[Dk om];rfl
   .rfl
  rw[ad]at hM
  have h2:decide (T.key<0)=true\/(decide (T.key<0)=false/\decide ((T.cm.length:Int)<=T.key)=true):=by
   simp only[aiA,aiC]
   omega
  refine h2.elim (λq=> ?_) (λq=> ?_)
  all_goals simp[go_sem,q]
  all_goals exact ret _ _ hM
 obtain⟨m,hm⟩: ∃m:Nat,T.key=m:=⟨T.key.toNat,om⟩
 have ae:m<T.cm.length:=om
 obtain⟨C,hC⟩:=eX (T.cm[m])
 have ad:H4 T=some C.name:=by
  unfold H4
  rw[aiv om,hm,B0,A0 ae,hC];rfl
 simp only[ad]at hM
 have ak:decide (T.key<0)=false:=aiw om
 have al:decide ((T.cm.length:Int)<=T.key)=false:=aiw om
 simp[go_sem,ak,al]
 refine zL ah cB (zP sg rfl) rfl ?_
 simp[go_sem]
 refine zH (S:=Nat×aiZ×aiZ) [1,3,6,7,8,52,53,54] (λu=> [.int .i64 j,.ptr 0 0,.str u.2.1,.str u.2.2,.ptr 1 0,.sl .ro (L.map bJ.row),.int .i64 L.length,.int .i64 u.1])
  (λ_=> [.box [.sl .ro aa,.sl .ro (ts.map bL.row)],.box T.row]) (λu=>L.length - u.1)
  (λu=>u.1<=L.length/\tO ts.length j C.name (L.drop u.1) u.2=tO ts.length j C.name L A) hc hb (0,A) ⟨A3 _,rfl⟩ ?_ ?_
 .exact DF [0,2] dC rfl ⟨by simp[go_sem,yA,dj,du],by simp[go_sem,yA,dj,du],tV⟩
   ⟨zC rfl,.inl (by simp[go_sem,dI,dN,dj,du,cK]),zC rfl,zC rfl,.inl (by simp[go_sem,dI,dN,dj,du,cK]),zK,zC rfl,zC rfl,tV⟩
 rintro⟨i,b⟩ ⟨hi,hinv⟩
 simp only at hi hinv
 by_cases q:i<L.length
 rotate_left
 .rw[A9 om]at hinv
  have an:b=tO ts.length j C.name L A:=hinv
  rw[<-an]at hM
  refine zA ?_
  simp[go_sem,q]
  exact ret (b.1,nQ b.2 b.1) _ hM
 have ei:=zQ q (by unfold maxLen at hl;omega)
 obtain⟨x,hx⟩:=eX (L[i])
 have ao:x∈L:=hx▸A8 q
 rw[A5 q,hx]at hinv
 have aq:=S8 x C.name
 have ar:=hv x ao C.name
 have ax:=bJ.bQ x
 refine zA ?_
 simp[go_sem,q,hx]
 refine yE [(8,0),(15,3)] 3 sm kR kR ?_
 have au:T.cm[m]? =some C:=by rw[A0 ae,hC]
 simp[go_sem,hm,au]
 refine zJ ae ?_
 simp[go_sem]
 refine wZ aq cB (λ_=>zP sg (by rw[bJ.bQ];rfl)) (Tw _) ?_
 cases ha:oy x C.name with
 |none=>
  simp only[tO,Bn,ha]at hinv
  simp[go_sem,nM,KO,ei]
  refine zI (i+1,b) ⟨by simp only;omega,⟨by simp only;omega,hinv⟩, ?_⟩
  exact cc 2 (by simp[go_sem,hm]) rfl (by rfl) (A3 _) (zD sg rfl)
 |some p=>
  obtain⟨s,v⟩:=p
  have av:=ar s v ha
  have af:=Ts aa (ts.map bL.row) j v (sU hn) av
  simp only[Ag]at af
  simp only[tO,Bn,ha]at hinv
  obtain⟨B,hB⟩:=eX (nP ts.length j v)
  have aw:B.length<=9223372036854775806:=by
   have:=Tu v
   rw[<-hB];unfold nP;rw[aiv h];simp only[Ah];omega
  rw[hB]at af
  simp[go_sem,nM]
  refine zL af cB (zP sg rfl) rfl ?_
  simp[go_sem]
  refine zJ aw ?_
  simp[go_sem]
  have fin: ∀b',pf B s b=b'->tO ts.length j C.name (L.drop (i+1)) b'=tO ts.length j C.name L A:=λb' h=>by rw[<-h,<-hB];exact hinv
  repeat' (first|(refine zV (λq=> ?_) (λq=> ?_)<;>simp[go_sem,q,ei]))
  all_goals simp only[aiB,beq_eq_false_iff_ne]at*
  all_goals refine zI (i+1,pf B s b) ⟨by simp only;omega,⟨by simp only;omega,fin _ rfl⟩, ?_⟩
  all_goals refine cc 2 (by simp[go_sem,hm]) rfl (by rfl) (A3 _) (zD ?_ rfl)
  all_goals unfold pf nQ tN
  all_goals simp[go_sem, *]
theorem vf:(Tryz.prog.funcs.all λfn=> !(fn.name== "runtime.NumGoroutine"))=true:=kR
theorem vg:Tryz.prog.follows .mixedOrders=true:=kR
def marks (f:Nat):aj0:=if f=206 then [7]else []
def Ov:AI:=⟨[1],[],[0,1],0,0,0⟩
def xd:bL:=⟨[84],[⟨[82],2,false⟩,⟨[75],2,false⟩,⟨[86],3,true⟩,⟨[78],2,true⟩],1,0,0,Ov⟩
def Eo:bL:=⟨[71],[⟨[75],3,false⟩,⟨[78],2,false⟩,⟨[66],1,true⟩],0,1,0,Ov⟩
def Ep:bL:=⟨[72],[⟨[66],1,false⟩,⟨[78],2,true⟩],0,2,1,Ov⟩
def bO:List bL:= [xd,Eo,Ep]
def xJ:List (List V):= [[.int .i64 0],[.int .i64 0],[.int .i64 1],[.int .i64 1]]
def Er:V:= .agg [.sl .full xJ,.sl .full (bO.map bL.row)]
def dJ (ts:List bL):V:= .agg [.sl .ro xJ,.sl .ro (ts.map bL.row)]
theorem xB9:Pure prog 20 [] Er:=wk vf vg marks 10000 kR
theorem xQ0 {ρ:Nat->Nat}:cT ρ (dJ bO) Er:=wN ⟨zX,zX,tV⟩
def xF (t r:Int):Int×Int:=if t=0 then(if r=0 then(0,0)else if r=1 then(1,0)else(0,19))else if t=1 then(2,0)else if t=2 then(3,0)else(0,1)
def Es (p:Int×Int):V:= .cy [.int .i64 p.1,.int .i64 p.2]
theorem H5 (t r:Int) (h:t=0\/t=1\/t=2) (hr:r= -1\/r=0\/r=1\/r=2\/r=3\/r=4):Pure prog 114 [dJ bO,.int .i64 t,.int .i64 r] (Es (xF t r)):=by
 rcases h with rfl|rfl|rfl<;>rcases hr with rfl|rfl|rfl|rfl|rfl|rfl<;>exact wk vf vg marks 10000 kR
theorem xr9 (j:Nat) (hj:j<3):Pure prog 114 [dJ (bO.take (j+1)),.int .i64 j,.int .i64 0] (Es (xF j 0)):=by
 match j,hj with
 |0,_=>exact wk vf vg marks 10000 kR
 |1,_=>exact wk vf vg marks 10000 kR
 |2,_=>exact wk vf vg marks 10000 kR
def fC (r:Int):Int×Int×Int:=if r=0 then(0,0,0)else if r=1 then(0,1,0)else if r=2 then(1,-1,0)else if r=3 then(2,1,0)else(0,0,1)
def Gf (p:Int×Int×Int):V:= .cy [.int .i64 p.1,.int .i64 p.2.1,.int .i64 p.2.2]
theorem xZ6:Pure prog 170 [dJ bO] (.int .i64 0):=wk vf vg marks 10000 kR
theorem xy6:Pure prog 146 [dJ bO] (.sl .ro [[.int .i64 0],[.int .i64 1]]):=
 bN.Jj (Z8 vf vg marks 10000 (v:= .cM 1 1 4 0 2) (I':= [.box [.sl .ro xJ,.sl .ro (bO.map bL.row)],.cj [[.int .i64 0],[.int .i64 1],[.int .i64 0],[.int .i64 0]] 1]) kR)
  (λr s ⟨h1,h2⟩=>by subst h1;subst h2;exact⟨_,_,.step 1 1 [[.int .i64 0],[.int .i64 1],[.int .i64 0],[.int .i64 0]] rfl rfl (.refl _ _),zK⟩)
def K0 (t:Nat):Int:=if t=0 then 2 else 1
theorem Ow (j:Nat) (hj:j<3):Pure prog 145 [dJ bO,.agg (bO[j]'hj).row] (.int .i64 (K0 j)):=by
 match j,hj with
 |0,_=>exact wk vf vg marks 10000 kR
 |1,_=>exact wk vf vg marks 10000 kR
 |2,_=>exact wk vf vg marks 10000 kR
theorem K3 {M:Int×Int×Int} {a b e:Int} {I:St} (h:(a,b,e)=M):cx (some (.cy [.int .i64 a,.int .i64 b,.int .i64 e])) 0 (λr s=>r=Gf M/\s= []) I:=by subst h;exact wR
theorem H6 (g:Nat) (hg:g<1000):Pure prog 102 [dJ bO,.int .i64 g] (Gf (fC g)):=by
 have ab:=Ow 0 dC
 have ad:=Ow 1 dC
 have ae:=Ow 2 dC
 have hr:=xy6
 generalize hM:fC g=M
 refine iV 0 func102 ntmps102 results102 λc hc hb=> ?_
 refine zA ?_
 simp[go_sem,dJ]
 have h0:decide ((g:Int)<0)=false:=aiw om
 simp[go_sem,h0]
 refine zH (S:=Nat×Nat) [1,2,13,14,15] (λu=> [.int .i64 u.2,.ptr 0 0,.sl .ro (bO.map bL.row),.int .i64 3,.int .i64 u.1]) (λ_=> [.box [.sl .ro xJ,.sl .ro (bO.map bL.row)]]) (λu=>3 - u.1)
  (λu=>(u.1=0/\u.2=g)\/(u.1=1/\u.2+2=g)\/(u.1=2/\u.2+3=g)\/(u.1=3/\u.2+4=g)) hc hb (0,g) (.inl ⟨rfl,rfl⟩) ?_ ?_
 .exact aM 1 (by rfl) (zD (by simp[go_sem];rfl) rfl)
 rintro⟨i,r⟩ h
 simp only at h
 refine h.elim (λ⟨h1,h2⟩=> ?_) λh=>h.elim (λ⟨h1,h2⟩=> ?_) λh=>h.elim (λ⟨h1,h2⟩=> ?_) λ⟨h1,h2⟩=> ?_
 .subst h1
  refine zA ?_
  simp[go_sem,bO]
  refine zL ab cB (zP (by simp[go_sem,dJ,bO]) rfl) rfl ?_
  simp[go_sem,K0]
  by_cases q:2<=r
  .have q':decide ((2:Int)<=r)=true:=aix om
   have e:IntKind.i64.wrap ((r:Int) - 2)=((r - 2:Nat):Int):=by rw[bX om om];omega
   simp[go_sem,q',e]
   exact zI (1,r - 2) ⟨by simp only;omega,.inr (.inl ⟨rfl,by simp only;omega⟩),aN 1 (by rfl)⟩
  .have q':decide ((2:Int)<=r)=false:=aiw om
   simp[go_sem,q',show xd.place=0 from rfl]
   refine yE [(2,0)] 2 sm kR kR ?_
   simp[go_sem]
   refine wZ hr cB (λ_=>zP (by simp[go_sem,dJ,bO,show xd.place=0 from rfl]) rfl) rfl ?_
   have aa:r=0\/r=1:=om
   refine aa.elim (λe=> ?_) (λe=> ?_)
   all_goals subst e
   all_goals simp[go_sem]
   all_goals exact K3 (by rw[<-hM,<-h2];rfl)
 .subst h1
  refine zA ?_
  simp[go_sem,bO]
  refine zL ad cB (zP (by simp[go_sem,dJ,bO]) rfl) rfl ?_
  simp[go_sem,K0]
  by_cases q:1<=r
  .have q':decide ((1:Int)<=r)=true:=aix om
   have e:IntKind.i64.wrap ((r:Int) - 1)=((r - 1:Nat):Int):=by rw[bX om om];omega
   simp[go_sem,q',e]
   exact zI (2,r - 1) ⟨by simp only;omega,.inr (.inr (.inl ⟨rfl,by simp only;omega⟩)),aN 1 (by rfl)⟩
  .have q':decide ((1:Int)<=r)=false:=aiw om
   simp[go_sem,q',show Eo.place=1 from rfl]
   have aa:r=0:=om
   subst aa
   exact K3 (by rw[<-hM,<-h2];rfl)
 .subst h1
  refine zA ?_
  simp[go_sem,bO]
  refine zL ae cB (zP (by simp[go_sem,dJ,bO]) rfl) rfl ?_
  simp[go_sem,K0]
  by_cases q:1<=r
  .have q':decide ((1:Int)<=r)=true:=aix om
   have e:IntKind.i64.wrap ((r:Int) - 1)=((r - 1:Nat):Int):=by rw[bX om om];omega
   simp[go_sem,q',e]
   exact zI (3,r - 1) ⟨by simp only;omega,.inr (.inr (.inr ⟨rfl,by simp only;omega⟩)),aN 1 (by rfl)⟩
  .have q':decide ((1:Int)<=r)=false:=aiw om
   have aa:r=0:=om
   subst aa
   simp[go_sem,show Ep.place=2 from rfl]
   refine yE [] 2 sm kR kR ?_
   simp[go_sem]
   exact K3 (by rw[<-hM,<-h2];rfl)
 .subst h1
  refine zA ?_
  simp[go_sem,bO]
  exact K3 (by rw[<-hM,<-h2];unfold fC;rw[aiu om,aiu om,aiu om,aiu om])
theorem wp4 (v:bK) (l:aj2):([.box v.row,.cj (l.map yS) 1]:St).all (bS 2)=true:=by simp[bS,cN,cL,yS,bK.row]
theorem Tz (v:bK) (r:Int):bN prog 172 [.int .i64 r,.ptr 0 0] [.box v.row] (λx s=>x= .bool (r !=v.n)/\s= [.box v.row]):=by
 refine iW 1 func172 ntmps172 results172 λc hc hb=>zM ?_
 simp[go_sem]
 exact yZ 1 sg rfl rfl (A7 _) (zC rfl) ⟨rfl,rfl⟩
def kQ (p:Int->Bool):aj2->Nat->Int
 | [],_=> -1
 |x::l,i=>if p x=true then i else kQ p l (i+1)
theorem ws7 (v:bK) (xs:aj2) (m:Nat) (hm:m<=xs.length) (hl:xs.length<=1000):
  bN prog 240 [.cM 1 1 xs.length 0 m,.fn 172 [.ptr 0 0]] [.box v.row,.cj (xs.map yS) 1]
   (λr s=>r= .int .i64 (kQ (λx=>x !=v.n) (xs.take m) 0)/\s= [.box v.row,.cj (xs.map yS) 1]):=by
 generalize hM:kQ (λx=>x !=v.n) (xs.take m) 0=M
 have ret: ∀(r:Int) (I:St),r=M->I.take 2= [.box v.row,.cj (xs.map yS) 1]->cx (some (.int .i64 r)) 2 (λr s=>r= .int .i64 M/\s= [.box v.row,.cj (xs.map yS) 1]) I:=λr I h hs=>by subst h;exact yZ 2 hs rfl (by simp[bS,cN,cL,yS,bK.row]) (A7 _) (zC rfl) ⟨rfl,rfl⟩
 refine iV 2 func240 ntmps240 results240 λc hc hb=> ?_
 refine zA ?_
 simp[go_sem]
 refine zH (S:=Nat) [0,1,7,8] (λi=> [.cM 1 1 xs.length 0 m,.fn 172 [.ptr 0 0],.int .i64 m,.int .i64 i]) (λ_=> [.box v.row,.cj (xs.map yS) 1]) (λi=>m - i) (λi=>i<=m/\kQ (λx=>x !=v.n) ((xs.take m).drop i) i=M) hc hb 0 ⟨A3 _,hM⟩ ?_ ?_
 .exact aN 2 (by simp[bS,cN,cL,yS,bK.row])
 rintro i ⟨hi,hinv⟩
 by_cases q:i<m
 rotate_left
 .rw[A9 (by simp;omega)]at hinv
  refine zA ?_
  simp[go_sem,q]
  exact ret _ _ hinv rfl
 have ei:=zQ q om
 have aa:i<xs.length:=om
 obtain⟨x,hx⟩:=eX (xs[i])
 have ab:(xs.take m)[i]'(by simp;omega)=x:=by rw[aiV];exact hx
 rw[A5 (by simp;omega),ab,kQ]at hinv
 have hd:=Tz v x
 obtain⟨b,ad⟩:=eX ((x !=v.n))
 rw[ad]at hd hinv
 refine zA ?_
 simp[go_sem,q,aa,hx]
 refine uM 1 hd cB sg rfl rfl (rS rfl) (λr s h=>by obtain⟨rfl,rfl⟩:=h;exact⟨rfl,rfl,rfl⟩) ?_
 rintro r s ⟨rfl,rfl⟩
 simp[go_sem]
 refine zV (λw=> ?_) (λw=> ?_)
 .rw[aiv w]at hinv
  simp[go_sem]
  exact ret _ _ hinv rfl
 .rw[aiu (by rw[w];decide)]at hinv
  simp[go_sem,ei]
  exact zI (i+1) ⟨om,⟨q,hinv⟩,aN 2 (by simp[bS,cN,cL,yS])⟩
def kS (n:Int) (l:aj2):aj2:=l.filter (· ==n)
theorem TA {n:Int}: ∀(l:aj2) (i:Nat),kQ (λx=>x !=n) l i= -1->kS n l=l
 | [],_,_=>rfl
 |x::l,i,h=>by
  unfold kQ at h
  split at h
  .omega
  .rename_i q
   have:=TA l (i+1) h
   have hx:(x==n)=true:=sU q
   unfold kS at this⊢
   rw[List.filter_cons_of_pos (sU hx),this]
theorem TB {n:Int}: ∀(l:aj2) (i:Nat),kQ (λx=>x !=n) l i≠ -1-> ∃k,kQ (λx=>x !=n) l i=((i+k:Nat):Int)/\k<l.length/\kS n (l.take k)=l.take k/\(∀x,l[k]? =some x->x≠n)
 | [],i,h=>absurd rfl h
 |x::l,i,h=>by
  unfold kQ at h⊢
  split
  .rename_i q
   exact⟨0,sm,sm,rfl,λy hy=>by simp at hy;subst hy;simpa using q⟩
  .rename_i q
   rw[aiu q]at h
   obtain⟨k,h1,h2,h3,h4⟩:=TB l (i+1) h
   have hx:(x==n)=true:=sU q
   refine⟨k+1,by rw[h1];congr 1;omega,by simp;omega, ?_,λy hy=>h4 y (sU hy)⟩
   unfold kS at h3⊢
   rw[Cb,List.filter_cons_of_pos (sU hx),h3]
theorem Ox {n:Int} {xs:aj2} {j:Nat} {x:Int} (h:xs[j]? =some x):kS n (xs.take (j+1))=kS n (xs.take j)++(if x=n then [x]else []):=by
 unfold kS
 rw[Cp,h,List.filter_append]
 by_cases q:x=n
 .simp[q]
 .simp[q]
theorem wl1 (v:bK) (xs:aj2) (m:Nat) (hm:m<=xs.length) (hl:xs.length<=1000):
  bN prog 171 [.cM 1 1 xs.length 0 m,.fn 172 [.ptr 0 0]] [.box v.row,.cj (xs.map yS) 1]
   (λr s=> ∃ys:aj2,ys.length=xs.length/\(kS v.n (xs.take m)).length<=m/\ys.take (kS v.n (xs.take m)).length=kS v.n (xs.take m)/\r= .cM 1 1 xs.length 0 (kS v.n (xs.take m)).length/\s= [.box v.row,.cj (ys.map yS) 1]):=by
 obtain⟨K,hK⟩:=eX (kS v.n (xs.take m))
 have ao:K.length<=m:=by rw[<-hK];unfold kS;exact Aw (Dl _ _) (by simp;omega)
 rw[hK]
 have ret: ∀(ys:aj2) (k:Nat) (I:St),ys.length=xs.length->k=K.length->ys.take K.length=K->I.take 2= [.box v.row,.cj (ys.map yS) 1]->
   cx (some (.cM 1 1 xs.length 0 k)) 2 (λr s=> ∃ys:aj2,ys.length=xs.length/\K.length<=m/\ys.take K.length=K/\r= .cM 1 1 xs.length 0 K.length/\s= [.box v.row,.cj (ys.map yS) 1]) I:=λys k I h1 h2 h3 h4=>by
  subst h2
  exact yZ 2 h4 rfl (by simp[bS,cN,cL,yS,bK.row]) (A7 _) (xQ rfl) ⟨ys,h1,ao,h3,rfl,rfl⟩
 have aq:=ws7 v xs m hm hl
 refine iV 2 func171 ntmps171 results171 λc hc hb=> ?_
 refine zA ?_
 simp[go_sem]
 refine uM 2 aq cB sg rfl (by simp[bS,cN,cL,yS,bK.row]) (rS rfl) (λr s h=>by obtain⟨rfl,rfl⟩:=h;exact⟨rfl,by simp[bS,cN,cL,yS,bK.row],rfl⟩) ?_
 rintro r s ⟨rfl,rfl⟩
 by_cases h0:kQ (λx=>x !=v.n) (xs.take m) 0= -1
 .have ah:=TA _ _ h0
  rw[hK]at ah
  rw[h0]
  simp[go_sem]
  exact ret xs m _ rfl (by rw[ah];simp;omega) (by rw[ah];simp) (by rfl)
 obtain⟨k,h1,h2,h3,h4⟩:=TB _ _ h0
 rw[Ad]at h1
 rw[h1]
 have ar:k<m:=by simp at h2;omega
 have au:((k:Int)== -1)=false:=sm
 have ek:IntKind.i64.wrap ((k:Int)+1)=((k+1:Nat):Int):=by rw[bX om om];omega
 have av:kS v.n (xs.take (k+1))=xs.take k:=by
  have aj:k<xs.length:=om
  have h5:=h4 xs[k] (by rw[Ap,aiv ar,A0 aj])
  rw[Ox (A0 aj),aiu h5,Ay]
  rw[aiU,C8 om]at h3
  exact h3
 simp[go_sem,au,ek]
 refine zH (S:=Nat×Nat×aj2) [0,1,5,6] (λu=> [.cM 1 1 xs.length 0 m,.fn 172 [.ptr 0 0],.int .i64 u.1,.int .i64 u.2.1]) (λu=> [.box v.row,.cj (u.2.2.map yS) 1]) (λu=>m - u.2.1)
  (λu=>u.1<u.2.1/\u.2.1<=m/\u.2.2.length=xs.length/\u.2.2.take u.1=kS v.n (xs.take u.2.1)/\u.2.2.drop u.2.1=xs.drop u.2.1) hc hb (k,k+1,xs) ⟨by simp only;omega,by simp only;omega,rfl,av.symm,rfl⟩ ?_ ?_
 .exact aN 2 (by simp[bS,cN,cL,yS,bK.row])
 rintro⟨i,j,ys⟩ ⟨aw,ax,ad,aa,ab⟩
 simp only at aw ax ad aa ab
 by_cases q:j<m
 rotate_left
 .have hj:j=m:=om
  subst hj
  rw[hK]at aa
  have ak:i=K.length:=by rw[<-aa];simp;omega
  have af:i<=j:=om
  refine zA ?_
  simp[go_sem]
  refine zJ af ?_
  simp[go_sem,ad]
  refine zJ om ?_
  simp[go_sem]
  refine zJ (.inl af) ?_
  simp[go_sem]
  refine ret (ys.take i++List.replicate (j - i) 0++ys.drop (i+(j - i))) i _ (by simp;omega) ak (by rw[<-ak,D0,List.take_append_of_le_length (by simp;omega)];rw[aiU,Nat.min_self,aa]) ?_
  simp[go_sem,yS]
 have ej:=zQ q om
 have ay:j<ys.length:=om
 have az:j<xs.length:=om
 obtain⟨x,hx⟩:=eX (ys[j])
 have a1:ys[j]? =some x:=by rw[A0 ay,hx]
 have al:xs[j]? =some x:=by
  have:=aiz (λl=>l[0]?) ab
  simp only[C6,D3]at this
  rw[<-this,a1]
 have ei:IntKind.i64.wrap ((i:Int)+1)=((i+1:Nat):Int):=by rw[bX om om];omega
 have hd:=Tz v x
 obtain⟨b,ai⟩:=eX ((x !=v.n))
 rw[ai]at hd
 refine zA ?_
 simp[go_sem,q,az,hx,ad]
 refine uM 1 hd cB sg rfl rfl (rS rfl) (λr s h=>by obtain⟨rfl,rfl⟩:=h;exact⟨rfl,rfl,rfl⟩) ?_
 rintro r s ⟨rfl,rfl⟩
 simp[go_sem]
 refine zV (λw=> ?_) (λw=> ?_)
 all_goals simp[go_sem,ej]
 .have q2:x=v.n:=by simpa using (show(x !=v.n)=false by rw[ai];simpa using w)
  have ae:=Ox (n:=v.n) al
  rw[aiv q2]at ae
  refine zJ om ?_
  have an:i<xs.length:=om
  obtain⟨y,a6⟩: ∃y,ys[i]? =some y:=⟨_,A0 om⟩
  simp[go_sem,ad,an,ei,ej]
  refine zI (i+1,j+1,ys.set i x) ⟨by simp only;omega,⟨by simp only;omega,by simp only;omega,by simp[ad], ?_, ?_⟩, ?_⟩
  .rw[ae,<-aa,Cp,Bj om,List.take_set_of_le (A7 i)]
   simp
  .simp only
   rw[List.drop_set,aiv om]
   have:=aiz (List.drop 1) ab
   simpa[aiT,E1]using this
  .exact cc 2 (by simp[go_sem,yS]) rfl (wp4 v _) (A7 _) (zD sg rfl)
 .have q2: ¬x=v.n:=by
   have:(x !=v.n)=true:=by rw[ai];simpa using w
   simpa using this
  have ae:=Ox (n:=v.n) al
  rw[aiu q2,Ay]at ae
  refine zI (i,j+1,ys) ⟨by simp only;omega,⟨by simp only;omega,by simp only;omega,ad,by rw[ae];exact aa, ?_⟩, ?_⟩
  .have:=aiz (List.drop 1) ab
   simpa[aiT,E1]using this
  .exact aN 2 (by simp[bS,cN,cL,yS])
def si (t:Nat):aj2:=if t=0 then [0,1]else if t=1 then [-1]else [1]
def jc (l:List bJ) (rs:aj2):aj2:=l.foldl (λrs e=>match oy e [82]with|none=>rs|some (s,v)=>if s= [61]/\v.kind=2 then kS v.n rs else rs) rs
def wA (t:Int) (st:bW):aj2:=if t=0 then jc (nK st) [0,1]else if t=1 then [-1]else if t=2 then [1]else []
theorem xu8 {n:Int} (l:aj2):(kS n l).length<=l.length:=Dl _ _
theorem xu6 (l:aj2):xI (l.map yS)=true:=by simp[xI,yS,pN]
theorem yX9 (l:aj2) (m:Nat):wX (l.map yS) 0 m=(l.take m).map yS:=by
 unfold wX
 rw[Bh,<-List.map_take,Bg]
 rfl
theorem TC (st:bW) (T:bL) (l:aj2):([.box [.sl .ro xJ,.sl .ro (bO.map bL.row)],.box st.row,.box T.row,.cj (l.map yS) 1]:St).all (bS 4)=true:=by simp[bS,cN,cL,yS,bW.row,bL.row]
theorem Oy (T:bL) (l:aj2):([.box T.row,.cj (l.map yS) 1]:St).all (bS 2)=true:=by simp[bS,cN,cL,yS,bL.row]
theorem TD (n:Nat) (l:aj2):bS n (.cj (l.map yS) 1)=true:=by simp[bS,cN,cL,yS]
theorem xc8 (j:Nat) (hj:j<3): ∃s0:Nat,xF j 0=((s0:Int),0)/\s0+(si j).length<5/\(∀(k:Nat) x,(si j)[k]? =some x->fC ((s0+k:Nat):Int)=((j:Int),x,0))/\
  ((fC ((s0+(si j).length:Nat):Int)).2.2≠0\/((fC ((s0+(si j).length:Nat):Int)).2.2=0/\(fC ((s0+(si j).length:Nat):Int)).1≠j)):=by
 match j,hj with
 |0,_=>exact⟨0,rfl,dC,λk x h=>(by match k with
   |0=>cases h;rfl
   |1=>cases h;rfl
   |k+2=>cases h),.inr dC⟩
 |1,_=>exact⟨2,rfl,dC,λk x h=>(by match k with
   |0=>cases h;rfl
   |k+1=>cases h),.inr dC⟩
 |2,_=>exact⟨3,rfl,dC,λk x h=>(by match k with
   |0=>cases h;rfl
   |k+1=>cases h),.inl dC⟩
theorem Oz: ∀(l:List bJ) (rs:aj2),(jc l rs).length<=rs.length
 | [],_=>A7 _
 |e::l,rs=>by
  have h1:jc (e::l) rs=jc l (match oy e [82]with|none=>rs|some (s,v)=>if s= [61]/\v.kind=2 then kS v.n rs else rs):=rfl
  rw[h1]
  refine Aw (Oz l _) ?_
  split
  .exact A7 _
  .split
   .exact xu8 _
   .exact A7 _
theorem TE (t:Int) (st:bW) (hl:(nK st).length<=maxLen):Pure prog 113 [dJ bO,.int .i64 t,.agg st.row] (.sl .ro ((wA t st).map yS)):=by
 have an:=S7 st
 generalize hM:wA t st=M
 unfold wA at hM
 generalize hL:nK st=L at an hM hl
 have ao: ∀(g:Tag) (I:St),[]=M->cx (some (.sl g [])) 0 (λr s=>r= .sl .ro (M.map yS)/\s= []) I:=λg I h=>by subst h;exact zW zK ⟨rfl,rfl⟩
 have ai: ∀(id:Nat) (ys:aj2) (N m:Nat) (I:St),I[id]? =some (.cj (ys.map yS) 1)->ys.length=N->m<=N->ys.take m=M->cx (some (.cM id 1 N 0 m)) 0 (λr s=>r= .sl .ro (M.map yS)/\s= []) I:=λid ys N m I h1 h2 h3 h4=>by
  refine ME id 1 (ys.map yS) h1 (xu6 ys) ?_
  simp only[gk,gj,gr,fX,Ag,h2,Ad,h3,and_self,aiE,yX9,h4]
  exact zW zK ⟨rfl,rfl⟩
 refine iV 0 func113 ntmps113 results113 λc hc hb=> ?_
 refine zA ?_
 simp[go_sem,dJ]
 by_cases ht:0<=t/\t<3
 rotate_left
 .have au: []=M:=by rw[<-hM,aiu om,aiu om,aiu om]
  have h2:decide (t<0)=true\/(decide (t<0)=false/\decide ((bO.length:Int)<=t)=true):=by
   simp only[aiA,aiC,show bO.length=3 from rfl]
   omega
  refine h2.elim (λq=> ?_) (λq=> ?_)
  all_goals simp[go_sem,q]
  all_goals exact ao _ _ au
 obtain⟨j,rfl⟩: ∃j:Nat,t=j:=⟨t.toNat,om⟩
 have hj:j<3:=om
 obtain⟨T,hT⟩:=eX (bO[j]'(by exact hj))
 have aq:=xr9 j hj
 obtain⟨s0,av,aw,cQ,aa⟩:=xc8 j hj
 obtain⟨n,hn⟩:=eX ((si j).length)
 rw[hn]at aw aa
 rw[av]at aq
 have ax:decide ((j:Int)<0)=false:=aiw om
 have aH:decide ((bO.length:Int)<=j)=false:=aiw (by simp only[show bO.length=3 from rfl];omega)
 have ay:decide (bO.length<=j)=false:=aiw (by simp only[show bO.length=3 from rfl];omega)
 have az:j<bO.length:=hj
 have hle:=xZ6
 have e1:IntKind.i64.wrap ((j:Int)+1)=((j+1:Nat):Int):=by rw[bX om om];omega
 simp[go_sem,ax,ay,az]
 refine FQ 8 1 dC sg ?_
 refine yE [(10,0),(11,0)] 4 sm kR kR ?_
 simp[go_sem,e1]
 refine zJ ⟨om,by simp only[show bO.length=3 from rfl];omega,mu λT=>rfl⟩ ?_
 simp[go_sem]
 refine wZ hle cB (λ_=>zP (by simp[go_sem,dJ]) rfl) rfl ?_
 simp[go_sem]
 refine wZ aq cB (λ_=>zP (by simp[go_sem,dJ]) rfl) rfl ?_
 simp[go_sem,Es]
 refine zH (S:=Nat) [1,3,5,7,8,9] (λk=> [.int .i64 j,.ptr 0 0,.ptr 1 0,.ptr 2 0,.cM 3 1 k 0 k,.int .i64 ((s0+k:Nat):Int)])
  (λk=> [.box [.sl .ro xJ,.sl .ro (bO.map bL.row)],.box st.row,.box T.row,.cj (((si j).take k).map yS) 1]) (λk=>n - k) (λk=>k<=n) hc hb 0 (A3 _) ?_ ?_
 .exact cc 4 (by simp[go_sem,<-hT];exact⟨rfl,rfl,rfl,rfl,rfl,rfl,rfl,rfl,rfl,rfl,rfl⟩) rfl (TC st T _) (A3 _) (zD sg rfl)
 intro k hk
 have a1:=H6 (s0+k) om
 refine zA ?_
 simp[go_sem]
 refine zL a1 cB (zP (by simp[go_sem,dJ]) rfl) rfl ?_
 by_cases aI:k<n
 .obtain⟨x,hx⟩: ∃x,(si j)[k]? =some x:=⟨_,A0 om⟩
  rw[cQ k x hx]
  have a6: ¬(k+1<=k):=om
  have ei:IntKind.i64.wrap (((s0:Int)+k)+1)=(s0:Int)+k+1:=by rw[bX om om]
  simp[go_sem,Gf,a6]
  refine zJ ⟨om,zY rfl,om⟩ ?_
  simp[go_sem,ei]
  refine zI (k+1) ⟨om,om, ?_⟩
  exact cc 4 (by simp[go_sem,Cp,hx,yS]) rfl (TC st T _) (A3 _) (zD (by simp[go_sem];omega) rfl)
 .obtain rfl:k=n:=om
  obtain⟨⟨a,b2,e⟩,hp⟩: ∃p,fC ((s0+k:Nat):Int)=p:=⟨_,rfl⟩
  rw[hp]at aa⊢
  simp only at aa
  have hY:((si j).take k).length=k:=by simp;omega
  have ad:(e !=0)=true\/((e !=0)=false/\(a !=j)=true):=by
   rcases aa with h|h
   .exact .inl (sU h)
   .exact .inr ⟨by simpa using h.1,by simpa using h.2⟩
  by_cases aj:j=0
  rotate_left
  .have ak:(T.place !=0)=true:=by
    rw[<-hT]
    match j,hj,aj with
    |1,_,_=>rfl
    |2,_,_=>rfl
   have a7:(si j)=M:=by
    rw[<-hM]
    match j,hj,aj with
    |1,_,_=>rfl
    |2,_,_=>rfl
   refine ad.elim (λq=> ?_) (λq=> ?_)
   all_goals simp[go_sem,Gf,q,ak]
   all_goals exact ai 3 ((si j).take k) k k _ sg hY (A7 _) (by rw[aiU,Nat.min_self,Aa om];exact a7)
  subst aj
  have ak:(T.place !=0)=false:=by rw[<-hT];rfl
  have ab:T.cm= [⟨[82],2,false⟩,⟨[75],2,false⟩,⟨[86],3,true⟩,⟨[78],2,true⟩]:=by rw[<-hT];rfl
  have a8:k=2:=by rw[<-hn];rfl
  subst a8
  have al:(e !=0)=true\/((e !=0)=false/\(a !=0)=true):=sU ad
  refine al.elim (λq=> ?_) (λq=> ?_)
  all_goals simp[go_sem,Gf,q,ak,ab]
  all_goals refine zL an cB (zP sg rfl) rfl ?_
  all_goals simp[go_sem]
  all_goals refine zH (S:=Nat×aj2×aj2) [7,8,79,80,81] (λu=> [.ptr 0 0,.cM 1 1 2 0 u.2.1.length,.sl .ro (L.map bJ.row),.int .i64 L.length,.int .i64 u.1]) (λu=> [.box T.row,.cj (u.2.2.map yS) 1]) (λu=>L.length - u.1) (λu=>u.1<=L.length/\u.2.1.length<=2/\u.2.2.length=2/\u.2.2.take u.2.1.length=u.2.1/\jc (L.drop u.1) u.2.1=M) hc hb (0,[0,1],[0,1]) ⟨A3 _,A7 _,rfl,rfl,hM⟩ ?_ ?_
  all_goals try exact DF [2,3] dC rfl ⟨by simp[go_sem,yA,dj,du,ab],by simp[go_sem,yA,dj,du,si,yS],tV⟩ ⟨.inl (by simp[go_sem,dI,dN,dj,du,cK]),.inl (by simp[go_sem,dI,dN,dj,du,cK]),zK,zC rfl,zC rfl,tV⟩
  all_goals rintro⟨i,rs,ys⟩ ⟨hi,ah,ae,af,hinv⟩
  all_goals simp only at hi ah ae af hinv
  all_goals (
   by_cases hq:i<L.length
   rotate_left
   .rw[A9 om]at hinv
    have aA:rs=M:=hinv
    refine zA ?_
    simp[go_sem,hq]
    exact ai 1 ys 2 rs.length _ sg ae ah (by rw[af];exact aA)
   have ei:=zQ hq (by unfold maxLen at hl;omega)
   obtain⟨x,hx⟩:=eX (L[i])
   rw[A5 hq,hx]at hinv
   have aB:=S8 x [82]
   refine zA ?_
   simp[go_sem,hq,hx,ab]
   refine yE [(6,0),(13,3)] 3 sm kR kR ?_
   simp[go_sem]
   refine wZ aB cB (λ_=>zP sg (by rw[bJ.bQ];rfl)) (Tw _) ?_
   cases ha:oy x [82]with
   |none=>
    simp only[jc,Bn,ha]at hinv
    simp[go_sem,nM,KO,ei]
    refine zI (i+1,rs,ys) ⟨by simp only;omega,⟨by simp only;omega,ah,ae,af,hinv⟩, ?_⟩
    exact cc 2 (by simp[go_sem,ab]) rfl (Oy T _) (A3 _) (zD sg rfl)
   |some p=>
    obtain⟨s,v⟩:=p
    simp only[jc,Bn,ha]at hinv
    simp[go_sem,nM]
    by_cases hs:s= [61]/\v.kind=2
    .rw[aiv hs]at hinv
     have aC:(s== [61])=true:=sU hs.1
     have aD:(v.kind==2)=true:=sU hs.2
     have ar:=wl1 v ys rs.length om om
     rw[af,ae]at ar
     simp[go_sem,aC,aD]
     refine Zw 3 1 ar cB dC sg sg rfl (TD _ _) ⟨.inl (by simp[go_sem,dI,dN,dj,du,cK]),.inl (by simp[go_sem,dI,dN,dj,du,cK]),tV⟩ (λr s h=>by
      obtain⟨zs,_,_,_,_,rfl⟩:=h
      exact⟨_,_,rfl,rfl,TD _ _⟩) ?_
     rintro r o2 p2 ⟨zs,aJ,aK,aE,rfl,aF⟩
     obtain⟨rfl,rfl⟩:o2= .box v.row/\p2= .cj (zs.map yS) 1:=sU aF
     simp[go_sem,dI,dN,dj,du,cK,ei]
     refine zI (i+1,kS v.n rs,zs) ⟨by simp only;omega,⟨by simp only;omega,by simp only;omega,om,aE,hinv⟩, ?_⟩
     exact cc 2 (by simp[go_sem,ab]) rfl (Oy T _) (A3 _) (zD sg rfl)
    .rw[aiu hs]at hinv
     have aG:(s== [61])=false\/((s== [61])=true/\(v.kind==2)=false):=by
      by_cases h1:s= [61]
      .exact .inr ⟨by simpa using h1,by simpa using λh2=>hs ⟨h1,h2⟩⟩
      .exact .inl (sU h1)
     refine aG.elim (λq1=> ?_) (λq1=> ?_)
     all_goals simp[go_sem,q1,ei]
     all_goals refine zI (i+1,rs,ys) ⟨by simp only;omega,⟨by simp only;omega,ah,ae,af,hinv⟩, ?_⟩
     all_goals exact cc 2 (by simp[go_sem,ab]) rfl (Oy T _) (A3 _) (zD sg rfl))
def iG {U:Type} (p:U->Bool):List U->Nat->Int
 | [],_=> -1
 |x::l,i=>if p x=true then(i:Int)else iG p l (i+1)
theorem Et {U:Type} (p:U->Bool): ∀(l:List U) (i:Nat),iG p l i= -1\/((i:Int)<=iG p l i/\iG p l i<i+l.length)
 | [],i=> .inl rfl
 |x::l,i=>by
  unfold iG
  split
  .right;simp;omega
  .have:=Et p l (i+1)
   simp only[Ah]
   omega
theorem ws5 (t:bL) (name:aiZ):bN prog 139 [.agg t.row,.ptr 0 0] [.box [.str name]] (λr s=>r= .bool (t.name==name)/\s= [.box [.str name]]):=by
 refine iW 1 func139 ntmps139 results139 λc hc hb=>zM ?_
 simp[go_sem]
 exact mV 1 rfl rfl (A7 _) (zC rfl) ⟨rfl,rfl⟩
theorem ws2 (t:fw) (name:aiZ):bN prog 204 [.agg t.row,.ptr 0 0] [.box [.str name]] (λr s=>r= .bool (t.name==name)/\s= [.box [.str name]]):=by
 refine iW 1 func204 ntmps204 results204 λc hc hb=>zM ?_
 simp[go_sem]
 exact mV 1 rfl rfl (A7 _) (zC rfl) ⟨rfl,rfl⟩
theorem wm5 (l:List bL) (name:aiZ) (hl:l.length<=maxLen):bN prog 138 [.sl .ro (l.map bL.row),.fn 139 [.ptr 0 0]] [.box [.str name]] (λr s=>r= .int .i64 (iG (λt:bL=>t.name==name) l 0)/\s= [.box [.str name]]):=by
 generalize hM:iG (λt:bL=>t.name==name) l 0=M
 have ret: ∀(r:Int) (I:St),r=M->cx (some (.int .i64 r)) 1 (λr s=>r= .int .i64 M/\s= [.box [.str name]]) (.box [.str name]::I):=λr I h=>by subst h;exact mV 1 rfl rfl (A7 _) (zC rfl) ⟨rfl,rfl⟩
 refine iV 1 func138 ntmps138 results138 λc hc hb=> ?_
 refine zA ?_
 simp[go_sem]
 refine zH (S:=Nat) [0,1,7,8] (λi=> [.sl .ro (l.map bL.row),.fn 139 [.ptr 0 0],.int .i64 l.length,.int .i64 i]) (λ_=> [.box [.str name]]) (λi=>l.length - i) (λi=>i<=l.length/\iG (λt:bL=>t.name==name) (l.drop i) i=M) hc hb 0 ⟨A3 _,hM⟩ ?_ ?_
 .exact aN 1 rfl
 rintro i ⟨hi,hinv⟩
 by_cases q:i<l.length
 rotate_left
 .rw[Bp om,iG]at hinv
  refine zA ?_
  simp[go_sem,q]
  exact ret _ _ hinv
 have ei:=zQ q (by unfold maxLen at hl;omega)
 obtain⟨x,hx⟩:=eX (l[i])
 rw[A5 q,hx,iG]at hinv
 obtain⟨b,ab⟩:=eX ((x.name==name))
 have aa:=ws5 x name
 rw[ab]at aa hinv
 refine zA ?_
 simp[go_sem,q,hx]
 refine mw 0 aa cB rfl rfl ⟨zC rfl,.inl rfl,tV⟩ (by rintro r s ⟨rfl,rfl⟩;exact⟨_,rfl,rfl⟩) ?_
 rintro r o ⟨rfl,ho⟩
 cases ho
 simp[go_sem]
 refine zV (λw=> ?_) (λw=> ?_)
 .rw[aiv w]at hinv
  simp[go_sem]
  exact ret _ _ hinv
 .rw[aiu (by rw[w];decide)]at hinv
  simp[go_sem,ei]
  exact zI (i+1) ⟨om,⟨q,hinv⟩,aN 1 rfl⟩
theorem wm1 (l:List fw) (name:aiZ) (hl:l.length<=maxLen):bN prog 203 [.sl .ro (l.map fw.row),.fn 204 [.ptr 0 0]] [.box [.str name]] (λr s=>r= .int .i64 (iG (λt:fw=>t.name==name) l 0)/\s= [.box [.str name]]):=by
 generalize hM:iG (λt:fw=>t.name==name) l 0=M
 have ret: ∀(r:Int) (I:St),r=M->cx (some (.int .i64 r)) 1 (λr s=>r= .int .i64 M/\s= [.box [.str name]]) (.box [.str name]::I):=λr I h=>by subst h;exact mV 1 rfl rfl (A7 _) (zC rfl) ⟨rfl,rfl⟩
 refine iV 1 func203 ntmps203 results203 λc hc hb=> ?_
 refine zA ?_
 simp[go_sem]
 refine zH (S:=Nat) [0,1,7,8] (λi=> [.sl .ro (l.map fw.row),.fn 204 [.ptr 0 0],.int .i64 l.length,.int .i64 i]) (λ_=> [.box [.str name]]) (λi=>l.length - i) (λi=>i<=l.length/\iG (λt:fw=>t.name==name) (l.drop i) i=M) hc hb 0 ⟨A3 _,hM⟩ ?_ ?_
 .exact aN 1 rfl
 rintro i ⟨hi,hinv⟩
 by_cases q:i<l.length
 rotate_left
 .rw[Bp om,iG]at hinv
  refine zA ?_
  simp[go_sem,q]
  exact ret _ _ hinv
 have ei:=zQ q (by unfold maxLen at hl;omega)
 obtain⟨x,hx⟩:=eX (l[i])
 rw[A5 q,hx,iG]at hinv
 obtain⟨b,ab⟩:=eX ((x.name==name))
 have aa:=ws2 x name
 rw[ab]at aa hinv
 refine zA ?_
 simp[go_sem,q,hx]
 refine mw 0 aa cB rfl rfl ⟨zC rfl,.inl rfl,tV⟩ (by rintro r s ⟨rfl,rfl⟩;exact⟨_,rfl,rfl⟩) ?_
 rintro r o ⟨rfl,ho⟩
 cases ho
 simp[go_sem]
 refine zV (λw=> ?_) (λw=> ?_)
 .rw[aiv w]at hinv
  simp[go_sem]
  exact ret _ _ hinv
 .rw[aiu (by rw[w];decide)]at hinv
  simp[go_sem,ei]
  exact zI (i+1) ⟨om,⟨q,hinv⟩,aN 1 rfl⟩
theorem OA (ts:List bL) (name:aiZ) (hl:ts.length<=maxLen):Pure prog 97 [dJ ts,.str name] (.int .i64 (iG (λt:bL=>t.name==name) ts 0)):=by
 have hx:=wm5 ts name hl
 refine iW 0 func97 ntmps97 results97 λc hc hb=>zM ?_
 simp[go_sem,dJ]
 refine mw 1 hx cB rfl rfl ⟨zC rfl,.inl rfl,tV⟩ (by rintro r s ⟨rfl,rfl⟩;exact⟨_,rfl,rfl⟩) ?_
 rintro r o ⟨rfl,ho⟩
 cases ho
 simp[go_sem]
 exact wR
theorem Gg (t:bL) (name:aiZ) (hl:t.cm.length<=maxLen):Pure prog 142 [.agg t.row,.str name] (.int .i64 (iG (λt:fw=>t.name==name) t.cm 0)):=by
 have hx:=wm1 t.cm name hl
 refine iW 0 func142 ntmps142 results142 λc hc hb=>zM ?_
 simp[go_sem]
 refine mw 1 hx cB rfl rfl ⟨zC rfl,.inl rfl,tV⟩ (by rintro r s ⟨rfl,rfl⟩;exact⟨_,rfl,rfl⟩) ?_
 rintro r o ⟨rfl,ho⟩
 cases ho
 simp[go_sem]
 exact wR
def cV (T:bL) (name:aiZ):Int:=iG (λc:fw=>c.name==name) T.cm 0
def kT (T:bL) (c:Int):Int:=((T.cm[c.toNat]?).map (·.kind)).getD 0
def nS (v:bK):Bool:=v.kind==0&&(v.n==0&&v.s.isEmpty)
theorem TF (v:bK):(!(v.kind==0)||(!(v.n==0)|| !v.s.isEmpty))= !nS v:=by unfold nS;cases v.kind==0<;>cases v.n==0<;>cases v.s.isEmpty<;>rfl
mutual
def lC (T:bL):bJ->Int×Int
 | .mk k s v args=>
  if k=1 then(if s.isEmpty=false\/args.isEmpty=false\/ez v=false then(0,9)else(v.kind,0))
  else if k=2 then(if cV T s<0 then(0,14)else if args.isEmpty=false\/nS v=false then(0,9)else(kT T (cV T s),0))
  else if k=3 then(if(wT T args).2≠0 then(0,(wT T args).2)else if nS v=false then(0,9)else oZ s (wT T args).1)
  else(0,9)
def wT (T:bL):List bJ->aj2×Int
 | []=>([],0)
 |e::l=>if(lC T e).2≠0 then([],(lC T e).2)else((lC T e).1::(wT T l).1,(wT T l).2)
end
theorem OB (T:bL) (e:bJ):lC T e=
  if e.kind=1 then(if e.s.isEmpty=false\/e.args.isEmpty=false\/ez e.v=false then(0,9)else(e.v.kind,0))
  else if e.kind=2 then(if cV T e.s<0 then(0,14)else if e.args.isEmpty=false\/nS e.v=false then(0,9)else(kT T (cV T e.s),0))
  else if e.kind=3 then(if(wT T e.args).2≠0 then(0,(wT T e.args).2)else if nS e.v=false then(0,9)else oZ e.s (wT T e.args).1)
  else(0,9):=by cases e;rw[lC];rfl
theorem Eu {M:Int×Int} {a e:Int} {I:St} (h:(a,e)=M):cx (some (.cy [.int .i64 a,.int .i64 e])) 0 (λr s=>r=wI M/\s= []) I:=by
 subst h
 exact wR
theorem K4 (T:bL) (s:aiZ) (h: ¬cV T s<0): ∃j:Nat,cV T s=j/\j<T.cm.length:=by
 have:=Et (λc:fw=>c.name==s) T.cm 0
 unfold cV at h⊢
 refine⟨(iG (λc:fw=>c.name==s) T.cm 0).toNat,om,om⟩
theorem xC8 (l:List bJ):decide ((0:Int)<l.length)= !l.isEmpty:=by
 cases l with
 |nil=>rfl
 |cons _ _=>exact aix (by simp only[Ah];omega)
theorem xs4 (l:List bJ):decide (0<l.length)= !l.isEmpty:=by
 cases l with
 |nil=>rfl
 |cons _ _=>exact aix (by simp only[Ah];omega)
theorem TG (T:bL) (hT:T.cm.length<=maxLen): ∀(n:Nat) (e:bJ),ij e<=n->fB e->Good e->Pure prog 202 [.agg T.row,.agg e.row] (wI (lC T e))
 |0,e,h,_,_=>by have:=KM e;omega
 |n+1,e,h,hw,hg=>by
  have ih:=TG T hT n
  have az:=uQ e
  have hlen:=hw.len
  have al:=hw.sub
  have av:=hg.sub
  have an:=Gb e.v
  have ao:=Gg T e.s hT
  obtain⟨M,hM⟩:=eX (lC T e)
  rw[hM]
  rw[OB]at hM
  rw[show iG (λc:fw=>c.name==e.s) T.cm 0=cV T e.s from rfl]at ao
  have hz:=TF e.v
  have aw:=xC8 e.args
  have ai:=xs4 e.args
  have ret: ∀(a b:Int) (I:St),(a,b)=M->cx (some (.cy [.int .i64 a,.int .i64 b])) 0 (λr s=>r=wI M/\s= []) I:=λa b I h=>Eu h
  refine iV 0 func202 ntmps202 results202 λc hc hb=> ?_
  refine zA ?_
  simp[go_sem]
  by_cases q1:e.kind=1
  .have af:(e.kind==1)=true:=sU q1
   rw[aiv q1]at hM
   generalize ez e.v=b at an hM
   generalize e.args.isEmpty=ae at aw ai hM
   simp[go_sem,af]
   repeat' (first
    |(refine xD (λq=> ?_) (λq=> ?_)<;>simp[go_sem,q,ai])
    |(refine zV (λq=> ?_) (λq=> ?_)<;>simp[go_sem,q])
    |(refine zL an cB (zP sg rfl) rfl ?_;simp[go_sem]))
   all_goals exact ret _ _ _ (by rw[<-hM];simp_all)
  rw[aiu q1]at hM
  have af:(e.kind==1)=false:=sU q1
  by_cases q2:e.kind=2
  .have aj:(e.kind==2)=true:=sU q2
   rw[aiv q2]at hM
   simp[go_sem,af,aj]
   refine zL ao cB (zP sg rfl) rfl ?_
   by_cases qc:cV T e.s<0
   .have ak:decide (cV T e.s<0)=true:=aix qc
    rw[aiv qc]at hM
    simp[go_sem,ak]
    exact ret _ _ _ hM
   have ak:decide (cV T e.s<0)=false:=aiw qc
   rw[aiu qc]at hM
   obtain⟨j,hj,ax⟩:=K4 T e.s qc
   obtain⟨C,hC⟩:=eX (T.cm[j])
   have a1:kT T (cV T e.s)=C.kind:=by
    unfold kT
    rw[hj,B0,A0 ax,hC];rfl
   rw[a1]at hM
   rw[hj]at ak⊢
   generalize nS e.v=z at hz hM
   generalize e.args.isEmpty=ae at aw ai hM
   simp[go_sem,ak,ai]
   repeat' (first
    |(refine xD (λq=> ?_) (λq=> ?_)<;>simp[go_sem,q,hz])
    |(refine zV (λq=> ?_) (λq=> ?_)<;>simp[go_sem,q,ax,hC]))
   all_goals exact ret _ _ _ (by rw[<-hM];simp_all)
  rw[aiu q2]at hM
  have aj:(e.kind==2)=false:=sU q2
  by_cases q3:e.kind=3
  rotate_left
  .rw[aiu q3]at hM
   have aq:(e.kind==3)=false:=sU q3
   simp[go_sem,af,aj,aq]
   exact ret _ _ _ hM
  have aq:(e.kind==3)=true:=sU q3
  rw[aiv q3]at hM
  obtain⟨args,ab⟩:=eX e.args
  rw[ab]at az hlen al av hM
  obtain⟨K,hK⟩:=eX (wT T args)
  rw[hK]at hM
  simp[go_sem,af,aj,aq,ab]
  refine lU 7 1 dC sg ?_
  refine zH (S:=Nat×aj2) [2,3,7,61,62,63] (λu=> [.ptr 0 0,.ptr 1 0,.sl (.app 2) (u.2.map λn=> [V.int .i64 n]),.sl .ro (args.map bJ.row),.int .i64 args.length,.int .i64 (u.1:Int)]) (λu=> [.box T.row,.box e.row,.app u.2.length 1]) (λu=>args.length - u.1)
   (λu=>u.1<=args.length/\u.2.length=u.1/\(wT T (args.drop u.1)).2=K.2/\(K.2=0->u.2++(wT T (args.drop u.1)).1=K.1)) hc hb (0,[])
   ⟨A3 _,rfl,by simp only[Bh];rw[hK],λ_=>by simp only[Bh];rw[hK];rfl⟩ ?_ ?_
  .exact cc 3 (by simp[go_sem,ab]) rfl (by simp[bS,cN,cL,bJ.bQ,bL.row]) (A3 _) (zD sg rfl)
  rintro⟨i,l⟩ ⟨hi,hl,hinv,aa⟩
  simp only at hi hl hinv aa
  by_cases q:i<args.length
  rotate_left
  .rw[A9 om,wT]at hinv aa
   have ah:K.2=0:=hinv.symm
   have a6:l=K.1:=by have:=aa ah;simpa using this
   rw[aiu (λh=>h ah),<-a6]at hM
   have ay:=xc1 e.s l (by unfold maxLen;omega)
   generalize oZ e.s l=o at ay hM
   generalize nS e.v=z at hz hM
   refine zA ?_
   simp[go_sem,q,hz]
   refine(A6 z).elim (λw=> ?_) (λw=> ?_)
   .rw[aiu (by rw[w];decide)]at hM
    subst w
    simp[go_sem]
    refine pC ay ?_
    simp[go_sem,wI]
    exact ret _ _ _ hM
   .rw[aiv w]at hM
    subst w
    simp[go_sem]
    exact ret _ _ _ hM
  have ei:=zQ q om
  obtain⟨x,hx⟩:=eX (args[i])
  have ar:x∈args:=hx▸A8 q
  have a7:=DV args x ar
  rw[A5 q,hx,wT]at hinv aa
  have ad:=ih x om (al x ar) (av x ar)
  generalize lC T x=kx at ad hinv aa
  by_cases q4:kx.2=0
  .rw[aiu (λh=>h q4)]at hinv aa
   have au:(kx.2 !=0)=false:=sU q4
   refine zA ?_
   simp[go_sem,q,hx]
   refine zL ad cB (zP sg (by rw[bJ.bQ];rfl)) rfl ?_
   simp[go_sem,wI,au]
   refine zJ ⟨om,zY rfl⟩ ?_
   simp[go_sem,ei]
   refine zI (i+1,l++ [kx.1]) ⟨by simp only;omega,⟨by simp only;omega,by simp;omega,hinv,λh=>by have:=aa h;simpa using this⟩, ?_⟩
   exact aN 3 (by simp[bS,cN,cL,bJ.bQ])
  .rw[aiv q4]at hinv
   have au:(kx.2 !=0)=true:=sU q4
   have ah:kx.2=K.2:=hinv
   rw[aiv (by rw[<-ah];exact q4),<-ah]at hM
   refine zA ?_
   simp[go_sem,q,hx]
   refine zL ad cB (zP sg (by rw[bJ.bQ];rfl)) rfl ?_
   simp[go_sem,wI,au]
   exact ret _ _ _ hM
def iM (T:bL) (e:bJ):Int×Int:=if ij e<=64 then lC T e else(0,3)
theorem TH: ∀(n:Nat) (e:bJ),lW e<=n->ij e<=n
 |0,e,h=>by grind[KL]
 |n+1,e,h=>by
  rw[Ee]at h
  rw[uQ]
  have: ∀l:List bJ,mW l<=n->wL l<=n:=by
   intro l
   induction l with
   |nil=>intro _;simpa
   |cons x l ih=>
    intro hl
    rw[mW]at hl
    rw[wL]
    have h1:=TH n x om
    omega
  grind
theorem K5 (T:bL) (hT:T.cm.length<=maxLen) (e:bJ) (he:ja e):Pure prog 140 [.agg T.row,.agg e.row] (wI (iM T e)):=by
 have hs:=he.size
 have hd:=TH 4000 e hs
 have ab:=S5 4000 e 1 0 hd he.wide om om om om
 have aa:=TG T hT 4000 e hd he.wide he.dS
 generalize hM:iM T e=M
 unfold iM at hM
 generalize lC T e=k at aa hM
 have ret: ∀(x:Int×Int) (I:St),x=M->cx (some (.cy [.int .i64 x.1,.int .i64 x.2])) 0 (λr s=>r=wI M/\s= []) I:=λx I h=>Eu h
 refine iW 0 func140 ntmps140 results140 λc hc hb=>zM ?_
 simp[go_sem]
 refine mw 2 ab cB rfl (by rfl) ⟨.inl (by simp[go_sem,dI,dN,dj,du]),zC rfl,.inl rfl,tV⟩ (λr I h=>by
  obtain⟨_,m2,rfl,_⟩:=h
  exact⟨_,rfl,rfl⟩) ?_
 rintro r o2 ⟨rfl,m2,h1,h2,h3⟩
 obtain rfl:o2= .box [.int .i64 m2]:=by grind
 by_cases q:ij e<=64
 .rw[aiv q]at hM
  rw[aix om]
  simp[go_sem]
  refine zL aa cB (zP sg (by rw[bJ.bQ];rfl)) rfl ?_
  simp[go_sem,wI]
  exact ret _ _ hM
 .rw[aiu q]at hM
  rw[aiw om]
  simp[go_sem]
  exact ret (0,3) _ hM
end Go.Proofs.YtplackkccmeioaaGreat
