/-
  Contracts of functions that the claimed statement reaches, each proved over trees (the library Vx); used by the theorem at the end of the claim.
  Conditions: as each theorem states them.
-/
import Derived.Test.YtefbicjgbaaieaaGreatQAN
set_option maxHeartbeats 8000000
namespace Go.Vx
open Go
theorem VCalls.loose{P:Program}{f:FuncId}{args:List V}{σ:St}{R R':V->St->Prop}(h:VCalls P f args σ R)(hR:∀r s,R r s->VRet σ.length R' r s):VCalls P f args σ R':=by
 intro w L β ab hm ha;refine(h w L β ab hm ha).mono ?_;rintro e w'⟨v,r,L',σ',β',he,hr,hl,ae,af⟩;obtain⟨v1,σ1,pick,σ2,r2,ag,hp,ah,ai⟩:=hR _ _ hr;obtain⟨L2,β2,aa,_,_,ad,_⟩:=ag.ok ae (xs:=[v]) ⟨af,tV⟩;refine⟨v,r2,L2,σ2,_,he,ai,?_,aa.pick hp hm.len,zx5 (hp.bak aa.len) ah ad⟩;rw[hp.len];rcases Cl pick.length σ.length with aj|ak;.have:=(A1.1 (hp.id pick.length aj)).1;omega
 .exact ak
end Go.Vx
namespace Go.Proofs.YtefbicjgbaaieaaGreat.R
open Go Go.Vx Go.Proofs.Tryz
set_option maxRecDepth 100000
theorem zU5{f:FuncId}{args:List V}{l:List UInt8}(h:VCalls prog f args [] λr s=>r=byA l/\s=stA l):Pure prog f args (bys l):=h.loose λr s q=>by obtain⟨rfl,rfl⟩:=q;have h:wret (some (byA l)) 0 (λr s=>r=bys l/\s=[]) (stA l):=wA zQ ⟨rfl,rfl⟩;obtain⟨x,h1,h2⟩:=h;cases h1;exact h2
def mayF(v:GValue):Bool:=if v.kind=0then decide (v.n=0)&&v.s.isEmpty else if v.kind=1then(decide (v.n=0)||decide (v.n=1))&&v.s.isEmpty else if v.kind=2then v.s.isEmpty else if v.kind=3then decide (v.n=0)&&decide (v.s.length<=64)else false
theorem yp0(v:GValue):Pure prog 177 [.agg v.row] (.bool (mayF v)):=by
 obtain⟨k,n,s⟩:=v;refine iW 0 func177 ntmps177 results177 λc hc hb=>zO ?_;simp[go_sem];have yes:∀(r b:Bool)(σ:St),r=b->wret (some (.bool r)) 0 (λr s=>r=.bool b/\s=[]) σ:=λr b σ h=>by subst h;exact wR
 repeat'(first|(refine zY (λq=>?_) (λq=>?_)<;>simp[go_sem,q])|(refine zN (λq=>?_) (λq=>?_)<;>simp[go_sem,q])|(refine yes _ _ _ ?_))
 all_goals simp_all[mayF]
 omega
theorem zS0(v:GValue):Pure prog 98 [.agg v.row] (.bool (mayF v)):=by
 obtain⟨k,n,s⟩:=v;refine iW 0 func98 ntmps98 results98 λc hc hb=>zO ?_;simp[go_sem];have yes:∀(r b:Bool)(σ:St),r=b->wret (some (.bool r)) 0 (λr s=>r=.bool b/\s=[]) σ:=λr b σ h=>by subst h;exact wR
 repeat'(first|(refine zY (λq=>?_) (λq=>?_)<;>simp[go_sem,q])|(refine zN (λq=>?_) (λq=>?_)<;>simp[go_sem,q])|(refine yes _ _ _ ?_))
 all_goals simp_all[mayF]
 omega
def zb6(v:GValue):List UInt8:=if mayF v=true then UInt8.ofNat v.kind.toNat::(if v.kind=1then[UInt8.ofNat v.n.toNat]else if v.kind=2then varF (zigF v.n)else if v.kind=3then varF v.s.length++v.s else[])else[]
theorem zh2{ρ:Nat->Nat}{g:Tag}{rows rows':List (List V)}(h:rows'=rows):argS ρ (.sl .ro rows') (.sl g rows):=by subst h;exact zQ
theorem zg0{b l:List UInt8}{g:Tag}{rows:List (List V)}{σ:St}(h:zM (b++l)=rows):wret (some (.sl g rows)) 0 (λr s=>r=bys (b++l)/\s=[]) σ:=by subst h;exact wA zQ ⟨rfl,rfl⟩
theorem xH3(b:List UInt8)(v:GValue)(hv:v.ok)(aa:b.length<=maxB-1)(hs:v.s.length<=maxB):Pure prog 224 [bys b,.agg v.row] (bys (b++zb6 v)):=by
 refine iW 0 func224 ntmps224 results224 λc hc hb=>zO ?_;obtain⟨k,n,s⟩:=v;have hn:=hv.n;simp only at hs hn;simp[go_sem,bys,zK];refine zI ⟨by unfold maxB at*;omega,by simp[uni],wB b⟩ ?_;simp[go_sem];refine pC (yp0 ⟨k,n,s⟩) ?_;simp[go_sem];refine zN (λh=>?_) (λh=>?_)
 .simp[go_sem];refine zg0 ?_;have h:mayF ⟨k,n,s⟩=false:=by simpa using h
  simp[zb6,h,zM]
 have h:mayF ⟨k,n,s⟩=true:=by simpa using h
 have hk:k=0∨k=1∨k=2∨k=3:=by
  unfold mayF at h;simp only at h;by_cases h0:k=0;.exact .inl h0
  .by_cases h1:k=1;.exact .inr (.inl h1)
   .by_cases h2:k=2;.exact .inr (.inr (.inl h2))
    .by_cases h3:k=3;.exact .inr (.inr (.inr h3))
     .simp[h0,h1,h2,h3]at h
 simp[go_sem,zK];refine zI ⟨by unfold maxB at*;omega,zV rfl⟩ ?_;have w0:IntKind.u8.wrap 0=0:=by decide+kernel
 have w1:IntKind.u8.wrap 1=1:=by decide+kernel
 have w2:IntKind.u8.wrap 2=2:=by decide+kernel
 have w3:IntKind.u8.wrap 3=3:=by decide+kernel
 rcases hk with rfl|rfl|rfl|rfl;.simp[go_sem];refine zg0 ?_;simp[zb6,h,zM,w0]
 .have h1:n=0∨n=1:=by unfold mayF at h;simp at h;exact h.1
  simp[go_sem];refine zI ⟨zK b,by rw[zK];unfold maxB at*;omega,zV rfl⟩ ?_;simp[go_sem];refine zg0 ?_;rcases h1 with rfl|rfl<;>simp[zb6,h,zM,w0,w1]
 .simp[go_sem];refine pC (wa4 n hn) ?_;simp[go_sem];refine zJ (zU5 (xp3 (b++[2]) (zigF n) (by simp;unfold maxB at*;omega) (yD7 hn))) cB ⟨zh2 (by simp[zM,w2]),zD rfl,tV⟩ rfl ?_;simp[go_sem];refine zg0 ?_;simp[zb6,h]
 .simp[go_sem];refine zJ (zU5 (xT5 (b++[3]) s (by simp;unfold maxB at*;omega) hs)) cB ⟨zh2 (by simp[zM,w3]),zD rfl,tV⟩ rfl ?_;simp[go_sem];refine zg0 ?_;simp[zb6,h]
end Go.Proofs.YtefbicjgbaaieaaGreat.R
namespace Go.Proofs.YtefbicjgbaaieaaGreat.R
open Go Go.Vx Go.Proofs.Tryz
set_option maxRecDepth 100000
structure LightR(row:List GValue):Prop where len:row.length<=20s:∀v∈row,v.s.length<=500ok:∀v∈row,v.ok
variable{i:Nat}{e:Int}{σ:St}{n:Nat}{x:Nat}{g:Tag}
theorem yU4{v:GValue}(hn:i64R v.n)(h:v.s.length<=500):(zb6 v).length<=520:=by unfold zb6;have h1:=zT0 (yD7 hn);have h2:=zT0 (v:=v.s.length) om;(repeat' split)<;>simp<;>omega
theorem yi3:∀{l:List GValue},(∀v∈l,v.s.length<=500)->(∀v∈l,v.ok)->(l.flatMap zb6).length<=520*l.length
 |[],_,_=>by simp|v::l,h,ho=>by have h1:=yU4 (ho v sm).n (h v sm);have h2:=yi3 (l:=l) (λx hx=>h x (by simp[hx])) (λx hx=>ho x (by simp[hx]));simp only[Bm,B2,Ah];omega
def zG1(row:List GValue)(i:Nat):List UInt8:=varF row.length++(row.take i).flatMap zb6
def yN(row:List GValue):List UInt8:=zG1 row row.length
theorem zU7{row:List GValue}(h:LightR row)(i:Nat):(zG1 row i).length<=20000:=by
 have h1:=zT0 (v:=row.length) (by have:=h.len;omega);have h2:=yi3 (l:=row.take i) (λv hv=>h.s v (Bk hv)) (λv hv=>h.ok v (Bk hv));have h3:=h.len;have h4:(row.take i).length<=row.length:=by simp;exact Er _ _
 unfold zG1;rw[B2];omega
theorem yR6{row:List GValue}(h:i<row.length):zG1 row (i+1)=zG1 row i++zb6 row[i]:=by unfold zG1;rw[Dr h,Ed,Bp];simp
theorem xo7(row:List GValue)(h:LightR row):Pure prog 150 [.sl .ro (row.map GValue.row)] (.str (yN row)):=by
 refine iV 0 func150 ntmps150 results150 λc hc hb=>?_;refine zA ?_;have hl:=h.len;have e1:IntKind.u64.wrap (row.length:Int)=(row.length:Int):=u64_id om om;simp[go_sem,e1];refine zJ (zU5 (xp3 [] row.length dc om)) cB ⟨zh2 rfl,zD rfl,tV⟩ rfl ?_;simp[go_sem];refine zH (S:=Nat) [3,10,11,12] (λi=>[bys (zG1 row i),.sl .ro (row.map GValue.row),.int .i64 row.length,.int .i64 i]) (λ_=>[]) (λi=>row.length-i) (λi=>i<=row.length) hc hb 0 (A2 _) ?_ ?_;.exact at_0 rfl (zL (by simp[go_sem,zG1]) rfl)
 intro i hi;refine zA ?_;simp[go_sem];refine zN (λq=>?_) (λq=>?_)
 .have q:i<row.length:=by simpa using q
  obtain⟨v,hv⟩:=eX (row[i]);have hm:v∈row:=hv▸A8 q;simp[go_sem,q,hv];have h2:=zU7 h i;have h3:=h.s v hm;refine pC (xH3 (zG1 row i) v (h.ok v hm) (by unfold maxB;omega) (by unfold maxB;omega)) ?_;simp[go_sem,zS q om];refine zG (i+1) ⟨om,q,at_0 rfl (zL (by simp[go_sem,yR6 q,hv]) rfl)⟩
 .have q:i=row.length:=by
   have:¬i<row.length:=by simpa using q
   omega
  subst q;simp[go_sem,bys];refine zI (xL _) ?_;simp[go_sem,ze3];exact wR
def xF:List UInt8->Nat->Nat->Nat×Nat×Int |[],_,_=>(0,0,2)|c::rest,i,v=>if i=9/\1<c.toNat then(0,0,5)else if c.toNat<128then(if c.toNat=0/\0<i then(0,0,9)else(v+c.toNat%128*128^i,i+1,0))else xF rest (i+1) (v+c.toNat%128*128^i)
def zG8(r:Nat×Nat×Int):V:=.tup [.int .u64 r.1,.int .i64 r.2.1,.int .i64 r.2.2]
theorem yQ8:((List.range 256).all λm=>zf5 .andNot .u8 (m:Int) 128==((m%128:Nat):Int))=true:=by decide+kernel
theorem xo0(c:UInt8):zf5 .andNot .u8 (c.toNat:Int) 128=((c.toNat%128:Nat):Int):=by have h:=Af.1 yQ8 c.toNat (Cj.2 c.toNat_lt);exact beq_iff_eq.1 h
theorem xY9{m:Nat}(hm:m<18446744073709551616)(hn:n<18446744073709551616)(ho:m|||n<18446744073709551616):zf5 .or .u64 (m:Int) (n:Int)=((m|||n:Nat):Int):=by show IntKind.u64.wrap ((BitVec.ofInt 64 (m:Int)|||BitVec.ofInt 64 (n:Int)).toNat:Int)=_;rw[BitVec.ofInt_natCast,BitVec.ofInt_natCast,BitVec.toNat_or,BitVec.toNat_ofNat,BitVec.toNat_ofNat,Cn om,Cn om];exact u64_id om om
theorem xd8(i:Nat):128^i=2^(7*i):=by rw[Nat.pow_mul]
theorem xX3{v:Nat}(hv:v<128^i):v|||(x*128^i)=v+x*128^i:=by rw[xd8]at*;have:=Nat.shiftLeft_add_eq_or_of_lt hv x;rw[Nat.shiftLeft_eq]at this;rw[Nat.or_comm,<-this,E8]
theorem xX6(h:i<=8):128^i<=72057594037927936:=Nat.pow_le_pow_right (n:=128) om h
theorem yc0{v:Nat}(hv:v<128^i)(hx:x<128):v+x*128^i<128^(i+1):=by have:(x+1)*128^i<=128*128^i:=An _ om;rw[Eb];rw[Am]at this;omega
theorem yz4{v:Nat}(hv:v<128^i)(hx:x<128)(h9:i<=8∨i=9/\x<=1):v+x*128^i<18446744073709551616/\x*128^i<18446744073709551616:=by
 rcases h9 with h|⟨rfl,h⟩;.have h1:=yc0 hv hx;have h2:128^(i+1)<=128^9:=Nat.pow_le_pow_right om om;omega
 .have:x=0∨x=1:=om;rcases this with rfl|rfl<;>omega
theorem wT{b:List UInt8}(h:i<(zM b).length):(zM b)[i]=[.int .u8 (b[i]'(by rw[zK]at h;exact h)).toNat]:=by simp[zM]
theorem zU2(b:List UInt8)(ah:b.length<=maxB):Pure prog 147 [bys b] (zG8 (xF b 0 0)):=by
 refine iV 0 func147 ntmps147 results147 λc hc hb=>?_;refine zA ?_;simp[go_sem,bys,zK];refine zH (S:=Nat×Nat) [2,7,8,9] (λu=>[.int .u64 u.2,bys b,.int .i64 b.length,.int .i64 u.1]) (λ_=>[]) (λu=>b.length-u.1) (λu=>u.1<=b.length/\u.1<=9/\u.2<128^u.1/\xF (b.drop u.1) u.1 u.2=xF b 0 0) hc hb (0,0) ⟨A2 _,A2 _,dc,rfl⟩ ?_ ?_;.exact at_0 rfl (zL (by simp[go_sem,bys]) rfl)
 rintro⟨i,v⟩⟨hi,h9,hv,ht⟩;simp only at hi h9 hv ht;refine zA ?_;simp[go_sem,bys];refine zN (λq=>?_) (λq=>?_)
 .have q:i<b.length:=by simpa using q
  obtain⟨c0,ae⟩:∃c,b[i]=c:=⟨_,rfl⟩;rw[A5 q,ae,xF]at ht;have ak:c0.toNat<256:=c0.toNat_lt;have ei:IntKind.i64.wrap ((i:Int)+1)=((i+1:Nat):Int):=zS q (by unfold maxB at ah;omega);have ret:∀(r:Nat×Nat×Int)(σ:St),r=xF b 0 0->wret (some (zG8 r)) 0 (λr s=>r=zG8 (xF b 0 0)/\s=[]) σ:=λr σ h=>by subst h;exact wR
  by_cases hA:i=9/\1<c0.toNat
  .rw[if_pos hA]at ht;simp[go_sem,zK,q,wT,ae];have f1:((i:Int)==9)=true:=by simp;omega
   refine zY (λw=>?_) (λw=>absurd (f1.symm.trans w) dc);simp[go_sem,w];refine zN (λw2=>?_) (λw2=>absurd w2 (by simp;omega));simp[go_sem];exact ret (0,0,5) _ ht
  rw[if_neg hA]at ht;have ai:i<=8∨i=9/\c0.toNat%128<=1:=by
   by_cases h:i=9;.exact .inr ⟨h,by have:¬1<c0.toNat:=λw=>hA ⟨h,w⟩;omega⟩
   .exact .inl om
  have hx:c0.toNat%128<128:=Cy _ om;have n12:=yz4 hv hx ai;have fA:i=9->¬1<c0.toNat:=λh w=>hA ⟨h,w⟩;have a1:=xo0 c0;have e1:IntKind.i64.wrap (7*(i:Int))=7*(i:Int):=i64_id om om;have e2:IntKind.u64.wrap (7*(i:Int))=7*(i:Int):=u64_id om om;have e3:IntKind.u64.wrap ((c0.toNat:Int)%128)=(c0.toNat:Int)%128:=u64_id om om;obtain⟨x,ad⟩:∃x:Nat,x=c0.toNat%128*128^i:=⟨_,rfl⟩;obtain⟨m,af⟩:∃m:Nat,m=v+x:=⟨_,rfl⟩;have ag:m<128^(i+1):=by rw[af,ad];exact yc0 hv hx
  have aj:v|||x=m:=by rw[af,ad];exact xX3 hv
  rw[<-ad,<-af]at ht n12;have e4:IntKind.u64.wrap ((c0.toNat:Int)%128*2^min (7*(i:Int)).toNat 64)=(x:Int):=by
   have:min (7*(i:Int)).toNat 64=7*i:=om;rw[this];have h3:(c0.toNat:Int)%128*2^(7*i)=(x:Int):=by rw[ad,xd8];simp
   rw[h3,u64_id om om]
  have e5:zf5 .or .u64 (v:Int) (x:Int)=(m:Int):=by rw[xY9 om om om,aj]
  simp[go_sem,zK,q,wT,ae];refine zY (λw=>?_) (λw=>?_)
  .have w9:i=9:=by simp at w;omega
   have w1:=fA w9;simp[go_sem,w];refine zN (λw2=>absurd w2 (by simp;omega)) (λw2=>?_);simp[go_sem,a1,e1,e2,e3,e4,e5];try(refine zI om ?_;simp[go_sem,a1,e1,e2,e3,e4,e5])
   refine zN (λw3=>?_) (λw3=>?_)
   .have w4:¬c0.toNat<128:=by have:=of_decide_eq_true w3;omega
    have i8:i+1<=9:=om;rw[if_neg w4]at ht;simp[go_sem,ei];exact zG (i+1,m) ⟨by simp only;omega,⟨q,i8,ag,ht⟩,at_0 rfl (zL (by simp[go_sem,bys,ei]) rfl)⟩
   .have w4:c0.toNat<128:=by have:=of_decide_eq_false w3;omega
    rw[if_pos w4]at ht;simp[go_sem];refine zY (λw5=>?_) (λw5=>?_)
    .have aa:c0.toNat=0:=by simp at w5;omega
     simp[go_sem,w5];refine zN (λw6=>?_) (λw6=>?_)
     .have ab:0<i:=by simpa using w6
      rw[if_pos ⟨aa,ab⟩]at ht;simp[go_sem];exact ret (0,0,9) _ ht
     .have ab:¬0<i:=by simpa using w6
      rw[if_neg (λh=>ab h.2)]at ht;simp[go_sem,ei];exact ret (m,i+1,0) _ ht
    .have aa:¬c0.toNat=0:=by simp at w5;omega
     rw[if_neg (λh=>aa h.1)]at ht;simp[go_sem,w5,ei];exact ret (m,i+1,0) _ ht
  .have w9:¬i=9:=by simp at w;omega
   simp[go_sem,w,a1,e1,e2,e3,e4,e5];try(refine zI om ?_;simp[go_sem,a1,e1,e2,e3,e4,e5])
   refine zN (λw3=>?_) (λw3=>?_)
   .have w4:¬c0.toNat<128:=by have:=of_decide_eq_true w3;omega
    have i8:i+1<=9:=om;rw[if_neg w4]at ht;simp[go_sem,ei];exact zG (i+1,m) ⟨by simp only;omega,⟨q,i8,ag,ht⟩,at_0 rfl (zL (by simp[go_sem,bys,ei]) rfl)⟩
   .have w4:c0.toNat<128:=by have:=of_decide_eq_false w3;omega
    rw[if_pos w4]at ht;simp[go_sem];refine zY (λw5=>?_) (λw5=>?_)
    .have aa:c0.toNat=0:=by simp at w5;omega
     simp[go_sem,w5];refine zN (λw6=>?_) (λw6=>?_)
     .have ab:0<i:=by simpa using w6
      rw[if_pos ⟨aa,ab⟩]at ht;simp[go_sem];exact ret (0,0,9) _ ht
     .have ab:¬0<i:=by simpa using w6
      rw[if_neg (λh=>ab h.2)]at ht;simp[go_sem,ei];exact ret (m,i+1,0) _ ht
    .have aa:¬c0.toNat=0:=by simp at w5;omega
     rw[if_neg (λh=>aa h.1)]at ht;simp[go_sem,w5,ei];exact ret (m,i+1,0) _ ht
 .have q:i=b.length:=by
   have:¬i<b.length:=by simpa using q
   omega
  subst q;rw[C6,xF]at ht;simp[go_sem];rw[<-ht];exact wR
theorem zF2(b:List UInt8)(ag:b.length<=maxB):Pure prog 45 [bys b] (zG8 (xF b 0 0)):=by
 refine iV 0 func45 ntmps45 results45 λc hc hb=>?_;refine zA ?_;simp[go_sem,bys,zK];refine zH (S:=Nat×Nat×Nat) [0,5,6,7] (λu=>[bys b,.int .u64 u.2.1,.int .u64 u.2.2,.int .i64 u.1]) (λ_=>[]) (λu=>b.length-u.1) (λu=>u.1<=b.length/\u.1<=9/\u.2.1<128^u.1/\u.2.2=128^u.1/\xF (b.drop u.1) u.1 u.2.1=xF b 0 0) hc hb (0,0,1) ⟨A2 _,A2 _,dc,rfl,rfl⟩ ?_ ?_;.exact at_0 rfl (zL (by simp[go_sem,bys]) rfl)
 rintro⟨i,v,p⟩⟨hi,h9,hv,hp,ht⟩;simp only at hi h9 hv hp ht;refine zA ?_;have f0:decide ((i:Int)<10)=true:=decide_eq_true om;simp[go_sem,bys,zK];refine zN (λq0=>?_) (λq0=>absurd (f0.symm.trans q0) dc);simp[go_sem,zK];refine zN (λq=>?_) (λq=>?_)
 .have q:i=b.length:=by have:=of_decide_eq_true q;omega
  subst q;rw[C6,xF]at ht;simp[go_sem];rw[<-ht];exact wR
 .have q:i<b.length:=by have:=of_decide_eq_false q;omega
  obtain⟨c0,aa⟩:∃c,b[i]=c:=⟨_,rfl⟩;rw[A5 q,aa,xF]at ht;have ak:c0.toNat<256:=c0.toNat_lt;have ei:IntKind.i64.wrap ((i:Int)+1)=((i+1:Nat):Int):=zS q (by unfold maxB at ag;omega);have ret:∀(r:Nat×Nat×Int)(σ:St),r=xF b 0 0->wret (some (zG8 r)) 0 (λr s=>r=zG8 (xF b 0 0)/\s=[]) σ:=λr σ h=>by subst h;exact wR
  by_cases hA:i=9/\1<c0.toNat
  .rw[if_pos hA]at ht;have f1:((i:Int)==9)=true:=by simp;omega
   simp[go_sem];refine zY (λw=>?_) (λw=>absurd (f1.symm.trans w) dc);simp[go_sem,w,zK,q,wT,aa];refine zN (λw2=>?_) (λw2=>absurd w2 (by simp;omega));simp[go_sem];exact ret (0,0,5) _ ht
  rw[if_neg hA]at ht;have ah:i<=8∨i=9/\c0.toNat%128<=1:=by
   by_cases h:i=9;.exact .inr ⟨h,by have:¬1<c0.toNat:=λw=>hA ⟨h,w⟩;omega⟩
   .exact .inl om
  have hx:c0.toNat%128<128:=Cy _ om;have n12:=yz4 hv hx ah;have fA:i=9->¬1<c0.toNat:=λh w=>hA ⟨h,w⟩;obtain⟨x,ae⟩:∃x:Nat,x=c0.toNat%128*128^i:=⟨_,rfl⟩;obtain⟨m,af⟩:∃m:Nat,m=v+x:=⟨_,rfl⟩;have ai:m<128^(i+1):=by rw[af,ae];exact yc0 hv hx
  rw[<-ae,<-af]at ht n12;have e0:(c0.toNat:Int).tmod 128=(c0.toNat:Int)%128:=E1 om;have e3:IntKind.u64.wrap ((c0.toNat:Int)%128)=(c0.toNat:Int)%128:=u64_id om om;have e4:IntKind.u64.wrap ((c0.toNat:Int)%128*(p:Int))=(x:Int):=by
   have h3:(c0.toNat:Int)%128*(p:Int)=(x:Int):=by rw[ae,hp];simp
   rw[h3,u64_id om om]
  have e5:IntKind.u64.wrap ((v:Int)+(x:Int))=(m:Int):=by rw[show(v:Int)+(x:Int)=(m:Int)by omega,u64_id om om]
  have e6:i≠9->IntKind.u64.wrap ((p:Int)*128)=((p*128:Nat):Int):=λh=>by have h1:128^i<=72057594037927936:=xX6 om;rw[u64_id om om];omega
  have aj:p*128=128^(i+1):=by rw[hp,Eb]
  simp[go_sem];refine zY (λw=>?_) (λw=>?_)
  .have w9:i=9:=by simp at w;omega
   have w1:=fA w9;simp[go_sem,w,zK,q,wT,aa];refine zN (λw2=>absurd w2 (by simp;omega)) (λw2=>?_);simp[go_sem,zK,q,wT,aa,e0,e3,e4,e5];refine zN (λw3=>?_) (λw3=>?_)
   .have w4:c0.toNat<128:=by have:=of_decide_eq_true w3;omega
    rw[if_pos w4]at ht;simp[go_sem,zK,q,wT,aa];refine zY (λw5=>?_) (λw5=>?_)
    .have ab:c0.toNat=0:=by simp at w5;omega
     simp[go_sem,w5];refine zN (λw6=>?_) (λw6=>?_)
     .have ad:0<i:=by simpa using w6
      rw[if_pos ⟨ab,ad⟩]at ht;simp[go_sem];exact ret (0,0,9) _ ht
     .have ad:¬0<i:=by simpa using w6
      rw[if_neg (λh=>ad h.2)]at ht;simp[go_sem,ei];exact ret (m,i+1,0) _ ht
    .have ab:¬c0.toNat=0:=by simp at w5;omega
     rw[if_neg (λh=>ab h.1)]at ht;simp[go_sem,w5,ei];exact ret (m,i+1,0) _ ht
   .have w4:¬c0.toNat<128:=by have:=of_decide_eq_false w3;omega
    omega
  .have w9:¬i=9:=by simp at w;omega
   simp[go_sem,w,zK,q,wT,aa,e0,e3,e4,e5];refine zN (λw3=>?_) (λw3=>?_)
   .have w4:c0.toNat<128:=by have:=of_decide_eq_true w3;omega
    rw[if_pos w4]at ht;simp[go_sem,zK,q,wT,aa];refine zY (λw5=>?_) (λw5=>?_)
    .have ab:c0.toNat=0:=by simp at w5;omega
     simp[go_sem,w5];refine zN (λw6=>?_) (λw6=>?_)
     .have ad:0<i:=by simpa using w6
      rw[if_pos ⟨ab,ad⟩]at ht;simp[go_sem];exact ret (0,0,9) _ ht
     .have ad:¬0<i:=by simpa using w6
      rw[if_neg (λh=>ad h.2)]at ht;simp[go_sem,ei];exact ret (m,i+1,0) _ ht
    .have ab:¬c0.toNat=0:=by simp at w5;omega
     rw[if_neg (λh=>ab h.1)]at ht;simp[go_sem,w5,ei];exact ret (m,i+1,0) _ ht
   .have w4:¬c0.toNat<128:=by have:=of_decide_eq_false w3;omega
    have i8:i+1<=9:=om;have e7:=e6 w9;rw[if_neg w4]at ht;simp[go_sem];exact zG (i+1,m,p*128) ⟨by simp only;omega,⟨q,i8,ai,aj,ht⟩,at_0 rfl (zL (by simp[go_sem,bys,ei,e7]) rfl)⟩
theorem zo8:∀(l:List UInt8)(i v:Nat),(xF l i v).2.2=0->(xF l i v).2.1<=i+l.length
 |[],i,v,h=>by simp[xF]at h|c::rest,i,v,h=>by
  unfold xF at h⊢;split;.simp_all
  .rename_i h1;rw[if_neg h1]at h;split
   .rename_i h2;rw[if_pos h2]at h;split;.rename_i h3;rw[if_pos h3]at h;simp at h
    .simp
   .rename_i h2;rw[if_neg h2]at h;have:=zo8 rest (i+1) _ h;simp only[Ah];omega
def yD(b:List UInt8)(r:Nat×Nat×Int):List UInt8×Nat×Int:=if r.2.2≠0then([],0,r.2.2)else if 1048576<r.1then([],0,3)else if b.length-r.2.1<r.1then([],0,2)else((b.take (r.2.1+r.1)).drop r.2.1,r.2.1+r.1,0)
def wS(b:List UInt8):List UInt8×Nat×Int:=yD b (xF b 0 0)
def zW7(r:List UInt8×Nat×Int):V:=.tup [bys r.1,.int .i64 r.2.1,.int .i64 r.2.2]
theorem zJ7{r:List UInt8×Nat×Int}{rows:List (List V)}(h1:zM r.1=rows)(h2:r.2.1=n)(h3:r.2.2=e):wret (some (.tup [.sl g rows,.int .i64 n,.int .i64 e])) 0 (λv s=>v=zW7 r/\s=[]) σ:=by subst h1 h2 h3;have h:argS (ren [] σ.length) (zW7 r) (.tup [.sl g (zM r.1),.int .i64 r.2.1,.int .i64 r.2.2]):=wF ⟨zt7,zb4 rfl,zb4 rfl,tV⟩;exact wA h ⟨rfl,rfl⟩
theorem yQ7(b:List UInt8)(ab:b.length<=maxB):Pure prog 222 [bys b] (zW7 (wS b)):=by
 have hle:=zo8 b 0 0;have aa:=zU2 b ab;unfold wS;revert hle aa;generalize xF b 0 0=r;obtain⟨n,k,e⟩:=r;intro hle aa;simp only at hle;refine iW 0 func222 ntmps222 results222 λc hc hb=>zO ?_;simp[go_sem];refine pC aa ?_;simp[go_sem,zG8];refine zN (λh=>?_) (λh=>?_)
 .have h:e≠0:=by simpa using h
  simp[go_sem];exact zJ7 (by simp[yD,h,zM]) (by simp[yD,h]) (by simp[yD,h])
 have h:e=0:=by simpa using h
 have hk:=hle h;have e1:IntKind.i64.wrap ((b.length:Int)-(k:Int))=((b.length-k:Nat):Int):=by rw[i64_id (by unfold maxB at*;omega) (by unfold maxB at*;omega)];omega
 have e2:IntKind.u64.wrap ((b.length-k:Nat):Int)=((b.length-k:Nat):Int):=u64_id om (by unfold maxB at*;omega);simp[go_sem];refine zN (λh2=>?_) (λh2=>?_)
 .have h2:1048576<n:=by have:=of_decide_eq_true h2;omega
  simp[go_sem];exact zJ7 (by simp[yD,h,h2,zM]) (by simp[yD,h,h2]) (by simp[yD,h,h2])
 have h2:¬1048576<n:=by have:=of_decide_eq_false h2;omega
 simp[go_sem,bys,zK,e1,e2];refine zN (λh3=>?_) (λh3=>?_)
 .have h3:b.length-k<n:=by have:=of_decide_eq_true h3;omega
  simp[go_sem];exact zJ7 (by simp[yD,h,h2,h3,zM]) (by simp[yD,h,h2,h3]) (by simp[yD,h,h2,h3])
 have h3:¬b.length-k<n:=by have:=of_decide_eq_false h3;omega
 have e3:IntKind.i64.wrap (n:Int)=(n:Int):=i64_id om om;have e4:IntKind.i64.wrap ((k:Int)+(n:Int))=((k+n:Nat):Int):=by rw[i64_id (by unfold maxB at*;omega) (by unfold maxB at*;omega)];omega
 simp[go_sem,zK,e3,e4];refine zI ⟨om,om,wB b⟩ ?_;have e5:((k:Int)+(n:Int)).toNat=k+n:=om;have hlen:((b.take (k+n)).drop k).length<=maxB:=by simp;omega
 simp[go_sem,e5];refine zT6 (yV4 ((b.take (k+n)).drop k) 0 hlen dc) cB ⟨zh2 (by simp[zM,List.map_take,List.map_drop]),zD rfl,tV⟩ ?_;rintro r s⟨rfl,rfl⟩;simp[go_sem,byA,stA];exact zJ7 (by simp[yD,h,h2,h3]) (by simp[yD,h,h2,h3]) (by simp[yD,h,h2,h3])
theorem yo5(b:List UInt8)(ae:b.length<=maxB):Pure prog 97 [bys b] (zW7 (wS b)):=by
 have hle:=zo8 b 0 0;have ab:=zF2 b ae;unfold wS;revert hle ab;generalize xF b 0 0=r;obtain⟨n,k,e⟩:=r;intro hle ab;simp only at hle;refine iW 0 func97 ntmps97 results97 λc hc hb=>zO ?_;simp[go_sem];refine pC ab ?_;simp[go_sem,zG8];refine zN (λh=>?_) (λh=>?_)
 .have h:e≠0:=by simpa using h
  simp[go_sem];exact zJ7 (by simp[yD,h,zM]) (by simp[yD,h]) (by simp[yD,h])
 have h:e=0:=by simpa using h
 have hk:=hle h;have e1:IntKind.i64.wrap ((b.length:Int)-(k:Int))=((b.length-k:Nat):Int):=by rw[i64_id (by unfold maxB at*;omega) (by unfold maxB at*;omega)];omega
 simp[go_sem];refine zN (λh2=>?_) (λh2=>?_)
 .have h2:1048576<n:=by have:=of_decide_eq_true h2;omega
  simp[go_sem];exact zJ7 (by simp[yD,h,h2,zM]) (by simp[yD,h,h2]) (by simp[yD,h,h2])
 have h2:¬1048576<n:=by have:=of_decide_eq_false h2;omega
 have e3:IntKind.i64.wrap (n:Int)=(n:Int):=i64_id om om;simp[go_sem,bys,zK,e1,e3];refine zN (λh3=>?_) (λh3=>?_)
 .have h3:b.length-k<n:=by have:=of_decide_eq_true h3;omega
  simp[go_sem];exact zJ7 (by simp[yD,h,h2,h3,zM]) (by simp[yD,h,h2,h3]) (by simp[yD,h,h2,h3])
 have h3:¬b.length-k<n:=by have:=of_decide_eq_false h3;omega
 have e4:IntKind.i64.wrap ((k:Int)+(n:Int))=((k+n:Nat):Int):=by rw[i64_id (by unfold maxB at*;omega) (by unfold maxB at*;omega)];omega
 have e5:((k:Int)+(n:Int)).toNat=k+n:=om;have hlen:((b.take (k+n)).drop k).length<=maxB:=by simp;omega
 have ad:(zM b).take (k+n)=zM (b.take (k+n)):=by simp[zM,List.map_take]
 have aa:(zM (b.take (k+n))).drop k=zM ((b.take (k+n)).drop k):=by simp[zM,List.map_drop]
 simp[go_sem,zK,e3,e4];refine zI ⟨om,om,wB b⟩ ?_;simp[go_sem,e5,ad,aa,zK];refine zI ⟨by have:=Er (k+n) b.length;unfold maxB at*;omega,by simp[uni],wB _⟩ ?_;simp[go_sem,e3,e4];exact zJ7 (by simp[yD,h,h2,h3]) (by simp[yD,h,h2,h3]) (by simp[yD,h,h2,h3])
def zagF(u:Nat):Int:=if u%2=0then((u/2:Nat):Int)else-((u/2:Nat):Int)-1
theorem xB2(u:Nat)(hu:u<18446744073709551616):Pure prog 96 [.int .u64 u] (.int .i64 (zagF u)):=by
 have e0:(u:Int).tmod 2=(u:Int)%2:=E1 om;have e1:(u:Int).tdiv 2=(u:Int)/2:=E0 om;have e2:IntKind.u64.wrap ((u:Int)/2)=(u:Int)/2:=u64_id om om;have e3:IntKind.i64.wrap ((u:Int)/2)=(u:Int)/2:=i64_id om om;have e4:IntKind.i64.wrap (-((u:Int)/2))=-((u:Int)/2):=i64_id om om;have e5:IntKind.i64.wrap (-((u:Int)/2)-1)=-((u:Int)/2)-1:=i64_id om om;refine iW 0 func96 ntmps96 results96 λc hc hb=>zO ?_;simp[go_sem,e0];refine zN (λh=>?_) (λh=>?_)
 .have h:u%2=0:=by
   have:(u:Int)%2=0:=by simpa using h
   omega
  simp[go_sem,e1,e2,e3];exact wA (zD rfl) ⟨by simp[zagF,h],rfl⟩
 .have h:¬u%2=0:=by
   have:¬(u:Int)%2=0:=by simpa using h
   omega
  simp[go_sem,e1,e2,e3,e4,e5];exact wA (zD rfl) ⟨by simp[zagF,h],rfl⟩
structure TakeR where
 v:GValue
 n:Nat
 e:Int
def TakeR.V(r:TakeR):V:=.tup [.agg r.v.row,.int .i64 r.n,.int .i64 r.e]
def v0:GValue:=⟨0,0,[]⟩
def za1(b:List UInt8):TakeR:=if b.length<2then⟨v0,0,2⟩else if 1<(b.getD 1 0).toNat then⟨v0,0,9⟩else⟨⟨1,(b.getD 1 0).toNat,[]⟩,2,0⟩
theorem xA{r:TakeR}{k m:Int}{s:List UInt8}(h:r=⟨⟨k,m,s⟩,n,e⟩):wret (some (.tup [.agg [.int .i64 k,.int .i64 m,.str s],.int .i64 n,.int .i64 e])) 0 (λv s=>v=r.V/\s=[]) σ:=by subst h;exact wR
theorem yW7(b:List UInt8)(ad:b.length<=maxB):Pure prog 220 [bys b] (za1 b).V:=by
 refine iW 0 func220 ntmps220 results220 λc hc hb=>zO ?_;simp[go_sem,bys,zK];refine zN (λh=>?_) (λh=>?_)
 .have h:b.length<2:=by have:=of_decide_eq_true h;omega
  simp[go_sem];exact xA (n:=0) (by simp[za1,h,v0])
 have h:¬b.length<2:=by have:=of_decide_eq_false h;omega
 have h1:1<b.length:=om;obtain⟨c0,aa⟩:∃c,b[1]=c:=⟨_,rfl⟩;have ab:b.getD 1 0=c0:=by rw[A7,A0 h1,aa];rfl
 have e1:IntKind.i64.wrap (c0.toNat:Int)=(c0.toNat:Int):=i64_id om (by have:=c0.toNat_lt;omega);simp[go_sem,zK,h1,wT,aa];refine zI om ?_;simp[go_sem];refine zN (λh2=>?_) (λh2=>?_)
 .have h2:1<c0.toNat:=by have:=of_decide_eq_true h2;omega
  simp[go_sem];exact xA (n:=0) (by simp only[za1,ab];rw[if_neg h,if_pos h2];rfl)
 .have h2:¬1<c0.toNat:=by have:=of_decide_eq_false h2;omega
  simp[go_sem,zK,h1,wT,aa,e1];refine zI om ?_;simp[go_sem,e1];exact xA (n:=2) (by simp only[za1,ab];rw[if_neg h,if_neg h2])
theorem xZ6{x:Int}(h:0<=x)(h2:x<=9223372036854775807):zf5 .xor .i64 x 0=x:=by obtain⟨m,rfl⟩:=Ef h;show IntKind.i64.wrap ((BitVec.ofInt 64 (m:Int)^^^BitVec.ofInt 64 0).toNat:Int)=m;have e:BitVec.ofInt 64 (0:Int)=0#64:=rfl;rw[e,BitVec.xor_zero,BitVec.ofInt_natCast,BitVec.toNat_ofNat,Cn om];exact i64_id om om
theorem xZ7{x:Int}(h:0<=x)(h2:x<=9223372036854775807):zf5 .xor .i64 x (-1)=-x-1:=by
 obtain⟨m,rfl⟩:=Ef h;show IntKind.i64.wrap ((BitVec.ofInt 64 (m:Int)^^^BitVec.ofInt 64 (-1)).toNat:Int)=_;have e:BitVec.ofInt 64 (-1:Int)=BitVec.allOnes 64:=by decide+kernel
 rw[e,BitVec.xor_allOnes,BitVec.ofInt_natCast,BitVec.toNat_not,BitVec.toNat_ofNat,Cn om];rw[IntKind.wrap_i64];omega
theorem wa5{m:Nat}(h:m<18446744073709551616):zf5 .and .u64 (m:Int) 1=(m:Int)%2:=by show IntKind.u64.wrap ((BitVec.ofInt 64 (m:Int)&&&BitVec.ofInt 64 1).toNat:Int)=_;have e:BitVec.ofInt 64 (1:Int)=1#64:=rfl;rw[e,BitVec.ofInt_natCast,BitVec.toNat_and,BitVec.toNat_ofNat,Cn om];have e2:m&&&(1#64).toNat=m%2:=Nat.and_one_is_mod m;rw[e2,u64_id om om];omega
theorem wa3(u:Nat)(hu:u<18446744073709551616):Pure prog 221 [.int .u64 u] (.int .i64 (zagF u)):=by
 have e0:=wa5 hu;have e1:(u:Int).fdiv 2=(u:Int)/2:=Ct _ om;have e3:IntKind.i64.wrap ((u:Int)/2)=(u:Int)/2:=i64_id om om;have e4:IntKind.i64.wrap ((u:Int)%2)=(u:Int)%2:=i64_id om om;have e5:IntKind.i64.wrap (-((u:Int)%2))=-((u:Int)%2):=i64_id om om;have e6:zf5 .xor .i64 ((u:Int)/2) (-((u:Int)%2))=zagF u:=by
  unfold zagF;by_cases h:u%2=0;.rw[if_pos h,show-((u:Int)%2)=0 by omega,xZ6 om om];omega
  .rw[if_neg h,show-((u:Int)%2)=-1by omega,xZ7 om om];omega
 refine iW 0 func221 ntmps221 results221 λc hc hb=>zO ?_;simp[go_sem,e0,e1,e3,e4,e5,e6];exact wR
theorem zC1:∀(l:List UInt8)(i v:Nat),v<128^i->i<=9->(xF l i v).1<18446744073709551616
 |[],i,v,_,_=>by simp[xF]|c::rest,i,v,hv,h9=>by
  have hc:=c.toNat_lt;unfold xF;split;.simp
  .rename_i h1;have aa:i<=8∨i=9/\c.toNat%128<=1:=by
    by_cases h:i=9;.exact .inr ⟨h,by have:¬1<c.toNat:=λw=>h1 ⟨h,w⟩;omega⟩
    .exact .inl om
   have hx:c.toNat%128<128:=Cy _ om;have n12:=yz4 hv hx aa;split
   .split;.simp
    .exact n12.1
   .rename_i h2;refine zC1 rest (i+1) _ (yc0 hv hx) ?_;rcases aa with h|h;.omega
    .exfalso;have:¬1<c.toNat:=λw=>h1 ⟨h.1,w⟩;omega
def zc4(k:Nat)(tb:TakeR)(r:Nat×Nat×Int)(t:List UInt8×Nat×Int):TakeR:=if k=0then⟨v0,1,0⟩else if k=1then tb else if k=2then(if r.2.2≠0then⟨v0,0,r.2.2⟩else⟨⟨2,zagF r.1,[]⟩,1+r.2.1,0⟩)else if k=3then(if t.2.2≠0then⟨v0,0,t.2.2⟩else if 64<t.1.length then⟨v0,0,3⟩else⟨⟨3,0,t.1⟩,1+t.2.1,0⟩)else⟨v0,0,9⟩
def zf4:List UInt8->TakeR|[]=>⟨v0,0,2⟩|c::rest=>zc4 c.toNat (za1 (c::rest)) (xF rest 0 0) (wS rest)
theorem zJ5(b:List UInt8):(wS b).2.1<=b.length/\((wS b).2.2=0->(wS b).1.length<=b.length):=by
 have hle:=zo8 b 0 0;unfold wS yD;revert hle;generalize xF b 0 0=r;obtain⟨n,k,e⟩:=r;intro hle;simp only at hle⊢;split;.simp
 .rename_i h;have h:e=0:=Decidable.not_not.1 h;have hk:=hle h;split;.simp
  .split;.simp
   .refine⟨?_,λ_=>?_⟩;.simp only;omega
    .simp;omega
theorem xT4(b:List UInt8)(ah:b.length<=maxB):Pure prog 148 [bys b] (zf4 b).V:=by cases b with |nil=>refine iW 0 func148 ntmps148 results148 λc hc hb=>zO ?_;simp[go_sem,bys,zM];exact xA (n:=0) rfl|cons c0 rest=>
  have hc:=c0.toNat_lt;have hr:rest.length<=maxB:=by simp only[Ah]at ah;omega
  have ab:=zC1 rest 0 0 dc dc;have hle:=zo8 rest 0 0;have ad:=zU2 rest hr;have ae:=yQ7 rest hr;have af:=zJ5 rest;have ag:=yW7 (c0::rest) ah;have e1:IntKind.i64.wrap (c0.toNat:Int)=(c0.toNat:Int):=i64_id om om;have aa:zM (c0::rest)=[.int .u8 c0.toNat]::zM rest:=rfl;rw[zf4];revert ab hle ad ae ag af;generalize xF rest 0 0=r;generalize wS rest=t;generalize za1 (c0::rest)=tb;obtain⟨n,k,e⟩:=r;obtain⟨tx,tk,te⟩:=t;obtain⟨⟨bk,bn,bs⟩,bm,be⟩:=tb;obtain⟨q,hq⟩:=eX c0.toNat;intro ab hle ad ae af ag;simp only at ab hle af;rw[hq]at hc e1 aa⊢;have e2:e=0->IntKind.i64.wrap (1+(k:Int))=((1+k:Nat):Int):=λh=>by have:=hle h;rw[i64_id om (by unfold maxB at*;omega)];omega
  have e3:IntKind.i64.wrap (1+(tk:Int))=((1+tk:Nat):Int):=by rw[i64_id om (by unfold maxB at*;omega)];omega
  have e4:(zM rest).take rest.length=zM rest:=Av (by rw[zK];omega);have hu:uni 1 ([V.int .u8 (q:Int)]::zM rest):=aa▸wB (c0::rest);refine iW 0 func148 ntmps148 results148 λc hc hb=>zO ?_;simp[go_sem,bys,aa,zK];refine zN (λw=>absurd w (by simp;omega)) (λw=>?_);simp[go_sem,aa,zK,e1];refine zN (λw1=>?_) (λw1=>?_)
  .have w1:q=0:=by simp at w1;omega
   simp[go_sem];exact xA (n:=1) (by simp[zc4,w1,v0])
  have w1:¬q=0:=by simp at w1;omega
  simp[go_sem];refine zN (λw2=>?_) (λw2=>?_)
  .have w2:q=1:=by simp at w2;omega
   simp[go_sem];refine zJ ag cB (zL (by simp[bys,aa]) rfl) rfl ?_;simp[go_sem,TakeR.V];exact xA (n:=bm) (by simp[zc4,w2])
  have w2:¬q=1:=by simp at w2;omega
  simp[go_sem];refine zN (λw3=>?_) (λw3=>?_)
  .have w3:q=2:=by simp at w3;omega
   simp[go_sem,aa,zK];refine zI ⟨om,hu⟩ ?_;simp[go_sem,e4];refine pC ad ?_;simp[go_sem,zG8];refine zN (λw4=>?_) (λw4=>?_)
   .have w4:e≠0:=by simpa using w4
    simp[go_sem];exact xA (n:=0) (by simp[zc4,w3,w4,v0])
   have w4:e=0:=by simpa using w4
   have e5:=e2 w4;simp[go_sem];refine pC (wa3 n ab) ?_;simp[go_sem,e5];exact xA (n:=1+k) (by simp[zc4,w3,w4])
  have w3:¬q=2:=by simp at w3;omega
  simp[go_sem];refine zN (λw4=>?_) (λw4=>?_)
  .have w4:q=3:=by simp at w4;omega
   simp[go_sem,aa,zK];refine zI ⟨om,hu⟩ ?_;simp[go_sem,e4];refine pC ae ?_;simp[go_sem,zW7,bys,zK];refine zN (λw5=>?_) (λw5=>?_)
   .have w5:te≠0:=by simpa using w5
    simp[go_sem];exact xA (n:=0) (by simp[zc4,w4,w5,v0])
   have w5:te=0:=by simpa using w5
   simp[go_sem,zK];refine zN (λw6=>?_) (λw6=>?_)
   .have w6:64<tx.length:=by have:=of_decide_eq_true w6;omega
    simp[go_sem];exact xA (n:=0) (by simp[zc4,w4,w5,w6,v0])
   have w6:¬64<tx.length:=by have:=of_decide_eq_false w6;omega
   simp[go_sem];refine zI (xL _) ?_;simp[go_sem,e3,ze3];exact xA (n:=1+tk) (by simp[zc4,w4,w5,w6])
  have w4:¬q=3:=by simp at w4;omega
  simp[go_sem];exact xA (n:=0) (by simp[zc4,w1,w2,w3,w4,v0])
theorem yA6(c0:UInt8)(rest:List UInt8)(ae:(c0::rest).length<=maxB)(ad:c0.toNat<=1):Pure prog 95 [bys (c0::rest)] (zc4 c0.toNat (za1 (c0::rest)) (xF rest 0 0) (wS rest)).V:=by
 have aa:zM (c0::rest)=[.int .u8 c0.toNat]::zM rest:=rfl;have hl:(c0::rest).length=rest.length+1:=rfl;obtain⟨q,hq⟩:=eX c0.toNat;rw[hq]at aa ad⊢;refine iW 0 func95 ntmps95 results95 λc hc hb=>zO ?_;simp[go_sem,bys,aa,zK];refine zN (λw=>absurd w (by simp;omega)) (λw=>?_);simp[go_sem,aa,zK];refine zN (λw1=>?_) (λw1=>?_)
 .have w1:q=0:=by simp at w1;omega
  simp[go_sem];exact xA (n:=1) (by simp[zc4,w1,v0])
 have w1:¬q=0:=by simp at w1;omega
 have ab:q=1:=om;simp[go_sem];refine zN (λw2=>?_) (λw2=>absurd w2 (by simp;omega));simp[go_sem,aa,zK];refine zN (λh=>?_) (λh=>?_)
 .have h:(c0::rest).length<2:=by have:=of_decide_eq_true h;omega
  simp[go_sem];exact xA (n:=0) (by simp only[zc4,ab,za1];rw[if_pos h];rfl)
 have h:¬(c0::rest).length<2:=by have:=of_decide_eq_false h;omega
 have h1:0<rest.length:=om;have e9:∀x:UInt8,IntKind.i64.wrap (x.toNat:Int)=(x.toNat:Int):=λx=>i64_id om (by have:=x.toNat_lt;omega);have hg:(c0::rest).getD 1 0=rest[0]:=by rw[List.getD_cons_succ,A7,A0 h1];rfl
 simp[go_sem,aa,zK,h1,wT];try(refine zI om ?_;simp[go_sem])
 refine zN (λh2=>?_) (λh2=>?_)
 .have h2:1<(rest[0]).toNat:=by have:=of_decide_eq_true h2;omega
  simp[go_sem];exact xA (n:=0) (by simp only[zc4,ab,za1,hg];rw[if_neg h,if_pos h2];rfl)
 have h2:¬1<(rest[0]).toNat:=by have:=of_decide_eq_false h2;omega
 simp[go_sem,aa,zK,h1,wT,e9];try(refine zI om ?_;simp[go_sem,e9])
 exact xA (n:=2) (by simp only[zc4,ab,za1,hg];rw[if_neg h,if_neg h2];rfl)
theorem xm7(b:List UInt8)(ai:b.length<=maxB):Pure prog 46 [bys b] (zf4 b).V:=by cases b with |nil=>refine iW 0 func46 ntmps46 results46 λc hc hb=>zO ?_;simp[go_sem,bys,zM];exact xA (n:=0) rfl|cons c0 rest=>
  have hc:=c0.toNat_lt;have hr:rest.length<=maxB:=by simp only[Ah]at ai;omega
  have ae:=zC1 rest 0 0 dc dc;have hle:=zo8 rest 0 0;have af:=zF2 rest hr;have ag:=yo5 rest hr;have ah:=zJ5 rest;have ad:=yA6 c0 rest ai;have e1:IntKind.i64.wrap (c0.toNat:Int)=(c0.toNat:Int):=i64_id om om;have aa:zM (c0::rest)=[.int .u8 c0.toNat]::zM rest:=rfl;rw[zf4];revert ae hle af ag ad ah;generalize xF rest 0 0=r;generalize wS rest=t;generalize za1 (c0::rest)=tb;obtain⟨n,k,e⟩:=r;obtain⟨tx,tk,te⟩:=t;obtain⟨⟨bk,bn,bs⟩,bm,be⟩:=tb;obtain⟨q,hq⟩:=eX c0.toNat;intro ae hle af ag ah ad;simp only at ae hle ah;rw[hq]at hc e1 aa ad⊢;have e2:e=0->IntKind.i64.wrap ((k:Int)+1)=((1+k:Nat):Int):=λh=>by have:=hle h;rw[i64_id om (by unfold maxB at*;omega)];omega
  have e3:IntKind.i64.wrap ((tk:Int)+1)=((1+tk:Nat):Int):=by rw[i64_id om (by unfold maxB at*;omega)];omega
  have e4:(zM rest).take rest.length=zM rest:=Av (by rw[zK];omega);have hu:uni 1 ([V.int .u8 (q:Int)]::zM rest):=aa▸wB (c0::rest);refine iW 0 func46 ntmps46 results46 λc hc hb=>zO ?_;simp[go_sem,bys,aa,zK];refine zN (λw=>absurd w (by simp;omega)) (λw=>?_);simp[go_sem,aa,zK,e1];refine zN (λaj=>?_) (λw1=>?_)
  .have w1:q=0:=by simp at aj;omega
   simp[go_sem];refine zN (λak=>?_) (λak=>absurd (aj.symm.trans ak) dc);simp[go_sem];have e9:zc4 q ⟨⟨bk,bn,bs⟩,bm,be⟩ (n,k,e) (tx,tk,te)=⟨v0,1,0⟩:=by simp[zc4,w1]
   have ab:=ad om;rw[e9]at ab;refine zJ ab cB (zL (by simp[bys,aa]) rfl) rfl ?_;simp[go_sem,TakeR.V,v0];exact xA (n:=1) (by rw[e9];rfl)
  have w1:¬q=0:=by simp at w1;omega
  simp[go_sem];refine zN (λw2=>?_) (λw2=>?_)
  .have w2:q=1:=by simp at w2;omega
   simp[go_sem];have e9:zc4 q ⟨⟨bk,bn,bs⟩,bm,be⟩ (n,k,e) (tx,tk,te)=⟨⟨bk,bn,bs⟩,bm,be⟩:=by simp[zc4,w2]
   have ab:=ad om;rw[e9]at ab;refine zJ ab cB (zL (by simp[bys,aa]) rfl) rfl ?_;simp[go_sem,TakeR.V];exact xA (n:=bm) (by rw[e9])
  have w2:¬q=1:=by simp at w2;omega
  simp[go_sem];refine zN (λw3=>?_) (λw3=>?_)
  .have w3:q=2:=by simp at w3;omega
   simp[go_sem,aa,zK];refine zI ⟨om,hu⟩ ?_;simp[go_sem,e4];refine pC af ?_;simp[go_sem,zG8];refine zN (λw4=>?_) (λw4=>?_)
   .have w4:e≠0:=by simpa using w4
    simp[go_sem];exact xA (n:=0) (by simp[zc4,w3,w4,v0])
   have w4:e=0:=by simpa using w4
   have e5:=e2 w4;simp[go_sem];refine pC (xB2 n ae) ?_;simp[go_sem,e5];exact xA (n:=1+k) (by simp[zc4,w3,w4])
  have w3:¬q=2:=by simp at w3;omega
  simp[go_sem];refine zN (λw4=>?_) (λw4=>?_)
  .have w4:q=3:=by simp at w4;omega
   simp[go_sem,aa,zK];refine zI ⟨om,hu⟩ ?_;simp[go_sem,e4];refine pC ag ?_;simp[go_sem,zW7,bys,zK];refine zN (λw5=>?_) (λw5=>?_)
   .have w5:te≠0:=by simpa using w5
    simp[go_sem];exact xA (n:=0) (by simp[zc4,w4,w5,v0])
   have w5:te=0:=by simpa using w5
   simp[go_sem,zK];refine zN (λw6=>?_) (λw6=>?_)
   .have w6:64<tx.length:=by have:=of_decide_eq_true w6;omega
    simp[go_sem];exact xA (n:=0) (by simp[zc4,w4,w5,w6,v0])
   have w6:¬64<tx.length:=by have:=of_decide_eq_false w6;omega
   simp[go_sem];refine zI (xL _) ?_;simp[go_sem,e3,ze3];exact xA (n:=1+tk) (by simp[zc4,w4,w5,w6])
  have w4:¬q=3:=by simp at w4;omega
  simp[go_sem];exact xA (n:=0) (by simp[zc4,w1,w2,w3,w4,v0])
theorem is_w(aa tabs:List (List V))(t:Int):Pure prog 146 [.agg [.sl .ro aa,.sl .ro tabs],.int .i64 t] (.bool (decide (0<=t)&&decide (t<tabs.length))):=by
 refine iW 0 func146 ntmps146 results146 λc hc hb=>zO ?_;simp[go_sem];repeat'(first|(refine zY (λq=>?_) (λq=>?_)<;>simp[go_sem,q])|(refine zN (λq=>?_) (λq=>?_)<;>simp[go_sem,q]))
 all_goals exact wA (zD rfl) ⟨by simp_all,rfl⟩
theorem yc3(aa tabs:List (List V))(t:Int):Pure prog 44 [.agg [.sl .ro aa,.sl .ro tabs],.int .i64 t] (.bool (decide (0<=t)&&decide (t<tabs.length))):=by
 refine iW 0 func44 ntmps44 results44 λc hc hb=>zO ?_;simp[go_sem];repeat'(first|(refine zY (λq=>?_) (λq=>?_)<;>simp[go_sem,q])|(refine zN (λq=>?_) (λq=>?_)<;>simp[go_sem,q]))
 all_goals exact wA (zD rfl) ⟨by simp_all,rfl⟩
theorem yO6(b:List UInt8):(zf4 b).e=0->(zf4 b).n<=b.length:=by cases b with|nil=>simp[zf4]|cons c rest=>
  have h1:=zo8 rest 0 0;have h2:=zJ5 rest;rw[zf4];unfold zc4 za1;revert h1 h2;generalize xF rest 0 0=r;generalize wS rest=t;obtain⟨rn,rk,re⟩:=r;obtain⟨tx,tk,te⟩:=t;intro h1 h2;simp only at h1 h2;(repeat' split)<;>intro h<;>simp at h⊢<;>(try omega);.rename_i q1 q2 q3;simp only[Ah]at q2;omega
  .rename_i q;simp at q;have:=h1 q;omega
def rowG:Nat->List UInt8->Option (List GValue) |0,b=>if b=[]then some []else none|n+1,b=>if(zf4 b).e=0then(rowG n (b.drop (zf4 b).n)).map ((zf4 b).v::·)else none
def rowR(o:Option (List GValue)):List GValue×Int:=match o with|some l=>(l,0)|none=>([],9)
def rowC(nc:Nat)(data:List UInt8):List GValue×Int:=if(xF data 0 0).2.2=0/\(xF data 0 0).1=nc then rowR (rowG nc (data.drop (xF data 0 0).2.1))else([],9)
def rowF(ts:List GTable)(table:Int)(data:List UInt8):List GValue×Int:=if h:0<=table/\table<ts.length then rowC (ts[table.toNat]'om).cols.length data else([],1)
theorem zt8(b:List UInt8)(k:Nat):List.drop k (List.take b.length (zM b))=zM (b.drop k):=by rw[Av (by rw[zK];exact A3 _)];simp[zM,List.map_drop]
def rowV(r:List GValue×Int):V:=.tup [.sl .ro (r.1.map GValue.row),.int .i64 r.2]
theorem yB5{r:List GValue×Int}{l:List GValue}(h:r=(l,e)):wret (some (.tup [.sl g (l.map GValue.row),.int .i64 e])) 0 (λv s=>v=rowV r/\s=[]) σ:=by subst h;exact wA (r:=rowV (l,e)) (wF (vs':=[.sl .ro (l.map GValue.row),.int .i64 e]) ⟨zt7,zb4 rfl,tV⟩) ⟨rfl,rfl⟩
theorem zs0{r:List GValue×Int}(h:r=([],e)):wret (some (.tup [.sl g [],.int .i64 e])) 0 (λv s=>v=rowV r/\s=[]) σ:=yB5 (l:=[]) h
theorem xQ8(ab:List (List V))(ts:List GTable)(table:Int)(data:List UInt8)(hd:data.length<=maxB)(an:∀t∈ts,t.cols.length<=maxB):Pure prog 87 [.agg [.sl .ro ab,.sl .ro (ts.map GTable.row)],.int .i64 table,.str data] (rowV (rowF ts table data)):=by
 have ah:=zC1 data 0 0 dc dc;have hle:=zo8 data 0 0;have ai:=zU2 data hd;by_cases ht:0<=table/\table<ts.length
 .obtain⟨j,rfl⟩:∃j:Nat,table=j:=⟨table.toNat,om⟩;have hj:j<ts.length:=om;obtain⟨t,aj⟩:=eX (ts[j]);have af:=an t (aj▸A8 hj);have hF:rowF ts j data=rowC t.cols.length data:=by unfold rowF;rw[dif_pos ht];simp[aj]
  rw[hF];unfold rowC;revert ah hle ai;generalize xF data 0 0=r;obtain⟨n,k,e⟩:=r;intro ah hle ai;simp only at ah hle⊢;obtain⟨nc,ag⟩:=eX t.cols.length;rw[ag]at af⊢;have eu:IntKind.u64.wrap (nc:Int)=nc:=u64_id om (by unfold maxB at af;omega);refine iV 0 func87 ntmps87 results87 λc hc hb=>?_;refine zA ?_;simp[go_sem];refine pC (is_w ab (ts.map GTable.row) j) ?_;simp[go_sem,hj];refine zJ ai cB (zL (by simp[bys,zM]) rfl) rfl ?_;simp[go_sem,zG8];have bad:∀σ:St,¬(e=0/\n=nc)->wret (some (.tup [.sl .full [],.int .i64 9])) 0 (λv s=>v=rowV (if e=0/\n=nc then rowR (rowG nc (data.drop k))else([],9))/\s=[]) σ:=λσ h=>zs0 (by rw[if_neg h]);refine zY (λad=>?_) (λad=>?_)
  .have q1:e=0:=by simpa using ad
   simp[go_sem,ad,hj,aj,ag,eu];refine zN (λq2=>?_) (λq2=>?_)
   .have q2:¬n=nc:=by simp at q2;omega
    simp[go_sem];exact bad _ (λh=>q2 h.2)
   have q2:n=nc:=by simp at q2;omega
   have hk:=hle q1;rw[if_pos ⟨q1,q2⟩];simp[go_sem];refine zk1 12 3 dc rfl ?_;refine zH (S:=Nat×Nat×List GValue) [8,10,12,42,43] (λu=>[bys data,.int .i64 u.2.1,.sl (.app 1) (u.2.2.map GValue.row),.int .u64 nc,.int .u64 u.1]) (λu=>[.box [.sl .ro ab,.sl .ro (ts.map GTable.row)],.app u.2.2.length 3]) (λu=>nc-u.1) (λu=>u.1<=nc/\u.2.1<=data.length/\u.2.2.length=u.1/\(rowG (nc-u.1) (data.drop u.2.1)).map (u.2.2++·)=rowG nc (data.drop k)) hc hb (0,k,[]) ⟨A2 _,by simp only;omega,rfl,sm⟩ ?_ ?_;.exact at_n 2 sm rfl rfl (A2 _) (zC (by simp[go_sem,bys,zM,q2]) rfl)
   rintro⟨i,at_,l⟩⟨hi,ao,al,aa⟩;simp only at hi ao al aa;have ar:data.length-at_<=maxB:=om;have ak:=xT4 (data.drop at_) (by simp;omega);have ae:=yO6 (data.drop at_);rw[E9]at ae;refine zA ?_;simp[go_sem];refine zN (λq3=>?_) (λq3=>?_)
   .have q3:i<nc:=by simpa using q3
    rw[show nc-i=(nc-i-1)+1by omega,rowG]at aa;revert ak ae aa;generalize zf4 (data.drop at_)=r;obtain⟨⟨vk,vn,vs⟩,rn,re⟩:=r;intro aa ak ae;simp only at ae aa;simp[go_sem,bys,zK];refine zI ⟨om,wB data⟩ ?_;simp[go_sem];refine zJ ak cB (zL (by simp[bys,zt8]) rfl) rfl ?_;simp[go_sem,TakeR.V];refine zN (λq4=>?_) (λq4=>?_)
    .have q4:¬re=0:=by simpa using q4
     rw[if_neg q4]at aa;simp[go_sem];rw[<-aa];exact zs0 rfl
    have q4:re=0:=by simpa using q4
    rw[if_pos q4]at aa;have au:=ae q4;have ea:IntKind.i64.wrap ((at_:Int)+rn)=((at_+rn:Nat):Int):=by rw[i64_id om (by unfold maxB at hd;omega)];omega
    have ei:IntKind.u64.wrap ((i:Int)+1)=((i+1:Nat):Int):=by rw[u64_id om (by unfold maxB at af;omega)];omega
    have aq:(l.length+1)*32<=140737488355328:=by unfold maxB at af;omega
    simp[go_sem];refine zI ⟨by simpa using aq,zV rfl⟩ ?_;simp[go_sem,ea,ei];refine zG (i+1,at_+rn,l++[⟨vk,vn,vs⟩]) ⟨by simp only;omega,⟨q3,by simp only;omega,by simp[al],?_⟩,at_n 2 sm rfl rfl (A2 _) (zC (by simp[go_sem,bys,ea,ei]) rfl)⟩;rw[<-aa];simp only;rw[show nc-(i+1)=nc-i-1by omega,E7];cases rowG (nc-i-1) (data.drop (at_+rn))<;>simp
   .have q3:i=nc:=by
     have:¬i<nc:=by simpa using q3
     omega
    subst q3;simp[rowG]at aa;simp[go_sem,bys,zK];refine zN (λq4=>?_) (λq4=>?_)
    .have q4:at_<data.length:=by simpa using q4
     rw[if_neg om]at aa;simp[go_sem];rw[<-aa];exact zs0 rfl
    have q4:data.length<=at_:=by simpa using q4
    rw[if_pos q4]at aa;simp[go_sem];rw[<-aa];exact yB5 (by simp[rowR])
  .have q1:¬e=0:=by simpa using ad
   simp[go_sem,ad];exact bad _ (λh=>q1 h.1)
 .have hF:rowF ts table data=([],1):=by unfold rowF;rw[dif_neg ht]
  rw[hF];refine iV 0 func87 ntmps87 results87 λc hc hb=>?_;refine zA ?_;simp[go_sem];refine pC (is_w ab (ts.map GTable.row) table) ?_;have hn:(decide (0<=table)&&decide (table<((ts.map GTable.row).length:Int)))=false:=by simp;omega
  rw[hn];simp[go_sem];exact zs0 rfl
theorem xB1(ab:List (List V))(ts:List GTable)(table:Int)(data:List UInt8)(hd:data.length<=maxB)(aq:∀t∈ts,t.cols.length<=maxB):Pure prog 23 [.agg [.sl .ro ab,.sl .ro (ts.map GTable.row)],.int .i64 table,.str data] (rowV (rowF ts table data)):=by
 have ah:=zC1 data 0 0 dc dc;have hle:=zo8 data 0 0;have ai:=zF2 data hd;by_cases ht:0<=table/\table<ts.length
 .obtain⟨j,rfl⟩:∃j:Nat,table=j:=⟨table.toNat,om⟩;have hj:j<ts.length:=om;obtain⟨t,aj⟩:=eX (ts[j]);have ad:=aq t (aj▸A8 hj);have hF:rowF ts j data=rowC t.cols.length data:=by unfold rowF;rw[dif_pos ht];simp[aj]
  rw[hF];unfold rowC;revert ah hle ai;generalize xF data 0 0=r;obtain⟨n,k,e⟩:=r;intro ah hle ai;simp only at ah hle⊢;obtain⟨nc,ag⟩:=eX t.cols.length;rw[ag]at ad⊢;have eu:IntKind.u64.wrap (nc:Int)=nc:=u64_id om (by unfold maxB at ad;omega);refine iV 0 func23 ntmps23 results23 λc hc hb=>?_;refine zA ?_;simp[go_sem];refine pC (yc3 ab (ts.map GTable.row) j) ?_;simp[go_sem,hj];refine zJ ai cB (zL (by simp[bys,zM]) rfl) rfl ?_;simp[go_sem,zG8];have bad:∀σ:St,¬(e=0/\n=nc)->wret (some (.tup [.sl .full [],.int .i64 9])) 0 (λv s=>v=rowV (if e=0/\n=nc then rowR (rowG nc (data.drop k))else([],9))/\s=[]) σ:=λσ h=>zs0 (by rw[if_neg h]);refine zY (λae=>?_) (λae=>?_)
  .have q1:e=0:=by simpa using ae
   simp[go_sem,ae,hj,aj,ag,eu];refine zN (λq2=>?_) (λq2=>?_)
   .have q2:¬n=nc:=by simp at q2;omega
    simp[go_sem];exact bad _ (λh=>q2 h.2)
   have q2:n=nc:=by simp at q2;omega
   have hk:=hle q1;rw[if_pos ⟨q1,q2⟩];have en:IntKind.i64.wrap (nc:Int)=nc:=i64_id om (by unfold maxB at ad;omega);simp[go_sem,bys,zK];refine zI ⟨om,wB data⟩ ?_;simp[go_sem];refine zk1 12 3 dc rfl ?_;refine zH (S:=Nat×Nat×List GValue) [8,9,12,13] (λu=>[bys (data.drop u.2.1),.int .u64 nc,.sl (.app 1) (u.2.2.map GValue.row),.int .i64 u.1]) (λu=>[.box [.sl .ro ab,.sl .ro (ts.map GTable.row)],.app u.2.2.length 3]) (λu=>nc-u.1) (λu=>u.1<=nc/\u.2.1<=data.length/\u.2.2.length=u.1/\(rowG (nc-u.1) (data.drop u.2.1)).map (u.2.2++·)=rowG nc (data.drop k)) hc hb (0,k,[]) ⟨A2 _,by simp only;omega,rfl,sm⟩ ?_ ?_;.exact at_n 2 sm rfl rfl (A2 _) (zC (by simp[go_sem,bys,zt8,q2]) rfl)
   rintro⟨i,at_,l⟩⟨hi,ar,al,aa⟩;simp only at hi ar al aa;have av:data.length-at_<=maxB:=om;have ak:=xm7 (data.drop at_) (by simp;omega);have af:=yO6 (data.drop at_);rw[E9]at af;refine zA ?_;simp[go_sem,en];refine zN (λq3=>?_) (λq3=>?_)
   .have q3:i<nc:=by simpa using q3
    rw[show nc-i=(nc-i-1)+1by omega,rowG]at aa;revert ak af aa;generalize zf4 (data.drop at_)=r;obtain⟨⟨vk,vn,vs⟩,rn,re⟩:=r;intro aa ak af;simp only at af aa;simp[go_sem];refine zJ ak cB (zL (by simp[bys,zt8]) rfl) rfl ?_;simp[go_sem,TakeR.V];refine zN (λq4=>?_) (λq4=>?_)
    .have q4:¬re=0:=by simpa using q4
     rw[if_neg q4]at aa;simp[go_sem];rw[<-aa];exact zs0 rfl
    have q4:re=0:=by simpa using q4
    rw[if_pos q4]at aa;have aw:=af q4;have ea:IntKind.i64.wrap ((at_:Int)+rn)=((at_+rn:Nat):Int):=by rw[i64_id om (by unfold maxB at hd;omega)];omega
    have ei:IntKind.u64.wrap ((i:Int)+1)=((i+1:Nat):Int):=by rw[u64_id om (by unfold maxB at ad;omega)];omega
    have an:IntKind.i64.wrap ((i:Int)+1)=((i+1:Nat):Int):=zS q3 (by unfold maxB at ad;omega);have au:(l.length+1)*32<=140737488355328:=by unfold maxB at ad;omega
    simp[go_sem];refine yU [] 3 rfl kR kR ?_;simp[go_sem];refine zI ⟨au,zV rfl⟩ ?_;simp[go_sem,bys,zK];refine zI ⟨om,wB _⟩ ?_;simp[go_sem,an];have ao:zM (data.drop (at_+rn))=List.drop rn (List.take (data.length-at_) (zM (data.drop at_))):=by rw[show data.length-at_=(data.drop at_).length by simp,zt8,E7]
    refine zG (i+1,at_+rn,l++[⟨vk,vn,vs⟩]) ⟨by simp only;omega,⟨q3,by simp only;omega,by simp[al],?_⟩,at_n 2 sm rfl rfl (A2 _) (zC (by simp[go_sem,bys,an,ao]) rfl)⟩;rw[<-aa];simp only;rw[show nc-(i+1)=nc-i-1by omega,E7];cases rowG (nc-i-1) (data.drop (at_+rn))<;>simp
   .have q3:i=nc:=by
     have:¬i<nc:=by simpa using q3
     omega
    subst q3;simp[rowG]at aa;simp[go_sem,bys,zK];refine zN (λq4=>?_) (λq4=>?_)
    .have q4:at_<data.length:=by simp at q4;omega
     rw[if_neg om]at aa;simp[go_sem];rw[<-aa];exact zs0 rfl
    have q4:data.length<=at_:=by simp at q4;omega
    rw[if_pos q4]at aa;simp[go_sem];rw[<-aa];exact yB5 (by simp[rowR])
  .have q1:¬e=0:=by simpa using ae
   simp[go_sem,ae];exact bad _ (λh=>q1 h.1)
 .have hF:rowF ts table data=([],1):=by unfold rowF;rw[dif_neg ht]
  rw[hF];refine iV 0 func23 ntmps23 results23 λc hc hb=>?_;refine zA ?_;simp[go_sem];refine pC (yc3 ab (ts.map GTable.row) table) ?_;have hn:(decide (0<=table)&&decide (table<((ts.map GTable.row).length:Int)))=false:=by simp;omega
  rw[hn];simp[go_sem];exact zs0 rfl
def be(v:Nat):Nat->List UInt8 |0=>[]|k+1=>UInt8.ofNat (v/256^k)::be v k
theorem zN9(v:Nat):∀k,(be v k).length=k|0=>rfl|k+1=>by simp[be,zN9 v k]
theorem yZ1(a b:UInt8)(l m:List UInt8):Op.bytesLess (a::l) (b::m)=if a.toNat<b.toNat then true else if b.toNat<a.toNat then false else Op.bytesLess l m:=by
 rw[Op.bytesLess];simp only[UInt8.lt_iff_toNat_lt];by_cases h1:a.toNat<b.toNat;.simp[h1]
 .by_cases h2:b.toNat<a.toNat
  .have:a≠b:=λh=>by subst h;omega
   simp[h1,h2,this]
  .have:a=b:=Et.1 om;simp[this]
def esc:List UInt8->List UInt8 |[]=>[]|c::s=>if c=0then 0::255::esc s else c::esc s
theorem yb1:∀s,(esc s).length<=2*s.length
 |[]=>by simp[esc]|c::s=>by have:=yb1 s;unfold esc;split<;>simp<;>omega
theorem ye7:∀a b,esc (a++b)=esc a++esc b
 |[],b=>rfl|c::a,b=>by have:=ye7 a b;rw[Bo,esc,esc];split<;>simp[this]
def keyF(v:GValue):List UInt8:=if mayF v=true then UInt8.ofNat v.kind.toNat::(if v.kind=1then[UInt8.ofNat v.n.toNat]else if v.kind=2then be (v.n+9223372036854775808).toNat 8 else if v.kind=3then esc v.s++[0,1]else[])else[]
theorem xw4{v:GValue}:(keyF v).length<=2*v.s.length+10:=by have h:=yb1 v.s;have h2:=zN9 (v.n+9223372036854775808).toNat 8;unfold keyF;(repeat' split)<;>simp<;>omega
theorem wd3(a:Nat)(h:a<2^64):a^^^2^63=(2^63+a)%2^64:=by
 apply Nat.eq_of_testBit_eq;intro j;rw[Nat.testBit_xor,Nat.testBit_two_pow,Nat.testBit_mod_two_pow];rcases Bi j 63with h1|h1|h1;.rw[Nat.testBit_two_pow_add_gt h1];simp[show j<64by omega,show¬63=j by omega]
 .subst h1;rw[Nat.testBit_two_pow_add_eq];simp
 .rw[Nat.testBit_lt_two_pow (D3 h (Nat.pow_le_pow_right dc om))];simp[show¬j<64by omega,show¬63=j by omega]
theorem xM6{n:Int}(h1:-9223372036854775808<=n)(h2:n<=9223372036854775807):zf5 .xor .u64 (IntKind.u64.wrap n) 9223372036854775808=(((n+9223372036854775808).toNat:Nat):Int):=by
 obtain⟨a,ha,aa⟩:∃a:Nat,IntKind.u64.wrap n=(a:Int)/\(a:Int)=n%18446744073709551616:=by unfold IntKind.wrap;simp[IntKind.bits,IntKind.signed];exact⟨(n%18446744073709551616).toNat,om,om⟩
 have hl:a<2^64:=om;show IntKind.u64.wrap ((BitVec.ofInt 64 (IntKind.u64.wrap n)^^^BitVec.ofInt 64 ((9223372036854775808:Nat):Int)).toNat:Int)=_;rw[ha,BitVec.ofInt_natCast,BitVec.ofInt_natCast,BitVec.toNat_xor,BitVec.toNat_ofNat,BitVec.toNat_ofNat,Cn hl,show 9223372036854775808%2^64=2^63by decide,wd3 a hl];unfold IntKind.wrap;simp[IntKind.bits,IntKind.signed];omega
theorem xH1(n:Int)(hn:i64R n):Pure prog 256 [.int .i64 n] (.int .u64 (n+9223372036854775808).toNat):=by have e:=xM6 hn.1 hn.2;refine iW 0 func256 ntmps256 results256 λc hc hb=>zO ?_;simp[go_sem,e];exact wR
theorem yV0(n:Int)(hn:i64R n):Pure prog 169 [.int .i64 n] (.int .u64 (n+9223372036854775808).toNat):=by
 unfold i64R at hn;refine iW 0 func169 ntmps169 results169 λc hc hb=>zO ?_;simp[go_sem];refine zN (λq=>?_) (λq=>?_)
 .have q:0<=n:=by simpa using q
  have e1:IntKind.u64.wrap n=n:=u64_id om om;have e2:IntKind.u64.wrap (9223372036854775808+n)=((n+9223372036854775808).toNat:Int):=by rw[u64_id om om];omega
  simp[go_sem,e1,e2];exact wR
 .have q:n<0:=by simpa using q
  have e1:IntKind.i64.wrap (n+9223372036854775807)=n+9223372036854775807:=i64_id om om;have e2:IntKind.i64.wrap (n+9223372036854775807+1)=n+9223372036854775807+1:=i64_id om om;have e3:IntKind.u64.wrap (n+9223372036854775807+1)=((n+9223372036854775808).toNat:Int):=by rw[u64_id om om];omega
  simp[go_sem,e1,e2,e3];exact wR
theorem wc9(n:Int):IntKind.u8.wrap n<256:=by unfold IntKind.wrap;simp[IntKind.bits,IntKind.signed];omega
theorem xY6(l:List UInt8)(h:l.all (λc=>decide (c.toNat<=8))=true)(i:Nat):(l[i]?.getD 0).toNat<=8:=by
 rcases Cl i l.length with q|q;.rw[A0 q];simpa using Af.1 h _ (A8 q)
 .rw[Bd q];decide
theorem yJ2{n:Int}(h0:0<=n)(h:n<=64):∃m:Nat,V.int .i64 n=.int .i64 m/\m<=64:=⟨n.toNat,by congr 1;omega,om⟩
theorem xG9(v:Nat)(_hv:v<18446744073709551616):VCalls prog 246 [.int .u64 v] [] λr s=>(∃n:Nat,r=.int .i64 n/\n<=64)/\s=[]:=by
 have aa:IntKind.i64.wrap 48=48:=by decide+kernel
 have ab:IntKind.i64.wrap 40=40:=by decide+kernel
 have ad:IntKind.i64.wrap 16=16:=by decide+kernel
 have w8:IntKind.i64.wrap 8=8:=by decide+kernel
 have ae:IntKind.i64.wrap (48+8)=56:=by decide+kernel
 have af:IntKind.i64.wrap (16+8)=24:=by decide+kernel
 refine iW 0 func246 ntmps246 results246 λc hc hb=>zO ?_;simp[go_sem];repeat'(refine zN (λq=>?_) (λq=>?_)<;>simp[go_sem])
 all_goals refine zI (wc9 _) ?_;generalize hx:UInt8.toNat (Option.getD _ _)=x;have h8:x<=8:=hx▸xY6 _ (by decide+kernel) _;clear hx;have e8:IntKind.i64.wrap (x:Int)=x:=i64_id om om;simp[go_sem,e8]
 all_goals
  try simp only[aa,ab,ad,w8,ae,af]
  first |exact wA (zD rfl) ⟨yJ2 om om,rfl⟩|(rw[i64_id om om];exact wA (zD rfl) ⟨yJ2 om om,rfl⟩)
theorem xJ1(v k:Nat)(_hk:k<=7):IntKind.u8.wrap ((v:Int).fdiv (2^(8*k)))=((UInt8.ofNat (v/256^k)).toNat:Int):=by
 have e:(v:Int).fdiv (2^(8*k))=((v/256^k:Nat):Int):=by rw[Ct _ (by exact Int.le_of_lt (Int.pow_pos dc))];rw[show(2:Int)^(8*k)=((256^k:Nat):Int)by rw[Int.pow_mul];simp];rw[Int.natCast_ediv]
 rw[e,zJ8]
theorem wa1(b:List UInt8)(v:Nat)(ab:b.length<=maxB)(hv:v<18446744073709551616):Pure prog 255 [bys b,.int .u64 v,.int .i64 8] (.tup [bys (b++be v 8),.int .i64 0]):=by
 refine iV 0 func255 ntmps255 results255 λc hc hb=>?_;refine zA ?_;simp[go_sem,bys];refine xP6 (R:=λr=>∃n:Nat,r=.int .i64 n/\n<=64) (xG9 v hv) cB (yA rfl) (λr h=>by obtain⟨b,rfl,_⟩:=h;rfl) ?_;rintro r⟨n,rfl,hn⟩;have ad:IntKind.i64.wrap 64=64:=by decide+kernel
 simp[go_sem,ad];refine zN (λq=>absurd q (by simp;omega)) (λq=>?_);simp[go_sem];refine zT6 (yV4 b 8 ab dc) cB (yA rfl) ?_;rintro r s⟨rfl,rfl⟩;simp[go_sem,byA,stA];have ew:∀k:Nat,k<=8->IntKind.i64.wrap (8*(k:Int)-8)=8*(k:Int)-8:=λk h=>i64_id om om;have ae:IntKind.i64.wrap (8*IntKind.i64.wrap 7)=56:=by decide+kernel
 refine zH (S:=Nat×List UInt8) [1,8,9] (λu=>[.int .u64 v,byA u.2,.int .i64 (8*(u.1:Int)-8)]) (λu=>stA u.2) (λu=>u.1) (λu=>u.1<=8/\u.2++be v u.1=b++be v 8) hc hb (8,b) ⟨A3 _,rfl⟩ ?_ ?_;.exact at_n 1 (by simp[stA]) rfl rfl (A2 _) (zC (by simp[go_sem,byA]) rfl)
 rintro⟨k,out⟩⟨hk,aa⟩;simp only at hk aa;have af:out.length+k=b.length+8:=by have:=congrArg List.length aa;simpa[zN9]using this
 refine zA ?_;simp[go_sem,byA,stA];refine zN (λq=>?_) (λq=>?_)
 .obtain⟨j,rfl⟩:∃j,k=j+1:=⟨k-1,by simp at q;omega⟩;have e1:IntKind.u64.wrap (8*((j+1:Nat):Int)-8)=((8*j:Nat):Int):=by rw[u64_id om om];omega
  have e2:IntKind.i64.wrap (8*((j+1:Nat):Int)-8-8)=8*(j:Int)-8:=by rw[i64_id om om];omega
  have e3:=xJ1 v j om;simp[go_sem]at e1 e2;simp[go_sem,e1];refine zI om ?_;have e4:min (8*(j:Int)).toNat 64=8*j:=om;simp[go_sem,e4,e3];refine zI ⟨zK out,by rw[zK];unfold maxB at ab;omega,zV rfl⟩ ?_;simp[go_sem,e2];rw[be]at aa;refine zG (j,out++[UInt8.ofNat (v/256^j)]) ⟨by simp only;omega,⟨by simp only;omega,by simpa using aa⟩,at_n 1 sm rfl rfl (A2 _) (zC (by simp[go_sem,zM]) rfl)⟩
 .have:k=0:=by simp at q;omega
  subst this;rw[show be v 0=[]from rfl,Bc]at aa;simp[go_sem];rw[<-aa];exact wA (wF (vs':=[bys out,.int .i64 0]) ⟨zt7,zb4 rfl,tV⟩) ⟨rfl,rfl⟩
def putX(v k:Nat):List (List V):=List.replicate (8-k) [.int .u8 0]++zM (be v k)
theorem xz9{v k:Nat}(h:k<=8):(putX v k).length=8:=by simp[putX,zK,zN9];omega
theorem xA0{v k:Nat}(h:k+1<=8):(putX v k).set (7-k) [.int .u8 (UInt8.ofNat (v/256^k)).toNat]=putX v (k+1):=by unfold putX;rw[be,show(8-k)=(8-(k+1))+1by omega,List.replicate_succ',Bp,List.set_append_right _ _ sm];rw[show 7-k-(List.replicate (8-(k+1)) [V.int IntKind.u8 0]).length=0 by simp];rfl
def isB(r:List V):Prop:=∃x,r=[.int .u8 x]
theorem yU5(v k:Nat):∀r∈putX v k,isB r:=λr hr=>by
 unfold putX at hr;rcases Aq.1 hr with h|h;.exact⟨0,(List.mem_replicate.1 h).2⟩
 .obtain⟨x,_,rfl⟩:=Ac.1 h;exact⟨_,rfl⟩
theorem xS1{rows:List (List V)}(h:∀r∈rows,isB r)(n:Nat):[Ob.lst rows 1].all (ltOb n)=true:=by simp only[Ap,C3,Ck,ltOb,Af];intro r hr;obtain⟨x,rfl⟩:=h r hr;intro y hy;cases hy with|head=>rfl|tail _ h=>cases h
theorem xX8{rows:List (List V)}(h:∀r∈rows,isB r):xQ rows=true:=by simp only[xQ,Af];intro r hr;obtain⟨x,rfl⟩:=h r hr;intro y hy;cases hy with|head=>rfl|tail _ h=>cases h
theorem xX9(v:Nat):putX v 8=zM (be v 8):=by simp[putX]
theorem xB0(v:Nat)(hv:v<18446744073709551616):Pure prog 248 [bys [],.int .u64 v,.int .i64 8] (.tup [bys (be v 8),.int .i64 0]):=by
 refine iV 0 func248 ntmps248 results248 λc hc hb=>?_;refine zp2 17 dc ?_;refine zA ?_;simp[go_sem,bys,zM];refine zH (S:=Nat×Nat) [0,1,8,9] (λu=>[bys [],.int .u64 u.2,.lsv 0 1 8 0 8,.int .i64 (7-(u.1:Int))]) (λu=>[.lst (putX v u.1) 1]) (λu=>8-u.1) (λu=>u.1<=8/\u.2=v/256^u.1) hc hb (0,v) ⟨A2 _,sm⟩ ?_ ?_;.exact at_n 1 (by simp[putX,be,zM]) rfl (xS1 (yU5 _ _) _) (A2 _) (zC (by simp[go_sem,bys,zM]) rfl)
 rintro⟨k,z⟩⟨hk,hz⟩;simp only at hk hz;have ag:z<=v:=hz▸Nat.div_le_self _ _;have ab:=xz9 (v:=v) hk;refine zA ?_;simp[go_sem];refine zN (λq=>?_) (λq=>?_)
 .have q:k+1<=8:=by simp at q;omega
  have e0:((7:Int)-k).toNat=7-k:=om;have e1:IntKind.i64.wrap (7-(k:Int)-1)=7-((k:Int)+1):=by rw[i64_id om om];omega
  have e2:IntKind.u64.wrap ((z:Int)/256)=((z/256:Nat):Int):=by rw[u64_id om om];omega
  have e3:IntKind.u8.wrap ((z:Int).tmod 256)=((UInt8.ofNat z).toNat:Int):=by rw[E1 om,show(z:Int)%256=((z%256:Nat):Int)by omega,zJ8];simp
  have aa:=xA0 (v:=v) q;rw[<-hz]at aa;simp[go_sem];refine zI ⟨om,om⟩ ?_;have ad:∀h,(putX v k)[7-k]'h=[.int .u8 0]:=λh=>by
   have:(putX v k)[7-k]?=some [.int .u8 0]:=by unfold putX;rw[Aa (by simp;omega),Ee,if_pos om]
   exact(A1.1 this).2
  simp at aa;simp[go_sem,ab,show 7-k<8by omega,ad,e1,e2,e3];refine zG (k+1,z/256) ⟨by simp only;omega,⟨q,by rw[hz,Eb,Nat.div_div_eq_div_mul]⟩,at_n 1 (by simp[aa]) rfl (xS1 (yU5 _ _) _) (A2 _) (zC (by simp[go_sem,bys,zM]) rfl)⟩
 .have:k=8:=by simp at q;omega
  subst this;have ae:z=0:=by rw[hz];exact Nat.div_eq_of_lt om
  subst ae;simp[go_sem,bys,zM];refine zI (λr h=>by cases h) ?_;have af:za4 (putX v 8) 0 8=zM (be v 8):=by rw[xX9];simp[za4,Av,zN9,zM,dem]
  simp[go_sem,ab,af];refine zI ⟨xX8 λr hr=>yU5 v 8 r (Bk hr),by rw[zK,zN9];decide,wB _⟩ ?_;simp[go_sem];exact wA (wF (vs':=[bys (be v 8),.int .i64 0]) ⟨zt7,zb4 rfl,tV⟩) ⟨rfl,rfl⟩
theorem xG7(v:Nat)(hv:v<18446744073709551616):Pure prog 168 [.int .u64 v] (bys (be v 8)):=by refine iW 0 func168 ntmps168 results168 λc hc hb=>zO ?_;simp[go_sem];refine zJ (xB0 v hv) cB ⟨zh2 rfl,zD rfl,zD rfl,tV⟩ rfl ?_;simp[go_sem];exact wR
theorem zO5{v:GValue}(h:mayF v=true):v.kind=0∨v.kind=1∨v.kind=2∨v.kind=3:=by
 unfold mayF at h;by_cases h0:v.kind=0;.exact .inl h0
 .by_cases h1:v.kind=1;.exact .inr (.inl h1)
  .by_cases h2:v.kind=2;.exact .inr (.inr (.inl h2))
   .by_cases h3:v.kind=3;.exact .inr (.inr (.inr h3))
    .simp[h0,h1,h2,h3]at h
theorem yH1{s:List UInt8}(h:i<s.length):esc (s.take (i+1))=esc (s.take i)++(if s[i]=0then[0,255]else[s[i]]):=by rw[Dr h,ye7];simp only[esc]
theorem xf3{s:Nat}{a b:List V}(h1:a.length=s)(h2:b.length=s):uni s [a,b]:=λr hr=>by simp at hr;rcases hr with rfl|rfl<;>assumption
theorem yg9{v:GValue}(h:mayF v=true):v.s.length<=64:=by
 unfold mayF at h;split at h;.simp at h;rw[h.2];decide
 split at h;.simp at h;rw[h.2];decide
 split at h;.simp at h;rw[h];decide
 split at h;.simp at h;exact h.2
 .cases h
theorem xT2(b:List UInt8)(v:GValue)(hv:v.ok)(ad:b.length<=maxB-1):Pure prog 179 [bys b,.agg v.row] (bys (b++keyF v)):=by
 refine iV 0 func179 ntmps179 results179 λc hc hb=>?_;refine zA ?_;obtain⟨k,n,s⟩:=v;have hn:=hv.n;simp only at hn;simp[go_sem,bys,zK];refine zI ⟨by unfold maxB at*;omega,by simp[uni],wB b⟩ ?_;simp[go_sem];refine pC (yp0 ⟨k,n,s⟩) ?_;simp[go_sem];refine zN (λh=>?_) (λh=>?_)
 .simp[go_sem];refine zg0 ?_;have h:mayF ⟨k,n,s⟩=false:=by simpa using h
  simp[keyF,h,zM]
 have h:mayF ⟨k,n,s⟩=true:=by simpa using h
 have hs:s.length<=500:=by have:s.length<=64:=yg9 h;omega
 have hk:=zO5 h;simp only at hk;simp[go_sem,zK];refine zI ⟨by unfold maxB at*;omega,zV rfl⟩ ?_;have w0:IntKind.u8.wrap 0=0:=by decide+kernel
 have w1:IntKind.u8.wrap 1=1:=by decide+kernel
 have w2:IntKind.u8.wrap 2=2:=by decide+kernel
 have w3:IntKind.u8.wrap 3=3:=by decide+kernel
 rcases hk with rfl|rfl|rfl|rfl;.simp[go_sem];refine zg0 ?_;simp[keyF,h,zM,w0]
 .have h1:n=0∨n=1:=by unfold mayF at h;simp at h;exact h.1
  simp[go_sem];refine zI ⟨zK b,by rw[zK];unfold maxB at*;omega,zV rfl⟩ ?_;simp[go_sem];refine zg0 ?_;rcases h1 with rfl|rfl<;>simp[keyF,h,zM,w0,w1]
 .simp[go_sem];obtain⟨u,hu⟩:=eX ((n+9223372036854775808).toNat);have hO:=xH1 n hn;rw[hu]at hO;refine pC hO ?_;simp[go_sem];refine zJ (wa1 (b++[2]) u (by simp;unfold maxB at*;omega) om) cB ⟨zh2 (by simp[zM,w2]),zD rfl,zD rfl,tV⟩ rfl ?_;simp[go_sem];refine zg0 ?_;simp[keyF,h,hu]
 .simp[go_sem];refine zH (S:=Nat) [3,5,44,45] (λi=>[.ptr 0 0,.sl (.app 1) (zM (b++3::esc (s.take i))),.int .i64 s.length,.int .i64 i]) (λi=>[.box [.int .i64 3,.int .i64 n,.str s],.app (b++3::esc (s.take i)).length 1]) (λi=>s.length-i) (λi=>i<=s.length) hc hb 0 (A2 _) ?_ ?_;.exact at_n 2 (by simp[esc]) rfl rfl (A2 _) (zC (by simp[go_sem,esc,zM,w3]) rfl)
  intro i hi;have ae:=yb1 (s.take i);have af:(s.take i).length<=s.length:=by simp;omega
  obtain⟨o,ho⟩:∃o,b++3::esc (s.take i)=o:=⟨_,rfl⟩;have ag:o.length<=maxB+1100:=by rw[<-ho];simp;unfold maxB at*;omega
  rw[ho];refine zA ?_;simp[go_sem];refine zN (λq=>?_) (λq=>?_)
  .have q:i<s.length:=by simpa using q
   have ei:=zS q om;have aa:=yH1 q;obtain⟨c0,ab⟩:=eX (s[i]);simp[go_sem,q,ab,zK];refine zI ⟨by unfold maxB at*;omega,zV rfl⟩ ?_;simp[go_sem,q,ab];refine zN (λq2=>?_) (λq2=>?_)
   .have q2:c0=0:=by
     have:c0.toNat=0:=by simp at q2;omega
     exact Et.1 (by simpa using this)
    rw[ab,if_pos q2]at aa;simp[go_sem,zK];refine zI ⟨by unfold maxB at*;omega,zV rfl⟩ ?_;simp[go_sem,ei];exact zG (i+1) ⟨om,q,at_n 2 (by simp[aa,<-ho];omega) rfl rfl (A2 _) (zC (by simp[go_sem,aa,<-ho,zM,q2]) rfl)⟩
   .have q2:¬c0=0:=λh=>by rw[h]at q2;simp at q2
    rw[ab,if_neg q2]at aa;simp[go_sem,ei];exact zG (i+1) ⟨om,q,at_n 2 (by simp[aa,<-ho];omega) rfl rfl (A2 _) (zC (by simp[go_sem,aa,<-ho,zM]) rfl)⟩
  .have q:i=s.length:=by
    have:¬i<s.length:=by simpa using q
    omega
   subst q;simp[go_sem,zK];refine zI ⟨by unfold maxB at*;omega,xf3 rfl rfl⟩ ?_;simp[go_sem];refine zg0 ?_;rw[Df]at ho;simp[keyF,h,zM,<-ho]
theorem xm5(b:List UInt8)(v:GValue)(hv:v.ok)(ad:b.length<=maxB-1):Pure prog 99 [bys b,.agg v.row] (bys (b++keyF v)):=by
 refine iV 0 func99 ntmps99 results99 λc hc hb=>?_;refine zA ?_;obtain⟨k,n,s⟩:=v;have hn:=hv.n;simp only at hn;simp[go_sem,bys,zK];refine zI ⟨by unfold maxB at*;omega,by simp[uni],wB b⟩ ?_;simp[go_sem];refine pC (zS0 ⟨k,n,s⟩) ?_;simp[go_sem];refine zN (λh=>?_) (λh=>?_)
 .simp[go_sem];refine zg0 ?_;have h:mayF ⟨k,n,s⟩=false:=by simpa using h
  simp[keyF,h,zM]
 have h:mayF ⟨k,n,s⟩=true:=by simpa using h
 have hs:s.length<=500:=by have:s.length<=64:=yg9 h;omega
 have hk:=zO5 h;simp only at hk;simp[go_sem,zK];refine zI ⟨by unfold maxB at*;omega,zV rfl⟩ ?_;have w0:IntKind.u8.wrap 0=0:=by decide+kernel
 have w1:IntKind.u8.wrap 1=1:=by decide+kernel
 have w2:IntKind.u8.wrap 2=2:=by decide+kernel
 have w3:IntKind.u8.wrap 3=3:=by decide+kernel
 rcases hk with rfl|rfl|rfl|rfl;.simp[go_sem];refine zg0 ?_;simp[keyF,h,zM,w0]
 .have h1:n=0∨n=1:=by unfold mayF at h;simp at h;exact h.1
  simp[go_sem];refine zI ⟨zK b,by rw[zK];unfold maxB at*;omega,zV rfl⟩ ?_;simp[go_sem];refine zg0 ?_;rcases h1 with rfl|rfl<;>simp[keyF,h,zM,w0,w1]
 .simp[go_sem];obtain⟨u,hu⟩:=eX ((n+9223372036854775808).toNat);have hO:=yV0 n hn;rw[hu]at hO;refine pC hO ?_;simp[go_sem];refine pC (xG7 u om) ?_;simp[go_sem,bys,zK];refine zI ⟨by rw[zN9];unfold maxB at*;omega,wB _⟩ ?_;simp[go_sem];refine zg0 ?_;simp[keyF,h,hu,zM,w2]
 .simp[go_sem];refine zH (S:=Nat) [3,5,6] (λi=>[.ptr 0 0,.sl (.app 1) (zM (b++3::esc (s.take i))),.int .i64 i]) (λi=>[.box [.int .i64 3,.int .i64 n,.str s],.app (b++3::esc (s.take i)).length 1]) (λi=>s.length-i) (λi=>i<=s.length) hc hb 0 (A2 _) ?_ ?_;.exact at_n 2 (by simp[esc]) rfl rfl (A2 _) (zC (by simp[go_sem,esc,zM,w3]) rfl)
  intro i hi;have ae:=yb1 (s.take i);have af:(s.take i).length<=s.length:=by simp;omega
  obtain⟨o,ho⟩:∃o,b++3::esc (s.take i)=o:=⟨_,rfl⟩;have ag:o.length<=maxB+1100:=by rw[<-ho];simp;unfold maxB at*;omega
  rw[ho];refine zA ?_;simp[go_sem];refine zN (λq=>?_) (λq=>?_)
  .have q:i<s.length:=by simpa using q
   have ei:=zS q om;have aa:=yH1 q;obtain⟨c0,ab⟩:=eX (s[i]);simp[go_sem,q,ab,zK];refine zI ⟨by unfold maxB at*;omega,zV rfl⟩ ?_;simp[go_sem,q,ab];refine zN (λq2=>?_) (λq2=>?_)
   .have q2:c0=0:=by
     have:c0.toNat=0:=by simp at q2;omega
     exact Et.1 (by simpa using this)
    rw[ab,if_pos q2]at aa;simp[go_sem,zK];refine zI ⟨by unfold maxB at*;omega,zV rfl⟩ ?_;simp[go_sem,ei];exact zG (i+1) ⟨om,q,at_n 2 (by simp[aa,<-ho];omega) rfl rfl (A2 _) (zC (by simp[go_sem,aa,<-ho,zM,q2]) rfl)⟩
   .have q2:¬c0=0:=λh=>by rw[h]at q2;simp at q2
    rw[ab,if_neg q2]at aa;simp[go_sem,ei];exact zG (i+1) ⟨om,q,at_n 2 (by simp[aa,<-ho];omega) rfl rfl (A2 _) (zC (by simp[go_sem,aa,<-ho,zM]) rfl)⟩
  .have q:i=s.length:=by
    have:¬i<s.length:=by simpa using q
    omega
   subst q;simp[go_sem,zK];refine zI ⟨by unfold maxB at*;omega,xf3 rfl rfl⟩ ?_;simp[go_sem];refine zg0 ?_;rw[Df]at ho;simp[keyF,h,zM,<-ho]
end Go.Proofs.YtefbicjgbaaieaaGreat.R
