/-
  Contracts of functions that the claimed statement reaches, each proved over trees (the library Vx); used by the theorem at the end of the claim.
  Conditions: as each theorem states them.
-/
import Derived.Test.YtefbicjgbaaieaaGreatKAN
import Derived.Test.YtefbicjgbaaieaaGreatKAI
set_option maxHeartbeats 8000000
namespace Go.Vx
open Go
theorem VCalls.loose {P:Program} {f:FuncId} {args:List V} {σ:St} {R R':V->St->Prop} (h:VCalls P f args σ R) (hR: ∀r s,R r s->VRet σ.length R' r s):VCalls P f args σ R':=by
 intro w L β ab hm ha
 refine(h w L β ab hm ha).mono ?_
 rintro e w' ⟨v,r,L',σ',β',he,hr,hl,ae,af⟩
 obtain⟨v1,σ1,pick,σ2,r2,ag,hp,ah,ai⟩:=hR _ _ hr
 obtain⟨L2,β2,aa,_,_,ad,_⟩:=ag.ok ae (xs:= [v]) ⟨af,tV⟩
 refine⟨v,r2,L2,σ2,_,he,ai, ?_,aa.pick hp hm.len,zx1 (hp.bak aa.len) ah ad⟩
 rw[hp.len]
 rcases Cf pick.length σ.length with aj|ak
 .have:=(A3.1 (hp.id pick.length aj)).1
  omega
 .exact ak
end Go.Vx
namespace Go.Proofs.YtefbicjgbaaieaaGreat.R
open Go Go.Vx Go.Proofs.Tryz
set_option maxRecDepth 100000
theorem zU9 {f:FuncId} {args:List V} {l:List UInt8} (h:VCalls prog f args [] fun r s=>r=byA l/\s=stA l):Pure prog f args (bys l):=h.loose fun r s q=>by
 obtain⟨rfl,rfl⟩:=q
 have h:wret (some (byA l)) 0 (fun r s=>r=bys l/\s= []) (stA l):=wG zK ⟨rfl,rfl⟩
 obtain⟨x,h1,h2⟩:=h
 cases h1
 exact h2
def mayF (v:GValue):Bool:=
 if v.kind=0 then decide (v.n=0)&&v.s.isEmpty else if v.kind=1 then(decide (v.n=0)||decide (v.n=1))&&v.s.isEmpty
 else if v.kind=2 then v.s.isEmpty else if v.kind=3 then decide (v.n=0)&&decide (v.s.length<=64)else false
theorem yp6 (v:GValue):Pure prog 177 [.agg v.row] (.bool (mayF v)):=by
 obtain⟨k,n,s⟩:=v
 refine iW 0 func177 ntmps177 results177 fun c hc hb=>zL ?_
 simp[go_sem]
 have yes: ∀(r b:Bool) (σ:St),r=b->wret (some (.bool r)) 0 (fun r s=>r= .bool b/\s= []) σ:=fun r b σ h=>by subst h;exact wR
 repeat' (first|(refine xE (fun q=> ?_) (fun q=> ?_)<;>simp[go_sem,q])|(refine zR (fun q=> ?_) (fun q=> ?_)<;>simp[go_sem,q])|(refine yes _ _ _ ?_))
 all_goals simp_all[mayF]
 omega
def zb1 (v:GValue):List UInt8:=
 if mayF v=true then
  UInt8.ofNat v.kind.toNat::(if v.kind=1 then [UInt8.ofNat v.n.toNat]else if v.kind=2 then varF (zigF v.n)else if v.kind=3 then varF v.s.length++v.s else [])
 else []
theorem zm0 {ρ:Nat->Nat} {g:Tag} {rows rows':List (List V)} (h:rows'=rows):argS ρ (.sl .ro rows') (.sl g rows):=by subst h;exact zK
theorem zp5 {b l:List UInt8} {g:Tag} {rows:List (List V)} {σ:St} (h:zP (b++l)=rows):wret (some (.sl g rows)) 0 (fun r s=>r=bys (b++l)/\s= []) σ:=by subst h;exact wG zK ⟨rfl,rfl⟩
theorem xL4 (b:List UInt8) (v:GValue) (hv:v.ok) (aa:b.length<=maxB - 1) (hs:v.s.length<=maxB):Pure prog 224 [bys b,.agg v.row] (bys (b++zb1 v)):=by
 refine iW 0 func224 ntmps224 results224 fun c hc hb=>zL ?_
 obtain⟨k,n,s⟩:=v
 have hn:=hv.n
 simp only at hs hn
 simp[go_sem,bys,zS]
 refine zI ⟨by unfold maxB at*;omega,by simp[uni],zl4 b⟩ ?_
 simp[go_sem]
 refine pC (yp6 ⟨k,n,s⟩) ?_
 simp[go_sem]
 refine zR (fun h=> ?_) (fun h=> ?_)
 .simp[go_sem]
  refine zp5 ?_
  have h:mayF ⟨k,n,s⟩=false:=by simpa using h
  simp[zb1,h,zP]
 have h:mayF ⟨k,n,s⟩=true:=by simpa using h
 have hk:k=0∨k=1∨k=2∨k=3:=by
  unfold mayF at h
  simp only at h
  by_cases h0:k=0
  .exact .inl h0
  .by_cases h1:k=1
   .exact .inr (.inl h1)
   .by_cases h2:k=2
    .exact .inr (.inr (.inl h2))
    .by_cases h3:k=3
     .exact .inr (.inr (.inr h3))
     .simp[h0,h1,h2,h3]at h
 simp[go_sem,zS]
 refine zI ⟨by unfold maxB at*;omega,zV rfl⟩ ?_
 have w0:IntKind.u8.wrap 0=0:=by decide+kernel
 have w1:IntKind.u8.wrap 1=1:=by decide+kernel
 have w2:IntKind.u8.wrap 2=2:=by decide+kernel
 have w3:IntKind.u8.wrap 3=3:=by decide+kernel
 rcases hk with rfl|rfl|rfl|rfl
 .simp[go_sem]
  refine zp5 ?_
  simp[zb1,h,zP,w0]
 .have h1:n=0∨n=1:=by
   unfold mayF at h
   simp at h
   exact h.1
  simp[go_sem]
  refine zI ⟨zS b,by rw[zS];unfold maxB at*;omega,zV rfl⟩ ?_
  simp[go_sem]
  refine zp5 ?_
  rcases h1 with rfl|rfl<;>simp[zb1,h,zP,w0,w1]
 .simp[go_sem]
  refine pC (wf4 n hn) ?_
  simp[go_sem]
  refine zJ (zU9 (xt5 (b++ [2]) (zigF n) (by simp;unfold maxB at*;omega) (yF5 hn))) cB ⟨zm0 (by simp[zP,w2]),zC rfl,tV⟩ rfl ?_
  simp[go_sem]
  refine zp5 ?_
  simp[zb1,h]
 .simp[go_sem]
  refine zJ (zU9 (xY6 (b++ [3]) s (by simp;unfold maxB at*;omega) hs)) cB ⟨zm0 (by simp[zP,w3]),zC rfl,tV⟩ rfl ?_
  simp[go_sem]
  refine zp5 ?_
  simp[zb1,h]
end Go.Proofs.YtefbicjgbaaieaaGreat.R
namespace Go.Proofs.YtefbicjgbaaieaaGreat.R
open Go Go.Vx Go.Proofs.Tryz
set_option maxRecDepth 100000
structure LightR (row:List GValue):Prop where
 len:row.length<=20
 s: ∀v∈row,v.s.length<=500
 ok: ∀v∈row,v.ok
variable {i:Nat}{n:Nat}{e:Int}{σ:St}{x:Nat}{g:Tag}
theorem yX4 {v:GValue} (hn:i64R v.n) (h:v.s.length<=500):(zb1 v).length<=520:=by
 unfold zb1
 have h1:=zT5 (yF5 hn)
 have h2:=zT5 (v:=v.s.length) om
 (repeat' split)<;>simp<;>omega
theorem yi8: ∀{l:List GValue},(∀v∈l,v.s.length<=500)->(∀v∈l,v.ok)->(l.flatMap zb1).length<=520*l.length
 | [],_,_=>by simp
 |v::l,h,ho=>by
  have h1:=yX4 (ho v sm).n (h v sm)
  have h2:=yi8 (l:=l) (fun x hx=>h x (by simp[hx])) (fun x hx=>ho x (by simp[hx]))
  simp only[C1,Ak,Ag]
  omega
def zG0 (row:List GValue) (i:Nat):List UInt8:=varF row.length++(row.take i).flatMap zb1
def yO (row:List GValue):List UInt8:=zG0 row row.length
theorem zV2 {row:List GValue} (h:LightR row) (i:Nat):(zG0 row i).length<=20000:=by
 have h1:=zT5 (v:=row.length) (by have:=h.len;omega)
 have h2:=yi8 (l:=row.take i) (fun v hv=>h.s v (Bs hv)) (fun v hv=>h.ok v (Bs hv))
 have h3:=h.len
 have h4:(row.take i).length<=row.length:=by simp;exact Nat.min_le_right _ _
 unfold zG0
 rw[Ak]
 omega
theorem yU2 {row:List GValue} (h:i<row.length):zG0 row (i+1)=zG0 row i++zb1 row[i]:=by
 unfold zG0
 rw[C0 h,Ej,Cy]
 simp
theorem xt0 (row:List GValue) (h:LightR row):Pure prog 150 [.sl .ro (row.map GValue.row)] (.str (yO row)):=by
 refine iV 0 func150 ntmps150 results150 fun c hc hb=> ?_
 refine zA ?_
 have hl:=h.len
 have e1:IntKind.u64.wrap (row.length:Int)=(row.length:Int):=u64_id om om
 simp[go_sem,e1]
 refine zJ (zU9 (xt5 [] row.length dC om)) cB ⟨zm0 rfl,zC rfl,tV⟩ rfl ?_
 simp[go_sem]
 refine zH (S:=Nat) [3,10,11,12] (fun i=> [bys (zG0 row i),.sl .ro (row.map GValue.row),.int .i64 row.length,.int .i64 i]) (fun _=> []) (fun i=>row.length - i) (fun i=>i<=row.length) hc hb 0 (A4 _) ?_ ?_
 .exact at_0 rfl (zN (by simp[go_sem,zG0]) rfl)
 intro i hi
 refine zA ?_
 simp[go_sem]
 refine zR (fun q=> ?_) (fun q=> ?_)
 .have q:i<row.length:=by simpa using q
  obtain⟨v,hv⟩:=eX (row[i])
  have hm:v∈row:=hv▸Aa q
  simp[go_sem,q,hv]
  have h2:=zV2 h i
  have h3:=h.s v hm
  refine pC (xL4 (zG0 row i) v (h.ok v hm) (by unfold maxB;omega) (by unfold maxB;omega)) ?_
  simp[go_sem,zQ q om]
  refine zG (i+1) ⟨om,q,at_0 rfl (zN (by simp[go_sem,yU2 q,hv]) rfl)⟩
 .have q:i=row.length:=by
   have: ¬i<row.length:=by simpa using q
   omega
  subst q
  simp[go_sem,bys]
  refine zI (wS _) ?_
  simp[go_sem,zj4]
  exact wR
def wP:List UInt8->Nat->Nat->Nat×Nat×Int
 | [],_,_=>(0,0,2)
 |c::rest,i,v=>if i=9/\1<c.toNat then(0,0,5)else if c.toNat<128 then(if c.toNat=0/\0<i then(0,0,9)else(v+c.toNat%128*128^i,i+1,0))else wP rest (i+1) (v+c.toNat%128*128^i)
def yv9 (r:Nat×Nat×Int):V:= .tup [.int .u64 r.1,.int .i64 r.2.1,.int .i64 r.2.2]
theorem yT3:((List.range 256).all fun m=>ze2 .andNot .u8 (m:Int) 128==((m%128:Nat):Int))=true:=by decide+kernel
theorem xs0 (c:UInt8):ze2 .andNot .u8 (c.toNat:Int) 128=((c.toNat%128:Nat):Int):=by
 have h:=Af.1 yT3 c.toNat (C3.2 c.toNat_lt)
 exact beq_iff_eq.1 h
theorem we0 {m:Nat} (hm:m<18446744073709551616) (hn:n<18446744073709551616) (ho:m|||n<18446744073709551616):ze2 .or .u64 (m:Int) (n:Int)=((m|||n:Nat):Int):=by
 show IntKind.u64.wrap ((BitVec.ofInt 64 (m:Int)|||BitVec.ofInt 64 (n:Int)).toNat:Int)=_
 rw[BitVec.ofInt_natCast,BitVec.ofInt_natCast,BitVec.toNat_or,BitVec.toNat_ofNat,BitVec.toNat_ofNat,Ct om,Ct om]
 exact u64_id om om
theorem xh6 (i:Nat):128^i=2^(7*i):=by rw[Nat.pow_mul]
theorem wc7 {v:Nat} (hv:v<128^i):v|||(x*128^i)=v+x*128^i:=by
 rw[xh6]at*
 have:=Nat.shiftLeft_add_eq_or_of_lt hv x
 rw[Nat.shiftLeft_eq]at this
 rw[Nat.or_comm,<-this,Ei]
theorem yB9 {v:Nat} (hv:v<128^i) (hx:x<128):v+x*128^i<128^(i+1):=by
 have:(x+1)*128^i<=128*128^i:=Ao _ om
 rw[Ex]
 rw[B4]at this
 omega
theorem xg2 {v:Nat} (hv:v<128^i) (hx:x<128) (h9:i<=8∨i=9/\x<=1):v+x*128^i<18446744073709551616/\x*128^i<18446744073709551616:=by
 rcases h9 with h|⟨rfl,h⟩
 .have h1:=yB9 hv hx
  have h2:128^(i+1)<=128^9:=Nat.pow_le_pow_right om om
  omega
 .have:x=0∨x=1:=om
  rcases this with rfl|rfl<;>omega
theorem zx2 {b:List UInt8} (h:i<(zP b).length):(zP b)[i]= [.int .u8 (b[i]'(by rw[zS]at h;exact h)).toNat]:=by simp[zP]
theorem zU5 (b:List UInt8) (ah:b.length<=maxB):Pure prog 147 [bys b] (yv9 (wP b 0 0)):=by
 refine iV 0 func147 ntmps147 results147 fun c hc hb=> ?_
 refine zA ?_
 simp[go_sem,bys,zS]
 refine zH (S:=Nat×Nat) [2,7,8,9] (fun u=> [.int .u64 u.2,bys b,.int .i64 b.length,.int .i64 u.1]) (fun _=> []) (fun u=>b.length - u.1) (fun u=>u.1<=b.length/\u.1<=9/\u.2<128^u.1/\wP (b.drop u.1) u.1 u.2=wP b 0 0) hc hb (0,0) ⟨A4 _,A4 _,dC,rfl⟩ ?_ ?_
 .exact at_0 rfl (zN (by simp[go_sem,bys]) rfl)
 rintro⟨i,v⟩ ⟨hi,h9,hv,ht⟩
 simp only at hi h9 hv ht
 refine zA ?_
 simp[go_sem,bys]
 refine zR (fun q=> ?_) (fun q=> ?_)
 .have q:i<b.length:=by simpa using q
  obtain⟨c0,ae⟩: ∃c,b[i]=c:=⟨_,rfl⟩
  rw[A8 q,ae,wP]at ht
  have ak:c0.toNat<256:=c0.toNat_lt
  have ei:IntKind.i64.wrap ((i:Int)+1)=((i+1:Nat):Int):=zQ q (by unfold maxB at ah;omega)
  have ret: ∀(r:Nat×Nat×Int) (σ:St),r=wP b 0 0->wret (some (yv9 r)) 0 (fun r s=>r=yv9 (wP b 0 0)/\s= []) σ:=fun r σ h=>by subst h;exact wR
  by_cases hA:i=9/\1<c0.toNat
  .rw[if_pos hA]at ht
   simp[go_sem,zS,q,zx2,ae]
   have f1:((i:Int)==9)=true:=by simp;omega
   refine xE (fun w=> ?_) (fun w=>absurd (f1.symm.trans w) dC)
   simp[go_sem,w]
   refine zR (fun w2=> ?_) (fun w2=>absurd w2 (by simp;omega))
   simp[go_sem]
   exact ret (0,0,5) _ ht
  rw[if_neg hA]at ht
  have ai:i<=8∨i=9/\c0.toNat%128<=1:=by
   by_cases h:i=9
   .exact .inr ⟨h,by
     have: ¬1<c0.toNat:=fun w=>hA ⟨h,w⟩
     omega⟩
   .exact .inl om
  have hx:c0.toNat%128<128:=Do _ om
  have n12:=xg2 hv hx ai
  have fA:i=9-> ¬1<c0.toNat:=fun h w=>hA ⟨h,w⟩
  have a1:=xs0 c0
  have e1:IntKind.i64.wrap (7*(i:Int))=7*(i:Int):=i64_id om om
  have e2:IntKind.u64.wrap (7*(i:Int))=7*(i:Int):=u64_id om om
  have e3:IntKind.u64.wrap ((c0.toNat:Int)%128)=(c0.toNat:Int)%128:=u64_id om om
  obtain⟨x,ad⟩: ∃x:Nat,x=c0.toNat%128*128^i:=⟨_,rfl⟩
  obtain⟨m,af⟩: ∃m:Nat,m=v+x:=⟨_,rfl⟩
  have ag:m<128^(i+1):=by rw[af,ad];exact yB9 hv hx
  have aj:v|||x=m:=by rw[af,ad];exact wc7 hv
  rw[<-ad,<-af]at ht n12
  have e4:IntKind.u64.wrap ((c0.toNat:Int)%128*2^min (7*(i:Int)).toNat 64)=(x:Int):=by
   have:min (7*(i:Int)).toNat 64=7*i:=om
   rw[this]
   have h3:(c0.toNat:Int)%128*2^(7*i)=(x:Int):=by rw[ad,xh6];simp
   rw[h3,u64_id om om]
  have e5:ze2 .or .u64 (v:Int) (x:Int)=(m:Int):=by rw[we0 om om om,aj]
  simp[go_sem,zS,q,zx2,ae]
  refine xE (fun w=> ?_) (fun w=> ?_)
  .have w9:i=9:=by simp at w;omega
   have w1:=fA w9
   simp[go_sem,w]
   refine zR (fun w2=>absurd w2 (by simp;omega)) (fun w2=> ?_)
   simp[go_sem,a1,e1,e2,e3,e4,e5]
   try (refine zI om ?_;simp[go_sem,a1,e1,e2,e3,e4,e5])
   refine zR (fun w3=> ?_) (fun w3=> ?_)
   .have w4: ¬c0.toNat<128:=by have:=of_decide_eq_true w3;omega
    have i8:i+1<=9:=om
    rw[if_neg w4]at ht
    simp[go_sem,ei]
    exact zG (i+1,m) ⟨by simp only;omega,⟨q,i8,ag,ht⟩,at_0 rfl (zN (by simp[go_sem,bys,ei]) rfl)⟩
   .have w4:c0.toNat<128:=by have:=of_decide_eq_false w3;omega
    rw[if_pos w4]at ht
    simp[go_sem]
    refine xE (fun w5=> ?_) (fun w5=> ?_)
    .have aa:c0.toNat=0:=by simp at w5;omega
     simp[go_sem,w5]
     refine zR (fun w6=> ?_) (fun w6=> ?_)
     .have ab:0<i:=by simpa using w6
      rw[if_pos ⟨aa,ab⟩]at ht
      simp[go_sem]
      exact ret (0,0,9) _ ht
     .have ab: ¬0<i:=by simpa using w6
      rw[if_neg (fun h=>ab h.2)]at ht
      simp[go_sem,ei]
      exact ret (m,i+1,0) _ ht
    .have aa: ¬c0.toNat=0:=by simp at w5;omega
     rw[if_neg (fun h=>aa h.1)]at ht
     simp[go_sem,w5,ei]
     exact ret (m,i+1,0) _ ht
  .have w9: ¬i=9:=by simp at w;omega
   simp[go_sem,w,a1,e1,e2,e3,e4,e5]
   try (refine zI om ?_;simp[go_sem,a1,e1,e2,e3,e4,e5])
   refine zR (fun w3=> ?_) (fun w3=> ?_)
   .have w4: ¬c0.toNat<128:=by have:=of_decide_eq_true w3;omega
    have i8:i+1<=9:=om
    rw[if_neg w4]at ht
    simp[go_sem,ei]
    exact zG (i+1,m) ⟨by simp only;omega,⟨q,i8,ag,ht⟩,at_0 rfl (zN (by simp[go_sem,bys,ei]) rfl)⟩
   .have w4:c0.toNat<128:=by have:=of_decide_eq_false w3;omega
    rw[if_pos w4]at ht
    simp[go_sem]
    refine xE (fun w5=> ?_) (fun w5=> ?_)
    .have aa:c0.toNat=0:=by simp at w5;omega
     simp[go_sem,w5]
     refine zR (fun w6=> ?_) (fun w6=> ?_)
     .have ab:0<i:=by simpa using w6
      rw[if_pos ⟨aa,ab⟩]at ht
      simp[go_sem]
      exact ret (0,0,9) _ ht
     .have ab: ¬0<i:=by simpa using w6
      rw[if_neg (fun h=>ab h.2)]at ht
      simp[go_sem,ei]
      exact ret (m,i+1,0) _ ht
    .have aa: ¬c0.toNat=0:=by simp at w5;omega
     rw[if_neg (fun h=>aa h.1)]at ht
     simp[go_sem,w5,ei]
     exact ret (m,i+1,0) _ ht
 .have q:i=b.length:=by
   have: ¬i<b.length:=by simpa using q
   omega
  subst q
  rw[D6,wP]at ht
  simp[go_sem]
  rw[<-ht]
  exact wR
theorem zB9: ∀(l:List UInt8) (i v:Nat),(wP l i v).2.2=0->(wP l i v).2.1<=i+l.length
 | [],i,v,h=>by simp[wP]at h
 |c::rest,i,v,h=>by
  unfold wP at h⊢
  split
  .simp_all
  .rename_i h1
   rw[if_neg h1]at h
   split
   .rename_i h2
    rw[if_pos h2]at h
    split
    .rename_i h3
     rw[if_pos h3]at h
     simp at h
    .simp
   .rename_i h2
    rw[if_neg h2]at h
    have:=zB9 rest (i+1) _ h
    simp only[Ag]
    omega
def wH (b:List UInt8) (r:Nat×Nat×Int):List UInt8×Nat×Int:=
 if r.2.2≠0 then([],0,r.2.2)else if 1048576<r.1 then([],0,3)else if b.length - r.2.1<r.1 then([],0,2)else((b.take (r.2.1+r.1)).drop r.2.1,r.2.1+r.1,0)
def zc5 (b:List UInt8):List UInt8×Nat×Int:=wH b (wP b 0 0)
def yE0 (r:List UInt8×Nat×Int):V:= .tup [bys r.1,.int .i64 r.2.1,.int .i64 r.2.2]
theorem yE3 {r:List UInt8×Nat×Int} {rows:List (List V)} (h1:zP r.1=rows) (h2:r.2.1=n) (h3:r.2.2=e):
  wret (some (.tup [.sl g rows,.int .i64 n,.int .i64 e])) 0 (fun v s=>v=yE0 r/\s= []) σ:=by
 subst h1 h2 h3
 have h:argS (ren [] σ.length) (yE0 r) (.tup [.sl g (zP r.1),.int .i64 r.2.1,.int .i64 r.2.2]):=wD ⟨zx0,zb8 rfl,zb8 rfl,tV⟩
 exact wG h ⟨rfl,rfl⟩
theorem yT2 (b:List UInt8) (ab:b.length<=maxB):Pure prog 222 [bys b] (yE0 (zc5 b)):=by
 have hle:=zB9 b 0 0
 have aa:=zU5 b ab
 unfold zc5
 revert hle aa
 generalize wP b 0 0=r
 obtain⟨n,k,e⟩:=r
 intro hle aa
 simp only at hle
 refine iW 0 func222 ntmps222 results222 fun c hc hb=>zL ?_
 simp[go_sem]
 refine pC aa ?_
 simp[go_sem,yv9]
 refine zR (fun h=> ?_) (fun h=> ?_)
 .have h:e≠0:=by simpa using h
  simp[go_sem]
  exact yE3 (by simp[wH,h,zP]) (by simp[wH,h]) (by simp[wH,h])
 have h:e=0:=by simpa using h
 have hk:=hle h
 have e1:IntKind.i64.wrap ((b.length:Int) - (k:Int))=((b.length - k:Nat):Int):=by rw[i64_id (by unfold maxB at*;omega) (by unfold maxB at*;omega)];omega
 have e2:IntKind.u64.wrap ((b.length - k:Nat):Int)=((b.length - k:Nat):Int):=u64_id om (by unfold maxB at*;omega)
 simp[go_sem]
 refine zR (fun h2=> ?_) (fun h2=> ?_)
 .have h2:1048576<n:=by have:=of_decide_eq_true h2;omega
  simp[go_sem]
  exact yE3 (by simp[wH,h,h2,zP]) (by simp[wH,h,h2]) (by simp[wH,h,h2])
 have h2: ¬1048576<n:=by have:=of_decide_eq_false h2;omega
 simp[go_sem,bys,zS,e1,e2]
 refine zR (fun h3=> ?_) (fun h3=> ?_)
 .have h3:b.length - k<n:=by have:=of_decide_eq_true h3;omega
  simp[go_sem]
  exact yE3 (by simp[wH,h,h2,h3,zP]) (by simp[wH,h,h2,h3]) (by simp[wH,h,h2,h3])
 have h3: ¬b.length - k<n:=by have:=of_decide_eq_false h3;omega
 have e3:IntKind.i64.wrap (n:Int)=(n:Int):=i64_id om om
 have e4:IntKind.i64.wrap ((k:Int)+(n:Int))=((k+n:Nat):Int):=by rw[i64_id (by unfold maxB at*;omega) (by unfold maxB at*;omega)];omega
 simp[go_sem,zS,e3,e4]
 refine zI ⟨om,om,zl4 b⟩ ?_
 have e5:((k:Int)+(n:Int)).toNat=k+n:=om
 have hlen:((b.take (k+n)).drop k).length<=maxB:=by simp;omega
 simp[go_sem,e5]
 refine zJ9 (yY1 ((b.take (k+n)).drop k) 0 hlen dC) cB ⟨zm0 (by simp[zP,List.map_take,Eu]),zC rfl,tV⟩ ?_
 rintro r s ⟨rfl,rfl⟩
 simp[go_sem,byA,stA]
 exact yE3 (by simp[wH,h,h2,h3]) (by simp[wH,h,h2,h3]) (by simp[wH,h,h2,h3])
def zagF (u:Nat):Int:=if u%2=0 then((u/2:Nat):Int)else -((u/2:Nat):Int) - 1
structure TakeR where
 v:GValue
 n:Nat
 e:Int
def TakeR.V (r:TakeR):V:= .tup [.agg r.v.row,.int .i64 r.n,.int .i64 r.e]
def v0:GValue:=⟨0,0,[]⟩
def zg1 (b:List UInt8):TakeR:=
 if b.length<2 then⟨v0,0,2⟩else if 1<(b.getD 1 0).toNat then⟨v0,0,9⟩else⟨⟨1,(b.getD 1 0).toNat,[]⟩,2,0⟩
theorem zf3 {r:TakeR} {k m:Int} {s:List UInt8} (h:r=⟨⟨k,m,s⟩,n,e⟩):
  wret (some (.tup [.agg [.int .i64 k,.int .i64 m,.str s],.int .i64 n,.int .i64 e])) 0 (fun v s=>v=r.V/\s= []) σ:=by
 subst h
 exact wR
theorem yZ5 (b:List UInt8) (ad:b.length<=maxB):Pure prog 220 [bys b] (zg1 b).V:=by
 refine iW 0 func220 ntmps220 results220 fun c hc hb=>zL ?_
 simp[go_sem,bys,zS]
 refine zR (fun h=> ?_) (fun h=> ?_)
 .have h:b.length<2:=by have:=of_decide_eq_true h;omega
  simp[go_sem]
  exact zf3 (n:=0) (by simp[zg1,h,v0])
 have h: ¬b.length<2:=by have:=of_decide_eq_false h;omega
 have h1:1<b.length:=om
 obtain⟨c0,aa⟩: ∃c,b[1]=c:=⟨_,rfl⟩
 have ab:b.getD 1 0=c0:=by rw[A7,A0 h1,aa];rfl
 have e1:IntKind.i64.wrap (c0.toNat:Int)=(c0.toNat:Int):=i64_id om (by have:=c0.toNat_lt;omega)
 simp[go_sem,zS,h1,zx2,aa]
 refine zI om ?_
 simp[go_sem]
 refine zR (fun h2=> ?_) (fun h2=> ?_)
 .have h2:1<c0.toNat:=by have:=of_decide_eq_true h2;omega
  simp[go_sem]
  exact zf3 (n:=0) (by simp only[zg1,ab];rw[if_neg h,if_pos h2];rfl)
 .have h2: ¬1<c0.toNat:=by have:=of_decide_eq_false h2;omega
  simp[go_sem,zS,h1,zx2,aa,e1]
  refine zI om ?_
  simp[go_sem,e1]
  exact zf3 (n:=2) (by simp only[zg1,ab];rw[if_neg h,if_neg h2])
theorem we5 {x:Int} (h:0<=x) (h2:x<=9223372036854775807):ze2 .xor .i64 x 0=x:=by
 obtain⟨m,rfl⟩:=Ek h
 show IntKind.i64.wrap ((BitVec.ofInt 64 (m:Int)^^^BitVec.ofInt 64 0).toNat:Int)=m
 have e:BitVec.ofInt 64 (0:Int)=0#64:=rfl
 rw[e,BitVec.xor_zero,BitVec.ofInt_natCast,BitVec.toNat_ofNat,Ct om]
 exact i64_id om om
theorem we6 {x:Int} (h:0<=x) (h2:x<=9223372036854775807):ze2 .xor .i64 x (-1)= -x - 1:=by
 obtain⟨m,rfl⟩:=Ek h
 show IntKind.i64.wrap ((BitVec.ofInt 64 (m:Int)^^^BitVec.ofInt 64 (-1)).toNat:Int)=_
 have e:BitVec.ofInt 64 (-1:Int)=BitVec.allOnes 64:=by decide+kernel
 rw[e,BitVec.xor_allOnes,BitVec.ofInt_natCast,BitVec.toNat_not,BitVec.toNat_ofNat,Ct om]
 rw[IntKind.wrap_i64]
 omega
theorem wf5 {m:Nat} (h:m<18446744073709551616):ze2 .and .u64 (m:Int) 1=(m:Int)%2:=by
 show IntKind.u64.wrap ((BitVec.ofInt 64 (m:Int)&&&BitVec.ofInt 64 1).toNat:Int)=_
 have e:BitVec.ofInt 64 (1:Int)=1#64:=rfl
 rw[e,BitVec.ofInt_natCast,BitVec.toNat_and,BitVec.toNat_ofNat,Ct om]
 have e2:m&&&(1#64).toNat=m%2:=Nat.and_one_is_mod m
 rw[e2,u64_id om om]
 omega
theorem wf3 (u:Nat) (hu:u<18446744073709551616):Pure prog 221 [.int .u64 u] (.int .i64 (zagF u)):=by
 have e0:=wf5 hu
 have e1:(u:Int).fdiv 2=(u:Int)/2:=Cl _ om
 have e3:IntKind.i64.wrap ((u:Int)/2)=(u:Int)/2:=i64_id om om
 have e4:IntKind.i64.wrap ((u:Int)%2)=(u:Int)%2:=i64_id om om
 have e5:IntKind.i64.wrap (-((u:Int)%2))= -((u:Int)%2):=i64_id om om
 have e6:ze2 .xor .i64 ((u:Int)/2) (-((u:Int)%2))=zagF u:=by
  unfold zagF
  by_cases h:u%2=0
  .rw[if_pos h,show -((u:Int)%2)=0 by omega,we5 om om];omega
  .rw[if_neg h,show -((u:Int)%2)= -1 by omega,we6 om om];omega
 refine iW 0 func221 ntmps221 results221 fun c hc hb=>zL ?_
 simp[go_sem,e0,e1,e3,e4,e5,e6]
 exact wR
theorem zT2: ∀(l:List UInt8) (i v:Nat),v<128^i->i<=9->(wP l i v).1<18446744073709551616
 | [],i,v,_,_=>by simp[wP]
 |c::rest,i,v,hv,h9=>by
  have hc:=c.toNat_lt
  unfold wP
  split
  .simp
  .rename_i h1
   have aa:i<=8∨i=9/\c.toNat%128<=1:=by
    by_cases h:i=9
    .exact .inr ⟨h,by
      have: ¬1<c.toNat:=fun w=>h1 ⟨h,w⟩
      omega⟩
    .exact .inl om
   have hx:c.toNat%128<128:=Do _ om
   have n12:=xg2 hv hx aa
   split
   .split
    .simp
    .exact n12.1
   .rename_i h2
    refine zT2 rest (i+1) _ (yB9 hv hx) ?_
    rcases aa with h|h
    .omega
    .exfalso
     have: ¬1<c.toNat:=fun w=>h1 ⟨h.1,w⟩
     omega
def zt0 (k:Nat) (tb:TakeR) (r:Nat×Nat×Int) (t:List UInt8×Nat×Int):TakeR:=
 if k=0 then⟨v0,1,0⟩
 else if k=1 then tb
 else if k=2 then(if r.2.2≠0 then⟨v0,0,r.2.2⟩else⟨⟨2,zagF r.1,[]⟩,1+r.2.1,0⟩)
 else if k=3 then(if t.2.2≠0 then⟨v0,0,t.2.2⟩else if 64<t.1.length then⟨v0,0,3⟩else⟨⟨3,0,t.1⟩,1+t.2.1,0⟩)
 else⟨v0,0,9⟩
def zg6:List UInt8->TakeR
 | []=>⟨v0,0,2⟩
 |c::rest=>zt0 c.toNat (zg1 (c::rest)) (wP rest 0 0) (zc5 rest)
theorem ya2 (b:List UInt8):(zc5 b).2.1<=b.length/\((zc5 b).2.2=0->(zc5 b).1.length<=b.length):=by
 have hle:=zB9 b 0 0
 unfold zc5 wH
 revert hle
 generalize wP b 0 0=r
 obtain⟨n,k,e⟩:=r
 intro hle
 simp only at hle⊢
 split
 .simp
 .rename_i h
  have h:e=0:=Decidable.not_not.1 h
  have hk:=hle h
  split
  .simp
  .split
   .simp
   .refine⟨?_,fun _=> ?_⟩
    .simp only;omega
    .simp;omega
theorem xY5 (b:List UInt8) (ah:b.length<=maxB):Pure prog 148 [bys b] (zg6 b).V:=by
 cases b with
 |nil=>
  refine iW 0 func148 ntmps148 results148 fun c hc hb=>zL ?_
  simp[go_sem,bys,zP]
  exact zf3 (n:=0) rfl
 |cons c0 rest=>
  have hc:=c0.toNat_lt
  have hr:rest.length<=maxB:=by simp only[Ag]at ah;omega
  have ab:=zT2 rest 0 0 dC dC
  have hle:=zB9 rest 0 0
  have ad:=zU5 rest hr
  have ae:=yT2 rest hr
  have af:=ya2 rest
  have ag:=yZ5 (c0::rest) ah
  have e1:IntKind.i64.wrap (c0.toNat:Int)=(c0.toNat:Int):=i64_id om om
  have aa:zP (c0::rest)= [.int .u8 c0.toNat]::zP rest:=rfl
  rw[zg6]
  revert ab hle ad ae ag af
  generalize wP rest 0 0=r
  generalize zc5 rest=t
  generalize zg1 (c0::rest)=tb
  obtain⟨n,k,e⟩:=r
  obtain⟨tx,tk,te⟩:=t
  obtain⟨⟨bk,bn,bs⟩,bm,be⟩:=tb
  obtain⟨q,hq⟩:=eX c0.toNat
  intro ab hle ad ae af ag
  simp only at ab hle af
  rw[hq]at hc e1 aa⊢
  have e2:e=0->IntKind.i64.wrap (1+(k:Int))=((1+k:Nat):Int):=fun h=>by
   have:=hle h
   rw[i64_id om (by unfold maxB at*;omega)];omega
  have e3:IntKind.i64.wrap (1+(tk:Int))=((1+tk:Nat):Int):=by rw[i64_id om (by unfold maxB at*;omega)];omega
  have e4:(zP rest).take rest.length=zP rest:=Al (by rw[zS];omega)
  have hu:uni 1 ([V.int .u8 (q:Int)]::zP rest):=aa▸zl4 (c0::rest)
  refine iW 0 func148 ntmps148 results148 fun c hc hb=>zL ?_
  simp[go_sem,bys,aa,zS]
  refine zR (fun w=>absurd w (by simp;omega)) (fun w=> ?_)
  simp[go_sem,aa,zS,e1]
  refine zR (fun w1=> ?_) (fun w1=> ?_)
  .have w1:q=0:=by simp at w1;omega
   simp[go_sem]
   exact zf3 (n:=1) (by simp[zt0,w1,v0])
  have w1: ¬q=0:=by simp at w1;omega
  simp[go_sem]
  refine zR (fun w2=> ?_) (fun w2=> ?_)
  .have w2:q=1:=by simp at w2;omega
   simp[go_sem]
   refine zJ ag cB (zN (by simp[bys,aa]) rfl) rfl ?_
   simp[go_sem,TakeR.V]
   exact zf3 (n:=bm) (by simp[zt0,w2])
  have w2: ¬q=1:=by simp at w2;omega
  simp[go_sem]
  refine zR (fun w3=> ?_) (fun w3=> ?_)
  .have w3:q=2:=by simp at w3;omega
   simp[go_sem,aa,zS]
   refine zI ⟨om,hu⟩ ?_
   simp[go_sem,e4]
   refine pC ad ?_
   simp[go_sem,yv9]
   refine zR (fun w4=> ?_) (fun w4=> ?_)
   .have w4:e≠0:=by simpa using w4
    simp[go_sem]
    exact zf3 (n:=0) (by simp[zt0,w3,w4,v0])
   have w4:e=0:=by simpa using w4
   have e5:=e2 w4
   simp[go_sem]
   refine pC (wf3 n ab) ?_
   simp[go_sem,e5]
   exact zf3 (n:=1+k) (by simp[zt0,w3,w4])
  have w3: ¬q=2:=by simp at w3;omega
  simp[go_sem]
  refine zR (fun w4=> ?_) (fun w4=> ?_)
  .have w4:q=3:=by simp at w4;omega
   simp[go_sem,aa,zS]
   refine zI ⟨om,hu⟩ ?_
   simp[go_sem,e4]
   refine pC ae ?_
   simp[go_sem,yE0,bys,zS]
   refine zR (fun w5=> ?_) (fun w5=> ?_)
   .have w5:te≠0:=by simpa using w5
    simp[go_sem]
    exact zf3 (n:=0) (by simp[zt0,w4,w5,v0])
   have w5:te=0:=by simpa using w5
   simp[go_sem,zS]
   refine zR (fun w6=> ?_) (fun w6=> ?_)
   .have w6:64<tx.length:=by have:=of_decide_eq_true w6;omega
    simp[go_sem]
    exact zf3 (n:=0) (by simp[zt0,w4,w5,w6,v0])
   have w6: ¬64<tx.length:=by have:=of_decide_eq_false w6;omega
   simp[go_sem]
   refine zI (wS _) ?_
   simp[go_sem,e3,zj4]
   exact zf3 (n:=1+tk) (by simp[zt0,w4,w5,w6])
  have w4: ¬q=3:=by simp at w4;omega
  simp[go_sem]
  exact zf3 (n:=0) (by simp[zt0,w1,w2,w3,w4,v0])
theorem is_w (aa tabs:List (List V)) (t:Int):Pure prog 146 [.agg [.sl .ro aa,.sl .ro tabs],.int .i64 t] (.bool (decide (0<=t)&&decide (t<tabs.length))):=by
 refine iW 0 func146 ntmps146 results146 fun c hc hb=>zL ?_
 simp[go_sem]
 repeat' (first|(refine xE (fun q=> ?_) (fun q=> ?_)<;>simp[go_sem,q])|(refine zR (fun q=> ?_) (fun q=> ?_)<;>simp[go_sem,q]))
 all_goals exact wG (zC rfl) ⟨by simp_all,rfl⟩
theorem xH6 (b:List UInt8):(zg6 b).e=0->(zg6 b).n<=b.length:=by
 cases b with
 |nil=>simp[zg6]
 |cons c rest=>
  have h1:=zB9 rest 0 0
  have h2:=ya2 rest
  rw[zg6]
  unfold zt0 zg1
  revert h1 h2
  generalize wP rest 0 0=r
  generalize zc5 rest=t
  obtain⟨rn,rk,re⟩:=r
  obtain⟨tx,tk,te⟩:=t
  intro h1 h2
  simp only at h1 h2
  (repeat' split)<;>intro h<;>simp at h⊢ <;>(try omega)
  .rename_i q1 q2 q3;simp only[Ag]at q2;omega
  .rename_i q;simp at q;have:=h1 q;omega
def rowG:Nat->List UInt8->Option (List GValue)
 |0,b=>if b= []then some []else none
 |n+1,b=>if(zg6 b).e=0 then(rowG n (b.drop (zg6 b).n)).map ((zg6 b).v:: ·)else none
def rowR (o:Option (List GValue)):List GValue×Int:=match o with
 |some l=>(l,0)
 |none=>([],9)
def rowC (nc:Nat) (data:List UInt8):List GValue×Int:=
 if(wP data 0 0).2.2=0/\(wP data 0 0).1=nc then rowR (rowG nc (data.drop (wP data 0 0).2.1))else([],9)
def rowF (ts:List GTable) (table:Int) (data:List UInt8):List GValue×Int:=
 if h:0<=table/\table<ts.length then rowC (ts[table.toNat]'om).cols.length data else([],1)
theorem yx6 (b:List UInt8) (k:Nat):List.drop k (List.take b.length (zP b))=zP (b.drop k):=by
 rw[Al (by rw[zS];exact A5 _)]
 simp[zP,Eu]
def rowV (r:List GValue×Int):V:= .tup [.sl .ro (r.1.map GValue.row),.int .i64 r.2]
theorem xi5 {r:List GValue×Int} {l:List GValue} (h:r=(l,e)):wret (some (.tup [.sl g (l.map GValue.row),.int .i64 e])) 0 (fun v s=>v=rowV r/\s= []) σ:=by
 subst h
 exact wG (r:=rowV (l,e)) (wD (vs':= [.sl .ro (l.map GValue.row),.int .i64 e]) ⟨zx0,zb8 rfl,tV⟩) ⟨rfl,rfl⟩
theorem zS4 {r:List GValue×Int} (h:r=([],e)):wret (some (.tup [.sl g [],.int .i64 e])) 0 (fun v s=>v=rowV r/\s= []) σ:=xi5 (l:= []) h
theorem xV8 (ab:List (List V)) (ts:List GTable) (table:Int) (data:List UInt8) (hd:data.length<=maxB) (an: ∀t∈ts,t.cols.length<=maxB):
  Pure prog 87 [.agg [.sl .ro ab,.sl .ro (ts.map GTable.row)],.int .i64 table,.str data] (rowV (rowF ts table data)):=by
 have ah:=zT2 data 0 0 dC dC
 have hle:=zB9 data 0 0
 have ai:=zU5 data hd
 by_cases ht:0<=table/\table<ts.length
 .obtain⟨j,rfl⟩: ∃j:Nat,table=j:=⟨table.toNat,om⟩
  have hj:j<ts.length:=om
  obtain⟨t,aj⟩:=eX (ts[j])
  have af:=an t (aj▸Aa hj)
  have hF:rowF ts j data=rowC t.cols.length data:=by
   unfold rowF
   rw[dif_pos ht]
   simp[aj]
  rw[hF]
  unfold rowC
  revert ah hle ai
  generalize wP data 0 0=r
  obtain⟨n,k,e⟩:=r
  intro ah hle ai
  simp only at ah hle⊢
  obtain⟨nc,ag⟩:=eX t.cols.length
  rw[ag]at af⊢
  have eu:IntKind.u64.wrap (nc:Int)=nc:=u64_id om (by unfold maxB at af;omega)
  refine iV 0 func87 ntmps87 results87 fun c hc hb=> ?_
  refine zA ?_
  simp[go_sem]
  refine pC (is_w ab (ts.map GTable.row) j) ?_
  simp[go_sem,hj]
  refine zJ ai cB (zN (by simp[bys,zP]) rfl) rfl ?_
  simp[go_sem,yv9]
  have bad: ∀σ:St,¬(e=0/\n=nc)->wret (some (.tup [.sl .full [],.int .i64 9])) 0 (fun v s=>v=rowV (if e=0/\n=nc then rowR (rowG nc (data.drop k))else([],9))/\s= []) σ:=fun σ h=>zS4 (by rw[if_neg h])
  refine xE (fun ad=> ?_) (fun ad=> ?_)
  .have q1:e=0:=by simpa using ad
   simp[go_sem,ad,hj,aj,ag,eu]
   refine zR (fun q2=> ?_) (fun q2=> ?_)
   .have q2: ¬n=nc:=by simp at q2;omega
    simp[go_sem]
    exact bad _ (fun h=>q2 h.2)
   have q2:n=nc:=by simp at q2;omega
   have hk:=hle q1
   rw[if_pos ⟨q1,q2⟩]
   simp[go_sem]
   refine zi6 12 3 dC rfl ?_
   refine zH (S:=Nat×Nat×List GValue) [8,10,12,42,43] (fun u=> [bys data,.int .i64 u.2.1,.sl (.app 1) (u.2.2.map GValue.row),.int .u64 nc,.int .u64 u.1]) (fun u=> [.box [.sl .ro ab,.sl .ro (ts.map GTable.row)],.app u.2.2.length 3]) (fun u=>nc - u.1)
    (fun u=>u.1<=nc/\u.2.1<=data.length/\u.2.2.length=u.1/\(rowG (nc - u.1) (data.drop u.2.1)).map (u.2.2++ ·)=rowG nc (data.drop k)) hc hb (0,k,[]) ⟨A4 _,by simp only;omega,rfl,sm⟩ ?_ ?_
   .exact at_n 2 sm rfl rfl (A4 _) (zF (by simp[go_sem,bys,zP,q2]) rfl)
   rintro⟨i,at_,l⟩ ⟨hi,ao,al,aa⟩
   simp only at hi ao al aa
   have ar:data.length - at_<=maxB:=om
   have ak:=xY5 (data.drop at_) (by simp;omega)
   have ae:=xH6 (data.drop at_)
   rw[De]at ae
   refine zA ?_
   simp[go_sem]
   refine zR (fun q3=> ?_) (fun q3=> ?_)
   .have q3:i<nc:=by simpa using q3
    rw[show nc - i=(nc - i - 1)+1 by omega,rowG]at aa
    revert ak ae aa
    generalize zg6 (data.drop at_)=r
    obtain⟨⟨vk,vn,vs⟩,rn,re⟩:=r
    intro aa ak ae
    simp only at ae aa
    simp[go_sem,bys,zS]
    refine zI ⟨om,zl4 data⟩ ?_
    simp[go_sem]
    refine zJ ak cB (zN (by simp[bys,yx6]) rfl) rfl ?_
    simp[go_sem,TakeR.V]
    refine zR (fun q4=> ?_) (fun q4=> ?_)
    .have q4: ¬re=0:=by simpa using q4
     rw[if_neg q4]at aa
     simp[go_sem]
     rw[<-aa]
     exact zS4 rfl
    have q4:re=0:=by simpa using q4
    rw[if_pos q4]at aa
    have au:=ae q4
    have ea:IntKind.i64.wrap ((at_:Int)+rn)=((at_+rn:Nat):Int):=by rw[i64_id om (by unfold maxB at hd;omega)];omega
    have ei:IntKind.u64.wrap ((i:Int)+1)=((i+1:Nat):Int):=by rw[u64_id om (by unfold maxB at af;omega)];omega
    have aq:(l.length+1)*32<=140737488355328:=by unfold maxB at af;omega
    simp[go_sem]
    refine zI ⟨by simpa using aq,zV rfl⟩ ?_
    simp[go_sem,ea,ei]
    refine zG (i+1,at_+rn,l++ [⟨vk,vn,vs⟩]) ⟨by simp only;omega,⟨q3,by simp only;omega,by simp[al], ?_⟩,at_n 2 sm rfl rfl (A4 _) (zF (by simp[go_sem,bys,ea,ei]) rfl)⟩
    rw[<-aa]
    simp only
    rw[show nc - (i+1)=nc - i - 1 by omega,List.drop_drop]
    cases rowG (nc - i - 1) (data.drop (at_+rn))<;>simp
   .have q3:i=nc:=by
     have: ¬i<nc:=by simpa using q3
     omega
    subst q3
    simp[rowG]at aa
    simp[go_sem,bys,zS]
    refine zR (fun q4=> ?_) (fun q4=> ?_)
    .have q4:at_<data.length:=by simpa using q4
     rw[if_neg om]at aa
     simp[go_sem]
     rw[<-aa]
     exact zS4 rfl
    have q4:data.length<=at_:=by simpa using q4
    rw[if_pos q4]at aa
    simp[go_sem]
    rw[<-aa]
    exact xi5 (by simp[rowR])
  .have q1: ¬e=0:=by simpa using ad
   simp[go_sem,ad]
   exact bad _ (fun h=>q1 h.1)
 .have hF:rowF ts table data=([],1):=by
   unfold rowF
   rw[dif_neg ht]
  rw[hF]
  refine iV 0 func87 ntmps87 results87 fun c hc hb=> ?_
  refine zA ?_
  simp[go_sem]
  refine pC (is_w ab (ts.map GTable.row) table) ?_
  have hn:(decide (0<=table)&&decide (table<((ts.map GTable.row).length:Int)))=false:=by simp;omega
  rw[hn]
  simp[go_sem]
  exact zS4 rfl
def be (v:Nat):Nat->List UInt8
 |0=> []
 |k+1=>UInt8.ofNat (v/256^k)::be v k
theorem yT5 (v:Nat): ∀k,(be v k).length=k
 |0=>rfl
 |k+1=>by simp[be,yT5 v k]
theorem yb4 (a b:UInt8) (l m:List UInt8):Op.bytesLess (a::l) (b::m)=if a.toNat<b.toNat then true else if b.toNat<a.toNat then false else Op.bytesLess l m:=by
 rw[Op.bytesLess]
 simp only[UInt8.lt_iff_toNat_lt]
 by_cases h1:a.toNat<b.toNat
 .simp[h1]
 .by_cases h2:b.toNat<a.toNat
  .have:a≠b:=fun h=>by subst h;omega
   simp[h1,h2,this]
  .have:a=b:=Ev.1 om
   simp[this]
def esc:List UInt8->List UInt8
 | []=> []
 |c::s=>if c=0 then 0::255::esc s else c::esc s
theorem yy2: ∀s,(esc s).length<=2*s.length
 | []=>by simp[esc]
 |c::s=>by
  have:=yy2 s
  unfold esc
  split<;>simp<;>omega
theorem yf2: ∀a b,esc (a++b)=esc a++esc b
 | [],b=>rfl
 |c::a,b=>by
  have:=yf2 a b
  rw[Bz,esc,esc]
  split<;>simp[this]
def keyF (v:GValue):List UInt8:=
 if mayF v=true then
  UInt8.ofNat v.kind.toNat::(if v.kind=1 then [UInt8.ofNat v.n.toNat]else if v.kind=2 then be (v.n+9223372036854775808).toNat 8 else if v.kind=3 then esc v.s++ [0,1]else [])
 else []
theorem yL2 {v:GValue}:(keyF v).length<=2*v.s.length+10:=by
 have h:=yy2 v.s
 have h2:=yT5 (v.n+9223372036854775808).toNat 8
 unfold keyF
 (repeat' split)<;>simp<;>omega
theorem wi7 (a:Nat) (h:a<2^64):a^^^2^63=(2^63+a)%2^64:=by
 apply Nat.eq_of_testBit_eq
 intro j
 rw[Nat.testBit_xor,Nat.testBit_two_pow,Nat.testBit_mod_two_pow]
 rcases Br j 63 with h1|h1|h1
 .rw[Nat.testBit_two_pow_add_gt h1]
  simp[show j<64 by omega,show ¬63=j by omega]
 .subst h1
  rw[Nat.testBit_two_pow_add_eq]
  simp
 .rw[Nat.testBit_lt_two_pow (E6 h (Nat.pow_le_pow_right dC om))]
  simp[show ¬j<64 by omega,show ¬63=j by omega]
theorem xR0 {n:Int} (h1: -9223372036854775808<=n) (h2:n<=9223372036854775807):ze2 .xor .u64 (IntKind.u64.wrap n) 9223372036854775808=(((n+9223372036854775808).toNat:Nat):Int):=by
 obtain⟨a,ha,aa⟩: ∃a:Nat,IntKind.u64.wrap n=(a:Int)/\(a:Int)=n%18446744073709551616:=by
  unfold IntKind.wrap
  simp[IntKind.bits,IntKind.signed]
  exact⟨(n%18446744073709551616).toNat,om,om⟩
 have hl:a<2^64:=om
 show IntKind.u64.wrap ((BitVec.ofInt 64 (IntKind.u64.wrap n)^^^BitVec.ofInt 64 ((9223372036854775808:Nat):Int)).toNat:Int)=_
 rw[ha,BitVec.ofInt_natCast,BitVec.ofInt_natCast,BitVec.toNat_xor,BitVec.toNat_ofNat,BitVec.toNat_ofNat,Ct hl,show 9223372036854775808%2^64=2^63 by decide,wi7 a hl]
 unfold IntKind.wrap
 simp[IntKind.bits,IntKind.signed]
 omega
theorem xL2 (n:Int) (hn:i64R n):Pure prog 256 [.int .i64 n] (.int .u64 (n+9223372036854775808).toNat):=by
 have e:=xR0 hn.1 hn.2
 refine iW 0 func256 ntmps256 results256 fun c hc hb=>zL ?_
 simp[go_sem,e]
 exact wR
theorem wi3 (n:Int):IntKind.u8.wrap n<256:=by
 unfold IntKind.wrap
 simp[IntKind.bits,IntKind.signed]
 omega
theorem wd7 (l:List UInt8) (h:l.all (fun c=>decide (c.toNat<=8))=true) (i:Nat):(l[i]?.getD 0).toNat<=8:=by
 rcases Cf i l.length with q|q
 .rw[A0 q]
  simpa using Af.1 h _ (Aa q)
 .rw[Bh q];decide
theorem yL3 {n:Int} (h0:0<=n) (h:n<=64): ∃m:Nat,V.int .i64 n= .int .i64 m/\m<=64:=⟨n.toNat,by congr 1;omega,om⟩
theorem xK9 (v:Nat) (_hv:v<18446744073709551616):VCalls prog 246 [.int .u64 v] [] fun r s=>(∃n:Nat,r= .int .i64 n/\n<=64)/\s= []:=by
 have aa:IntKind.i64.wrap 48=48:=by decide+kernel
 have ab:IntKind.i64.wrap 40=40:=by decide+kernel
 have ad:IntKind.i64.wrap 16=16:=by decide+kernel
 have w8:IntKind.i64.wrap 8=8:=by decide+kernel
 have ae:IntKind.i64.wrap (48+8)=56:=by decide+kernel
 have af:IntKind.i64.wrap (16+8)=24:=by decide+kernel
 refine iW 0 func246 ntmps246 results246 fun c hc hb=>zL ?_
 simp[go_sem]
 repeat' (refine zR (fun q=> ?_) (fun q=> ?_)<;>simp[go_sem])
 all_goals
  refine zI (wi3 _) ?_
  generalize hx:UInt8.toNat (Option.getD _ _)=x
  have h8:x<=8:=hx▸wd7 _ (by decide+kernel) _
  clear hx
  have e8:IntKind.i64.wrap (x:Int)=x:=i64_id om om
  simp[go_sem,e8]
 all_goals
  try simp only[aa,ab,ad,w8,ae,af]
  first
  |exact wG (zC rfl) ⟨yL3 om om,rfl⟩
  |(rw[i64_id om om]
    exact wG (zC rfl) ⟨yL3 om om,rfl⟩)
theorem xN2 (v k:Nat) (_hk:k<=7):IntKind.u8.wrap ((v:Int).fdiv (2^(8*k)))=((UInt8.ofNat (v/256^k)).toNat:Int):=by
 have e:(v:Int).fdiv (2^(8*k))=((v/256^k:Nat):Int):=by
  rw[Cl _ (by exact Int.le_of_lt (Int.pow_pos dC))]
  rw[show(2:Int)^(8*k)=((256^k:Nat):Int) by rw[Int.pow_mul];simp]
  rw[Int.natCast_ediv]
 rw[e,zX5]
theorem wf0 (b:List UInt8) (v:Nat) (ab:b.length<=maxB) (hv:v<18446744073709551616):Pure prog 255 [bys b,.int .u64 v,.int .i64 8] (.tup [bys (b++be v 8),.int .i64 0]):=by
 refine iV 0 func255 ntmps255 results255 fun c hc hb=> ?_
 refine zA ?_
 simp[go_sem,bys]
 refine xU6 (R:=fun r=> ∃n:Nat,r= .int .i64 n/\n<=64) (xK9 v hv) cB (yC rfl) (fun r h=>by obtain⟨b,rfl,_⟩:=h;rfl) ?_
 rintro r ⟨n,rfl,hn⟩
 have ad:IntKind.i64.wrap 64=64:=by decide+kernel
 simp[go_sem,ad]
 refine zR (fun q=>absurd q (by simp;omega)) (fun q=> ?_)
 simp[go_sem]
 refine zJ9 (yY1 b 8 ab dC) cB (yC rfl) ?_
 rintro r s ⟨rfl,rfl⟩
 simp[go_sem,byA,stA]
 have ew: ∀k:Nat,k<=8->IntKind.i64.wrap (8*(k:Int) - 8)=8*(k:Int) - 8:=fun k h=>i64_id om om
 have ae:IntKind.i64.wrap (8*IntKind.i64.wrap 7)=56:=by decide+kernel
 refine zH (S:=Nat×List UInt8) [1,8,9] (fun u=> [.int .u64 v,byA u.2,.int .i64 (8*(u.1:Int) - 8)]) (fun u=>stA u.2) (fun u=>u.1) (fun u=>u.1<=8/\u.2++be v u.1=b++be v 8) hc hb (8,b) ⟨A5 _,rfl⟩ ?_ ?_
 .exact at_n 1 (by simp[stA]) rfl rfl (A4 _) (zF (by simp[go_sem,byA]) rfl)
 rintro⟨k,out⟩ ⟨hk,aa⟩
 simp only at hk aa
 have af:out.length+k=b.length+8:=by
  have:=congrArg List.length aa
  simpa[yT5]using this
 refine zA ?_
 simp[go_sem,byA,stA]
 refine zR (fun q=> ?_) (fun q=> ?_)
 .obtain⟨j,rfl⟩: ∃j,k=j+1:=⟨k - 1,by simp at q;omega⟩
  have e1:IntKind.u64.wrap (8*((j+1:Nat):Int) - 8)=((8*j:Nat):Int):=by rw[u64_id om om];omega
  have e2:IntKind.i64.wrap (8*((j+1:Nat):Int) - 8 - 8)=8*(j:Int) - 8:=by rw[i64_id om om];omega
  have e3:=xN2 v j om
  simp[go_sem]at e1 e2
  simp[go_sem,e1]
  refine zI om ?_
  have e4:min (8*(j:Int)).toNat 64=8*j:=om
  simp[go_sem,e4,e3]
  refine zI ⟨zS out,by rw[zS];unfold maxB at ab;omega,zV rfl⟩ ?_
  simp[go_sem,e2]
  rw[be]at aa
  refine zG (j,out++ [UInt8.ofNat (v/256^j)]) ⟨by simp only;omega,⟨by simp only;omega,by simpa using aa⟩,at_n 1 sm rfl rfl (A4 _) (zF (by simp[go_sem,zP]) rfl)⟩
 .have:k=0:=by simp at q;omega
  subst this
  rw[show be v 0= [] from rfl,Az]at aa
  simp[go_sem]
  rw[<-aa]
  exact wG (wD (vs':= [bys out,.int .i64 0]) ⟨zx0,zb8 rfl,tV⟩) ⟨rfl,rfl⟩
theorem yg9 {v:GValue} (h:mayF v=true):v.kind=0∨v.kind=1∨v.kind=2∨v.kind=3:=by
 unfold mayF at h
 by_cases h0:v.kind=0
 .exact .inl h0
 .by_cases h1:v.kind=1
  .exact .inr (.inl h1)
  .by_cases h2:v.kind=2
   .exact .inr (.inr (.inl h2))
   .by_cases h3:v.kind=3
    .exact .inr (.inr (.inr h3))
    .simp[h0,h1,h2,h3]at h
theorem xx5 {s:List UInt8} (h:i<s.length):esc (s.take (i+1))=esc (s.take i)++(if s[i]=0 then [0,255]else [s[i]]):=by
 rw[C0 h,yf2]
 simp only[esc]
theorem xU2 {s:Nat} {a b:List V} (h1:a.length=s) (h2:b.length=s):uni s [a,b]:=fun r hr=>by
 simp at hr
 rcases hr with rfl|rfl<;>assumption
theorem yM2 {v:GValue} (h:mayF v=true):v.s.length<=64:=by
 unfold mayF at h
 split at h
 .simp at h;rw[h.2];decide
 split at h
 .simp at h;rw[h.2];decide
 split at h
 .simp at h;rw[h];decide
 split at h
 .simp at h;exact h.2
 .cases h
theorem xY3 (b:List UInt8) (v:GValue) (hv:v.ok) (ad:b.length<=maxB - 1):Pure prog 179 [bys b,.agg v.row] (bys (b++keyF v)):=by
 refine iV 0 func179 ntmps179 results179 fun c hc hb=> ?_
 refine zA ?_
 obtain⟨k,n,s⟩:=v
 have hn:=hv.n
 simp only at hn
 simp[go_sem,bys,zS]
 refine zI ⟨by unfold maxB at*;omega,by simp[uni],zl4 b⟩ ?_
 simp[go_sem]
 refine pC (yp6 ⟨k,n,s⟩) ?_
 simp[go_sem]
 refine zR (fun h=> ?_) (fun h=> ?_)
 .simp[go_sem]
  refine zp5 ?_
  have h:mayF ⟨k,n,s⟩=false:=by simpa using h
  simp[keyF,h,zP]
 have h:mayF ⟨k,n,s⟩=true:=by simpa using h
 have hs:s.length<=500:=by
   have:s.length<=64:=yM2 h
   omega
 have hk:=yg9 h
 simp only at hk
 simp[go_sem,zS]
 refine zI ⟨by unfold maxB at*;omega,zV rfl⟩ ?_
 have w0:IntKind.u8.wrap 0=0:=by decide+kernel
 have w1:IntKind.u8.wrap 1=1:=by decide+kernel
 have w2:IntKind.u8.wrap 2=2:=by decide+kernel
 have w3:IntKind.u8.wrap 3=3:=by decide+kernel
 rcases hk with rfl|rfl|rfl|rfl
 .simp[go_sem]
  refine zp5 ?_
  simp[keyF,h,zP,w0]
 .have h1:n=0∨n=1:=by
   unfold mayF at h
   simp at h
   exact h.1
  simp[go_sem]
  refine zI ⟨zS b,by rw[zS];unfold maxB at*;omega,zV rfl⟩ ?_
  simp[go_sem]
  refine zp5 ?_
  rcases h1 with rfl|rfl<;>simp[keyF,h,zP,w0,w1]
 .simp[go_sem]
  obtain⟨u,hu⟩:=eX ((n+9223372036854775808).toNat)
  have hO:=xL2 n hn
  rw[hu]at hO
  refine pC hO ?_
  simp[go_sem]
  refine zJ (wf0 (b++ [2]) u (by simp;unfold maxB at*;omega) om) cB ⟨zm0 (by simp[zP,w2]),zC rfl,zC rfl,tV⟩ rfl ?_
  simp[go_sem]
  refine zp5 ?_
  simp[keyF,h,hu]
 .simp[go_sem]
  refine zH (S:=Nat) [3,5,44,45] (fun i=> [.ptr 0 0,.sl (.app 1) (zP (b++3::esc (s.take i))),.int .i64 s.length,.int .i64 i]) (fun i=> [.box [.int .i64 3,.int .i64 n,.str s],.app (b++3::esc (s.take i)).length 1]) (fun i=>s.length - i) (fun i=>i<=s.length) hc hb 0 (A4 _) ?_ ?_
  .exact at_n 2 (by simp[esc]) rfl rfl (A4 _) (zF (by simp[go_sem,esc,zP,w3]) rfl)
  intro i hi
  have ae:=yy2 (s.take i)
  have af:(s.take i).length<=s.length:=by simp;omega
  obtain⟨o,ho⟩: ∃o,b++3::esc (s.take i)=o:=⟨_,rfl⟩
  have ag:o.length<=maxB+1100:=by
   rw[<-ho]
   simp
   unfold maxB at*
   omega
  rw[ho]
  refine zA ?_
  simp[go_sem]
  refine zR (fun q=> ?_) (fun q=> ?_)
  .have q:i<s.length:=by simpa using q
   have ei:=zQ q om
   have aa:=xx5 q
   obtain⟨c0,ab⟩:=eX (s[i])
   simp[go_sem,q,ab,zS]
   refine zI ⟨by unfold maxB at*;omega,zV rfl⟩ ?_
   simp[go_sem,q,ab]
   refine zR (fun q2=> ?_) (fun q2=> ?_)
   .have q2:c0=0:=by
     have:c0.toNat=0:=by simp at q2;omega
     exact Ev.1 (by simpa using this)
    rw[ab,if_pos q2]at aa
    simp[go_sem,zS]
    refine zI ⟨by unfold maxB at*;omega,zV rfl⟩ ?_
    simp[go_sem,ei]
    exact zG (i+1) ⟨om,q,at_n 2 (by simp[aa,<-ho];omega) rfl rfl (A4 _) (zF (by simp[go_sem,aa,<-ho,zP,q2]) rfl)⟩
   .have q2: ¬c0=0:=fun h=>by rw[h]at q2;simp at q2
    rw[ab,if_neg q2]at aa
    simp[go_sem,ei]
    exact zG (i+1) ⟨om,q,at_n 2 (by simp[aa,<-ho];omega) rfl rfl (A4 _) (zF (by simp[go_sem,aa,<-ho,zP]) rfl)⟩
  .have q:i=s.length:=by
    have: ¬i<s.length:=by simpa using q
    omega
   subst q
   simp[go_sem,zS]
   refine zI ⟨by unfold maxB at*;omega,xU2 rfl rfl⟩ ?_
   simp[go_sem]
   refine zp5 ?_
   rw[Dz]at ho
   simp[keyF,h,zP,<-ho]
def isF (n:Nat) (t:Int):Bool:=decide (0<=t)&&decide (t<n)
theorem yB0 {t:Int} (h:isF n t=true): ∃j:Nat,t=j/\j<n:=by
 simp[isF]at h
 exact⟨t.toNat,om,om⟩
def zj0 (n:Nat) (t:Int) (v:GValue):List UInt8:=if isF n t=true then UInt8.ofNat (t.toNat+1)::keyF v else []
def allF (n:Nat) (t:Int):List UInt8×List UInt8:=if isF n t=true then([UInt8.ofNat (t.toNat+1)],[UInt8.ofNat (t.toNat+2)])else([],[])
theorem yF6 (aa tabs:List (List V)) (t:Int) (v:GValue) (hn:tabs.length<=maxB) (hv:v.ok):Pure prog 107 [.agg [.sl .ro aa,.sl .ro tabs],.int .i64 t,.agg v.row] (.str (zj0 tabs.length t v)):=by
 have ab:=is_w aa tabs t
 rw[show(decide (0<=t)&&decide (t<tabs.length))=isF tabs.length t from rfl]at ab
 refine iW 0 func107 ntmps107 results107 fun c hc hb=>zL ?_
 simp[go_sem]
 refine pC ab ?_
 unfold zj0
 refine(A9 (isF tabs.length t)).elim (fun h=> ?_) (fun h=> ?_)
 .obtain⟨j,rfl,hj⟩:=yB0 h
  rw[h,if_pos rfl]
  have e1:IntKind.u8.wrap (IntKind.i64.wrap ((j:Int)+1))=((UInt8.ofNat (j+1)).toNat:Int):=by
   rw[i64_id om (by unfold maxB at hn;omega),show(j:Int)+1=((j+1:Nat):Int) by omega,zX5]
  simp[go_sem,e1]
  refine zJ (xY3 [UInt8.ofNat (j+1)] v hv (by simp[maxB])) cB ⟨zm0 (by simp[zP]),zC rfl,tV⟩ rfl ?_
  simp[go_sem,bys]
  refine zI (wS _) ?_
  simp[go_sem,zj4]
  exact wR
 .rw[h]
  simp[go_sem]
  exact wR
theorem xa8 (aa tabs:List (List V)) (t:Int) (v:GValue) (hn:tabs.length<=maxB) (hv:v.ok) (_hs:v.s.length<=500):Pure prog 107 [.agg [.sl .ro aa,.sl .ro tabs],.int .i64 t,.agg v.row] (.str (zj0 tabs.length t v)):=yF6 aa tabs t v hn hv
theorem we7 (aa tabs:List (List V)) (t:Int) (hn:tabs.length<=maxB):Pure prog 108 [.agg [.sl .ro aa,.sl .ro tabs],.int .i64 t] (.tup [.str (allF tabs.length t).1,.str (allF tabs.length t).2]):=by
 have ab:=is_w aa tabs t
 rw[show(decide (0<=t)&&decide (t<tabs.length))=isF tabs.length t from rfl]at ab
 refine iW 0 func108 ntmps108 results108 fun c hc hb=>zL ?_
 simp[go_sem]
 refine pC ab ?_
 unfold allF
 refine(A9 (isF tabs.length t)).elim (fun h=> ?_) (fun h=> ?_)
 .obtain⟨j,rfl,hj⟩:=yB0 h
  rw[h,if_pos rfl]
  obtain⟨x,hx⟩:=eX (UInt8.ofNat (j+1))
  obtain⟨y,hy⟩:=eX (UInt8.ofNat (j+2))
  have e1:IntKind.u8.wrap (IntKind.i64.wrap ((j:Int)+1))=(x.toNat:Int):=by
   rw[i64_id om (by unfold maxB at hn;omega),show(j:Int)+1=((j+1:Nat):Int) by omega,zX5,hx]
  have e2:IntKind.u8.wrap (IntKind.i64.wrap ((j:Int)+2))=(y.toNat:Int):=by
   rw[i64_id om (by unfold maxB at hn;omega),show(j:Int)+2=((j+2:Nat):Int) by omega,zX5,hy]
  simp only[Ay]
  simp[go_sem]
  refine yS [] 1 rfl kR kR ?_
  simp[go_sem,e1]
  refine zI (wS [x]) ?_
  have r1:zp7 [V.int IntKind.u8 x.toNat]=x:=by simp[zp7]
  have r2:zp7 [V.int IntKind.u8 y.toNat]=y:=by simp[zp7]
  simp[go_sem,e2,r1]
  refine zI (wS [y]) ?_
  simp[go_sem,r2]
  exact wG (zC rfl) ⟨by rw[<-hx,<-hy];simp,rfl⟩
 .rw[h]
  simp[go_sem]
  exact wR
end Go.Proofs.YtefbicjgbaaieaaGreat.R
namespace Go.Proofs.YtefbicjgbaaieaaGreat
open Go Go.Vx R Go.Proofs.Tryz
set_option maxRecDepth 100000
theorem xA9 (v:GValue):(keyF v).length<=140:=by
 by_cases h:mayF v=true
 .have h1:=yL2 (v:=v)
  have h2:=yM2 h
  omega
 .unfold keyF;rw[if_neg h];simp
def maxS (x y:List UInt8):List UInt8:=if Op.bytesLess x y=true then y else x
def minS (x y:List UInt8):List UInt8:=if Op.bytesLess x y=true∨x=y then x else y
def cutF (at_:List UInt8) (sign:List UInt8) (b:List UInt8×List UInt8):List UInt8×List UInt8:=
 if sign= [61]then(maxS b.1 at_,minS b.2 (at_++ [0]))
 else if sign= [60]then(b.1,minS b.2 at_)
 else if sign= [60,61]then(b.1,minS b.2 (at_++ [0]))
 else if sign= [62]then(maxS b.1 (at_++ [0]),b.2)
 else if sign= [62,61]then(maxS b.1 at_,b.2)
 else b
def zY4 (n:Nat) (t:Int) (name:List UInt8) (l:List GExpr) (b:List UInt8×List UInt8):List UInt8×List UInt8:=
 l.foldl (fun b e=>match zc6 e name with|none=>b|some (s,v)=>cutF (zj0 n t v) s b) b
def zR7 (T:GTable):Option (List UInt8):=if 0<=T.key then(T.cols[T.key.toNat]?).map (·.name)else none
def zg4 (ts:List GTable) (t:Int) (st:GStmt):List UInt8×List UInt8:=
 if isF ts.length t=true then
  match (ts[t.toNat]?).bind zR7 with
  |none=>allF ts.length t
  |some name=>let b:=zY4 ts.length t name (zs5 st) (allF ts.length t);(b.1,maxS b.2 b.1)
 else allF ts.length t
def xh5 (b:List UInt8×List UInt8):V:= .tup [.str b.1,.str b.2]
theorem xc3 (o:Option (List UInt8×GValue)):noS (cutV o)=true:=by
 obtain _|⟨s,v⟩:=o<;>rfl
theorem yF7 (aa:List (List V)) (ts:List GTable) (t:Int) (st:GStmt) (hn:ts.length<=maxB) (_hc0: ∀T∈ts,T.cols.length<=maxLen) (hl:(zs5 st).length<=maxLen)
  (hv: ∀e∈zs5 st,∀name s v,zc6 e name=some (s,v)->v.ok):
  Pure prog 60 [.agg [.sl .ro aa,.sl .ro (ts.map GTable.row)],.int .i64 t,.agg st.row] (xh5 (zg4 ts t st)):=by
 generalize hM:zg4 ts t st=M
 have ret: ∀(r:List UInt8×List UInt8) (σ:St),r=M->wret (some (.tup [.str r.1,.str r.2])) 0 (fun r s=>r=xh5 M/\s= []) σ:=fun r σ h=>by subst h;exact wR
 have ab:=we7 aa (ts.map GTable.row) t (by simpa using hn)
 have ag:=zY3 st
 simp only[B1]at ab
 unfold zg4 at hM
 generalize hA:allF ts.length t=A at ab hM
 generalize hL:zs5 st=L at ag hM hl hv
 refine iV 0 func60 ntmps60 results60 fun c hc hb=> ?_
 refine zA ?_
 simp[go_sem]
 refine pC ab ?_
 simp[go_sem]
 refine(A9 (isF ts.length t)).elim (fun h=> ?_) (fun h=> ?_)
 rotate_left
 .simp only[h]at hM
  have h2:decide (t<0)=true∨(decide (t<0)=false/\decide ((ts.length:Int)<=t)=true):=by
   unfold isF at h
   simp only[Bool.and_eq_false_iff,decide_eq_false_iff_not]at h
   simp only[decide_eq_true_eq,decide_eq_false_iff_not]
   omega
  refine h2.elim (fun q=> ?_) (fun q=> ?_)
  all_goals simp[go_sem,q]
  all_goals exact ret _ _ hM
 obtain⟨j,rfl,hj⟩:=yB0 h
 obtain⟨T,hT⟩:=eX (ts[j])
 have ax:decide ((ts.length:Int)<=j)=false:=decide_eq_false om
 have ah:decide ((j:Int)<0)=false:=decide_eq_false om
 simp only[h,if_true,Ay,A0 hj,hT,B3]at hM
 have ai:decide (ts.length<=j)=false:=decide_eq_false om
 simp[go_sem,ah,ai,hj,hT]
 by_cases hk:0<=T.key/\T.key<T.cols.length
 rotate_left
 .have ad:zR7 T=none:=by
   unfold zR7
   split
   .rw[Bh om];rfl
   .rfl
  rw[ad]at hM
  have h2:decide (T.key<0)=true∨(decide (T.key<0)=false/\decide ((T.cols.length:Int)<=T.key)=true):=by
   simp only[decide_eq_true_eq,decide_eq_false_iff_not]
   omega
  refine h2.elim (fun q=> ?_) (fun q=> ?_)
  all_goals simp[go_sem,q]
  all_goals exact ret _ _ hM
 obtain⟨m,hm⟩: ∃m:Nat,T.key=m:=⟨T.key.toNat,om⟩
 have ae:m<T.cols.length:=om
 obtain⟨C,hC⟩:=eX (T.cols[m])
 have ad:zR7 T=some C.name:=by
  unfold zR7
  rw[if_pos om,hm,Ay,A0 ae,hC];rfl
 simp only[ad]at hM
 have aj:decide (T.key<0)=false:=decide_eq_false om
 have ak:decide ((T.cols.length:Int)<=T.key)=false:=decide_eq_false om
 simp[go_sem,aj,ak]
 refine zJ ag cB (zN sg rfl) rfl ?_
 simp[go_sem]
 refine zH (S:=Nat×List UInt8×List UInt8) [1,3,6,7,8,52,53,54] (fun u=> [.int .i64 j,.ptr 0 0,.str u.2.1,.str u.2.2,.ptr 1 0,.sl .ro (L.map GExpr.row),.int .i64 L.length,.int .i64 u.1])
  (fun _=> [.box [.sl .ro aa,.sl .ro (ts.map GTable.row)],.box T.row]) (fun u=>L.length - u.1)
  (fun u=>u.1<=L.length/\zY4 ts.length j C.name (L.drop u.1) u.2=zY4 ts.length j C.name L A) hc hb (0,A) ⟨A4 _,rfl⟩ ?_ ?_
 .exact zC9 [0,2] dC rfl ⟨by simp[go_sem,yF,renC,renK],by simp[go_sem,yF,renC,renK],tV⟩
   ⟨zC rfl,.inl (by simp[go_sem,renS,renA,renC,renK,ren]),zC rfl,zC rfl,.inl (by simp[go_sem,renS,renA,renC,renK,ren]),zK,zC rfl,zC rfl,tV⟩
 rintro⟨i,b⟩ ⟨hi,hinv⟩
 simp only at hi hinv
 by_cases q:i<L.length
 rotate_left
 .rw[Ab om]at hinv
  have al:b=zY4 ts.length j C.name L A:=hinv
  rw[<-al]at hM
  refine zA ?_
  simp[go_sem,q]
  exact ret (b.1,maxS b.2 b.1) _ hM
 have ei:=zQ q (by unfold maxLen at hl;omega)
 obtain⟨x,hx⟩:=eX (L[i])
 have an:x∈L:=hx▸Aa q
 rw[A8 q,hx]at hinv
 have ao:=yq0 x C.name
 have aq:=hv x an C.name
 have aw:=GExpr.row_eq x
 refine zA ?_
 simp[go_sem,q,hx]
 refine yS [(8,0),(15,3)] 3 sm kR kR ?_
 have ar:T.cols[m]? =some C:=by rw[A0 ae,hC]
 simp[go_sem,hm,ar]
 refine zI ae ?_
 simp[go_sem]
 refine zh8 ao cB (fun _=>zN sg (by rw[GExpr.row_eq];rfl)) (xc3 _) ?_
 cases ha:zc6 x C.name with
 |none=>
  simp only[zY4,Bb,ha]at hinv
  simp[go_sem,cutV,xg4,ei]
  refine zG (i+1,b) ⟨by simp only;omega,⟨by simp only;omega,hinv⟩, ?_⟩
  exact at_n 2 (by simp[go_sem,hm]) rfl (by rfl) (A4 _) (zF sg rfl)
 |some p=>
  obtain⟨s,v⟩:=p
  have au:=aq s v ha
  have af:=yF6 aa (ts.map GTable.row) j v (by simpa using hn) au
  simp only[B1]at af
  simp only[zY4,Bb,ha]at hinv
  obtain⟨B,hB⟩:=eX (zj0 ts.length j v)
  have av:B.length<=9223372036854775806:=by
   have:=xA9 v
   rw[<-hB];unfold zj0;rw[if_pos h];simp only[Ag];omega
  rw[hB]at af
  simp[go_sem,cutV]
  refine zJ af cB (zN sg rfl) rfl ?_
  simp[go_sem]
  refine zI av ?_
  simp[go_sem]
  have fin: ∀b',cutF B s b=b'->zY4 ts.length j C.name (L.drop (i+1)) b'=zY4 ts.length j C.name L A:=fun b' h=>by rw[<-h,<-hB];exact hinv
  repeat' (first|(refine zR (fun q=> ?_) (fun q=> ?_)<;>simp[go_sem,q,ei]))
  all_goals simp only[beq_iff_eq,beq_eq_false_iff_ne]at*
  all_goals refine zG (i+1,cutF B s b) ⟨by simp only;omega,⟨by simp only;omega,fin _ rfl⟩, ?_⟩
  all_goals refine at_n 2 (by simp[go_sem,hm]) rfl (by rfl) (A4 _) (zF ?_ rfl)
  all_goals unfold cutF maxS minS
  all_goals simp[go_sem, *]
theorem zk3:(Tryz.prog.funcs.all fun fn=> !(fn.name== "runtime.NumGoroutine"))=true:=kR
theorem zf7:Tryz.prog.follows .mixedOrders=true:=kR
def marks (f:Nat):List Nat:=if f=185 then [7]else []
def xK7:GZone:=⟨[1],[],[0,1],0,0,0⟩
def tabT:GTable:=⟨[84],[⟨[82],2,false⟩,⟨[75],2,false⟩,⟨[86],3,true⟩,⟨[78],2,true⟩],1,0,0,xK7⟩
def tabG:GTable:=⟨[71],[⟨[75],3,false⟩,⟨[78],2,false⟩,⟨[66],1,true⟩],0,1,0,xK7⟩
def tabH:GTable:=⟨[72],[⟨[66],1,false⟩,⟨[78],2,true⟩],0,2,1,xK7⟩
def tabsS:List GTable:= [tabT,tabG,tabH]
def xG:List (List V):= [[.int .i64 0],[.int .i64 0],[.int .i64 1],[.int .i64 1]]
def schS:V:= .agg [.sl .full xG,.sl .full (tabsS.map GTable.row)]
def schR (ts:List GTable):V:= .agg [.sl .ro xG,.sl .ro (ts.map GTable.row)]
theorem xt4:Pure prog 39 [] schS:=zn6 zk3 zf7 marks 10000 kR
theorem xG1 {ρ:Nat->Nat}:argS ρ (schR tabsS) schS:=zm7 ⟨yJ,yJ,tV⟩
def yV (t r:Int):Int×Int:=if t=0 then(if r=0 then(0,0)else if r=1 then(1,0)else(0,19))else if t=1 then(2,0)else if t=2 then(3,0)else(0,1)
def zP0 (p:Int×Int):V:= .tup [.int .i64 p.1,.int .i64 p.2]
theorem zG6 (t r:Int) (h:t=0∨t=1∨t=2) (hr:r= -1∨r=0∨r=1∨r=2∨r=3∨r=4):Pure prog 62 [schR tabsS,.int .i64 t,.int .i64 r] (zP0 (yV t r)):=by
 rcases h with rfl|rfl|rfl<;>rcases hr with rfl|rfl|rfl|rfl|rfl|rfl<;>exact zn6 zk3 zf7 marks 10000 kR
theorem xk8 (j:Nat) (hj:j<3):Pure prog 62 [schR (tabsS.take (j+1)),.int .i64 j,.int .i64 0] (zP0 (yV j 0)):=by
 match j,hj with
 |0,_=>exact zn6 zk3 zf7 marks 10000 kR
 |1,_=>exact zn6 zk3 zf7 marks 10000 kR
 |2,_=>exact zn6 zk3 zf7 marks 10000 kR
def ofS (r:Int):Int×Int×Int:=if r=0 then(0,0,0)else if r=1 then(0,1,0)else if r=2 then(1,-1,0)else if r=3 then(2,1,0)else(0,0,1)
def ofV (p:Int×Int×Int):V:= .tup [.int .i64 p.1,.int .i64 p.2.1,.int .i64 p.2.2]
theorem xP4:Pure prog 111 [schR tabsS] (.int .i64 0):=zn6 zk3 zf7 marks 10000 kR
theorem xq7:Pure prog 116 [schR tabsS] (.sl .ro [[.int .i64 0],[.int .i64 1]]):=
 VCalls.frz (xl6 zk3 zf7 marks 10000 (v:= .lsv 1 1 4 0 2) (σ':= [.box [.sl .ro xG,.sl .ro (tabsS.map GTable.row)],.lst [[.int .i64 0],[.int .i64 1],[.int .i64 0],[.int .i64 0]] 1]) kR)
  (fun r s ⟨h1,h2⟩=>by subst h1;subst h2;exact⟨_,_,.step 1 1 [[.int .i64 0],[.int .i64 1],[.int .i64 0],[.int .i64 0]] rfl rfl (.refl _ _),zK⟩)
def xf6 (t:Nat):Int:=if t=0 then 2 else 1
theorem yV9 (j:Nat) (hj:j<3):Pure prog 145 [schR tabsS,.agg (tabsS[j]'hj).row] (.int .i64 (xf6 j)):=by
 match j,hj with
 |0,_=>exact zn6 zk3 zf7 marks 10000 kR
 |1,_=>exact zn6 zk3 zf7 marks 10000 kR
 |2,_=>exact zn6 zk3 zf7 marks 10000 kR
theorem yC2 {M:Int×Int×Int} {a b e:Int} {σ:St} (h:(a,b,e)=M):wret (some (.tup [.int .i64 a,.int .i64 b,.int .i64 e])) 0 (fun r s=>r=ofV M/\s= []) σ:=by subst h;exact wR
theorem Of_w (g:Nat) (hg:g<1000):Pure prog 86 [schR tabsS,.int .i64 g] (ofV (ofS g)):=by
 have ab:=yV9 0 dC
 have ad:=yV9 1 dC
 have ae:=yV9 2 dC
 have hr:=xq7
 generalize hM:ofS g=M
 refine iV 0 func86 ntmps86 results86 fun c hc hb=> ?_
 refine zA ?_
 simp[go_sem,schR]
 have h0:decide ((g:Int)<0)=false:=decide_eq_false om
 simp[go_sem,h0]
 refine zH (S:=Nat×Nat) [1,2,13,14,15] (fun u=> [.int .i64 u.2,.ptr 0 0,.sl .ro (tabsS.map GTable.row),.int .i64 3,.int .i64 u.1]) (fun _=> [.box [.sl .ro xG,.sl .ro (tabsS.map GTable.row)]]) (fun u=>3 - u.1)
  (fun u=>(u.1=0/\u.2=g)∨(u.1=1/\u.2+2=g)∨(u.1=2/\u.2+3=g)∨(u.1=3/\u.2+4=g)) hc hb (0,g) (.inl ⟨rfl,rfl⟩) ?_ ?_
 .exact aM 1 (by rfl) (zF (by simp[go_sem];rfl) rfl)
 rintro⟨i,r⟩ h
 simp only at h
 refine h.elim (fun⟨h1,h2⟩=> ?_) fun h=>h.elim (fun⟨h1,h2⟩=> ?_) fun h=>h.elim (fun⟨h1,h2⟩=> ?_) fun⟨h1,h2⟩=> ?_
 .subst h1
  refine zA ?_
  simp[go_sem,tabsS]
  refine zJ ab cB (zN (by simp[go_sem,schR,tabsS]) rfl) rfl ?_
  simp[go_sem,xf6]
  by_cases q:2<=r
  .have q':decide ((2:Int)<=r)=true:=decide_eq_true om
   have e:IntKind.i64.wrap ((r:Int) - 2)=((r - 2:Nat):Int):=by rw[i64_id om om];omega
   simp[go_sem,q',e]
   exact zG (1,r - 2) ⟨by simp only;omega,.inr (.inl ⟨rfl,by simp only;omega⟩),aN 1 (by rfl)⟩
  .have q':decide ((2:Int)<=r)=false:=decide_eq_false om
   simp[go_sem,q',show tabT.place=0 from rfl]
   refine yS [(2,0)] 2 sm kR kR ?_
   simp[go_sem]
   refine zh8 hr cB (fun _=>zN (by simp[go_sem,schR,tabsS,show tabT.place=0 from rfl]) rfl) rfl ?_
   have aa:r=0∨r=1:=om
   refine aa.elim (fun e=> ?_) (fun e=> ?_)
   all_goals subst e
   all_goals simp[go_sem]
   all_goals exact yC2 (by rw[<-hM,<-h2];rfl)
 .subst h1
  refine zA ?_
  simp[go_sem,tabsS]
  refine zJ ad cB (zN (by simp[go_sem,schR,tabsS]) rfl) rfl ?_
  simp[go_sem,xf6]
  by_cases q:1<=r
  .have q':decide ((1:Int)<=r)=true:=decide_eq_true om
   have e:IntKind.i64.wrap ((r:Int) - 1)=((r - 1:Nat):Int):=by rw[i64_id om om];omega
   simp[go_sem,q',e]
   exact zG (2,r - 1) ⟨by simp only;omega,.inr (.inr (.inl ⟨rfl,by simp only;omega⟩)),aN 1 (by rfl)⟩
  .have q':decide ((1:Int)<=r)=false:=decide_eq_false om
   simp[go_sem,q',show tabG.place=1 from rfl]
   have aa:r=0:=om
   subst aa
   exact yC2 (by rw[<-hM,<-h2];rfl)
 .subst h1
  refine zA ?_
  simp[go_sem,tabsS]
  refine zJ ae cB (zN (by simp[go_sem,schR,tabsS]) rfl) rfl ?_
  simp[go_sem,xf6]
  by_cases q:1<=r
  .have q':decide ((1:Int)<=r)=true:=decide_eq_true om
   have e:IntKind.i64.wrap ((r:Int) - 1)=((r - 1:Nat):Int):=by rw[i64_id om om];omega
   simp[go_sem,q',e]
   exact zG (3,r - 1) ⟨by simp only;omega,.inr (.inr (.inr ⟨rfl,by simp only;omega⟩)),aN 1 (by rfl)⟩
  .have q':decide ((1:Int)<=r)=false:=decide_eq_false om
   have aa:r=0:=om
   subst aa
   simp[go_sem,show tabH.place=2 from rfl]
   refine yS [] 2 sm kR kR ?_
   simp[go_sem]
   exact yC2 (by rw[<-hM,<-h2];rfl)
 .subst h1
  refine zA ?_
  simp[go_sem,tabsS]
  exact yC2 (by rw[<-hM,<-h2];unfold ofS;rw[if_neg om,if_neg om,if_neg om,if_neg om])
theorem wd5 (v:GValue) (l:List Int):([.box v.row,.lst (l.map yQ) 1]:St).all (ltOb 2)=true:=by simp[ltOb,ltC,ltK,yQ,GValue.row]
theorem xW3 (v:GValue) (r:Int):VCalls prog 113 [.int .i64 r,.ptr 0 0] [.box v.row] (fun x s=>x= .bool (r !=v.n)/\s= [.box v.row]):=by
 refine iW 1 func113 ntmps113 results113 fun c hc hb=>zL ?_
 simp[go_sem]
 exact xA 1 sg rfl rfl (A5 _) (zC rfl) ⟨rfl,rfl⟩
def idxF (p:Int->Bool):List Int->Nat->Int
 | [],_=> -1
 |x::l,i=>if p x=true then i else idxF p l (i+1)
theorem wg3 (v:GValue) (xs:List Int) (m:Nat) (hm:m<=xs.length) (hl:xs.length<=1000):
  VCalls prog 182 [.lsv 1 1 xs.length 0 m,.fn 113 [.ptr 0 0]] [.box v.row,.lst (xs.map yQ) 1]
   (fun r s=>r= .int .i64 (idxF (fun x=>x !=v.n) (xs.take m) 0)/\s= [.box v.row,.lst (xs.map yQ) 1]):=by
 generalize hM:idxF (fun x=>x !=v.n) (xs.take m) 0=M
 have ret: ∀(r:Int) (σ:St),r=M->σ.take 2= [.box v.row,.lst (xs.map yQ) 1]->wret (some (.int .i64 r)) 2 (fun r s=>r= .int .i64 M/\s= [.box v.row,.lst (xs.map yQ) 1]) σ:=fun r σ h hs=>by subst h;exact xA 2 hs rfl (by simp[ltOb,ltC,ltK,yQ,GValue.row]) (A5 _) (zC rfl) ⟨rfl,rfl⟩
 refine iV 2 func182 ntmps182 results182 fun c hc hb=> ?_
 refine zA ?_
 simp[go_sem]
 refine zH (S:=Nat) [0,1,7,8] (fun i=> [.lsv 1 1 xs.length 0 m,.fn 113 [.ptr 0 0],.int .i64 m,.int .i64 i]) (fun _=> [.box v.row,.lst (xs.map yQ) 1]) (fun i=>m - i) (fun i=>i<=m/\idxF (fun x=>x !=v.n) ((xs.take m).drop i) i=M) hc hb 0 ⟨A4 _,hM⟩ ?_ ?_
 .exact aN 2 (by simp[ltOb,ltC,ltK,yQ,GValue.row])
 rintro i ⟨hi,hinv⟩
 by_cases q:i<m
 rotate_left
 .rw[Ab (by simp;omega)]at hinv
  refine zA ?_
  simp[go_sem,q]
  exact ret _ _ hinv rfl
 have ei:=zQ q om
 have aa:i<xs.length:=om
 obtain⟨x,hx⟩:=eX (xs[i])
 have ab:(xs.take m)[i]'(by simp;omega)=x:=by rw[Eo];exact hx
 rw[A8 (by simp;omega),ab,idxF]at hinv
 have hd:=xW3 v x
 obtain⟨b,ad⟩:=eX ((x !=v.n))
 rw[ad]at hd hinv
 refine zA ?_
 simp[go_sem,q,aa,hx]
 refine zo1 1 hd cB sg rfl rfl (zb4 rfl) (fun r s h=>by obtain⟨rfl,rfl⟩:=h;exact⟨rfl,rfl,rfl⟩) ?_
 rintro r s ⟨rfl,rfl⟩
 simp[go_sem]
 refine zR (fun w=> ?_) (fun w=> ?_)
 .rw[if_pos w]at hinv
  simp[go_sem]
  exact ret _ _ hinv rfl
 .rw[if_neg (by rw[w];decide)]at hinv
  simp[go_sem,ei]
  exact zG (i+1) ⟨om,⟨q,hinv⟩,aN 2 (by simp[ltOb,ltC,ltK,yQ])⟩
def zh5 (n:Int) (l:List Int):List Int:=l.filter (· ==n)
theorem ys2 {n:Int}: ∀(l:List Int) (i:Nat),idxF (fun x=>x !=n) l i= -1->zh5 n l=l
 | [],_,_=>rfl
 |x::l,i,h=>by
  unfold idxF at h
  split at h
  .omega
  .rename_i q
   have:=ys2 l (i+1) h
   have hx:(x==n)=true:=by simpa using q
   unfold zh5 at this⊢
   rw[List.filter_cons_of_pos (by simpa using hx),this]
theorem ys3 {n:Int}: ∀(l:List Int) (i:Nat),idxF (fun x=>x !=n) l i≠ -1-> ∃k,idxF (fun x=>x !=n) l i=((i+k:Nat):Int)/\k<l.length/\zh5 n (l.take k)=l.take k/\(∀x,l[k]? =some x->x≠n)
 | [],i,h=>absurd rfl h
 |x::l,i,h=>by
  unfold idxF at h⊢
  split
  .rename_i q
   exact⟨0,sm,sm,rfl,fun y hy=>by simp at hy;subst hy;simpa using q⟩
  .rename_i q
   rw[if_neg q]at h
   obtain⟨k,h1,h2,h3,h4⟩:=ys3 l (i+1) h
   have hx:(x==n)=true:=by simpa using q
   refine⟨k+1,by rw[h1];congr 1;omega,by simp;omega, ?_,fun y hy=>h4 y (by simpa using hy)⟩
   unfold zh5 at h3⊢
   rw[C8,List.filter_cons_of_pos (by simpa using hx),h3]
theorem zO5 {n:Int} {xs:List Int} {j:Nat} {x:Int} (h:xs[j]? =some x):zh5 n (xs.take (j+1))=zh5 n (xs.take j)++(if x=n then [x]else []):=by
 unfold zh5
 rw[Du,h,Dd]
 by_cases q:x=n
 .simp[q]
 .simp[q]
theorem xZ4 (v:GValue) (xs:List Int) (m:Nat) (hm:m<=xs.length) (hl:xs.length<=1000):
  VCalls prog 112 [.lsv 1 1 xs.length 0 m,.fn 113 [.ptr 0 0]] [.box v.row,.lst (xs.map yQ) 1]
   (fun r s=> ∃ys:List Int,ys.length=xs.length/\(zh5 v.n (xs.take m)).length<=m/\ys.take (zh5 v.n (xs.take m)).length=zh5 v.n (xs.take m)/\r= .lsv 1 1 xs.length 0 (zh5 v.n (xs.take m)).length/\s= [.box v.row,.lst (ys.map yQ) 1]):=by
 obtain⟨K,hK⟩:=eX (zh5 v.n (xs.take m))
 have an:K.length<=m:=by rw[<-hK];unfold zh5;exact Ax (Bo _ _) (by simp;omega)
 rw[hK]
 have ret: ∀(ys:List Int) (k:Nat) (σ:St),ys.length=xs.length->k=K.length->ys.take K.length=K->σ.take 2= [.box v.row,.lst (ys.map yQ) 1]->
   wret (some (.lsv 1 1 xs.length 0 k)) 2 (fun r s=> ∃ys:List Int,ys.length=xs.length/\K.length<=m/\ys.take K.length=K/\r= .lsv 1 1 xs.length 0 K.length/\s= [.box v.row,.lst (ys.map yQ) 1]) σ:=fun ys k σ h1 h2 h3 h4=>by
  subst h2
  exact xA 2 h4 rfl (by simp[ltOb,ltC,ltK,yQ,GValue.row]) (A5 _) (zg2 rfl) ⟨ys,h1,an,h3,rfl,rfl⟩
 have ao:=wg3 v xs m hm hl
 refine iV 2 func112 ntmps112 results112 fun c hc hb=> ?_
 refine zA ?_
 simp[go_sem]
 refine zo1 2 ao cB sg rfl (by simp[ltOb,ltC,ltK,yQ,GValue.row]) (zb4 rfl) (fun r s h=>by obtain⟨rfl,rfl⟩:=h;exact⟨rfl,by simp[ltOb,ltC,ltK,yQ,GValue.row],rfl⟩) ?_
 rintro r s ⟨rfl,rfl⟩
 by_cases h0:idxF (fun x=>x !=v.n) (xs.take m) 0= -1
 .have ag:=ys2 _ _ h0
  rw[hK]at ag
  rw[h0]
  simp[go_sem]
  exact ret xs m _ rfl (by rw[ag];simp;omega) (by rw[ag];simp) (by rfl)
 obtain⟨k,h1,h2,h3,h4⟩:=ys3 _ _ h0
 rw[Ad]at h1
 rw[h1]
 have aq:k<m:=by simp at h2;omega
 have ar:((k:Int)== -1)=false:=sm
 have ek:IntKind.i64.wrap ((k:Int)+1)=((k+1:Nat):Int):=by rw[i64_id om om];omega
 have au:zh5 v.n (xs.take (k+1))=xs.take k:=by
  have ai:k<xs.length:=om
  have h5:=h4 xs[k] (by rw[Ai,if_pos aq,A0 ai])
  rw[zO5 (A0 ai),if_neg h5,Az]
  rw[E4,Cj om]at h3
  exact h3
 simp[go_sem,ar,ek]
 refine zH (S:=Nat×Nat×List Int) [0,1,5,6] (fun u=> [.lsv 1 1 xs.length 0 m,.fn 113 [.ptr 0 0],.int .i64 u.1,.int .i64 u.2.1]) (fun u=> [.box v.row,.lst (u.2.2.map yQ) 1]) (fun u=>m - u.2.1)
  (fun u=>u.1<u.2.1/\u.2.1<=m/\u.2.2.length=xs.length/\u.2.2.take u.1=zh5 v.n (xs.take u.2.1)/\u.2.2.drop u.2.1=xs.drop u.2.1) hc hb (k,k+1,xs) ⟨by simp only;omega,by simp only;omega,rfl,au.symm,rfl⟩ ?_ ?_
 .exact aN 2 (by simp[ltOb,ltC,ltK,yQ,GValue.row])
 rintro⟨i,j,ys⟩ ⟨av,aw,ad,aa,ab⟩
 simp only at av aw ad aa ab
 by_cases q:j<m
 rotate_left
 .have hj:j=m:=om
  subst hj
  rw[hK]at aa
  have aj:i=K.length:=by rw[<-aa];simp;omega
  have af:i<=j:=om
  refine zA ?_
  simp[go_sem]
  refine zI af ?_
  simp[go_sem,ad]
  refine zI om ?_
  simp[go_sem]
  refine zI (.inl af) ?_
  simp[go_sem]
  refine ret (ys.take i++List.replicate (j - i) 0++ys.drop (i+(j - i))) i _ (by simp;omega) aj (by rw[<-aj,Cy,Cp (by simp;omega)];rw[E4,Nat.min_self,aa]) ?_
  simp[go_sem,yQ]
 have ej:=zQ q om
 have ax:j<ys.length:=om
 have ay:j<xs.length:=om
 obtain⟨x,hx⟩:=eX (ys[j])
 have az:ys[j]? =some x:=by rw[A0 ax,hx]
 have ak:xs[j]? =some x:=by
  have:=congrArg (fun l=>l[0]?) ab
  simp only[Bj,D1]at this
  rw[<-this,az]
 have ei:IntKind.i64.wrap ((i:Int)+1)=((i+1:Nat):Int):=by rw[i64_id om om];omega
 have hd:=xW3 v x
 obtain⟨b,ah⟩:=eX ((x !=v.n))
 rw[ah]at hd
 refine zA ?_
 simp[go_sem,q,ay,hx,ad]
 refine zo1 1 hd cB sg rfl rfl (zb4 rfl) (fun r s h=>by obtain⟨rfl,rfl⟩:=h;exact⟨rfl,rfl,rfl⟩) ?_
 rintro r s ⟨rfl,rfl⟩
 simp[go_sem]
 refine zR (fun w=> ?_) (fun w=> ?_)
 all_goals simp[go_sem,ej]
 .have q2:x=v.n:=by simpa using (show(x !=v.n)=false by rw[ah];simpa using w)
  have ae:=zO5 (n:=v.n) ak
  rw[if_pos q2]at ae
  refine zI om ?_
  have al:i<xs.length:=om
  obtain⟨y,a1⟩: ∃y,ys[i]? =some y:=⟨_,A0 om⟩
  simp[go_sem,ad,al,ei,ej]
  refine zG (i+1,j+1,ys.set i x) ⟨by simp only;omega,⟨by simp only;omega,by simp only;omega,by simp[ad], ?_, ?_⟩, ?_⟩
  .rw[ae,<-aa,Du,Ba om,List.take_set_of_le (A5 i)]
   simp
  .simp only
   rw[List.drop_set,if_pos om]
   have:=congrArg (List.drop 1) ab
   simpa[List.drop_drop,Ei]using this
  .exact at_n 2 (by simp[go_sem,E8,yQ]) rfl (wd5 v _) (A5 _) (zF sg rfl)
 .have q2: ¬x=v.n:=by
   have:(x !=v.n)=true:=by rw[ah];simpa using w
   simpa using this
  have ae:=zO5 (n:=v.n) ak
  rw[if_neg q2,Az]at ae
  refine zG (i,j+1,ys) ⟨by simp only;omega,⟨by simp only;omega,by simp only;omega,ad,by rw[ae];exact aa, ?_⟩, ?_⟩
  .have:=congrArg (List.drop 1) ab
   simpa[List.drop_drop,Ei]using this
  .exact aN 2 (by simp[ltOb,ltC,ltK,yQ])
end Go.Proofs.YtefbicjgbaaieaaGreat
