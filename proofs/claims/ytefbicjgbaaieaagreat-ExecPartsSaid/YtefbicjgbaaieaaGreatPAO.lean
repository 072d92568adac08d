/-
  Contracts of functions that the claimed statement reaches, each proved over trees (the library Vx); used by the theorem at the end of the claim.
  Conditions: as each theorem states them.
-/
import Derived.Test.YtefbicjgbaaieaaGreatPAN
import Derived.Test.YtefbicjgbaaieaaGreatPAI
set_option maxHeartbeats 8000000
namespace Go.Vx
open Go
theorem VCalls.loose {P:Program} {f:FuncId} {args:List V} {σ:St} {R R':V->St->Prop} (h:VCalls P f args σ R) (hR: ∀r s,R r s->VRet σ.length R' r s):VCalls P f args σ R':=by
 intro w L β ab hm ha
 refine(h w L β ab hm ha).mono ?_
 rintro e w' ⟨v,r,L',σ',β',he,hr,hl,ae,af⟩
 obtain⟨v1,σ1,pick,σ2,r2,ag,hp,ah,ai⟩:=hR _ _ hr
 obtain⟨L2,β2,aa,_,_,ad,_⟩:=ag.ok ae (xs:= [v]) ⟨af,tV⟩
 refine⟨v,r2,L2,σ2,_,he,ai, ?_,aa.pick hp hm.len,zx1 (hp.bak aa.len) ah ad⟩
 rw[hp.len]
 rcases Cm pick.length σ.length with aj|ak
 .have:=(A5.1 (hp.id pick.length aj)).1
  omega
 .exact ak
end Go.Vx
namespace Go.Proofs.YtefbicjgbaaieaaGreat.R
open Go Go.Vx Go.Proofs.Tryz
set_option maxRecDepth 100000
theorem zS3 {f:FuncId} {args:List V} {l:List UInt8} (h:VCalls prog f args [] fun r s=>r=byA l/\s=stA l):Pure prog f args (bys l):=h.loose fun r s q=>by
 obtain⟨rfl,rfl⟩:=q
 have h:wret (some (byA l)) 0 (fun r s=>r=bys l/\s= []) (stA l):=wW zL ⟨rfl,rfl⟩
 obtain⟨x,h1,h2⟩:=h
 cases h1
 exact h2
def mayF (v:GValue):Bool:=
 if v.kind=0 then decide (v.n=0)&&v.s.isEmpty else if v.kind=1 then(decide (v.n=0)||decide (v.n=1))&&v.s.isEmpty
 else if v.kind=2 then v.s.isEmpty else if v.kind=3 then decide (v.n=0)&&decide (v.s.length<=64)else false
theorem ym1 (v:GValue):Pure prog 177 [.agg v.row] (.bool (mayF v)):=by
 obtain⟨k,n,s⟩:=v
 refine iW 0 func177 ntmps177 results177 fun c hc hb=>zJ ?_
 simp[go_sem]
 have yes: ∀(r b:Bool) (σ:St),r=b->wret (some (.bool r)) 0 (fun r s=>r= .bool b/\s= []) σ:=fun r b σ h=>by subst h;exact wR
 repeat' (first|(refine yW (fun q=> ?_) (fun q=> ?_)<;>simp[go_sem,q])|(refine zR (fun q=> ?_) (fun q=> ?_)<;>simp[go_sem,q])|(refine yes _ _ _ ?_))
 all_goals simp_all[mayF]
 omega
def zb5 (v:GValue):List UInt8:=
 if mayF v=true then
  UInt8.ofNat v.kind.toNat::(if v.kind=1 then [UInt8.ofNat v.n.toNat]else if v.kind=2 then varF (zigF v.n)else if v.kind=3 then varF v.s.length++v.s else [])
 else []
theorem zm3 {ρ:Nat->Nat} {g:Tag} {rows rows':List (List V)} (h:rows'=rows):argS ρ (.sl .ro rows') (.sl g rows):=by subst h;exact zL
theorem zp7 {b l:List UInt8} {g:Tag} {rows:List (List V)} {σ:St} (h:zN (b++l)=rows):wret (some (.sl g rows)) 0 (fun r s=>r=bys (b++l)/\s= []) σ:=by subst h;exact wW zL ⟨rfl,rfl⟩
theorem xD1 (b:List UInt8) (v:GValue) (hv:v.ok) (aa:b.length<=maxB - 1) (hs:v.s.length<=maxB):Pure prog 224 [bys b,.agg v.row] (bys (b++zb5 v)):=by
 refine iW 0 func224 ntmps224 results224 fun c hc hb=>zJ ?_
 obtain⟨k,n,s⟩:=v
 have hn:=hv.n
 simp only at hs hn
 simp[go_sem,bys,zQ]
 refine zG ⟨by unfold maxB at*;omega,by simp[uni],zl8 b⟩ ?_
 simp[go_sem]
 refine pC (ym1 ⟨k,n,s⟩) ?_
 simp[go_sem]
 refine zR (fun h=> ?_) (fun h=> ?_)
 .simp[go_sem]
  refine zp7 ?_
  have h:mayF ⟨k,n,s⟩=false:=by simpa using h
  simp[zb5,h,zN]
 have h:mayF ⟨k,n,s⟩=true:=by simpa using h
 have hk:k=0∨k=1∨k=2∨k=3:=by
  unfold mayF at h
  simp only at h
  by_cases h0:k=0
  .exact .inl h0
  .by_cases h1:k=1
   .exact .inr (.inl h1)
   .by_cases h2:k=2
    .exact .inr (.inr (.inl h2))
    .by_cases h3:k=3
     .exact .inr (.inr (.inr h3))
     .simp[h0,h1,h2,h3]at h
 simp[go_sem,zQ]
 refine zG ⟨by unfold maxB at*;omega,zX rfl⟩ ?_
 have w0:IntKind.u8.wrap 0=0:=by decide+kernel
 have w1:IntKind.u8.wrap 1=1:=by decide+kernel
 have w2:IntKind.u8.wrap 2=2:=by decide+kernel
 have w3:IntKind.u8.wrap 3=3:=by decide+kernel
 rcases hk with rfl|rfl|rfl|rfl
 .simp[go_sem]
  refine zp7 ?_
  simp[zb5,h,zN,w0]
 .have h1:n=0∨n=1:=by
   unfold mayF at h
   simp at h
   exact h.1
  simp[go_sem]
  refine zG ⟨zQ b,by rw[zQ];unfold maxB at*;omega,zX rfl⟩ ?_
  simp[go_sem]
  refine zp7 ?_
  rcases h1 with rfl|rfl<;>simp[zb5,h,zN,w0,w1]
 .simp[go_sem]
  refine pC (xW4 n hn) ?_
  simp[go_sem]
  refine zM (zS3 (xm5 (b++ [2]) (zigF n) (by simp;unfold maxB at*;omega) (yA3 hn))) cB ⟨zm3 (by simp[zN,w2]),zC rfl,tV⟩ rfl ?_
  simp[go_sem]
  refine zp7 ?_
  simp[zb5,h]
 .simp[go_sem]
  refine zM (zS3 (xP2 (b++ [3]) s (by simp;unfold maxB at*;omega) hs)) cB ⟨zm3 (by simp[zN,w3]),zC rfl,tV⟩ rfl ?_
  simp[go_sem]
  refine zp7 ?_
  simp[zb5,h]
end Go.Proofs.YtefbicjgbaaieaaGreat.R
namespace Go.Proofs.YtefbicjgbaaieaaGreat.R
open Go Go.Vx Go.Proofs.Tryz
set_option maxRecDepth 100000
structure LightR (row:List GValue):Prop where
 len:row.length<=20
 s: ∀v∈row,v.s.length<=500
 ok: ∀v∈row,v.ok
variable {i:Nat}{n:Nat}{e:Int}{σ:St}{x:Nat}{g:Tag}
theorem yR1 {v:GValue} (hn:i64R v.n) (h:v.s.length<=500):(zb5 v).length<=520:=by
 unfold zb5
 have h1:=zQ9 (yA3 hn)
 have h2:=zQ9 (v:=v.s.length) om
 (repeat' split)<;>simp<;>omega
theorem yf9: ∀{l:List GValue},(∀v∈l,v.s.length<=500)->(∀v∈l,v.ok)->(l.flatMap zb5).length<=520*l.length
 | [],_,_=>by simp
 |v::l,h,ho=>by
  have h1:=yR1 (ho v sm).n (h v sm)
  have h2:=yf9 (l:=l) (fun x hx=>h x (by simp[hx])) (fun x hx=>ho x (by simp[hx]))
  simp only[Bq,B0,Al]
  omega
def zF1 (row:List GValue) (i:Nat):List UInt8:=varF row.length++(row.take i).flatMap zb5
def yH (row:List GValue):List UInt8:=zF1 row row.length
theorem zS6 {row:List GValue} (h:LightR row) (i:Nat):(zF1 row i).length<=20000:=by
 have h1:=zQ9 (v:=row.length) (by have:=h.len;omega)
 have h2:=yf9 (l:=row.take i) (fun v hv=>h.s v (Bt hv)) (fun v hv=>h.ok v (Bt hv))
 have h3:=h.len
 have h4:(row.take i).length<=row.length:=by simp;exact Nat.min_le_right _ _
 unfold zF1
 rw[B0]
 omega
theorem yO1 {row:List GValue} (h:i<row.length):zF1 row (i+1)=zF1 row i++zb5 row[i]:=by
 unfold zF1
 rw[Du h,Ed,C8]
 simp
theorem xl9 (row:List GValue) (h:LightR row):Pure prog 150 [.sl .ro (row.map GValue.row)] (.str (yH row)):=by
 refine iV 0 func150 ntmps150 results150 fun c hc hb=> ?_
 refine zA ?_
 have hl:=h.len
 have e1:IntKind.u64.wrap (row.length:Int)=(row.length:Int):=u64_id om om
 simp[go_sem,e1]
 refine zM (zS3 (xm5 [] row.length dc om)) cB ⟨zm3 rfl,zC rfl,tV⟩ rfl ?_
 simp[go_sem]
 refine zI (S:=Nat) [3,10,11,12] (fun i=> [bys (zF1 row i),.sl .ro (row.map GValue.row),.int .i64 row.length,.int .i64 i]) (fun _=> []) (fun i=>row.length - i) (fun i=>i<=row.length) hc hb 0 (A7 _) ?_ ?_
 .exact at_0 rfl (zO (by simp[go_sem,zF1]) rfl)
 intro i hi
 refine zA ?_
 simp[go_sem]
 refine zR (fun q=> ?_) (fun q=> ?_)
 .have q:i<row.length:=by simpa using q
  obtain⟨v,hv⟩:=eX (row[i])
  have hm:v∈row:=hv▸Ac q
  simp[go_sem,q,hv]
  have h2:=zS6 h i
  have h3:=h.s v hm
  refine pC (xD1 (zF1 row i) v (h.ok v hm) (by unfold maxB;omega) (by unfold maxB;omega)) ?_
  simp[go_sem,zS q om]
  refine zH (i+1) ⟨om,q,at_0 rfl (zO (by simp[go_sem,yO1 q,hv]) rfl)⟩
 .have q:i=row.length:=by
   have: ¬i<row.length:=by simpa using q
   omega
  subst q
  simp[go_sem,bys]
  refine zG (wT _) ?_
  simp[go_sem,zj6]
  exact wR
def wS:List UInt8->Nat->Nat->Nat×Nat×Int
 | [],_,_=>(0,0,2)
 |c::rest,i,v=>if i=9/\1<c.toNat then(0,0,5)else if c.toNat<128 then(if c.toNat=0/\0<i then(0,0,9)else(v+c.toNat%128*128^i,i+1,0))else wS rest (i+1) (v+c.toNat%128*128^i)
def yr4 (r:Nat×Nat×Int):V:= .tup [.int .u64 r.1,.int .i64 r.2.1,.int .i64 r.2.2]
theorem yN2:((List.range 256).all fun m=>ze6 .andNot .u8 (m:Int) 128==((m%128:Nat):Int))=true:=by decide+kernel
theorem xl1 (c:UInt8):ze6 .andNot .u8 (c.toNat:Int) 128=((c.toNat%128:Nat):Int):=by
 have h:=Aj.1 yN2 c.toNat (C0.2 c.toNat_lt)
 exact beq_iff_eq.1 h
theorem xU9 {m:Nat} (hm:m<18446744073709551616) (hn:n<18446744073709551616) (ho:m|||n<18446744073709551616):ze6 .or .u64 (m:Int) (n:Int)=((m|||n:Nat):Int):=by
 show IntKind.u64.wrap ((BitVec.ofInt 64 (m:Int)|||BitVec.ofInt 64 (n:Int)).toNat:Int)=_
 rw[BitVec.ofInt_natCast,BitVec.ofInt_natCast,BitVec.toNat_or,BitVec.toNat_ofNat,BitVec.toNat_ofNat,C6 om,C6 om]
 exact u64_id om om
theorem xa7 (i:Nat):128^i=2^(7*i):=by rw[Nat.pow_mul]
theorem xT4 {v:Nat} (hv:v<128^i):v|||(x*128^i)=v+x*128^i:=by
 rw[xa7]at*
 have:=Nat.shiftLeft_add_eq_or_of_lt hv x
 rw[Nat.shiftLeft_eq]at this
 rw[Nat.or_comm,<-this,Eb]
theorem yw5 {v:Nat} (hv:v<128^i) (hx:x<128):v+x*128^i<128^(i+1):=by
 have:(x+1)*128^i<=128*128^i:=Ao _ om
 rw[Eo]
 rw[Ap]at this
 omega
theorem yZ5 {v:Nat} (hv:v<128^i) (hx:x<128) (h9:i<=8∨i=9/\x<=1):v+x*128^i<18446744073709551616/\x*128^i<18446744073709551616:=by
 rcases h9 with h|⟨rfl,h⟩
 .have h1:=yw5 hv hx
  have h2:128^(i+1)<=128^9:=Nat.pow_le_pow_right om om
  omega
 .have:x=0∨x=1:=om
  rcases this with rfl|rfl<;>omega
theorem zx2 {b:List UInt8} (h:i<(zN b).length):(zN b)[i]= [.int .u8 (b[i]'(by rw[zQ]at h;exact h)).toNat]:=by simp[zN]
theorem zS0 (b:List UInt8) (ah:b.length<=maxB):Pure prog 147 [bys b] (yr4 (wS b 0 0)):=by
 refine iV 0 func147 ntmps147 results147 fun c hc hb=> ?_
 refine zA ?_
 simp[go_sem,bys,zQ]
 refine zI (S:=Nat×Nat) [2,7,8,9] (fun u=> [.int .u64 u.2,bys b,.int .i64 b.length,.int .i64 u.1]) (fun _=> []) (fun u=>b.length - u.1) (fun u=>u.1<=b.length/\u.1<=9/\u.2<128^u.1/\wS (b.drop u.1) u.1 u.2=wS b 0 0) hc hb (0,0) ⟨A7 _,A7 _,dc,rfl⟩ ?_ ?_
 .exact at_0 rfl (zO (by simp[go_sem,bys]) rfl)
 rintro⟨i,v⟩ ⟨hi,h9,hv,ht⟩
 simp only at hi h9 hv ht
 refine zA ?_
 simp[go_sem,bys]
 refine zR (fun q=> ?_) (fun q=> ?_)
 .have q:i<b.length:=by simpa using q
  obtain⟨c0,ae⟩: ∃c,b[i]=c:=⟨_,rfl⟩
  rw[Aa q,ae,wS]at ht
  have ak:c0.toNat<256:=c0.toNat_lt
  have ei:IntKind.i64.wrap ((i:Int)+1)=((i+1:Nat):Int):=zS q (by unfold maxB at ah;omega)
  have ret: ∀(r:Nat×Nat×Int) (σ:St),r=wS b 0 0->wret (some (yr4 r)) 0 (fun r s=>r=yr4 (wS b 0 0)/\s= []) σ:=fun r σ h=>by subst h;exact wR
  by_cases hA:i=9/\1<c0.toNat
  .rw[if_pos hA]at ht
   simp[go_sem,zQ,q,zx2,ae]
   have f1:((i:Int)==9)=true:=by simp;omega
   refine yW (fun w=> ?_) (fun w=>absurd (f1.symm.trans w) dc)
   simp[go_sem,w]
   refine zR (fun w2=> ?_) (fun w2=>absurd w2 (by simp;omega))
   simp[go_sem]
   exact ret (0,0,5) _ ht
  rw[if_neg hA]at ht
  have ai:i<=8∨i=9/\c0.toNat%128<=1:=by
   by_cases h:i=9
   .exact .inr ⟨h,by
     have: ¬1<c0.toNat:=fun w=>hA ⟨h,w⟩
     omega⟩
   .exact .inl om
  have hx:c0.toNat%128<128:=Cv _ om
  have n12:=yZ5 hv hx ai
  have fA:i=9-> ¬1<c0.toNat:=fun h w=>hA ⟨h,w⟩
  have a1:=xl1 c0
  have e1:IntKind.i64.wrap (7*(i:Int))=7*(i:Int):=i64_id om om
  have e2:IntKind.u64.wrap (7*(i:Int))=7*(i:Int):=u64_id om om
  have e3:IntKind.u64.wrap ((c0.toNat:Int)%128)=(c0.toNat:Int)%128:=u64_id om om
  obtain⟨x,ad⟩: ∃x:Nat,x=c0.toNat%128*128^i:=⟨_,rfl⟩
  obtain⟨m,af⟩: ∃m:Nat,m=v+x:=⟨_,rfl⟩
  have ag:m<128^(i+1):=by rw[af,ad];exact yw5 hv hx
  have aj:v|||x=m:=by rw[af,ad];exact xT4 hv
  rw[<-ad,<-af]at ht n12
  have e4:IntKind.u64.wrap ((c0.toNat:Int)%128*2^min (7*(i:Int)).toNat 64)=(x:Int):=by
   have:min (7*(i:Int)).toNat 64=7*i:=om
   rw[this]
   have h3:(c0.toNat:Int)%128*2^(7*i)=(x:Int):=by rw[ad,xa7];simp
   rw[h3,u64_id om om]
  have e5:ze6 .or .u64 (v:Int) (x:Int)=(m:Int):=by rw[xU9 om om om,aj]
  simp[go_sem,zQ,q,zx2,ae]
  refine yW (fun w=> ?_) (fun w=> ?_)
  .have w9:i=9:=by simp at w;omega
   have w1:=fA w9
   simp[go_sem,w]
   refine zR (fun w2=>absurd w2 (by simp;omega)) (fun w2=> ?_)
   simp[go_sem,a1,e1,e2,e3,e4,e5]
   try (refine zG om ?_;simp[go_sem,a1,e1,e2,e3,e4,e5])
   refine zR (fun w3=> ?_) (fun w3=> ?_)
   .have w4: ¬c0.toNat<128:=by have:=of_decide_eq_true w3;omega
    have i8:i+1<=9:=om
    rw[if_neg w4]at ht
    simp[go_sem,ei]
    exact zH (i+1,m) ⟨by simp only;omega,⟨q,i8,ag,ht⟩,at_0 rfl (zO (by simp[go_sem,bys,ei]) rfl)⟩
   .have w4:c0.toNat<128:=by have:=of_decide_eq_false w3;omega
    rw[if_pos w4]at ht
    simp[go_sem]
    refine yW (fun w5=> ?_) (fun w5=> ?_)
    .have aa:c0.toNat=0:=by simp at w5;omega
     simp[go_sem,w5]
     refine zR (fun w6=> ?_) (fun w6=> ?_)
     .have ab:0<i:=by simpa using w6
      rw[if_pos ⟨aa,ab⟩]at ht
      simp[go_sem]
      exact ret (0,0,9) _ ht
     .have ab: ¬0<i:=by simpa using w6
      rw[if_neg (fun h=>ab h.2)]at ht
      simp[go_sem,ei]
      exact ret (m,i+1,0) _ ht
    .have aa: ¬c0.toNat=0:=by simp at w5;omega
     rw[if_neg (fun h=>aa h.1)]at ht
     simp[go_sem,w5,ei]
     exact ret (m,i+1,0) _ ht
  .have w9: ¬i=9:=by simp at w;omega
   simp[go_sem,w,a1,e1,e2,e3,e4,e5]
   try (refine zG om ?_;simp[go_sem,a1,e1,e2,e3,e4,e5])
   refine zR (fun w3=> ?_) (fun w3=> ?_)
   .have w4: ¬c0.toNat<128:=by have:=of_decide_eq_true w3;omega
    have i8:i+1<=9:=om
    rw[if_neg w4]at ht
    simp[go_sem,ei]
    exact zH (i+1,m) ⟨by simp only;omega,⟨q,i8,ag,ht⟩,at_0 rfl (zO (by simp[go_sem,bys,ei]) rfl)⟩
   .have w4:c0.toNat<128:=by have:=of_decide_eq_false w3;omega
    rw[if_pos w4]at ht
    simp[go_sem]
    refine yW (fun w5=> ?_) (fun w5=> ?_)
    .have aa:c0.toNat=0:=by simp at w5;omega
     simp[go_sem,w5]
     refine zR (fun w6=> ?_) (fun w6=> ?_)
     .have ab:0<i:=by simpa using w6
      rw[if_pos ⟨aa,ab⟩]at ht
      simp[go_sem]
      exact ret (0,0,9) _ ht
     .have ab: ¬0<i:=by simpa using w6
      rw[if_neg (fun h=>ab h.2)]at ht
      simp[go_sem,ei]
      exact ret (m,i+1,0) _ ht
    .have aa: ¬c0.toNat=0:=by simp at w5;omega
     rw[if_neg (fun h=>aa h.1)]at ht
     simp[go_sem,w5,ei]
     exact ret (m,i+1,0) _ ht
 .have q:i=b.length:=by
   have: ¬i<b.length:=by simpa using q
   omega
  subst q
  rw[Cy,wS]at ht
  simp[go_sem]
  rw[<-ht]
  exact wR
theorem zB4: ∀(l:List UInt8) (i v:Nat),(wS l i v).2.2=0->(wS l i v).2.1<=i+l.length
 | [],i,v,h=>by simp[wS]at h
 |c::rest,i,v,h=>by
  unfold wS at h⊢
  split
  .simp_all
  .rename_i h1
   rw[if_neg h1]at h
   split
   .rename_i h2
    rw[if_pos h2]at h
    split
    .rename_i h3
     rw[if_pos h3]at h
     simp at h
    .simp
   .rename_i h2
    rw[if_neg h2]at h
    have:=zB4 rest (i+1) _ h
    simp only[Al]
    omega
def wI (b:List UInt8) (r:Nat×Nat×Int):List UInt8×Nat×Int:=
 if r.2.2≠0 then([],0,r.2.2)else if 1048576<r.1 then([],0,3)else if b.length - r.2.1<r.1 then([],0,2)else((b.take (r.2.1+r.1)).drop r.2.1,r.2.1+r.1,0)
def zc8 (b:List UInt8):List UInt8×Nat×Int:=wI b (wS b 0 0)
def yy7 (r:List UInt8×Nat×Int):V:= .tup [bys r.1,.int .i64 r.2.1,.int .i64 r.2.2]
theorem yz0 {r:List UInt8×Nat×Int} {rows:List (List V)} (h1:zN r.1=rows) (h2:r.2.1=n) (h3:r.2.2=e):
  wret (some (.tup [.sl g rows,.int .i64 n,.int .i64 e])) 0 (fun v s=>v=yy7 r/\s= []) σ:=by
 subst h1 h2 h3
 have h:argS (ren [] σ.length) (yy7 r) (.tup [.sl g (zN r.1),.int .i64 r.2.1,.int .i64 r.2.2]):=xT ⟨zt3,zb3 rfl,zb3 rfl,tV⟩
 exact wW h ⟨rfl,rfl⟩
theorem yN1 (b:List UInt8) (ab:b.length<=maxB):Pure prog 222 [bys b] (yy7 (zc8 b)):=by
 have hle:=zB4 b 0 0
 have aa:=zS0 b ab
 unfold zc8
 revert hle aa
 generalize wS b 0 0=r
 obtain⟨n,k,e⟩:=r
 intro hle aa
 simp only at hle
 refine iW 0 func222 ntmps222 results222 fun c hc hb=>zJ ?_
 simp[go_sem]
 refine pC aa ?_
 simp[go_sem,yr4]
 refine zR (fun h=> ?_) (fun h=> ?_)
 .have h:e≠0:=by simpa using h
  simp[go_sem]
  exact yz0 (by simp[wI,h,zN]) (by simp[wI,h]) (by simp[wI,h])
 have h:e=0:=by simpa using h
 have hk:=hle h
 have e1:IntKind.i64.wrap ((b.length:Int) - (k:Int))=((b.length - k:Nat):Int):=by rw[i64_id (by unfold maxB at*;omega) (by unfold maxB at*;omega)];omega
 have e2:IntKind.u64.wrap ((b.length - k:Nat):Int)=((b.length - k:Nat):Int):=u64_id om (by unfold maxB at*;omega)
 simp[go_sem]
 refine zR (fun h2=> ?_) (fun h2=> ?_)
 .have h2:1048576<n:=by have:=of_decide_eq_true h2;omega
  simp[go_sem]
  exact yz0 (by simp[wI,h,h2,zN]) (by simp[wI,h,h2]) (by simp[wI,h,h2])
 have h2: ¬1048576<n:=by have:=of_decide_eq_false h2;omega
 simp[go_sem,bys,zQ,e1,e2]
 refine zR (fun h3=> ?_) (fun h3=> ?_)
 .have h3:b.length - k<n:=by have:=of_decide_eq_true h3;omega
  simp[go_sem]
  exact yz0 (by simp[wI,h,h2,h3,zN]) (by simp[wI,h,h2,h3]) (by simp[wI,h,h2,h3])
 have h3: ¬b.length - k<n:=by have:=of_decide_eq_false h3;omega
 have e3:IntKind.i64.wrap (n:Int)=(n:Int):=i64_id om om
 have e4:IntKind.i64.wrap ((k:Int)+(n:Int))=((k+n:Nat):Int):=by rw[i64_id (by unfold maxB at*;omega) (by unfold maxB at*;omega)];omega
 simp[go_sem,zQ,e3,e4]
 refine zG ⟨om,om,zl8 b⟩ ?_
 have e5:((k:Int)+(n:Int)).toNat=k+n:=om
 have hlen:((b.take (k+n)).drop k).length<=maxB:=by simp;omega
 simp[go_sem,e5]
 refine zI3 (yR8 ((b.take (k+n)).drop k) 0 hlen dc) cB ⟨zm3 (by simp[zN,List.map_take,List.map_drop]),zC rfl,tV⟩ ?_
 rintro r s ⟨rfl,rfl⟩
 simp[go_sem,byA,stA]
 exact yz0 (by simp[wI,h,h2,h3]) (by simp[wI,h,h2,h3]) (by simp[wI,h,h2,h3])
def zagF (u:Nat):Int:=if u%2=0 then((u/2:Nat):Int)else -((u/2:Nat):Int) - 1
structure TakeR where
 v:GValue
 n:Nat
 e:Int
def TakeR.V (r:TakeR):V:= .tup [.agg r.v.row,.int .i64 r.n,.int .i64 r.e]
def v0:GValue:=⟨0,0,[]⟩
def zg5 (b:List UInt8):TakeR:=
 if b.length<2 then⟨v0,0,2⟩else if 1<(b.getD 1 0).toNat then⟨v0,0,9⟩else⟨⟨1,(b.getD 1 0).toNat,[]⟩,2,0⟩
theorem zf9 {r:TakeR} {k m:Int} {s:List UInt8} (h:r=⟨⟨k,m,s⟩,n,e⟩):
  wret (some (.tup [.agg [.int .i64 k,.int .i64 m,.str s],.int .i64 n,.int .i64 e])) 0 (fun v s=>v=r.V/\s= []) σ:=by
 subst h
 exact wR
theorem yT0 (b:List UInt8) (ad:b.length<=maxB):Pure prog 220 [bys b] (zg5 b).V:=by
 refine iW 0 func220 ntmps220 results220 fun c hc hb=>zJ ?_
 simp[go_sem,bys,zQ]
 refine zR (fun h=> ?_) (fun h=> ?_)
 .have h:b.length<2:=by have:=of_decide_eq_true h;omega
  simp[go_sem]
  exact zf9 (n:=0) (by simp[zg5,h,v0])
 have h: ¬b.length<2:=by have:=of_decide_eq_false h;omega
 have h1:1<b.length:=om
 obtain⟨c0,aa⟩: ∃c,b[1]=c:=⟨_,rfl⟩
 have ab:b.getD 1 0=c0:=by rw[A9,A4 h1,aa];rfl
 have e1:IntKind.i64.wrap (c0.toNat:Int)=(c0.toNat:Int):=i64_id om (by have:=c0.toNat_lt;omega)
 simp[go_sem,zQ,h1,zx2,aa]
 refine zG om ?_
 simp[go_sem]
 refine zR (fun h2=> ?_) (fun h2=> ?_)
 .have h2:1<c0.toNat:=by have:=of_decide_eq_true h2;omega
  simp[go_sem]
  exact zf9 (n:=0) (by simp only[zg5,ab];rw[if_neg h,if_pos h2];rfl)
 .have h2: ¬1<c0.toNat:=by have:=of_decide_eq_false h2;omega
  simp[go_sem,zQ,h1,zx2,aa,e1]
  refine zG om ?_
  simp[go_sem,e1]
  exact zf9 (n:=2) (by simp only[zg5,ab];rw[if_neg h,if_neg h2])
theorem xV6 {x:Int} (h:0<=x) (h2:x<=9223372036854775807):ze6 .xor .i64 x 0=x:=by
 obtain⟨m,rfl⟩:=Ee h
 show IntKind.i64.wrap ((BitVec.ofInt 64 (m:Int)^^^BitVec.ofInt 64 0).toNat:Int)=m
 have e:BitVec.ofInt 64 (0:Int)=0#64:=rfl
 rw[e,BitVec.xor_zero,BitVec.ofInt_natCast,BitVec.toNat_ofNat,C6 om]
 exact i64_id om om
theorem xV7 {x:Int} (h:0<=x) (h2:x<=9223372036854775807):ze6 .xor .i64 x (-1)= -x - 1:=by
 obtain⟨m,rfl⟩:=Ee h
 show IntKind.i64.wrap ((BitVec.ofInt 64 (m:Int)^^^BitVec.ofInt 64 (-1)).toNat:Int)=_
 have e:BitVec.ofInt 64 (-1:Int)=BitVec.allOnes 64:=by decide+kernel
 rw[e,BitVec.xor_allOnes,BitVec.ofInt_natCast,BitVec.toNat_not,BitVec.toNat_ofNat,C6 om]
 rw[IntKind.wrap_i64]
 omega
theorem xW5 {m:Nat} (h:m<18446744073709551616):ze6 .and .u64 (m:Int) 1=(m:Int)%2:=by
 show IntKind.u64.wrap ((BitVec.ofInt 64 (m:Int)&&&BitVec.ofInt 64 1).toNat:Int)=_
 have e:BitVec.ofInt 64 (1:Int)=1#64:=rfl
 rw[e,BitVec.ofInt_natCast,BitVec.toNat_and,BitVec.toNat_ofNat,C6 om]
 have e2:m&&&(1#64).toNat=m%2:=Nat.and_one_is_mod m
 rw[e2,u64_id om om]
 omega
theorem xW3 (u:Nat) (hu:u<18446744073709551616):Pure prog 221 [.int .u64 u] (.int .i64 (zagF u)):=by
 have e0:=xW5 hu
 have e1:(u:Int).fdiv 2=(u:Int)/2:=Cu _ om
 have e3:IntKind.i64.wrap ((u:Int)/2)=(u:Int)/2:=i64_id om om
 have e4:IntKind.i64.wrap ((u:Int)%2)=(u:Int)%2:=i64_id om om
 have e5:IntKind.i64.wrap (-((u:Int)%2))= -((u:Int)%2):=i64_id om om
 have e6:ze6 .xor .i64 ((u:Int)/2) (-((u:Int)%2))=zagF u:=by
  unfold zagF
  by_cases h:u%2=0
  .rw[if_pos h,show -((u:Int)%2)=0 by omega,xV6 om om];omega
  .rw[if_neg h,show -((u:Int)%2)= -1 by omega,xV7 om om];omega
 refine iW 0 func221 ntmps221 results221 fun c hc hb=>zJ ?_
 simp[go_sem,e0,e1,e3,e4,e5,e6]
 exact wR
theorem zQ6: ∀(l:List UInt8) (i v:Nat),v<128^i->i<=9->(wS l i v).1<18446744073709551616
 | [],i,v,_,_=>by simp[wS]
 |c::rest,i,v,hv,h9=>by
  have hc:=c.toNat_lt
  unfold wS
  split
  .simp
  .rename_i h1
   have aa:i<=8∨i=9/\c.toNat%128<=1:=by
    by_cases h:i=9
    .exact .inr ⟨h,by
      have: ¬1<c.toNat:=fun w=>h1 ⟨h,w⟩
      omega⟩
    .exact .inl om
   have hx:c.toNat%128<128:=Cv _ om
   have n12:=yZ5 hv hx aa
   split
   .split
    .simp
    .exact n12.1
   .rename_i h2
    refine zQ6 rest (i+1) _ (yw5 hv hx) ?_
    rcases aa with h|h
    .omega
    .exfalso
     have: ¬1<c.toNat:=fun w=>h1 ⟨h.1,w⟩
     omega
def zt1 (k:Nat) (tb:TakeR) (r:Nat×Nat×Int) (t:List UInt8×Nat×Int):TakeR:=
 if k=0 then⟨v0,1,0⟩
 else if k=1 then tb
 else if k=2 then(if r.2.2≠0 then⟨v0,0,r.2.2⟩else⟨⟨2,zagF r.1,[]⟩,1+r.2.1,0⟩)
 else if k=3 then(if t.2.2≠0 then⟨v0,0,t.2.2⟩else if 64<t.1.length then⟨v0,0,3⟩else⟨⟨3,0,t.1⟩,1+t.2.1,0⟩)
 else⟨v0,0,9⟩
def zg9:List UInt8->TakeR
 | []=>⟨v0,0,2⟩
 |c::rest=>zt1 c.toNat (zg5 (c::rest)) (wS rest 0 0) (zc8 rest)
theorem zX6 (b:List UInt8):(zc8 b).2.1<=b.length/\((zc8 b).2.2=0->(zc8 b).1.length<=b.length):=by
 have hle:=zB4 b 0 0
 unfold zc8 wI
 revert hle
 generalize wS b 0 0=r
 obtain⟨n,k,e⟩:=r
 intro hle
 simp only at hle⊢
 split
 .simp
 .rename_i h
  have h:e=0:=Decidable.not_not.1 h
  have hk:=hle h
  split
  .simp
  .split
   .simp
   .refine⟨?_,fun _=> ?_⟩
    .simp only;omega
    .simp;omega
theorem xP1 (b:List UInt8) (ah:b.length<=maxB):Pure prog 148 [bys b] (zg9 b).V:=by
 cases b with
 |nil=>
  refine iW 0 func148 ntmps148 results148 fun c hc hb=>zJ ?_
  simp[go_sem,bys,zN]
  exact zf9 (n:=0) rfl
 |cons c0 rest=>
  have hc:=c0.toNat_lt
  have hr:rest.length<=maxB:=by simp only[Al]at ah;omega
  have ab:=zQ6 rest 0 0 dc dc
  have hle:=zB4 rest 0 0
  have ad:=zS0 rest hr
  have ae:=yN1 rest hr
  have af:=zX6 rest
  have ag:=yT0 (c0::rest) ah
  have e1:IntKind.i64.wrap (c0.toNat:Int)=(c0.toNat:Int):=i64_id om om
  have aa:zN (c0::rest)= [.int .u8 c0.toNat]::zN rest:=rfl
  rw[zg9]
  revert ab hle ad ae ag af
  generalize wS rest 0 0=r
  generalize zc8 rest=t
  generalize zg5 (c0::rest)=tb
  obtain⟨n,k,e⟩:=r
  obtain⟨tx,tk,te⟩:=t
  obtain⟨⟨bk,bn,bs⟩,bm,be⟩:=tb
  obtain⟨q,hq⟩:=eX c0.toNat
  intro ab hle ad ae af ag
  simp only at ab hle af
  rw[hq]at hc e1 aa⊢
  have e2:e=0->IntKind.i64.wrap (1+(k:Int))=((1+k:Nat):Int):=fun h=>by
   have:=hle h
   rw[i64_id om (by unfold maxB at*;omega)];omega
  have e3:IntKind.i64.wrap (1+(tk:Int))=((1+tk:Nat):Int):=by rw[i64_id om (by unfold maxB at*;omega)];omega
  have e4:(zN rest).take rest.length=zN rest:=Az (by rw[zQ];omega)
  have hu:uni 1 ([V.int .u8 (q:Int)]::zN rest):=aa▸zl8 (c0::rest)
  refine iW 0 func148 ntmps148 results148 fun c hc hb=>zJ ?_
  simp[go_sem,bys,aa,zQ]
  refine zR (fun w=>absurd w (by simp;omega)) (fun w=> ?_)
  simp[go_sem,aa,zQ,e1]
  refine zR (fun w1=> ?_) (fun w1=> ?_)
  .have w1:q=0:=by simp at w1;omega
   simp[go_sem]
   exact zf9 (n:=1) (by simp[zt1,w1,v0])
  have w1: ¬q=0:=by simp at w1;omega
  simp[go_sem]
  refine zR (fun w2=> ?_) (fun w2=> ?_)
  .have w2:q=1:=by simp at w2;omega
   simp[go_sem]
   refine zM ag cB (zO (by simp[bys,aa]) rfl) rfl ?_
   simp[go_sem,TakeR.V]
   exact zf9 (n:=bm) (by simp[zt1,w2])
  have w2: ¬q=1:=by simp at w2;omega
  simp[go_sem]
  refine zR (fun w3=> ?_) (fun w3=> ?_)
  .have w3:q=2:=by simp at w3;omega
   simp[go_sem,aa,zQ]
   refine zG ⟨om,hu⟩ ?_
   simp[go_sem,e4]
   refine pC ad ?_
   simp[go_sem,yr4]
   refine zR (fun w4=> ?_) (fun w4=> ?_)
   .have w4:e≠0:=by simpa using w4
    simp[go_sem]
    exact zf9 (n:=0) (by simp[zt1,w3,w4,v0])
   have w4:e=0:=by simpa using w4
   have e5:=e2 w4
   simp[go_sem]
   refine pC (xW3 n ab) ?_
   simp[go_sem,e5]
   exact zf9 (n:=1+k) (by simp[zt1,w3,w4])
  have w3: ¬q=2:=by simp at w3;omega
  simp[go_sem]
  refine zR (fun w4=> ?_) (fun w4=> ?_)
  .have w4:q=3:=by simp at w4;omega
   simp[go_sem,aa,zQ]
   refine zG ⟨om,hu⟩ ?_
   simp[go_sem,e4]
   refine pC ae ?_
   simp[go_sem,yy7,bys,zQ]
   refine zR (fun w5=> ?_) (fun w5=> ?_)
   .have w5:te≠0:=by simpa using w5
    simp[go_sem]
    exact zf9 (n:=0) (by simp[zt1,w4,w5,v0])
   have w5:te=0:=by simpa using w5
   simp[go_sem,zQ]
   refine zR (fun w6=> ?_) (fun w6=> ?_)
   .have w6:64<tx.length:=by have:=of_decide_eq_true w6;omega
    simp[go_sem]
    exact zf9 (n:=0) (by simp[zt1,w4,w5,w6,v0])
   have w6: ¬64<tx.length:=by have:=of_decide_eq_false w6;omega
   simp[go_sem]
   refine zG (wT _) ?_
   simp[go_sem,e3,zj6]
   exact zf9 (n:=1+tk) (by simp[zt1,w4,w5,w6])
  have w4: ¬q=3:=by simp at w4;omega
  simp[go_sem]
  exact zf9 (n:=0) (by simp[zt1,w1,w2,w3,w4,v0])
theorem is_w (aa tabs:List (List V)) (t:Int):Pure prog 146 [.agg [.sl .ro aa,.sl .ro tabs],.int .i64 t] (.bool (decide (0<=t)&&decide (t<tabs.length))):=by
 refine iW 0 func146 ntmps146 results146 fun c hc hb=>zJ ?_
 simp[go_sem]
 repeat' (first|(refine yW (fun q=> ?_) (fun q=> ?_)<;>simp[go_sem,q])|(refine zR (fun q=> ?_) (fun q=> ?_)<;>simp[go_sem,q]))
 all_goals exact wW (zC rfl) ⟨by simp_all,rfl⟩
theorem xz5 (b:List UInt8):(zg9 b).e=0->(zg9 b).n<=b.length:=by
 cases b with
 |nil=>simp[zg9]
 |cons c rest=>
  have h1:=zB4 rest 0 0
  have h2:=zX6 rest
  rw[zg9]
  unfold zt1 zg5
  revert h1 h2
  generalize wS rest 0 0=r
  generalize zc8 rest=t
  obtain⟨rn,rk,re⟩:=r
  obtain⟨tx,tk,te⟩:=t
  intro h1 h2
  simp only at h1 h2
  (repeat' split)<;>intro h<;>simp at h⊢ <;>(try omega)
  .rename_i q1 q2 q3;simp only[Al]at q2;omega
  .rename_i q;simp at q;have:=h1 q;omega
def rowG:Nat->List UInt8->Option (List GValue)
 |0,b=>if b= []then some []else none
 |n+1,b=>if(zg9 b).e=0 then(rowG n (b.drop (zg9 b).n)).map ((zg9 b).v:: ·)else none
def rowR (o:Option (List GValue)):List GValue×Int:=match o with
 |some l=>(l,0)
 |none=>([],9)
def rowC (nc:Nat) (data:List UInt8):List GValue×Int:=
 if(wS data 0 0).2.2=0/\(wS data 0 0).1=nc then rowR (rowG nc (data.drop (wS data 0 0).2.1))else([],9)
def rowF (ts:List GTable) (table:Int) (data:List UInt8):List GValue×Int:=
 if h:0<=table/\table<ts.length then rowC (ts[table.toNat]'om).cols.length data else([],1)
theorem yt0 (b:List UInt8) (k:Nat):List.drop k (List.take b.length (zN b))=zN (b.drop k):=by
 rw[Az (by rw[zQ];exact A6 _)]
 simp[zN,List.map_drop]
def rowV (r:List GValue×Int):V:= .tup [.sl .ro (r.1.map GValue.row),.int .i64 r.2]
theorem xb7 {r:List GValue×Int} {l:List GValue} (h:r=(l,e)):wret (some (.tup [.sl g (l.map GValue.row),.int .i64 e])) 0 (fun v s=>v=rowV r/\s= []) σ:=by
 subst h
 exact wW (r:=rowV (l,e)) (xT (vs':= [.sl .ro (l.map GValue.row),.int .i64 e]) ⟨zt3,zb3 rfl,tV⟩) ⟨rfl,rfl⟩
theorem zQ0 {r:List GValue×Int} (h:r=([],e)):wret (some (.tup [.sl g [],.int .i64 e])) 0 (fun v s=>v=rowV r/\s= []) σ:=xb7 (l:= []) h
theorem xM3 (ab:List (List V)) (ts:List GTable) (table:Int) (data:List UInt8) (hd:data.length<=maxB) (an: ∀t∈ts,t.cols.length<=maxB):
  Pure prog 87 [.agg [.sl .ro ab,.sl .ro (ts.map GTable.row)],.int .i64 table,.str data] (rowV (rowF ts table data)):=by
 have ah:=zQ6 data 0 0 dc dc
 have hle:=zB4 data 0 0
 have ai:=zS0 data hd
 by_cases ht:0<=table/\table<ts.length
 .obtain⟨j,rfl⟩: ∃j:Nat,table=j:=⟨table.toNat,om⟩
  have hj:j<ts.length:=om
  obtain⟨t,aj⟩:=eX (ts[j])
  have af:=an t (aj▸Ac hj)
  have hF:rowF ts j data=rowC t.cols.length data:=by
   unfold rowF
   rw[dif_pos ht]
   simp[aj]
  rw[hF]
  unfold rowC
  revert ah hle ai
  generalize wS data 0 0=r
  obtain⟨n,k,e⟩:=r
  intro ah hle ai
  simp only at ah hle⊢
  obtain⟨nc,ag⟩:=eX t.cols.length
  rw[ag]at af⊢
  have eu:IntKind.u64.wrap (nc:Int)=nc:=u64_id om (by unfold maxB at af;omega)
  refine iV 0 func87 ntmps87 results87 fun c hc hb=> ?_
  refine zA ?_
  simp[go_sem]
  refine pC (is_w ab (ts.map GTable.row) j) ?_
  simp[go_sem,hj]
  refine zM ai cB (zO (by simp[bys,zN]) rfl) rfl ?_
  simp[go_sem,yr4]
  have bad: ∀σ:St,¬(e=0/\n=nc)->wret (some (.tup [.sl .full [],.int .i64 9])) 0 (fun v s=>v=rowV (if e=0/\n=nc then rowR (rowG nc (data.drop k))else([],9))/\s= []) σ:=fun σ h=>zQ0 (by rw[if_neg h])
  refine yW (fun ad=> ?_) (fun ad=> ?_)
  .have q1:e=0:=by simpa using ad
   simp[go_sem,ad,hj,aj,ag,eu]
   refine zR (fun q2=> ?_) (fun q2=> ?_)
   .have q2: ¬n=nc:=by simp at q2;omega
    simp[go_sem]
    exact bad _ (fun h=>q2 h.2)
   have q2:n=nc:=by simp at q2;omega
   have hk:=hle q1
   rw[if_pos ⟨q1,q2⟩]
   simp[go_sem]
   refine zo3 12 3 dc rfl ?_
   refine zI (S:=Nat×Nat×List GValue) [8,10,12,42,43] (fun u=> [bys data,.int .i64 u.2.1,.sl (.app 1) (u.2.2.map GValue.row),.int .u64 nc,.int .u64 u.1]) (fun u=> [.box [.sl .ro ab,.sl .ro (ts.map GTable.row)],.app u.2.2.length 3]) (fun u=>nc - u.1)
    (fun u=>u.1<=nc/\u.2.1<=data.length/\u.2.2.length=u.1/\(rowG (nc - u.1) (data.drop u.2.1)).map (u.2.2++ ·)=rowG nc (data.drop k)) hc hb (0,k,[]) ⟨A7 _,by simp only;omega,rfl,sm⟩ ?_ ?_
   .exact at_n 2 sm rfl rfl (A7 _) (zF (by simp[go_sem,bys,zN,q2]) rfl)
   rintro⟨i,at_,l⟩ ⟨hi,ao,al,aa⟩
   simp only at hi ao al aa
   have ar:data.length - at_<=maxB:=om
   have ak:=xP1 (data.drop at_) (by simp;omega)
   have ae:=xz5 (data.drop at_)
   rw[Eq]at ae
   refine zA ?_
   simp[go_sem]
   refine zR (fun q3=> ?_) (fun q3=> ?_)
   .have q3:i<nc:=by simpa using q3
    rw[show nc - i=(nc - i - 1)+1 by omega,rowG]at aa
    revert ak ae aa
    generalize zg9 (data.drop at_)=r
    obtain⟨⟨vk,vn,vs⟩,rn,re⟩:=r
    intro aa ak ae
    simp only at ae aa
    simp[go_sem,bys,zQ]
    refine zG ⟨om,zl8 data⟩ ?_
    simp[go_sem]
    refine zM ak cB (zO (by simp[bys,yt0]) rfl) rfl ?_
    simp[go_sem,TakeR.V]
    refine zR (fun q4=> ?_) (fun q4=> ?_)
    .have q4: ¬re=0:=by simpa using q4
     rw[if_neg q4]at aa
     simp[go_sem]
     rw[<-aa]
     exact zQ0 rfl
    have q4:re=0:=by simpa using q4
    rw[if_pos q4]at aa
    have au:=ae q4
    have ea:IntKind.i64.wrap ((at_:Int)+rn)=((at_+rn:Nat):Int):=by rw[i64_id om (by unfold maxB at hd;omega)];omega
    have ei:IntKind.u64.wrap ((i:Int)+1)=((i+1:Nat):Int):=by rw[u64_id om (by unfold maxB at af;omega)];omega
    have aq:(l.length+1)*32<=140737488355328:=by unfold maxB at af;omega
    simp[go_sem]
    refine zG ⟨by simpa using aq,zX rfl⟩ ?_
    simp[go_sem,ea,ei]
    refine zH (i+1,at_+rn,l++ [⟨vk,vn,vs⟩]) ⟨by simp only;omega,⟨q3,by simp only;omega,by simp[al], ?_⟩,at_n 2 sm rfl rfl (A7 _) (zF (by simp[go_sem,bys,ea,ei]) rfl)⟩
    rw[<-aa]
    simp only
    rw[show nc - (i+1)=nc - i - 1 by omega,List.drop_drop]
    cases rowG (nc - i - 1) (data.drop (at_+rn))<;>simp
   .have q3:i=nc:=by
     have: ¬i<nc:=by simpa using q3
     omega
    subst q3
    simp[rowG]at aa
    simp[go_sem,bys,zQ]
    refine zR (fun q4=> ?_) (fun q4=> ?_)
    .have q4:at_<data.length:=by simpa using q4
     rw[if_neg om]at aa
     simp[go_sem]
     rw[<-aa]
     exact zQ0 rfl
    have q4:data.length<=at_:=by simpa using q4
    rw[if_pos q4]at aa
    simp[go_sem]
    rw[<-aa]
    exact xb7 (by simp[rowR])
  .have q1: ¬e=0:=by simpa using ad
   simp[go_sem,ad]
   exact bad _ (fun h=>q1 h.1)
 .have hF:rowF ts table data=([],1):=by
   unfold rowF
   rw[dif_neg ht]
  rw[hF]
  refine iV 0 func87 ntmps87 results87 fun c hc hb=> ?_
  refine zA ?_
  simp[go_sem]
  refine pC (is_w ab (ts.map GTable.row) table) ?_
  have hn:(decide (0<=table)&&decide (table<((ts.map GTable.row).length:Int)))=false:=by simp;omega
  rw[hn]
  simp[go_sem]
  exact zQ0 rfl
def be (v:Nat):Nat->List UInt8
 |0=> []
 |k+1=>UInt8.ofNat (v/256^k)::be v k
theorem yN3 (v:Nat): ∀k,(be v k).length=k
 |0=>rfl
 |k+1=>by simp[be,yN3 v k]
theorem zf1 (a b:UInt8) (l m:List UInt8):Op.bytesLess (a::l) (b::m)=if a.toNat<b.toNat then true else if b.toNat<a.toNat then false else Op.bytesLess l m:=by
 rw[Op.bytesLess]
 simp only[UInt8.lt_iff_toNat_lt]
 by_cases h1:a.toNat<b.toNat
 .simp[h1]
 .by_cases h2:b.toNat<a.toNat
  .have:a≠b:=fun h=>by subst h;omega
   simp[h1,h2,this]
  .have:a=b:=Dy.1 om
   simp[this]
theorem yV1 (u w:Nat): ∀k,Op.bytesLess (be u k) (be w k)=decide (u%256^k<w%256^k)
 |0=>by simp[be,Op.bytesLess,Nat.mod_one]
 |k+1=>by
  have hk:0<256^k:=Nat.pow_pos dc
  rw[be,be,zf1,yV1 u w k,Eo,Nat.mod_mul,Nat.mod_mul,Ej,Ej]
  have h1:=Cv u hk
  have h2:=Cv w hk
  generalize u%256^k=x at*
  generalize w%256^k=y at*
  have e: ∀z:Nat,z%2^8=z%256:=fun z=>rfl
  rw[e,e]
  generalize u/256^k%256=a
  generalize w/256^k%256=b
  generalize 256^k=m at*
  by_cases ha:a<b
  .have:(a+1)*m<=b*m:=Ao m ha
   rw[Ap]at this
   rw[if_pos ha,decide_eq_true]
   rw[Bo m a,Bo m b]
   omega
  .rw[if_neg ha]
   by_cases hb:b<a
   .have:(b+1)*m<=a*m:=Ao m hb
    rw[Ap]at this
    rw[if_pos hb,eq_comm,decide_eq_false]
    rw[Bo m a,Bo m b]
    omega
   .have:a=b:=om
    subst this
    rw[if_neg hb]
    congr 1
    exact propext ⟨fun h=>om,fun h=>om⟩
def esc:List UInt8->List UInt8
 | []=> []
 |c::s=>if c=0 then 0::255::esc s else c::esc s
theorem yt5: ∀s,(esc s).length<=2*s.length
 | []=>by simp[esc]
 |c::s=>by
  have:=yt5 s
  unfold esc
  split<;>simp<;>omega
theorem yc2: ∀a b,esc (a++b)=esc a++esc b
 | [],b=>rfl
 |c::a,b=>by
  have:=yc2 a b
  rw[Bu,esc,esc]
  split<;>simp[this]
theorem yD4: ∀a b:List UInt8,Op.bytesLess (esc a++ [0,1]) (esc b++ [0,1])=Op.bytesLess a b
 | [],[]=>by decide
 | [],d::b=>by
  rw[esc,esc]
  by_cases h:d=0
  .subst h
   rw[if_pos rfl]
   simp[zf1,Op.bytesLess]
  .rw[if_neg h]
   have hd:0<d.toNat:=by
    rcases Eh d.toNat with q|q
    .exact absurd (Dy.1 (by simpa using q)) h
    .exact q
   simp[zf1,Op.bytesLess,hd]
 |c::a,[]=>by
  rw[esc,esc]
  by_cases h:c=0
  .subst h
   rw[if_pos rfl]
   simp[zf1,Op.bytesLess]
  .rw[if_neg h]
   have hd:0<c.toNat:=by
    rcases Eh c.toNat with q|q
    .exact absurd (Dy.1 (by simpa using q)) h
    .exact q
   simp[zf1,Op.bytesLess,hd]
 |c::a,d::b=>by
  have ih:=yD4 a b
  rw[esc,esc,zf1]
  by_cases hc:c=0
  .subst hc
   by_cases hd:d=0
   .subst hd
    simp[zf1,ih]
   .have aa:0<d.toNat:=by
     rcases Eh d.toNat with q|q
     .exact absurd (Dy.1 (by simpa using q)) hd
     .exact q
    simp[zf1,hd,aa]
  .have ab:0<c.toNat:=by
    rcases Eh c.toNat with q|q
    .exact absurd (Dy.1 (by simpa using q)) hc
    .exact q
   by_cases hd:d=0
   .subst hd
    simp[zf1,hc,ab]
   .simp[zf1,hc,hd,ih]
def keyF (v:GValue):List UInt8:=
 if mayF v=true then
  UInt8.ofNat v.kind.toNat::(if v.kind=1 then [UInt8.ofNat v.n.toNat]else if v.kind=2 then be (v.n+9223372036854775808).toNat 8 else if v.kind=3 then esc v.s++ [0,1]else [])
 else []
theorem xt8 {v:GValue}:(keyF v).length<=2*v.s.length+10:=by
 have h:=yt5 v.s
 have h2:=yN3 (v.n+9223372036854775808).toNat 8
 unfold keyF
 (repeat' split)<;>simp<;>omega
theorem xZ5 (a:Nat) (h:a<2^64):a^^^2^63=(2^63+a)%2^64:=by
 apply Nat.eq_of_testBit_eq
 intro j
 rw[Nat.testBit_xor,Nat.testBit_two_pow,Nat.testBit_mod_two_pow]
 rcases Bm j 63 with h1|h1|h1
 .rw[Nat.testBit_two_pow_add_gt h1]
  simp[show j<64 by omega,show ¬63=j by omega]
 .subst h1
  rw[Nat.testBit_two_pow_add_eq]
  simp
 .rw[Nat.testBit_lt_two_pow (D3 h (Nat.pow_le_pow_right dc om))]
  simp[show ¬j<64 by omega,show ¬63=j by omega]
theorem xI1 {n:Int} (h1: -9223372036854775808<=n) (h2:n<=9223372036854775807):ze6 .xor .u64 (IntKind.u64.wrap n) 9223372036854775808=(((n+9223372036854775808).toNat:Nat):Int):=by
 obtain⟨a,ha,aa⟩: ∃a:Nat,IntKind.u64.wrap n=(a:Int)/\(a:Int)=n%18446744073709551616:=by
  unfold IntKind.wrap
  simp[IntKind.bits,IntKind.signed]
  exact⟨(n%18446744073709551616).toNat,om,om⟩
 have hl:a<2^64:=om
 show IntKind.u64.wrap ((BitVec.ofInt 64 (IntKind.u64.wrap n)^^^BitVec.ofInt 64 ((9223372036854775808:Nat):Int)).toNat:Int)=_
 rw[ha,BitVec.ofInt_natCast,BitVec.ofInt_natCast,BitVec.toNat_xor,BitVec.toNat_ofNat,BitVec.toNat_ofNat,C6 hl,show 9223372036854775808%2^64=2^63 by decide,xZ5 a hl]
 unfold IntKind.wrap
 simp[IntKind.bits,IntKind.signed]
 omega
theorem xC9 (n:Int) (hn:i64R n):Pure prog 256 [.int .i64 n] (.int .u64 (n+9223372036854775808).toNat):=by
 have e:=xI1 hn.1 hn.2
 refine iW 0 func256 ntmps256 results256 fun c hc hb=>zJ ?_
 simp[go_sem,e]
 exact wR
theorem xZ1 (n:Int):IntKind.u8.wrap n<256:=by
 unfold IntKind.wrap
 simp[IntKind.bits,IntKind.signed]
 omega
theorem xU4 (l:List UInt8) (h:l.all (fun c=>decide (c.toNat<=8))=true) (i:Nat):(l[i]?.getD 0).toNat<=8:=by
 rcases Cm i l.length with q|q
 .rw[A4 q]
  simpa using Aj.1 h _ (Ac q)
 .rw[Bg q];decide
theorem yF3 {n:Int} (h0:0<=n) (h:n<=64): ∃m:Nat,V.int .i64 n= .int .i64 m/\m<=64:=⟨n.toNat,by congr 1;omega,om⟩
theorem xC7 (v:Nat) (_hv:v<18446744073709551616):VCalls prog 246 [.int .u64 v] [] fun r s=>(∃n:Nat,r= .int .i64 n/\n<=64)/\s= []:=by
 have aa:IntKind.i64.wrap 48=48:=by decide+kernel
 have ab:IntKind.i64.wrap 40=40:=by decide+kernel
 have ad:IntKind.i64.wrap 16=16:=by decide+kernel
 have w8:IntKind.i64.wrap 8=8:=by decide+kernel
 have ae:IntKind.i64.wrap (48+8)=56:=by decide+kernel
 have af:IntKind.i64.wrap (16+8)=24:=by decide+kernel
 refine iW 0 func246 ntmps246 results246 fun c hc hb=>zJ ?_
 simp[go_sem]
 repeat' (refine zR (fun q=> ?_) (fun q=> ?_)<;>simp[go_sem])
 all_goals
  refine zG (xZ1 _) ?_
  generalize hx:UInt8.toNat (Option.getD _ _)=x
  have h8:x<=8:=hx▸xU4 _ (by decide+kernel) _
  clear hx
  have e8:IntKind.i64.wrap (x:Int)=x:=i64_id om om
  simp[go_sem,e8]
 all_goals
  try simp only[aa,ab,ad,w8,ae,af]
  first
  |exact wW (zC rfl) ⟨yF3 om om,rfl⟩
  |(rw[i64_id om om]
    exact wW (zC rfl) ⟨yF3 om om,rfl⟩)
theorem xE9 (v k:Nat) (_hk:k<=7):IntKind.u8.wrap ((v:Int).fdiv (2^(8*k)))=((UInt8.ofNat (v/256^k)).toNat:Int):=by
 have e:(v:Int).fdiv (2^(8*k))=((v/256^k:Nat):Int):=by
  rw[Cu _ (by exact Int.le_of_lt (Int.pow_pos dc))]
  rw[show(2:Int)^(8*k)=((256^k:Nat):Int) by rw[Int.pow_mul];simp]
  rw[Int.natCast_ediv]
 rw[e,zU8]
theorem xW1 (b:List UInt8) (v:Nat) (ab:b.length<=maxB) (hv:v<18446744073709551616):Pure prog 255 [bys b,.int .u64 v,.int .i64 8] (.tup [bys (b++be v 8),.int .i64 0]):=by
 refine iV 0 func255 ntmps255 results255 fun c hc hb=> ?_
 refine zA ?_
 simp[go_sem,bys]
 refine xL1 (R:=fun r=> ∃n:Nat,r= .int .i64 n/\n<=64) (xC7 v hv) cB (zZ rfl) (fun r h=>by obtain⟨b,rfl,_⟩:=h;rfl) ?_
 rintro r ⟨n,rfl,hn⟩
 have ad:IntKind.i64.wrap 64=64:=by decide+kernel
 simp[go_sem,ad]
 refine zR (fun q=>absurd q (by simp;omega)) (fun q=> ?_)
 simp[go_sem]
 refine zI3 (yR8 b 8 ab dc) cB (zZ rfl) ?_
 rintro r s ⟨rfl,rfl⟩
 simp[go_sem,byA,stA]
 have ew: ∀k:Nat,k<=8->IntKind.i64.wrap (8*(k:Int) - 8)=8*(k:Int) - 8:=fun k h=>i64_id om om
 have ae:IntKind.i64.wrap (8*IntKind.i64.wrap 7)=56:=by decide+kernel
 refine zI (S:=Nat×List UInt8) [1,8,9] (fun u=> [.int .u64 v,byA u.2,.int .i64 (8*(u.1:Int) - 8)]) (fun u=>stA u.2) (fun u=>u.1) (fun u=>u.1<=8/\u.2++be v u.1=b++be v 8) hc hb (8,b) ⟨A6 _,rfl⟩ ?_ ?_
 .exact at_n 1 (by simp[stA]) rfl rfl (A7 _) (zF (by simp[go_sem,byA]) rfl)
 rintro⟨k,out⟩ ⟨hk,aa⟩
 simp only at hk aa
 have af:out.length+k=b.length+8:=by
  have:=congrArg List.length aa
  simpa[yN3]using this
 refine zA ?_
 simp[go_sem,byA,stA]
 refine zR (fun q=> ?_) (fun q=> ?_)
 .obtain⟨j,rfl⟩: ∃j,k=j+1:=⟨k - 1,by simp at q;omega⟩
  have e1:IntKind.u64.wrap (8*((j+1:Nat):Int) - 8)=((8*j:Nat):Int):=by rw[u64_id om om];omega
  have e2:IntKind.i64.wrap (8*((j+1:Nat):Int) - 8 - 8)=8*(j:Int) - 8:=by rw[i64_id om om];omega
  have e3:=xE9 v j om
  simp[go_sem]at e1 e2
  simp[go_sem,e1]
  refine zG om ?_
  have e4:min (8*(j:Int)).toNat 64=8*j:=om
  simp[go_sem,e4,e3]
  refine zG ⟨zQ out,by rw[zQ];unfold maxB at ab;omega,zX rfl⟩ ?_
  simp[go_sem,e2]
  rw[be]at aa
  refine zH (j,out++ [UInt8.ofNat (v/256^j)]) ⟨by simp only;omega,⟨by simp only;omega,by simpa using aa⟩,at_n 1 sm rfl rfl (A7 _) (zF (by simp[go_sem,zN]) rfl)⟩
 .have:k=0:=by simp at q;omega
  subst this
  rw[show be v 0= [] from rfl,Bc]at aa
  simp[go_sem]
  rw[<-aa]
  exact wW (xT (vs':= [bys out,.int .i64 0]) ⟨zt3,zb3 rfl,tV⟩) ⟨rfl,rfl⟩
theorem yd9 {v:GValue} (h:mayF v=true):v.kind=0∨v.kind=1∨v.kind=2∨v.kind=3:=by
 unfold mayF at h
 by_cases h0:v.kind=0
 .exact .inl h0
 .by_cases h1:v.kind=1
  .exact .inr (.inl h1)
  .by_cases h2:v.kind=2
   .exact .inr (.inr (.inl h2))
   .by_cases h3:v.kind=3
    .exact .inr (.inr (.inr h3))
    .simp[h0,h1,h2,h3]at h
theorem xq6 {s:List UInt8} (h:i<s.length):esc (s.take (i+1))=esc (s.take i)++(if s[i]=0 then [0,255]else [s[i]]):=by
 rw[Du h,yc2]
 simp only[esc]
theorem xK7 {s:Nat} {a b:List V} (h1:a.length=s) (h2:b.length=s):uni s [a,b]:=fun r hr=>by
 simp at hr
 rcases hr with rfl|rfl<;>assumption
theorem yG4 {v:GValue} (h:mayF v=true):v.s.length<=64:=by
 unfold mayF at h
 split at h
 .simp at h;rw[h.2];decide
 split at h
 .simp at h;rw[h.2];decide
 split at h
 .simp at h;rw[h];decide
 split at h
 .simp at h;exact h.2
 .cases h
theorem xO9 (b:List UInt8) (v:GValue) (hv:v.ok) (ad:b.length<=maxB - 1):Pure prog 179 [bys b,.agg v.row] (bys (b++keyF v)):=by
 refine iV 0 func179 ntmps179 results179 fun c hc hb=> ?_
 refine zA ?_
 obtain⟨k,n,s⟩:=v
 have hn:=hv.n
 simp only at hn
 simp[go_sem,bys,zQ]
 refine zG ⟨by unfold maxB at*;omega,by simp[uni],zl8 b⟩ ?_
 simp[go_sem]
 refine pC (ym1 ⟨k,n,s⟩) ?_
 simp[go_sem]
 refine zR (fun h=> ?_) (fun h=> ?_)
 .simp[go_sem]
  refine zp7 ?_
  have h:mayF ⟨k,n,s⟩=false:=by simpa using h
  simp[keyF,h,zN]
 have h:mayF ⟨k,n,s⟩=true:=by simpa using h
 have hs:s.length<=500:=by
   have:s.length<=64:=yG4 h
   omega
 have hk:=yd9 h
 simp only at hk
 simp[go_sem,zQ]
 refine zG ⟨by unfold maxB at*;omega,zX rfl⟩ ?_
 have w0:IntKind.u8.wrap 0=0:=by decide+kernel
 have w1:IntKind.u8.wrap 1=1:=by decide+kernel
 have w2:IntKind.u8.wrap 2=2:=by decide+kernel
 have w3:IntKind.u8.wrap 3=3:=by decide+kernel
 rcases hk with rfl|rfl|rfl|rfl
 .simp[go_sem]
  refine zp7 ?_
  simp[keyF,h,zN,w0]
 .have h1:n=0∨n=1:=by
   unfold mayF at h
   simp at h
   exact h.1
  simp[go_sem]
  refine zG ⟨zQ b,by rw[zQ];unfold maxB at*;omega,zX rfl⟩ ?_
  simp[go_sem]
  refine zp7 ?_
  rcases h1 with rfl|rfl<;>simp[keyF,h,zN,w0,w1]
 .simp[go_sem]
  obtain⟨u,hu⟩:=eX ((n+9223372036854775808).toNat)
  have hO:=xC9 n hn
  rw[hu]at hO
  refine pC hO ?_
  simp[go_sem]
  refine zM (xW1 (b++ [2]) u (by simp;unfold maxB at*;omega) om) cB ⟨zm3 (by simp[zN,w2]),zC rfl,zC rfl,tV⟩ rfl ?_
  simp[go_sem]
  refine zp7 ?_
  simp[keyF,h,hu]
 .simp[go_sem]
  refine zI (S:=Nat) [3,5,44,45] (fun i=> [.ptr 0 0,.sl (.app 1) (zN (b++3::esc (s.take i))),.int .i64 s.length,.int .i64 i]) (fun i=> [.box [.int .i64 3,.int .i64 n,.str s],.app (b++3::esc (s.take i)).length 1]) (fun i=>s.length - i) (fun i=>i<=s.length) hc hb 0 (A7 _) ?_ ?_
  .exact at_n 2 (by simp[esc]) rfl rfl (A7 _) (zF (by simp[go_sem,esc,zN,w3]) rfl)
  intro i hi
  have ae:=yt5 (s.take i)
  have af:(s.take i).length<=s.length:=by simp;omega
  obtain⟨o,ho⟩: ∃o,b++3::esc (s.take i)=o:=⟨_,rfl⟩
  have ag:o.length<=maxB+1100:=by
   rw[<-ho]
   simp
   unfold maxB at*
   omega
  rw[ho]
  refine zA ?_
  simp[go_sem]
  refine zR (fun q=> ?_) (fun q=> ?_)
  .have q:i<s.length:=by simpa using q
   have ei:=zS q om
   have aa:=xq6 q
   obtain⟨c0,ab⟩:=eX (s[i])
   simp[go_sem,q,ab,zQ]
   refine zG ⟨by unfold maxB at*;omega,zX rfl⟩ ?_
   simp[go_sem,q,ab]
   refine zR (fun q2=> ?_) (fun q2=> ?_)
   .have q2:c0=0:=by
     have:c0.toNat=0:=by simp at q2;omega
     exact Dy.1 (by simpa using this)
    rw[ab,if_pos q2]at aa
    simp[go_sem,zQ]
    refine zG ⟨by unfold maxB at*;omega,zX rfl⟩ ?_
    simp[go_sem,ei]
    exact zH (i+1) ⟨om,q,at_n 2 (by simp[aa,<-ho];omega) rfl rfl (A7 _) (zF (by simp[go_sem,aa,<-ho,zN,q2]) rfl)⟩
   .have q2: ¬c0=0:=fun h=>by rw[h]at q2;simp at q2
    rw[ab,if_neg q2]at aa
    simp[go_sem,ei]
    exact zH (i+1) ⟨om,q,at_n 2 (by simp[aa,<-ho];omega) rfl rfl (A7 _) (zF (by simp[go_sem,aa,<-ho,zN]) rfl)⟩
  .have q:i=s.length:=by
    have: ¬i<s.length:=by simpa using q
    omega
   subst q
   simp[go_sem,zQ]
   refine zG ⟨by unfold maxB at*;omega,xK7 rfl rfl⟩ ?_
   simp[go_sem]
   refine zp7 ?_
   rw[Dv]at ho
   simp[keyF,h,zN,<-ho]
def yW1 (a b:GValue):Int:=
 if a.kind≠b.kind then(if a.kind<b.kind then -1 else 1)else if a.n≠b.n then(if a.n<b.n then -1 else 1)else if a.s≠b.s then(if Op.bytesLess a.s b.s then -1 else 1)else 0
def isF (n:Nat) (t:Int):Bool:=decide (0<=t)&&decide (t<n)
theorem yv7 {t:Int} (h:isF n t=true): ∃j:Nat,t=j/\j<n:=by
 simp[isF]at h
 exact⟨t.toNat,om,om⟩
def wY (n:Nat) (t:Int) (v:GValue):List UInt8:=if isF n t=true then UInt8.ofNat (t.toNat+1)::keyF v else []
def allF (n:Nat) (t:Int):List UInt8×List UInt8:=if isF n t=true then([UInt8.ofNat (t.toNat+1)],[UInt8.ofNat (t.toNat+2)])else([],[])
theorem yA4 (aa tabs:List (List V)) (t:Int) (v:GValue) (hn:tabs.length<=maxB) (hv:v.ok):Pure prog 107 [.agg [.sl .ro aa,.sl .ro tabs],.int .i64 t,.agg v.row] (.str (wY tabs.length t v)):=by
 have ab:=is_w aa tabs t
 rw[show(decide (0<=t)&&decide (t<tabs.length))=isF tabs.length t from rfl]at ab
 refine iW 0 func107 ntmps107 results107 fun c hc hb=>zJ ?_
 simp[go_sem]
 refine pC ab ?_
 unfold wY
 refine(Ab (isF tabs.length t)).elim (fun h=> ?_) (fun h=> ?_)
 .obtain⟨j,rfl,hj⟩:=yv7 h
  rw[h,if_pos rfl]
  have e1:IntKind.u8.wrap (IntKind.i64.wrap ((j:Int)+1))=((UInt8.ofNat (j+1)).toNat:Int):=by
   rw[i64_id om (by unfold maxB at hn;omega),show(j:Int)+1=((j+1:Nat):Int) by omega,zU8]
  simp[go_sem,e1]
  refine zM (xO9 [UInt8.ofNat (j+1)] v hv (by simp[maxB])) cB ⟨zm3 (by simp[zN]),zC rfl,tV⟩ rfl ?_
  simp[go_sem,bys]
  refine zG (wT _) ?_
  simp[go_sem,zj6]
  exact wR
 .rw[h]
  simp[go_sem]
  exact wR
theorem xC5 (aa tabs:List (List V)) (t:Int) (v:GValue) (hn:tabs.length<=maxB) (hv:v.ok) (_hs:v.s.length<=500):Pure prog 107 [.agg [.sl .ro aa,.sl .ro tabs],.int .i64 t,.agg v.row] (.str (wY tabs.length t v)):=yA4 aa tabs t v hn hv
theorem xV8 (aa tabs:List (List V)) (t:Int) (hn:tabs.length<=maxB):Pure prog 108 [.agg [.sl .ro aa,.sl .ro tabs],.int .i64 t] (.tup [.str (allF tabs.length t).1,.str (allF tabs.length t).2]):=by
 have ab:=is_w aa tabs t
 rw[show(decide (0<=t)&&decide (t<tabs.length))=isF tabs.length t from rfl]at ab
 refine iW 0 func108 ntmps108 results108 fun c hc hb=>zJ ?_
 simp[go_sem]
 refine pC ab ?_
 unfold allF
 refine(Ab (isF tabs.length t)).elim (fun h=> ?_) (fun h=> ?_)
 .obtain⟨j,rfl,hj⟩:=yv7 h
  rw[h,if_pos rfl]
  obtain⟨x,hx⟩:=eX (UInt8.ofNat (j+1))
  obtain⟨y,hy⟩:=eX (UInt8.ofNat (j+2))
  have e1:IntKind.u8.wrap (IntKind.i64.wrap ((j:Int)+1))=(x.toNat:Int):=by
   rw[i64_id om (by unfold maxB at hn;omega),show(j:Int)+1=((j+1:Nat):Int) by omega,zU8,hx]
  have e2:IntKind.u8.wrap (IntKind.i64.wrap ((j:Int)+2))=(y.toNat:Int):=by
   rw[i64_id om (by unfold maxB at hn;omega),show(j:Int)+2=((j+2:Nat):Int) by omega,zU8,hy]
  simp only[B6]
  simp[go_sem]
  refine yV [] 1 rfl kR kR ?_
  simp[go_sem,e1]
  refine zG (wT [x]) ?_
  have r1:zq0 [V.int IntKind.u8 x.toNat]=x:=by simp[zq0]
  have r2:zq0 [V.int IntKind.u8 y.toNat]=y:=by simp[zq0]
  simp[go_sem,e2,r1]
  refine zG (wT [y]) ?_
  simp[go_sem,r2]
  exact wW (zC rfl) ⟨by rw[<-hx,<-hy];simp,rfl⟩
 .rw[h]
  simp[go_sem]
  exact wR
end Go.Proofs.YtefbicjgbaaieaaGreat.R
namespace Go.Proofs.YtefbicjgbaaieaaGreat
open Go Go.Vx R Go.Proofs.Tryz
set_option maxRecDepth 100000
theorem xt7 (v:GValue):(keyF v).length<=140:=by
 by_cases h:mayF v=true
 .have h1:=xt8 (v:=v)
  have h2:=yG4 h
  omega
 .unfold keyF;rw[if_neg h];simp
def maxS (x y:List UInt8):List UInt8:=if Op.bytesLess x y=true then y else x
def minS (x y:List UInt8):List UInt8:=if Op.bytesLess x y=true∨x=y then x else y
def cutF (at_:List UInt8) (sign:List UInt8) (b:List UInt8×List UInt8):List UInt8×List UInt8:=
 if sign= [61]then(maxS b.1 at_,minS b.2 (at_++ [0]))
 else if sign= [60]then(b.1,minS b.2 at_)
 else if sign= [60,61]then(b.1,minS b.2 (at_++ [0]))
 else if sign= [62]then(maxS b.1 (at_++ [0]),b.2)
 else if sign= [62,61]then(maxS b.1 at_,b.2)
 else b
def zV8 (n:Nat) (t:Int) (name:List UInt8) (l:List GExpr) (b:List UInt8×List UInt8):List UInt8×List UInt8:=
 l.foldl (fun b e=>match ze0 e name with|none=>b|some (s,v)=>cutF (wY n t v) s b) b
def zP4 (T:GTable):Option (List UInt8):=if 0<=T.key then(T.cols[T.key.toNat]?).map (·.name)else none
def zl2 (ts:List GTable) (t:Int) (st:GStmt):List UInt8×List UInt8:=
 if isF ts.length t=true then
  match (ts[t.toNat]?).bind zP4 with
  |none=>allF ts.length t
  |some name=>let b:=zV8 ts.length t name (zs7 st) (allF ts.length t);(b.1,maxS b.2 b.1)
 else allF ts.length t
def xw7 (b:List UInt8×List UInt8):V:= .tup [.str b.1,.str b.2]
theorem yW2 (o:Option (List UInt8×GValue)):noS (cutV o)=true:=by
 obtain _|⟨s,v⟩:=o<;>rfl
theorem xl8 (aa:List (List V)) (ts:List GTable) (t:Int) (st:GStmt) (hn:ts.length<=maxB) (_hc0: ∀T∈ts,T.cols.length<=maxLen) (hl:(zs7 st).length<=maxLen)
  (hv: ∀e∈zs7 st,∀name s v,ze0 e name=some (s,v)->v.ok):
  Pure prog 60 [.agg [.sl .ro aa,.sl .ro (ts.map GTable.row)],.int .i64 t,.agg st.row] (xw7 (zl2 ts t st)):=by
 generalize hM:zl2 ts t st=M
 have ret: ∀(r:List UInt8×List UInt8) (σ:St),r=M->wret (some (.tup [.str r.1,.str r.2])) 0 (fun r s=>r=xw7 M/\s= []) σ:=fun r σ h=>by subst h;exact wR
 have ab:=xV8 aa (ts.map GTable.row) t (by simpa using hn)
 have ag:=zV7 st
 simp only[Aw]at ab
 unfold zl2 at hM
 generalize hA:allF ts.length t=A at ab hM
 generalize hL:zs7 st=L at ag hM hl hv
 refine iV 0 func60 ntmps60 results60 fun c hc hb=> ?_
 refine zA ?_
 simp[go_sem]
 refine pC ab ?_
 simp[go_sem]
 refine(Ab (isF ts.length t)).elim (fun h=> ?_) (fun h=> ?_)
 rotate_left
 .simp only[h]at hM
  have h2:decide (t<0)=true∨(decide (t<0)=false/\decide ((ts.length:Int)<=t)=true):=by
   unfold isF at h
   simp only[Bool.and_eq_false_iff,decide_eq_false_iff_not]at h
   simp only[decide_eq_true_eq,decide_eq_false_iff_not]
   omega
  refine h2.elim (fun q=> ?_) (fun q=> ?_)
  all_goals simp[go_sem,q]
  all_goals exact ret _ _ hM
 obtain⟨j,rfl,hj⟩:=yv7 h
 obtain⟨T,hT⟩:=eX (ts[j])
 have ax:decide ((ts.length:Int)<=j)=false:=decide_eq_false om
 have ah:decide ((j:Int)<0)=false:=decide_eq_false om
 simp only[h,if_true,B6,A4 hj,hT,Ax]at hM
 have ai:decide (ts.length<=j)=false:=decide_eq_false om
 simp[go_sem,ah,ai,hj,hT]
 by_cases hk:0<=T.key/\T.key<T.cols.length
 rotate_left
 .have ad:zP4 T=none:=by
   unfold zP4
   split
   .rw[Bg om];rfl
   .rfl
  rw[ad]at hM
  have h2:decide (T.key<0)=true∨(decide (T.key<0)=false/\decide ((T.cols.length:Int)<=T.key)=true):=by
   simp only[decide_eq_true_eq,decide_eq_false_iff_not]
   omega
  refine h2.elim (fun q=> ?_) (fun q=> ?_)
  all_goals simp[go_sem,q]
  all_goals exact ret _ _ hM
 obtain⟨m,hm⟩: ∃m:Nat,T.key=m:=⟨T.key.toNat,om⟩
 have ae:m<T.cols.length:=om
 obtain⟨C,hC⟩:=eX (T.cols[m])
 have ad:zP4 T=some C.name:=by
  unfold zP4
  rw[if_pos om,hm,B6,A4 ae,hC];rfl
 simp only[ad]at hM
 have aj:decide (T.key<0)=false:=decide_eq_false om
 have ak:decide ((T.cols.length:Int)<=T.key)=false:=decide_eq_false om
 simp[go_sem,aj,ak]
 refine zM ag cB (zO sg rfl) rfl ?_
 simp[go_sem]
 refine zI (S:=Nat×List UInt8×List UInt8) [1,3,6,7,8,52,53,54] (fun u=> [.int .i64 j,.ptr 0 0,.str u.2.1,.str u.2.2,.ptr 1 0,.sl .ro (L.map GExpr.row),.int .i64 L.length,.int .i64 u.1])
  (fun _=> [.box [.sl .ro aa,.sl .ro (ts.map GTable.row)],.box T.row]) (fun u=>L.length - u.1)
  (fun u=>u.1<=L.length/\zV8 ts.length j C.name (L.drop u.1) u.2=zV8 ts.length j C.name L A) hc hb (0,A) ⟨A7 _,rfl⟩ ?_ ?_
 .exact zJ1 [0,2] dc rfl ⟨by simp[go_sem,yJ,renC,renK],by simp[go_sem,yJ,renC,renK],tV⟩
   ⟨zC rfl,.inl (by simp[go_sem,renS,renA,renC,renK,ren]),zC rfl,zC rfl,.inl (by simp[go_sem,renS,renA,renC,renK,ren]),zL,zC rfl,zC rfl,tV⟩
 rintro⟨i,b⟩ ⟨hi,hinv⟩
 simp only at hi hinv
 by_cases q:i<L.length
 rotate_left
 .rw[Ad om]at hinv
  have al:b=zV8 ts.length j C.name L A:=hinv
  rw[<-al]at hM
  refine zA ?_
  simp[go_sem,q]
  exact ret (b.1,maxS b.2 b.1) _ hM
 have ei:=zS q (by unfold maxLen at hl;omega)
 obtain⟨x,hx⟩:=eX (L[i])
 have an:x∈L:=hx▸Ac q
 rw[Aa q,hx]at hinv
 have ao:=ym3 x C.name
 have aq:=hv x an C.name
 have aw:=GExpr.row_eq x
 refine zA ?_
 simp[go_sem,q,hx]
 refine yV [(8,0),(15,3)] 3 sm kR kR ?_
 have ar:T.cols[m]? =some C:=by rw[A4 ae,hC]
 simp[go_sem,hm,ar]
 refine zG ae ?_
 simp[go_sem]
 refine zi1 ao cB (fun _=>zO sg (by rw[GExpr.row_eq];rfl)) (yW2 _) ?_
 cases ha:ze0 x C.name with
 |none=>
  simp only[zV8,Bi,ha]at hinv
  simp[go_sem,cutV,yZ7,ei]
  refine zH (i+1,b) ⟨by simp only;omega,⟨by simp only;omega,hinv⟩, ?_⟩
  exact at_n 2 (by simp[go_sem,hm]) rfl (by rfl) (A7 _) (zF sg rfl)
 |some p=>
  obtain⟨s,v⟩:=p
  have au:=aq s v ha
  have af:=yA4 aa (ts.map GTable.row) j v (by simpa using hn) au
  simp only[Aw]at af
  simp only[zV8,Bi,ha]at hinv
  obtain⟨B,hB⟩:=eX (wY ts.length j v)
  have av:B.length<=9223372036854775806:=by
   have:=xt7 v
   rw[<-hB];unfold wY;rw[if_pos h];simp only[Al];omega
  rw[hB]at af
  simp[go_sem,cutV]
  refine zM af cB (zO sg rfl) rfl ?_
  simp[go_sem]
  refine zG av ?_
  simp[go_sem]
  have fin: ∀b',cutF B s b=b'->zV8 ts.length j C.name (L.drop (i+1)) b'=zV8 ts.length j C.name L A:=fun b' h=>by rw[<-h,<-hB];exact hinv
  repeat' (first|(refine zR (fun q=> ?_) (fun q=> ?_)<;>simp[go_sem,q,ei]))
  all_goals simp only[beq_iff_eq,beq_eq_false_iff_ne]at*
  all_goals refine zH (i+1,cutF B s b) ⟨by simp only;omega,⟨by simp only;omega,fin _ rfl⟩, ?_⟩
  all_goals refine at_n 2 (by simp[go_sem,hm]) rfl (by rfl) (A7 _) (zF ?_ rfl)
  all_goals unfold cutF maxS minS
  all_goals simp[go_sem, *]
theorem zk3:(Tryz.prog.funcs.all fun fn=> !(fn.name== "runtime.NumGoroutine"))=true:=kR
theorem zg2:Tryz.prog.follows .mixedOrders=true:=kR
def marks (f:Nat):List Nat:=if f=185 then [7]else []
def xC3:GZone:=⟨[1],[],[0,1],0,0,0⟩
def tabT:GTable:=⟨[84],[⟨[82],2,false⟩,⟨[75],2,false⟩,⟨[86],3,true⟩,⟨[78],2,true⟩],1,0,0,xC3⟩
def tabG:GTable:=⟨[71],[⟨[75],3,false⟩,⟨[78],2,false⟩,⟨[66],1,true⟩],0,1,0,xC3⟩
def tabH:GTable:=⟨[72],[⟨[66],1,false⟩,⟨[78],2,true⟩],0,2,1,xC3⟩
def tabsS:List GTable:= [tabT,tabG,tabH]
def xX:List (List V):= [[.int .i64 0],[.int .i64 0],[.int .i64 1],[.int .i64 1]]
def schS:V:= .agg [.sl .full xX,.sl .full (tabsS.map GTable.row)]
def schR (ts:List GTable):V:= .agg [.sl .ro xX,.sl .ro (ts.map GTable.row)]
theorem xm4:Pure prog 39 [] schS:=zn8 zk3 zg2 marks 10000 kR
theorem xy2 {ρ:Nat->Nat}:argS ρ (schR tabsS) schS:=zu7 ⟨yS,yS,tV⟩
def za3 (t r:Int):Int×Int:=if t=0 then(if r=0 then(0,0)else if r=1 then(1,0)else(0,19))else if t=1 then(2,0)else if t=2 then(3,0)else(0,1)
def yx4 (p:Int×Int):V:= .tup [.int .i64 p.1,.int .i64 p.2]
theorem yA6 (t r:Int) (h:t=0∨t=1∨t=2) (hr:r= -1∨r=0∨r=1∨r=2∨r=3∨r=4):Pure prog 62 [schR tabsS,.int .i64 t,.int .i64 r] (yx4 (za3 t r)):=by
 rcases h with rfl|rfl|rfl<;>rcases hr with rfl|rfl|rfl|rfl|rfl|rfl<;>exact zn8 zk3 zg2 marks 10000 kR
theorem xd5 (j:Nat) (hj:j<3):Pure prog 62 [schR (tabsS.take (j+1)),.int .i64 j,.int .i64 0] (yx4 (za3 j 0)):=by
 match j,hj with
 |0,_=>exact zn8 zk3 zg2 marks 10000 kR
 |1,_=>exact zn8 zk3 zg2 marks 10000 kR
 |2,_=>exact zn8 zk3 zg2 marks 10000 kR
def ofS (r:Int):Int×Int×Int:=if r=0 then(0,0,0)else if r=1 then(0,1,0)else if r=2 then(1,-1,0)else if r=3 then(2,1,0)else(0,0,1)
def ofV (p:Int×Int×Int):V:= .tup [.int .i64 p.1,.int .i64 p.2.1,.int .i64 p.2.2]
theorem xG8:Pure prog 111 [schR tabsS] (.int .i64 0):=zn8 zk3 zg2 marks 10000 kR
theorem xj7:Pure prog 116 [schR tabsS] (.sl .ro [[.int .i64 0],[.int .i64 1]]):=
 VCalls.frz (xe4 zk3 zg2 marks 10000 (v:= .lsv 1 1 4 0 2) (σ':= [.box [.sl .ro xX,.sl .ro (tabsS.map GTable.row)],.lst [[.int .i64 0],[.int .i64 1],[.int .i64 0],[.int .i64 0]] 1]) kR)
  (fun r s ⟨h1,h2⟩=>by subst h1;subst h2;exact⟨_,_,.step 1 1 [[.int .i64 0],[.int .i64 1],[.int .i64 0],[.int .i64 0]] rfl rfl (.refl _ _),zL⟩)
def yZ0 (t:Nat):Int:=if t=0 then 2 else 1
theorem yP9 (j:Nat) (hj:j<3):Pure prog 145 [schR tabsS,.agg (tabsS[j]'hj).row] (.int .i64 (yZ0 j)):=by
 match j,hj with
 |0,_=>exact zn8 zk3 zg2 marks 10000 kR
 |1,_=>exact zn8 zk3 zg2 marks 10000 kR
 |2,_=>exact zn8 zk3 zg2 marks 10000 kR
theorem yw8 {M:Int×Int×Int} {a b e:Int} {σ:St} (h:(a,b,e)=M):wret (some (.tup [.int .i64 a,.int .i64 b,.int .i64 e])) 0 (fun r s=>r=ofV M/\s= []) σ:=by subst h;exact wR
theorem Of_w (g:Nat) (hg:g<1000):Pure prog 86 [schR tabsS,.int .i64 g] (ofV (ofS g)):=by
 have ab:=yP9 0 dc
 have ad:=yP9 1 dc
 have ae:=yP9 2 dc
 have hr:=xj7
 generalize hM:ofS g=M
 refine iV 0 func86 ntmps86 results86 fun c hc hb=> ?_
 refine zA ?_
 simp[go_sem,schR]
 have h0:decide ((g:Int)<0)=false:=decide_eq_false om
 simp[go_sem,h0]
 refine zI (S:=Nat×Nat) [1,2,13,14,15] (fun u=> [.int .i64 u.2,.ptr 0 0,.sl .ro (tabsS.map GTable.row),.int .i64 3,.int .i64 u.1]) (fun _=> [.box [.sl .ro xX,.sl .ro (tabsS.map GTable.row)]]) (fun u=>3 - u.1)
  (fun u=>(u.1=0/\u.2=g)∨(u.1=1/\u.2+2=g)∨(u.1=2/\u.2+3=g)∨(u.1=3/\u.2+4=g)) hc hb (0,g) (.inl ⟨rfl,rfl⟩) ?_ ?_
 .exact aM 1 (by rfl) (zF (by simp[go_sem];rfl) rfl)
 rintro⟨i,r⟩ h
 simp only at h
 refine h.elim (fun⟨h1,h2⟩=> ?_) fun h=>h.elim (fun⟨h1,h2⟩=> ?_) fun h=>h.elim (fun⟨h1,h2⟩=> ?_) fun⟨h1,h2⟩=> ?_
 .subst h1
  refine zA ?_
  simp[go_sem,tabsS]
  refine zM ab cB (zO (by simp[go_sem,schR,tabsS]) rfl) rfl ?_
  simp[go_sem,yZ0]
  by_cases q:2<=r
  .have q':decide ((2:Int)<=r)=true:=decide_eq_true om
   have e:IntKind.i64.wrap ((r:Int) - 2)=((r - 2:Nat):Int):=by rw[i64_id om om];omega
   simp[go_sem,q',e]
   exact zH (1,r - 2) ⟨by simp only;omega,.inr (.inl ⟨rfl,by simp only;omega⟩),aN 1 (by rfl)⟩
  .have q':decide ((2:Int)<=r)=false:=decide_eq_false om
   simp[go_sem,q',show tabT.place=0 from rfl]
   refine yV [(2,0)] 2 sm kR kR ?_
   simp[go_sem]
   refine zi1 hr cB (fun _=>zO (by simp[go_sem,schR,tabsS,show tabT.place=0 from rfl]) rfl) rfl ?_
   have aa:r=0∨r=1:=om
   refine aa.elim (fun e=> ?_) (fun e=> ?_)
   all_goals subst e
   all_goals simp[go_sem]
   all_goals exact yw8 (by rw[<-hM,<-h2];rfl)
 .subst h1
  refine zA ?_
  simp[go_sem,tabsS]
  refine zM ad cB (zO (by simp[go_sem,schR,tabsS]) rfl) rfl ?_
  simp[go_sem,yZ0]
  by_cases q:1<=r
  .have q':decide ((1:Int)<=r)=true:=decide_eq_true om
   have e:IntKind.i64.wrap ((r:Int) - 1)=((r - 1:Nat):Int):=by rw[i64_id om om];omega
   simp[go_sem,q',e]
   exact zH (2,r - 1) ⟨by simp only;omega,.inr (.inr (.inl ⟨rfl,by simp only;omega⟩)),aN 1 (by rfl)⟩
  .have q':decide ((1:Int)<=r)=false:=decide_eq_false om
   simp[go_sem,q',show tabG.place=1 from rfl]
   have aa:r=0:=om
   subst aa
   exact yw8 (by rw[<-hM,<-h2];rfl)
 .subst h1
  refine zA ?_
  simp[go_sem,tabsS]
  refine zM ae cB (zO (by simp[go_sem,schR,tabsS]) rfl) rfl ?_
  simp[go_sem,yZ0]
  by_cases q:1<=r
  .have q':decide ((1:Int)<=r)=true:=decide_eq_true om
   have e:IntKind.i64.wrap ((r:Int) - 1)=((r - 1:Nat):Int):=by rw[i64_id om om];omega
   simp[go_sem,q',e]
   exact zH (3,r - 1) ⟨by simp only;omega,.inr (.inr (.inr ⟨rfl,by simp only;omega⟩)),aN 1 (by rfl)⟩
  .have q':decide ((1:Int)<=r)=false:=decide_eq_false om
   have aa:r=0:=om
   subst aa
   simp[go_sem,show tabH.place=2 from rfl]
   refine yV [] 2 sm kR kR ?_
   simp[go_sem]
   exact yw8 (by rw[<-hM,<-h2];rfl)
 .subst h1
  refine zA ?_
  simp[go_sem,tabsS]
  exact yw8 (by rw[<-hM,<-h2];unfold ofS;rw[if_neg om,if_neg om,if_neg om,if_neg om])
theorem xU2 (v:GValue) (l:List Int):([.box v.row,.lst (l.map yK) 1]:St).all (ltOb 2)=true:=by simp[ltOb,ltC,ltK,yK,GValue.row]
theorem xM8 (v:GValue) (r:Int):VCalls prog 113 [.int .i64 r,.ptr 0 0] [.box v.row] (fun x s=>x= .bool (r !=v.n)/\s= [.box v.row]):=by
 refine iW 1 func113 ntmps113 results113 fun c hc hb=>zJ ?_
 simp[go_sem]
 exact xF 1 sg rfl rfl (A6 _) (zC rfl) ⟨rfl,rfl⟩
def idxF (p:Int->Bool):List Int->Nat->Int
 | [],_=> -1
 |x::l,i=>if p x=true then i else idxF p l (i+1)
theorem xX3 (v:GValue) (xs:List Int) (m:Nat) (hm:m<=xs.length) (hl:xs.length<=1000):
  VCalls prog 182 [.lsv 1 1 xs.length 0 m,.fn 113 [.ptr 0 0]] [.box v.row,.lst (xs.map yK) 1]
   (fun r s=>r= .int .i64 (idxF (fun x=>x !=v.n) (xs.take m) 0)/\s= [.box v.row,.lst (xs.map yK) 1]):=by
 generalize hM:idxF (fun x=>x !=v.n) (xs.take m) 0=M
 have ret: ∀(r:Int) (σ:St),r=M->σ.take 2= [.box v.row,.lst (xs.map yK) 1]->wret (some (.int .i64 r)) 2 (fun r s=>r= .int .i64 M/\s= [.box v.row,.lst (xs.map yK) 1]) σ:=fun r σ h hs=>by subst h;exact xF 2 hs rfl (by simp[ltOb,ltC,ltK,yK,GValue.row]) (A6 _) (zC rfl) ⟨rfl,rfl⟩
 refine iV 2 func182 ntmps182 results182 fun c hc hb=> ?_
 refine zA ?_
 simp[go_sem]
 refine zI (S:=Nat) [0,1,7,8] (fun i=> [.lsv 1 1 xs.length 0 m,.fn 113 [.ptr 0 0],.int .i64 m,.int .i64 i]) (fun _=> [.box v.row,.lst (xs.map yK) 1]) (fun i=>m - i) (fun i=>i<=m/\idxF (fun x=>x !=v.n) ((xs.take m).drop i) i=M) hc hb 0 ⟨A7 _,hM⟩ ?_ ?_
 .exact aN 2 (by simp[ltOb,ltC,ltK,yK,GValue.row])
 rintro i ⟨hi,hinv⟩
 by_cases q:i<m
 rotate_left
 .rw[Ad (by simp;omega)]at hinv
  refine zA ?_
  simp[go_sem,q]
  exact ret _ _ hinv rfl
 have ei:=zS q om
 have aa:i<xs.length:=om
 obtain⟨x,hx⟩:=eX (xs[i])
 have ab:(xs.take m)[i]'(by simp;omega)=x:=by rw[List.getElem_take];exact hx
 rw[Aa (by simp;omega),ab,idxF]at hinv
 have hd:=xM8 v x
 obtain⟨b,ad⟩:=eX ((x !=v.n))
 rw[ad]at hd hinv
 refine zA ?_
 simp[go_sem,q,aa,hx]
 refine ze1 1 hd cB sg rfl rfl (zb8 rfl) (fun r s h=>by obtain⟨rfl,rfl⟩:=h;exact⟨rfl,rfl,rfl⟩) ?_
 rintro r s ⟨rfl,rfl⟩
 simp[go_sem]
 refine zR (fun w=> ?_) (fun w=> ?_)
 .rw[if_pos w]at hinv
  simp[go_sem]
  exact ret _ _ hinv rfl
 .rw[if_neg (by rw[w];decide)]at hinv
  simp[go_sem,ei]
  exact zH (i+1) ⟨om,⟨q,hinv⟩,aN 2 (by simp[ltOb,ltC,ltK,yK])⟩
def zj3 (n:Int) (l:List Int):List Int:=l.filter (· ==n)
theorem yo2 {n:Int}: ∀(l:List Int) (i:Nat),idxF (fun x=>x !=n) l i= -1->zj3 n l=l
 | [],_,_=>rfl
 |x::l,i,h=>by
  unfold idxF at h
  split at h
  .omega
  .rename_i q
   have:=yo2 l (i+1) h
   have hx:(x==n)=true:=by simpa using q
   unfold zj3 at this⊢
   rw[List.filter_cons_of_pos (by simpa using hx),this]
theorem yo3 {n:Int}: ∀(l:List Int) (i:Nat),idxF (fun x=>x !=n) l i≠ -1-> ∃k,idxF (fun x=>x !=n) l i=((i+k:Nat):Int)/\k<l.length/\zj3 n (l.take k)=l.take k/\(∀x,l[k]? =some x->x≠n)
 | [],i,h=>absurd rfl h
 |x::l,i,h=>by
  unfold idxF at h⊢
  split
  .rename_i q
   exact⟨0,sm,sm,rfl,fun y hy=>by simp at hy;subst hy;simpa using q⟩
  .rename_i q
   rw[if_neg q]at h
   obtain⟨k,h1,h2,h3,h4⟩:=yo3 l (i+1) h
   have hx:(x==n)=true:=by simpa using q
   refine⟨k+1,by rw[h1];congr 1;omega,by simp;omega, ?_,fun y hy=>h4 y (by simpa using hy)⟩
   unfold zj3 at h3⊢
   rw[C3,List.filter_cons_of_pos (by simpa using hx),h3]
theorem zM6 {n:Int} {xs:List Int} {j:Nat} {x:Int} (h:xs[j]? =some x):zj3 n (xs.take (j+1))=zj3 n (xs.take j)++(if x=n then [x]else []):=by
 unfold zj3
 rw[Dj,h,Ek]
 by_cases q:x=n
 .simp[q]
 .simp[q]
theorem xQ2 (v:GValue) (xs:List Int) (m:Nat) (hm:m<=xs.length) (hl:xs.length<=1000):
  VCalls prog 112 [.lsv 1 1 xs.length 0 m,.fn 113 [.ptr 0 0]] [.box v.row,.lst (xs.map yK) 1]
   (fun r s=> ∃ys:List Int,ys.length=xs.length/\(zj3 v.n (xs.take m)).length<=m/\ys.take (zj3 v.n (xs.take m)).length=zj3 v.n (xs.take m)/\r= .lsv 1 1 xs.length 0 (zj3 v.n (xs.take m)).length/\s= [.box v.row,.lst (ys.map yK) 1]):=by
 obtain⟨K,hK⟩:=eX (zj3 v.n (xs.take m))
 have an:K.length<=m:=by rw[<-hK];unfold zj3;exact B2 (Bl _ _) (by simp;omega)
 rw[hK]
 have ret: ∀(ys:List Int) (k:Nat) (σ:St),ys.length=xs.length->k=K.length->ys.take K.length=K->σ.take 2= [.box v.row,.lst (ys.map yK) 1]->
   wret (some (.lsv 1 1 xs.length 0 k)) 2 (fun r s=> ∃ys:List Int,ys.length=xs.length/\K.length<=m/\ys.take K.length=K/\r= .lsv 1 1 xs.length 0 K.length/\s= [.box v.row,.lst (ys.map yK) 1]) σ:=fun ys k σ h1 h2 h3 h4=>by
  subst h2
  exact xF 2 h4 rfl (by simp[ltOb,ltC,ltK,yK,GValue.row]) (A6 _) (zp6 rfl) ⟨ys,h1,an,h3,rfl,rfl⟩
 have ao:=xX3 v xs m hm hl
 refine iV 2 func112 ntmps112 results112 fun c hc hb=> ?_
 refine zA ?_
 simp[go_sem]
 refine ze1 2 ao cB sg rfl (by simp[ltOb,ltC,ltK,yK,GValue.row]) (zb8 rfl) (fun r s h=>by obtain⟨rfl,rfl⟩:=h;exact⟨rfl,by simp[ltOb,ltC,ltK,yK,GValue.row],rfl⟩) ?_
 rintro r s ⟨rfl,rfl⟩
 by_cases h0:idxF (fun x=>x !=v.n) (xs.take m) 0= -1
 .have ag:=yo2 _ _ h0
  rw[hK]at ag
  rw[h0]
  simp[go_sem]
  exact ret xs m _ rfl (by rw[ag];simp;omega) (by rw[ag];simp) (by rfl)
 obtain⟨k,h1,h2,h3,h4⟩:=yo3 _ _ h0
 rw[Af]at h1
 rw[h1]
 have aq:k<m:=by simp at h2;omega
 have ar:((k:Int)== -1)=false:=sm
 have ek:IntKind.i64.wrap ((k:Int)+1)=((k+1:Nat):Int):=by rw[i64_id om om];omega
 have au:zj3 v.n (xs.take (k+1))=xs.take k:=by
  have ai:k<xs.length:=om
  have h5:=h4 xs[k] (by rw[Ai,if_pos aq,A4 ai])
  rw[zM6 (A4 ai),if_neg h5,Bc]
  rw[Em,Dm om]at h3
  exact h3
 simp[go_sem,ar,ek]
 refine zI (S:=Nat×Nat×List Int) [0,1,5,6] (fun u=> [.lsv 1 1 xs.length 0 m,.fn 113 [.ptr 0 0],.int .i64 u.1,.int .i64 u.2.1]) (fun u=> [.box v.row,.lst (u.2.2.map yK) 1]) (fun u=>m - u.2.1)
  (fun u=>u.1<u.2.1/\u.2.1<=m/\u.2.2.length=xs.length/\u.2.2.take u.1=zj3 v.n (xs.take u.2.1)/\u.2.2.drop u.2.1=xs.drop u.2.1) hc hb (k,k+1,xs) ⟨by simp only;omega,by simp only;omega,rfl,au.symm,rfl⟩ ?_ ?_
 .exact aN 2 (by simp[ltOb,ltC,ltK,yK,GValue.row])
 rintro⟨i,j,ys⟩ ⟨av,aw,ad,aa,ab⟩
 simp only at av aw ad aa ab
 by_cases q:j<m
 rotate_left
 .have hj:j=m:=om
  subst hj
  rw[hK]at aa
  have aj:i=K.length:=by rw[<-aa];simp;omega
  have af:i<=j:=om
  refine zA ?_
  simp[go_sem]
  refine zG af ?_
  simp[go_sem,ad]
  refine zG om ?_
  simp[go_sem]
  refine zG (.inl af) ?_
  simp[go_sem]
  refine ret (ys.take i++List.replicate (j - i) 0++ys.drop (i+(j - i))) i _ (by simp;omega) aj (by rw[<-aj,C8,Cz (by simp;omega)];rw[Em,Nat.min_self,aa]) ?_
  simp[go_sem,yK]
 have ej:=zS q om
 have ax:j<ys.length:=om
 have ay:j<xs.length:=om
 obtain⟨x,hx⟩:=eX (ys[j])
 have az:ys[j]? =some x:=by rw[A4 ax,hx]
 have ak:xs[j]? =some x:=by
  have:=congrArg (fun l=>l[0]?) ab
  simp only[B4,Ch]at this
  rw[<-this,az]
 have ei:IntKind.i64.wrap ((i:Int)+1)=((i+1:Nat):Int):=by rw[i64_id om om];omega
 have hd:=xM8 v x
 obtain⟨b,ah⟩:=eX ((x !=v.n))
 rw[ah]at hd
 refine zA ?_
 simp[go_sem,q,ay,hx,ad]
 refine ze1 1 hd cB sg rfl rfl (zb8 rfl) (fun r s h=>by obtain⟨rfl,rfl⟩:=h;exact⟨rfl,rfl,rfl⟩) ?_
 rintro r s ⟨rfl,rfl⟩
 simp[go_sem]
 refine zR (fun w=> ?_) (fun w=> ?_)
 all_goals simp[go_sem,ej]
 .have q2:x=v.n:=by simpa using (show(x !=v.n)=false by rw[ah];simpa using w)
  have ae:=zM6 (n:=v.n) ak
  rw[if_pos q2]at ae
  refine zG om ?_
  have al:i<xs.length:=om
  obtain⟨y,a1⟩: ∃y,ys[i]? =some y:=⟨_,A4 om⟩
  simp[go_sem,ad,al,ei,ej]
  refine zH (i+1,j+1,ys.set i x) ⟨by simp only;omega,⟨by simp only;omega,by simp only;omega,by simp[ad], ?_, ?_⟩, ?_⟩
  .rw[ae,<-aa,Dj,Ar om,List.take_set_of_le (A6 i)]
   simp
  .simp only
   rw[List.drop_set,if_pos om]
   have:=congrArg (List.drop 1) ab
   simpa[List.drop_drop,Eb]using this
  .exact at_n 2 (by simp[go_sem,List.map_set,yK]) rfl (xU2 v _) (A6 _) (zF sg rfl)
 .have q2: ¬x=v.n:=by
   have:(x !=v.n)=true:=by rw[ah];simpa using w
   simpa using this
  have ae:=zM6 (n:=v.n) ak
  rw[if_neg q2,Bc]at ae
  refine zH (i,j+1,ys) ⟨by simp only;omega,⟨by simp only;omega,by simp only;omega,ad,by rw[ae];exact aa, ?_⟩, ?_⟩
  .have:=congrArg (List.drop 1) ab
   simpa[List.drop_drop,Eb]using this
  .exact aN 2 (by simp[ltOb,ltC,ltK,yK])
end Go.Proofs.YtefbicjgbaaieaaGreat
