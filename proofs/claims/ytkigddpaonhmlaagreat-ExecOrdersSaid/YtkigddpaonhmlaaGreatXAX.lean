/-
  Contracts of functions that the claimed statement reaches, each proved over trees (the library Vx); used by the theorem at the end of the claim.
  Conditions: as each theorem states them.
-/
import Derived.Test.YtkigddpaonhmlaaGreatXAW
set_option maxHeartbeats 8000000
namespace Go.Vx
open Go
theorem VCalls.loose {P:Program} {f:FuncId} {args:List V} {σ:St} {R R':V->St->Prop} (h:VCalls P f args σ R) (hR: ∀r s,R r s->VRet σ.length R' r s):VCalls P f args σ R':=by
 intro w L β vals hm ha
 refine(h w L β vals hm ha).mono ?_
 rintro e w' ⟨v,r,L',σ',β',he,hr,hl,hm',hrd⟩
 obtain⟨v1,σ1,pick,σ2,r2,hfz,hp,har,hR2⟩:=hR _ _ hr
 obtain⟨L2,β2,hmem,_,_,hrd2,_⟩:=hfz.ok hm' (xs:= [v]) ⟨hrd,trivial⟩
 refine⟨v,r2,L2,σ2,_,he,hR2, ?_,hmem.pick hp hm.len,zv9 (hp.bak hmem.len) har hrd2⟩
 rw[hp.len]
 rcases Cf pick.length σ.length with hlt|hge
 .have:=(A1.1 (hp.id pick.length hlt)).1
  omega
 .exact hge
end Go.Vx
namespace Go.Proofs.YtkigddpaonhmlaaGreat.R
open Go Go.Vx Go.Proofs.Tryz
set_option maxRecDepth 100000
theorem zR6 {f:FuncId} {args:List V} {l:List UInt8} (h:VCalls prog f args [] fun r s=>r=byA l/\s=stA l):Pure prog f args (bys l):=h.loose fun r s q=>by
 obtain⟨rfl,rfl⟩:=q
 have h:wret (some (byA l)) 0 (fun r s=>r=bys l/\s= []) (stA l):=zQ zX ⟨rfl,rfl⟩
 obtain⟨x,h1,h2⟩:=h
 cases h1
 exact h2
def mayF (v:GValue):Bool:=
 if v.kind=0 then decide (v.n=0)&&v.s.isEmpty else if v.kind=1 then(decide (v.n=0)||decide (v.n=1))&&v.s.isEmpty
 else if v.kind=2 then v.s.isEmpty else if v.kind=3 then decide (v.n=0)&&decide (v.s.length<=64)else false
theorem ym5 (v:GValue):Pure prog 108 [.agg v.row] (.bool (mayF v)):=by
 obtain⟨k,n,s⟩:=v
 refine iW 0 func108 ntmps108 results108 fun c hc hb=>zN ?_
 simp[go_sem]
 have yes: ∀(r b:Bool) (σ:St),r=b->wret (some (.bool r)) 0 (fun r s=>r= .bool b/\s= []) σ:=fun r b σ h=>by subst h;exact zQ (zC rfl) ⟨rfl,rfl⟩
 repeat' (first|(refine yZ (fun q=> ?_) (fun q=> ?_)<;>simp[go_sem,q])|(refine zT (fun q=> ?_) (fun q=> ?_)<;>simp[go_sem,q])|(refine yes _ _ _ ?_))
 all_goals simp_all[mayF]
 omega
def za8 (v:GValue):List UInt8:=
 if mayF v=true then
  UInt8.ofNat v.kind.toNat::(if v.kind=1 then [UInt8.ofNat v.n.toNat]else if v.kind=2 then varF (zigF v.n)else if v.kind=3 then varF v.s.length++v.s else [])
 else []
theorem zl3 {ρ:Nat->Nat} {g:Tag} {rows rows':List (List V)} (h:rows'=rows):argS ρ (.sl .ro rows') (.sl g rows):=by subst h;exact zX
theorem zo5 {b l:List UInt8} {g:Tag} {rows:List (List V)} {σ:St} (h:zP (b++l)=rows):wret (some (.sl g rows)) 0 (fun r s=>r=bys (b++l)/\s= []) σ:=by subst h;exact zQ zX ⟨rfl,rfl⟩
theorem xB7 (b:List UInt8) (v:GValue) (hv:v.ok) (hb0:b.length<=maxB - 1) (hs:v.s.length<=maxB):Pure prog 114 [bys b,.agg v.row] (bys (b++za8 v)):=by
 refine iW 0 func114 ntmps114 results114 fun c hc hb=>zN ?_
 obtain⟨k,n,s⟩:=v
 have hn:=hv.n
 simp only at hs hn
 simp[go_sem,bys,zU]
 refine zJ ⟨by unfold maxB at*;omega,by simp[uni],zk8 b⟩ ?_
 simp[go_sem]
 refine zD (ym5 ⟨k,n,s⟩) cB (zH rfl) rfl ?_
 simp[go_sem]
 refine zT (fun h=> ?_) (fun h=> ?_)
 .simp[go_sem]
  refine zo5 ?_
  have h:mayF ⟨k,n,s⟩=false:=by simpa using h
  simp[za8,h,zP]
 have h:mayF ⟨k,n,s⟩=true:=by simpa using h
 have hk:k=0∨k=1∨k=2∨k=3:=by
  unfold mayF at h
  simp only at h
  by_cases h0:k=0
  .exact .inl h0
  .by_cases h1:k=1
   .exact .inr (.inl h1)
   .by_cases h2:k=2
    .exact .inr (.inr (.inl h2))
    .by_cases h3:k=3
     .exact .inr (.inr (.inr h3))
     .simp[h0,h1,h2,h3]at h
 simp[go_sem,zU]
 refine zJ ⟨by unfold maxB at*;omega,yC rfl⟩ ?_
 have w0:IntKind.u8.wrap 0=0:=by decide+kernel
 have w1:IntKind.u8.wrap 1=1:=by decide+kernel
 have w2:IntKind.u8.wrap 2=2:=by decide+kernel
 have w3:IntKind.u8.wrap 3=3:=by decide+kernel
 rcases hk with rfl|rfl|rfl|rfl
 .simp[go_sem]
  refine zo5 ?_
  simp[za8,h,zP,w0]
 .have h1:n=0∨n=1:=by
   unfold mayF at h
   simp at h
   exact h.1
  simp[go_sem]
  refine zJ ⟨zU b,by rw[zU];unfold maxB at*;omega,yC rfl⟩ ?_
  simp[go_sem]
  refine zo5 ?_
  rcases h1 with rfl|rfl<;>simp[za8,h,zP,w0,w1]
 .simp[go_sem]
  refine zD (xU4 n hn) cB (zH rfl) rfl ?_
  simp[go_sem]
  refine zD (zR6 (xl1 (b++ [2]) (zigF n) (by simp;unfold maxB at*;omega) (yA2 hn))) cB ⟨zl3 (by simp[zP,w2]),zC rfl,trivial⟩ rfl ?_
  simp[go_sem]
  refine zo5 ?_
  simp[za8,h]
 .simp[go_sem]
  refine zD (zR6 (xN4 (b++ [3]) s (by simp;unfold maxB at*;omega) hs)) cB ⟨zl3 (by simp[zP,w3]),zC rfl,trivial⟩ rfl ?_
  simp[go_sem]
  refine zo5 ?_
  simp[za8,h]
end Go.Proofs.YtkigddpaonhmlaaGreat.R
namespace Go.Proofs.YtkigddpaonhmlaaGreat.R
open Go Go.Vx Go.Proofs.Tryz
set_option maxRecDepth 100000
structure LightR (row:List GValue):Prop where
 len:row.length<=20
 s: ∀v∈row,v.s.length<=500
 ok: ∀v∈row,v.ok
theorem yQ2 {v:GValue} (hn:i64R v.n) (h:v.s.length<=500):(za8 v).length<=520:=by
 unfold za8
 have h1:=zQ2 (yA2 hn)
 have h2:=zQ2 (v:=v.s.length) (by omega)
 (repeat' split)<;>simp<;>omega
theorem yh5: ∀{l:List GValue},(∀v∈l,v.s.length<=500)->(∀v∈l,v.ok)->(l.flatMap za8).length<=520*l.length
 | [],_,_=>by simp
 |v::l,h,ho=>by
  have h1:=yQ2 (ho v (by simp)).n (h v (by simp))
  have h2:=yh5 (l:=l) (fun x hx=>h x (by simp[hx])) (fun x hx=>ho x (by simp[hx]))
  simp only[Bl,Aw,Ah]
  omega
def zE3 (row:List GValue) (i:Nat):List UInt8:=varF row.length++(row.take i).flatMap za8
def yL (row:List GValue):List UInt8:=zE3 row row.length
theorem zR9 {row:List GValue} (h:LightR row) (i:Nat):(zE3 row i).length<=20000:=by
 have h1:=zQ2 (v:=row.length) (by have:=h.len;omega)
 have h2:=yh5 (l:=row.take i) (fun v hv=>h.s v (Bn hv)) (fun v hv=>h.ok v (Bn hv))
 have h3:=h.len
 have h4:(row.take i).length<=row.length:=by simp;exact Nat.min_le_right _ _
 unfold zE3
 rw[Aw]
 omega
theorem yN4 {row:List GValue} {i:Nat} (h:i<row.length):zE3 row (i+1)=zE3 row i++za8 row[i]:=by
 unfold zE3
 rw[Ci h,E4,C5]
 simp
theorem xk5 (row:List GValue) (h:LightR row):Pure prog 67 [.sl .ro (row.map GValue.row)] (.str (yL row)):=by
 refine iV 0 func67 ntmps67 results67 fun c hc hb=> ?_
 refine zA ?_
 have hl:=h.len
 have e1:IntKind.u64.wrap (row.length:Int)=(row.length:Int):=u64_id (by omega) (by omega)
 simp[go_sem,e1]
 refine zD (zR6 (xl1 [] row.length (by decide) (by omega))) cB ⟨zl3 rfl,zC rfl,trivial⟩ rfl ?_
 simp[go_sem]
 refine zL (S:=Nat) [3,10,11,12] (fun i=> [bys (zE3 row i),.sl .ro (row.map GValue.row),.int .i64 row.length,.int .i64 i]) (fun _=> []) (fun i=>row.length - i) (fun i=>i<=row.length) hc hb 0 (A3 _) ?_ ?_
 .exact at_0 rfl (zR (by simp[go_sem,zE3]) rfl)
 intro i hi
 refine zA ?_
 simp[go_sem]
 refine zT (fun q=> ?_) (fun q=> ?_)
 .have q:i<row.length:=by simpa using q
  obtain⟨v,hv⟩:=eX (row[i])
  have hm:v∈row:=hv▸A8 q
  simp[go_sem,q,hv]
  have h2:=zR9 h i
  have h3:=h.s v hm
  refine zD (xB7 (zE3 row i) v (h.ok v hm) (by unfold maxB;omega) (by unfold maxB;omega)) cB (zH rfl) rfl ?_
  simp[go_sem,zV q (by omega)]
  refine zI (i+1) ⟨by omega,q,at_0 rfl (zR (by simp[go_sem,yN4 q,hv]) rfl)⟩
 .have q:i=row.length:=by
   have: ¬i<row.length:=by simpa using q
   omega
  subst q
  simp[go_sem,bys]
  refine zJ (wQ _) ?_
  simp[go_sem,zi9]
  exact zQ (zC rfl) ⟨rfl,rfl⟩
def wP:List UInt8->Nat->Nat->Nat×Nat×Int
 | [],_,_=>(0,0,2)
 |c::rest,i,v=>if i=9/\1<c.toNat then(0,0,5)else if c.toNat<128 then(if c.toNat=0/\0<i then(0,0,9)else(v+c.toNat%128*128^i,i+1,0))else wP rest (i+1) (v+c.toNat%128*128^i)
def yr9 (r:Nat×Nat×Int):V:= .tup [.int .u64 r.1,.int .i64 r.2.1,.int .i64 r.2.2]
theorem yM5:((List.range 256).all fun m=>ze2 .andNot .u8 (m:Int) 128==((m%128:Nat):Int))=true:=by decide+kernel
theorem xj7 (c:UInt8):ze2 .andNot .u8 (c.toNat:Int) 128=((c.toNat%128:Nat):Int):=by
 have h:=Af.1 yM5 c.toNat (C7.2 c.toNat_lt)
 exact beq_iff_eq.1 h
theorem xS9 {m n:Nat} (hm:m<18446744073709551616) (hn:n<18446744073709551616) (ho:m|||n<18446744073709551616):ze2 .or .u64 (m:Int) (n:Int)=((m|||n:Nat):Int):=by
 show IntKind.u64.wrap ((BitVec.ofInt 64 (m:Int)|||BitVec.ofInt 64 (n:Int)).toNat:Int)=_
 rw[BitVec.ofInt_natCast,BitVec.ofInt_natCast,BitVec.toNat_or,BitVec.toNat_ofNat,BitVec.toNat_ofNat,Ch (by omega),Ch (by omega)]
 exact u64_id (by omega) (by omega)
theorem yZ5 (i:Nat):128^i=2^(7*i):=by rw[Nat.pow_mul]
theorem xR4 {v x i:Nat} (hv:v<128^i):v|||(x*128^i)=v+x*128^i:=by
 rw[yZ5]at*
 have:=Nat.shiftLeft_add_eq_or_of_lt hv x
 rw[Nat.shiftLeft_eq]at this
 rw[Nat.or_comm,<-this,E2]
theorem yw2 {v x i:Nat} (hv:v<128^i) (hx:x<128):v+x*128^i<128^(i+1):=by
 have:(x+1)*128^i<=128*128^i:=Ao _ (by omega)
 rw[Em]
 rw[An]at this
 omega
theorem yY3 {v x i:Nat} (hv:v<128^i) (hx:x<128) (h9:i<=8∨i=9/\x<=1):v+x*128^i<18446744073709551616/\x*128^i<18446744073709551616:=by
 rcases h9 with h|⟨rfl,h⟩
 .have h1:=yw2 hv hx
  have h2:128^(i+1)<=128^9:=Nat.pow_le_pow_right (by omega) (by omega)
  omega
 .have:x=0∨x=1:=by omega
  rcases this with rfl|rfl<;>omega
theorem zw0 {b:List UInt8} {i:Nat} (h:i<(zP b).length):(zP b)[i]= [.int .u8 (b[i]'(by rw[zU]at h;exact h)).toNat]:=by simp[zP]
theorem zR3 (b:List UInt8) (hb0:b.length<=maxB):Pure prog 59 [bys b] (yr9 (wP b 0 0)):=by
 refine iV 0 func59 ntmps59 results59 fun c hc hb=> ?_
 refine zA ?_
 simp[go_sem,bys,zU]
 refine zL (S:=Nat×Nat) [2,7,8,9] (fun u=> [.int .u64 u.2,bys b,.int .i64 b.length,.int .i64 u.1]) (fun _=> []) (fun u=>b.length - u.1) (fun u=>u.1<=b.length/\u.1<=9/\u.2<128^u.1/\wP (b.drop u.1) u.1 u.2=wP b 0 0) hc hb (0,0) ⟨A3 _,A3 _,by decide,rfl⟩ ?_ ?_
 .exact at_0 rfl (zR (by simp[go_sem,bys]) rfl)
 rintro⟨i,v⟩ ⟨hi,h9,hv,ht⟩
 simp only at hi h9 hv ht
 refine zA ?_
 simp[go_sem,bys]
 refine zT (fun q=> ?_) (fun q=> ?_)
 .have q:i<b.length:=by simpa using q
  obtain⟨c0,hc0⟩: ∃c,b[i]=c:=⟨_,rfl⟩
  rw[A6 q,hc0,wP]at ht
  have hc1:c0.toNat<256:=c0.toNat_lt
  have ei:IntKind.i64.wrap ((i:Int)+1)=((i+1:Nat):Int):=zV q (by unfold maxB at hb0;omega)
  have ret: ∀(r:Nat×Nat×Int) (σ:St),r=wP b 0 0->wret (some (yr9 r)) 0 (fun r s=>r=yr9 (wP b 0 0)/\s= []) σ:=fun r σ h=>by subst h;exact zQ (zC rfl) ⟨rfl,rfl⟩
  by_cases hA:i=9/\1<c0.toNat
  .rw[if_pos hA]at ht
   simp[go_sem,zU,q,zw0,hc0]
   have f1:((i:Int)==9)=true:=by simp;omega
   refine yZ (fun w=> ?_) (fun w=>absurd (f1.symm.trans w) (by decide))
   simp[go_sem,w]
   refine zT (fun w2=> ?_) (fun w2=>absurd w2 (by simp;omega))
   simp[go_sem]
   exact ret (0,0,5) _ ht
  rw[if_neg hA]at ht
  have h98:i<=8∨i=9/\c0.toNat%128<=1:=by
   by_cases h:i=9
   .exact .inr ⟨h,by
     have: ¬1<c0.toNat:=fun w=>hA ⟨h,w⟩
     omega⟩
   .exact .inl (by omega)
  have hx:c0.toNat%128<128:=D1 _ (by omega)
  have n12:=yY3 hv hx h98
  have fA:i=9-> ¬1<c0.toNat:=fun h w=>hA ⟨h,w⟩
  have a1:=xj7 c0
  have e1:IntKind.i64.wrap (7*(i:Int))=7*(i:Int):=i64_id (by omega) (by omega)
  have e2:IntKind.u64.wrap (7*(i:Int))=7*(i:Int):=u64_id (by omega) (by omega)
  have e3:IntKind.u64.wrap ((c0.toNat:Int)%128)=(c0.toNat:Int)%128:=u64_id (by omega) (by omega)
  obtain⟨x,hxe⟩: ∃x:Nat,x=c0.toNat%128*128^i:=⟨_,rfl⟩
  obtain⟨m,hme⟩: ∃m:Nat,m=v+x:=⟨_,rfl⟩
  have hm1:m<128^(i+1):=by rw[hme,hxe];exact yw2 hv hx
  have hor:v|||x=m:=by rw[hme,hxe];exact xR4 hv
  rw[<-hxe,<-hme]at ht n12
  have e4:IntKind.u64.wrap ((c0.toNat:Int)%128*2^min (7*(i:Int)).toNat 64)=(x:Int):=by
   have:min (7*(i:Int)).toNat 64=7*i:=by omega
   rw[this]
   have h3:(c0.toNat:Int)%128*2^(7*i)=(x:Int):=by rw[hxe,yZ5];simp
   rw[h3,u64_id (by omega) (by omega)]
  have e5:ze2 .or .u64 (v:Int) (x:Int)=(m:Int):=by rw[xS9 (by omega) (by omega) (by omega),hor]
  simp[go_sem,zU,q,zw0,hc0]
  refine yZ (fun w=> ?_) (fun w=> ?_)
  .have w9:i=9:=by simp at w;omega
   have w1:=fA w9
   simp[go_sem,w]
   refine zT (fun w2=>absurd w2 (by simp;omega)) (fun w2=> ?_)
   simp[go_sem,a1,e1,e2,e3,e4,e5]
   try (refine zJ (by omega) ?_;simp[go_sem,a1,e1,e2,e3,e4,e5])
   refine zT (fun w3=> ?_) (fun w3=> ?_)
   .have w4: ¬c0.toNat<128:=by have:=of_decide_eq_true w3;omega
    have i8:i+1<=9:=by omega
    rw[if_neg w4]at ht
    simp[go_sem,ei]
    exact zI (i+1,m) ⟨by simp only;omega,⟨q,i8,hm1,ht⟩,at_0 rfl (zR (by simp[go_sem,bys,ei]) rfl)⟩
   .have w4:c0.toNat<128:=by have:=of_decide_eq_false w3;omega
    rw[if_pos w4]at ht
    simp[go_sem]
    refine yZ (fun w5=> ?_) (fun w5=> ?_)
    .have w5':c0.toNat=0:=by simp at w5;omega
     simp[go_sem,w5]
     refine zT (fun w6=> ?_) (fun w6=> ?_)
     .have w6':0<i:=by simpa using w6
      rw[if_pos ⟨w5',w6'⟩]at ht
      simp[go_sem]
      exact ret (0,0,9) _ ht
     .have w6': ¬0<i:=by simpa using w6
      rw[if_neg (fun h=>w6' h.2)]at ht
      simp[go_sem,ei]
      exact ret (m,i+1,0) _ ht
    .have w5': ¬c0.toNat=0:=by simp at w5;omega
     rw[if_neg (fun h=>w5' h.1)]at ht
     simp[go_sem,w5,ei]
     exact ret (m,i+1,0) _ ht
  .have w9: ¬i=9:=by simp at w;omega
   simp[go_sem,w,a1,e1,e2,e3,e4,e5]
   try (refine zJ (by omega) ?_;simp[go_sem,a1,e1,e2,e3,e4,e5])
   refine zT (fun w3=> ?_) (fun w3=> ?_)
   .have w4: ¬c0.toNat<128:=by have:=of_decide_eq_true w3;omega
    have i8:i+1<=9:=by omega
    rw[if_neg w4]at ht
    simp[go_sem,ei]
    exact zI (i+1,m) ⟨by simp only;omega,⟨q,i8,hm1,ht⟩,at_0 rfl (zR (by simp[go_sem,bys,ei]) rfl)⟩
   .have w4:c0.toNat<128:=by have:=of_decide_eq_false w3;omega
    rw[if_pos w4]at ht
    simp[go_sem]
    refine yZ (fun w5=> ?_) (fun w5=> ?_)
    .have w5':c0.toNat=0:=by simp at w5;omega
     simp[go_sem,w5]
     refine zT (fun w6=> ?_) (fun w6=> ?_)
     .have w6':0<i:=by simpa using w6
      rw[if_pos ⟨w5',w6'⟩]at ht
      simp[go_sem]
      exact ret (0,0,9) _ ht
     .have w6': ¬0<i:=by simpa using w6
      rw[if_neg (fun h=>w6' h.2)]at ht
      simp[go_sem,ei]
      exact ret (m,i+1,0) _ ht
    .have w5': ¬c0.toNat=0:=by simp at w5;omega
     rw[if_neg (fun h=>w5' h.1)]at ht
     simp[go_sem,w5,ei]
     exact ret (m,i+1,0) _ ht
 .have q:i=b.length:=by
   have: ¬i<b.length:=by simpa using q
   omega
  subst q
  rw[Cu,wP]at ht
  simp[go_sem]
  rw[<-ht]
  exact zQ (zC rfl) ⟨rfl,rfl⟩
theorem zA4: ∀(l:List UInt8) (i v:Nat),(wP l i v).2.2=0->(wP l i v).2.1<=i+l.length
 | [],i,v,h=>by simp[wP]at h
 |c::rest,i,v,h=>by
  unfold wP at h⊢
  split
  .simp_all
  .rename_i h1
   rw[if_neg h1]at h
   split
   .rename_i h2
    rw[if_pos h2]at h
    split
    .rename_i h3
     rw[if_pos h3]at h
     simp at h
    .simp
   .rename_i h2
    rw[if_neg h2]at h
    have:=zA4 rest (i+1) _ h
    simp only[Ah]
    omega
def wF (b:List UInt8) (r:Nat×Nat×Int):List UInt8×Nat×Int:=
 if r.2.2≠0 then([],0,r.2.2)else if 1048576<r.1 then([],0,3)else if b.length - r.2.1<r.1 then([],0,2)else((b.take (r.2.1+r.1)).drop r.2.1,r.2.1+r.1,0)
def zc4 (b:List UInt8):List UInt8×Nat×Int:=wF b (wP b 0 0)
def yy6 (r:List UInt8×Nat×Int):V:= .tup [bys r.1,.int .i64 r.2.1,.int .i64 r.2.2]
theorem yy9 {r:List UInt8×Nat×Int} {g:Tag} {rows:List (List V)} {n:Nat} {e:Int} {σ:St} (h1:zP r.1=rows) (h2:r.2.1=n) (h3:r.2.2=e):
  wret (some (.tup [.sl g rows,.int .i64 n,.int .i64 e])) 0 (fun v s=>v=yy6 r/\s= []) σ:=by
 subst h1 h2 h3
 have h:argS (ren [] σ.length) (yy6 r) (.tup [.sl g (zP r.1),.int .i64 r.2.1,.int .i64 r.2.2]):=xT ⟨zr9,za6 rfl,za6 rfl,trivial⟩
 exact zQ h ⟨rfl,rfl⟩
theorem yM3 (b:List UInt8) (hb0:b.length<=maxB):Pure prog 107 [bys b] (yy6 (zc4 b)):=by
 have hle:=zA4 b 0 0
 have htv:=zR3 b hb0
 unfold zc4
 revert hle htv
 generalize wP b 0 0=r
 obtain⟨n,k,e⟩:=r
 intro hle htv
 simp only at hle
 refine iW 0 func107 ntmps107 results107 fun c hc hb=>zN ?_
 simp[go_sem]
 refine zD htv cB (zH rfl) rfl ?_
 simp[go_sem,yr9]
 refine zT (fun h=> ?_) (fun h=> ?_)
 .have h:e≠0:=by simpa using h
  simp[go_sem]
  exact yy9 (by simp[wF,h,zP]) (by simp[wF,h]) (by simp[wF,h])
 have h:e=0:=by simpa using h
 have hk:=hle h
 have e1:IntKind.i64.wrap ((b.length:Int) - (k:Int))=((b.length - k:Nat):Int):=by rw[i64_id (by unfold maxB at*;omega) (by unfold maxB at*;omega)];omega
 have e2:IntKind.u64.wrap ((b.length - k:Nat):Int)=((b.length - k:Nat):Int):=u64_id (by omega) (by unfold maxB at*;omega)
 simp[go_sem]
 refine zT (fun h2=> ?_) (fun h2=> ?_)
 .have h2:1048576<n:=by have:=of_decide_eq_true h2;omega
  simp[go_sem]
  exact yy9 (by simp[wF,h,h2,zP]) (by simp[wF,h,h2]) (by simp[wF,h,h2])
 have h2: ¬1048576<n:=by have:=of_decide_eq_false h2;omega
 simp[go_sem,bys,zU,e1,e2]
 refine zT (fun h3=> ?_) (fun h3=> ?_)
 .have h3:b.length - k<n:=by have:=of_decide_eq_true h3;omega
  simp[go_sem]
  exact yy9 (by simp[wF,h,h2,h3,zP]) (by simp[wF,h,h2,h3]) (by simp[wF,h,h2,h3])
 have h3: ¬b.length - k<n:=by have:=of_decide_eq_false h3;omega
 have e3:IntKind.i64.wrap (n:Int)=(n:Int):=i64_id (by omega) (by omega)
 have e4:IntKind.i64.wrap ((k:Int)+(n:Int))=((k+n:Nat):Int):=by rw[i64_id (by unfold maxB at*;omega) (by unfold maxB at*;omega)];omega
 simp[go_sem,zU,e3,e4]
 refine zJ ⟨by omega,by omega,zk8 b⟩ ?_
 have e5:((k:Int)+(n:Int)).toNat=k+n:=by omega
 have hlen:((b.take (k+n)).drop k).length<=maxB:=by simp;omega
 simp[go_sem,e5]
 refine zH5 (yQ9 ((b.take (k+n)).drop k) 0 hlen (by decide)) cB ⟨zl3 (by simp[zP,E6,List.map_drop]),zC rfl,trivial⟩ ?_
 rintro r s ⟨rfl,rfl⟩
 simp[go_sem,byA,stA]
 exact yy9 (by simp[wF,h,h2,h3]) (by simp[wF,h,h2,h3]) (by simp[wF,h,h2,h3])
def zagF (u:Nat):Int:=if u%2=0 then((u/2:Nat):Int)else -((u/2:Nat):Int) - 1
structure TakeR where
 v:GValue
 n:Nat
 e:Int
def TakeR.V (r:TakeR):V:= .tup [.agg r.v.row,.int .i64 r.n,.int .i64 r.e]
def v0:GValue:=⟨0,0,[]⟩
def zf9 (b:List UInt8):TakeR:=
 if b.length<2 then⟨v0,0,2⟩else if 1<(b.getD 1 0).toNat then⟨v0,0,9⟩else⟨⟨1,(b.getD 1 0).toNat,[]⟩,2,0⟩
theorem zf3 {r:TakeR} {k m:Int} {s:List UInt8} {n:Nat} {e:Int} {σ:St} (h:r=⟨⟨k,m,s⟩,n,e⟩):
  wret (some (.tup [.agg [.int .i64 k,.int .i64 m,.str s],.int .i64 n,.int .i64 e])) 0 (fun v s=>v=r.V/\s= []) σ:=by
 subst h
 exact zQ (zC rfl) ⟨rfl,rfl⟩
theorem yS4 (b:List UInt8) (hb0:b.length<=maxB):Pure prog 105 [bys b] (zf9 b).V:=by
 refine iW 0 func105 ntmps105 results105 fun c hc hb=>zN ?_
 simp[go_sem,bys,zU]
 refine zT (fun h=> ?_) (fun h=> ?_)
 .have h:b.length<2:=by have:=of_decide_eq_true h;omega
  simp[go_sem]
  exact zf3 (n:=0) (by simp[zf9,h,v0])
 have h: ¬b.length<2:=by have:=of_decide_eq_false h;omega
 have h1:1<b.length:=by omega
 obtain⟨c0,hc0⟩: ∃c,b[1]=c:=⟨_,rfl⟩
 have hc2:b.getD 1 0=c0:=by rw[A5,A0 h1,hc0];rfl
 have e1:IntKind.i64.wrap (c0.toNat:Int)=(c0.toNat:Int):=i64_id (by omega) (by have:=c0.toNat_lt;omega)
 simp[go_sem,zU,h1,zw0,hc0]
 refine zJ (by omega) ?_
 simp[go_sem]
 refine zT (fun h2=> ?_) (fun h2=> ?_)
 .have h2:1<c0.toNat:=by have:=of_decide_eq_true h2;omega
  simp[go_sem]
  exact zf3 (n:=0) (by simp only[zf9,hc2];rw[if_neg h,if_pos h2];rfl)
 .have h2: ¬1<c0.toNat:=by have:=of_decide_eq_false h2;omega
  simp[go_sem,zU,h1,zw0,hc0,e1]
  refine zJ (by omega) ?_
  simp[go_sem,e1]
  exact zf3 (n:=2) (by simp only[zf9,hc2];rw[if_neg h,if_neg h2])
theorem xT6 {x:Int} (h:0<=x) (h2:x<=9223372036854775807):ze2 .xor .i64 x 0=x:=by
 obtain⟨m,rfl⟩:=E5 h
 show IntKind.i64.wrap ((BitVec.ofInt 64 (m:Int)^^^BitVec.ofInt 64 0).toNat:Int)=m
 have e:BitVec.ofInt 64 (0:Int)=0#64:=rfl
 rw[e,BitVec.xor_zero,BitVec.ofInt_natCast,BitVec.toNat_ofNat,Ch (by omega)]
 exact i64_id (by omega) (by omega)
theorem xT7 {x:Int} (h:0<=x) (h2:x<=9223372036854775807):ze2 .xor .i64 x (-1)= -x - 1:=by
 obtain⟨m,rfl⟩:=E5 h
 show IntKind.i64.wrap ((BitVec.ofInt 64 (m:Int)^^^BitVec.ofInt 64 (-1)).toNat:Int)=_
 have e:BitVec.ofInt 64 (-1:Int)=BitVec.allOnes 64:=by decide+kernel
 rw[e,BitVec.xor_allOnes,BitVec.ofInt_natCast,BitVec.toNat_not,BitVec.toNat_ofNat,Ch (by omega)]
 rw[IntKind.wrap_i64]
 omega
theorem xU5 {m:Nat} (h:m<18446744073709551616):ze2 .and .u64 (m:Int) 1=(m:Int)%2:=by
 show IntKind.u64.wrap ((BitVec.ofInt 64 (m:Int)&&&BitVec.ofInt 64 1).toNat:Int)=_
 have e:BitVec.ofInt 64 (1:Int)=1#64:=rfl
 rw[e,BitVec.ofInt_natCast,BitVec.toNat_and,BitVec.toNat_ofNat,Ch (by omega)]
 have e2:m&&&(1#64).toNat=m%2:=Nat.and_one_is_mod m
 rw[e2,u64_id (by omega) (by omega)]
 omega
theorem xU3 (u:Nat) (hu:u<18446744073709551616):Pure prog 106 [.int .u64 u] (.int .i64 (zagF u)):=by
 have e0:=xU5 hu
 have e1:(u:Int).fdiv 2=(u:Int)/2:=Co _ (by omega)
 have e3:IntKind.i64.wrap ((u:Int)/2)=(u:Int)/2:=i64_id (by omega) (by omega)
 have e4:IntKind.i64.wrap ((u:Int)%2)=(u:Int)%2:=i64_id (by omega) (by omega)
 have e5:IntKind.i64.wrap (-((u:Int)%2))= -((u:Int)%2):=i64_id (by omega) (by omega)
 have e6:ze2 .xor .i64 ((u:Int)/2) (-((u:Int)%2))=zagF u:=by
  unfold zagF
  by_cases h:u%2=0
  .rw[if_pos h,show -((u:Int)%2)=0 by omega,xT6 (by omega) (by omega)];omega
  .rw[if_neg h,show -((u:Int)%2)= -1 by omega,xT7 (by omega) (by omega)];omega
 refine iW 0 func106 ntmps106 results106 fun c hc hb=>zN ?_
 simp[go_sem,e0,e1,e3,e4,e5,e6]
 exact zQ (zC rfl) ⟨rfl,rfl⟩
theorem zP9: ∀(l:List UInt8) (i v:Nat),v<128^i->i<=9->(wP l i v).1<18446744073709551616
 | [],i,v,_,_=>by simp[wP]
 |c::rest,i,v,hv,h9=>by
  have hc:=c.toNat_lt
  unfold wP
  split
  .simp
  .rename_i h1
   have h98:i<=8∨i=9/\c.toNat%128<=1:=by
    by_cases h:i=9
    .exact .inr ⟨h,by
      have: ¬1<c.toNat:=fun w=>h1 ⟨h,w⟩
      omega⟩
    .exact .inl (by omega)
   have hx:c.toNat%128<128:=D1 _ (by omega)
   have n12:=yY3 hv hx h98
   split
   .split
    .simp
    .exact n12.1
   .rename_i h2
    refine zP9 rest (i+1) _ (yw2 hv hx) ?_
    rcases h98 with h|h
    .omega
    .exfalso
     have: ¬1<c.toNat:=fun w=>h1 ⟨h.1,w⟩
     omega
def zr7 (k:Nat) (tb:TakeR) (r:Nat×Nat×Int) (t:List UInt8×Nat×Int):TakeR:=
 if k=0 then⟨v0,1,0⟩
 else if k=1 then tb
 else if k=2 then(if r.2.2≠0 then⟨v0,0,r.2.2⟩else⟨⟨2,zagF r.1,[]⟩,1+r.2.1,0⟩)
 else if k=3 then(if t.2.2≠0 then⟨v0,0,t.2.2⟩else if 64<t.1.length then⟨v0,0,3⟩else⟨⟨3,0,t.1⟩,1+t.2.1,0⟩)
 else⟨v0,0,9⟩
def zg5:List UInt8->TakeR
 | []=>⟨v0,0,2⟩
 |c::rest=>zr7 c.toNat (zf9 (c::rest)) (wP rest 0 0) (zc4 rest)
theorem zW8 (b:List UInt8):(zc4 b).2.1<=b.length/\((zc4 b).2.2=0->(zc4 b).1.length<=b.length):=by
 have hle:=zA4 b 0 0
 unfold zc4 wF
 revert hle
 generalize wP b 0 0=r
 obtain⟨n,k,e⟩:=r
 intro hle
 simp only at hle⊢
 split
 .simp
 .rename_i h
  have h:e=0:=Decidable.not_not.1 h
  have hk:=hle h
  split
  .simp
  .split
   .simp
   .refine⟨?_,fun _=> ?_⟩
    .simp only;omega
    .simp;omega
theorem xN3 (b:List UInt8) (hb0:b.length<=maxB):Pure prog 60 [bys b] (zg5 b).V:=by
 cases b with
 |nil=>
  refine iW 0 func60 ntmps60 results60 fun c hc hb=>zN ?_
  simp[go_sem,bys,zP]
  exact zf3 (n:=0) rfl
 |cons c0 rest=>
  have hc:=c0.toNat_lt
  have hr:rest.length<=maxB:=by simp only[Ah]at hb0;omega
  have hlt:=zP9 rest 0 0 (by decide) (by decide)
  have hle:=zA4 rest 0 0
  have htv:=zR3 rest hr
  have htt:=yM3 rest hr
  have htl:=zW8 rest
  have htb:=yS4 (c0::rest) hb0
  have e1:IntKind.i64.wrap (c0.toNat:Int)=(c0.toNat:Int):=i64_id (by omega) (by omega)
  have hrow:zP (c0::rest)= [.int .u8 c0.toNat]::zP rest:=rfl
  rw[zg5]
  revert hlt hle htv htt htb htl
  generalize wP rest 0 0=r
  generalize zc4 rest=t
  generalize zf9 (c0::rest)=tb
  obtain⟨n,k,e⟩:=r
  obtain⟨tx,tk,te⟩:=t
  obtain⟨⟨bk,bn,bs⟩,bm,be⟩:=tb
  obtain⟨q,hq⟩:=eX c0.toNat
  intro hlt hle htv htt htl htb
  simp only at hlt hle htl
  rw[hq]at hc e1 hrow⊢
  have e2:e=0->IntKind.i64.wrap (1+(k:Int))=((1+k:Nat):Int):=fun h=>by
   have:=hle h
   rw[i64_id (by omega) (by unfold maxB at*;omega)];omega
  have e3:IntKind.i64.wrap (1+(tk:Int))=((1+tk:Nat):Int):=by rw[i64_id (by omega) (by unfold maxB at*;omega)];omega
  have e4:(zP rest).take rest.length=zP rest:=Au (by rw[zU];omega)
  have hu:uni 1 ([V.int .u8 (q:Int)]::zP rest):=hrow▸zk8 (c0::rest)
  refine iW 0 func60 ntmps60 results60 fun c hc hb=>zN ?_
  simp[go_sem,bys,hrow,zU]
  refine zT (fun w=>absurd w (by simp;omega)) (fun w=> ?_)
  simp[go_sem,hrow,zU,e1]
  refine zT (fun w1=> ?_) (fun w1=> ?_)
  .have w1:q=0:=by simp at w1;omega
   simp[go_sem]
   exact zf3 (n:=1) (by simp[zr7,w1,v0])
  have w1: ¬q=0:=by simp at w1;omega
  simp[go_sem]
  refine zT (fun w2=> ?_) (fun w2=> ?_)
  .have w2:q=1:=by simp at w2;omega
   simp[go_sem]
   refine zD htb cB (zR (by simp[bys,hrow]) rfl) rfl ?_
   simp[go_sem,TakeR.V]
   exact zf3 (n:=bm) (by simp[zr7,w2])
  have w2: ¬q=1:=by simp at w2;omega
  simp[go_sem]
  refine zT (fun w3=> ?_) (fun w3=> ?_)
  .have w3:q=2:=by simp at w3;omega
   simp[go_sem,hrow,zU]
   refine zJ ⟨by omega,hu⟩ ?_
   simp[go_sem,e4]
   refine zD htv cB (zH rfl) rfl ?_
   simp[go_sem,yr9]
   refine zT (fun w4=> ?_) (fun w4=> ?_)
   .have w4:e≠0:=by simpa using w4
    simp[go_sem]
    exact zf3 (n:=0) (by simp[zr7,w3,w4,v0])
   have w4:e=0:=by simpa using w4
   have e5:=e2 w4
   simp[go_sem]
   refine zD (xU3 n hlt) cB (zH rfl) rfl ?_
   simp[go_sem,e5]
   exact zf3 (n:=1+k) (by simp[zr7,w3,w4])
  have w3: ¬q=2:=by simp at w3;omega
  simp[go_sem]
  refine zT (fun w4=> ?_) (fun w4=> ?_)
  .have w4:q=3:=by simp at w4;omega
   simp[go_sem,hrow,zU]
   refine zJ ⟨by omega,hu⟩ ?_
   simp[go_sem,e4]
   refine zD htt cB (zH rfl) rfl ?_
   simp[go_sem,yy6,bys,zU]
   refine zT (fun w5=> ?_) (fun w5=> ?_)
   .have w5:te≠0:=by simpa using w5
    simp[go_sem]
    exact zf3 (n:=0) (by simp[zr7,w4,w5,v0])
   have w5:te=0:=by simpa using w5
   simp[go_sem,zU]
   refine zT (fun w6=> ?_) (fun w6=> ?_)
   .have w6:64<tx.length:=by have:=of_decide_eq_true w6;omega
    simp[go_sem]
    exact zf3 (n:=0) (by simp[zr7,w4,w5,w6,v0])
   have w6: ¬64<tx.length:=by have:=of_decide_eq_false w6;omega
   simp[go_sem]
   refine zJ (wQ _) ?_
   simp[go_sem,e3,zi9]
   exact zf3 (n:=1+tk) (by simp[zr7,w4,w5,w6])
  have w4: ¬q=3:=by simp at w4;omega
  simp[go_sem]
  exact zf3 (n:=0) (by simp[zr7,w1,w2,w3,w4,v0])
theorem is_w (regs tabs:List (List V)) (t:Int):Pure prog 58 [.agg [.sl .ro regs,.sl .ro tabs],.int .i64 t] (.bool (decide (0<=t)&&decide (t<tabs.length))):=by
 refine iW 0 func58 ntmps58 results58 fun c hc hb=>zN ?_
 simp[go_sem]
 repeat' (first|(refine yZ (fun q=> ?_) (fun q=> ?_)<;>simp[go_sem,q])|(refine zT (fun q=> ?_) (fun q=> ?_)<;>simp[go_sem,q]))
 all_goals exact zQ (zC rfl) ⟨by simp_all,rfl⟩
theorem xy1 (b:List UInt8):(zg5 b).e=0->(zg5 b).n<=b.length:=by
 cases b with
 |nil=>simp[zg5]
 |cons c rest=>
  have h1:=zA4 rest 0 0
  have h2:=zW8 rest
  rw[zg5]
  unfold zr7 zf9
  revert h1 h2
  generalize wP rest 0 0=r
  generalize zc4 rest=t
  obtain⟨rn,rk,re⟩:=r
  obtain⟨tx,tk,te⟩:=t
  intro h1 h2
  simp only at h1 h2
  (repeat' split)<;>intro h<;>simp at h⊢ <;>(try omega)
  .rename_i q1 q2 q3;simp only[Ah]at q2;omega
  .rename_i q;simp at q;have:=h1 q;omega
def rowG:Nat->List UInt8->Option (List GValue)
 |0,b=>if b= []then some []else none
 |n+1,b=>if(zg5 b).e=0 then(rowG n (b.drop (zg5 b).n)).map ((zg5 b).v:: ·)else none
def rowR (o:Option (List GValue)):List GValue×Int:=match o with
 |some l=>(l,0)
 |none=>([],9)
def rowC (nc:Nat) (data:List UInt8):List GValue×Int:=
 if(wP data 0 0).2.2=0/\(wP data 0 0).1=nc then rowR (rowG nc (data.drop (wP data 0 0).2.1))else([],9)
def rowF (ts:List GTable) (table:Int) (data:List UInt8):List GValue×Int:=
 if h:0<=table/\table<ts.length then rowC (ts[table.toNat]'(by omega)).cols.length data else([],1)
theorem yt5 (b:List UInt8) (k:Nat):List.drop k (List.take b.length (zP b))=zP (b.drop k):=by
 rw[Au (by rw[zU];exact A2 _)]
 simp[zP,List.map_drop]
def rowV (r:List GValue×Int):V:= .tup [.sl .ro (r.1.map GValue.row),.int .i64 r.2]
theorem xa4 {r:List GValue×Int} {l:List GValue} {g:Tag} {e:Int} {σ:St} (h:r=(l,e)):wret (some (.tup [.sl g (l.map GValue.row),.int .i64 e])) 0 (fun v s=>v=rowV r/\s= []) σ:=by
 subst h
 exact zQ (r:=rowV (l,e)) (xT (vs':= [.sl .ro (l.map GValue.row),.int .i64 e]) ⟨zr9,za6 rfl,trivial⟩) ⟨rfl,rfl⟩
theorem zP3 {r:List GValue×Int} {g:Tag} {e:Int} {σ:St} (h:r=([],e)):wret (some (.tup [.sl g [],.int .i64 e])) 0 (fun v s=>v=rowV r/\s= []) σ:=xa4 (l:= []) h
theorem xK7 (regs:List (List V)) (ts:List GTable) (table:Int) (data:List UInt8) (hd:data.length<=maxB) (hts: ∀t∈ts,t.cols.length<=maxB):
  Pure prog 28 [.agg [.sl .ro regs,.sl .ro (ts.map GTable.row)],.int .i64 table,.str data] (rowV (rowF ts table data)):=by
 have hlt:=zP9 data 0 0 (by decide) (by decide)
 have hle:=zA4 data 0 0
 have htv:=zR3 data hd
 by_cases ht:0<=table/\table<ts.length
 .obtain⟨j,rfl⟩: ∃j:Nat,table=j:=⟨table.toNat,by omega⟩
  have hj:j<ts.length:=by omega
  obtain⟨t,htj⟩:=eX (ts[j])
  have hnc:=hts t (htj▸A8 hj)
  have hF:rowF ts j data=rowC t.cols.length data:=by
   unfold rowF
   rw[dif_pos ht]
   simp[htj]
  rw[hF]
  unfold rowC
  revert hlt hle htv
  generalize wP data 0 0=r
  obtain⟨n,k,e⟩:=r
  intro hlt hle htv
  simp only at hlt hle⊢
  obtain⟨nc,hnce⟩:=eX t.cols.length
  rw[hnce]at hnc⊢
  have eu:IntKind.u64.wrap (nc:Int)=nc:=u64_id (by omega) (by unfold maxB at hnc;omega)
  refine iV 0 func28 ntmps28 results28 fun c hc hb=> ?_
  refine zA ?_
  simp[go_sem]
  refine zD (is_w regs (ts.map GTable.row) j) cB (zH rfl) rfl ?_
  simp[go_sem,hj]
  refine zD htv cB (zR (by simp[bys,zP]) rfl) rfl ?_
  simp[go_sem,yr9]
  have bad: ∀σ:St,¬(e=0/\n=nc)->wret (some (.tup [.sl .full [],.int .i64 9])) 0 (fun v s=>v=rowV (if e=0/\n=nc then rowR (rowG nc (data.drop k))else([],9))/\s= []) σ:=fun σ h=>zP3 (by rw[if_neg h])
  refine yZ (fun q1r=> ?_) (fun q1r=> ?_)
  .have q1:e=0:=by simpa using q1r
   simp[go_sem,q1r,hj,htj,hnce,eu]
   refine zT (fun q2=> ?_) (fun q2=> ?_)
   .have q2: ¬n=nc:=by simp at q2;omega
    simp[go_sem]
    exact bad _ (fun h=>q2 h.2)
   have q2:n=nc:=by simp at q2;omega
   have hk:=hle q1
   rw[if_pos ⟨q1,q2⟩]
   simp[go_sem]
   refine zn1 12 3 (by decide) rfl ?_
   refine zL (S:=Nat×Nat×List GValue) [8,10,12,42,43] (fun u=> [bys data,.int .i64 u.2.1,.sl (.app 1) (u.2.2.map GValue.row),.int .u64 nc,.int .u64 u.1]) (fun u=> [.box [.sl .ro regs,.sl .ro (ts.map GTable.row)],.app u.2.2.length 3]) (fun u=>nc - u.1)
    (fun u=>u.1<=nc/\u.2.1<=data.length/\u.2.2.length=u.1/\(rowG (nc - u.1) (data.drop u.2.1)).map (u.2.2++ ·)=rowG nc (data.drop k)) hc hb (0,k,[]) ⟨A3 _,by simp only;omega,rfl,by simp⟩ ?_ ?_
   .exact at_n 2 (by simp) rfl rfl (A3 _) (zG (by simp[go_sem,bys,zP,q2]) rfl)
   rintro⟨i,at_,l⟩ ⟨hi,hat,hll,hrow⟩
   simp only at hi hat hll hrow
   have hd2:data.length - at_<=maxB:=by omega
   have htk:=xN3 (data.drop at_) (by simp;omega)
   have htl:=xy1 (data.drop at_)
   rw[Ei]at htl
   refine zA ?_
   simp[go_sem]
   refine zT (fun q3=> ?_) (fun q3=> ?_)
   .have q3:i<nc:=by simpa using q3
    rw[show nc - i=(nc - i - 1)+1 by omega,rowG]at hrow
    revert htk htl hrow
    generalize zg5 (data.drop at_)=r
    obtain⟨⟨vk,vn,vs⟩,rn,re⟩:=r
    intro hrow htk htl
    simp only at htl hrow
    simp[go_sem,bys,zU]
    refine zJ ⟨by omega,zk8 data⟩ ?_
    simp[go_sem]
    refine zD htk cB (zR (by simp[bys,yt5]) rfl) rfl ?_
    simp[go_sem,TakeR.V]
    refine zT (fun q4=> ?_) (fun q4=> ?_)
    .have q4: ¬re=0:=by simpa using q4
     rw[if_neg q4]at hrow
     simp[go_sem]
     rw[<-hrow]
     exact zP3 rfl
    have q4:re=0:=by simpa using q4
    rw[if_pos q4]at hrow
    have hrn:=htl q4
    have ea:IntKind.i64.wrap ((at_:Int)+rn)=((at_+rn:Nat):Int):=by rw[i64_id (by omega) (by unfold maxB at hd;omega)];omega
    have ei:IntKind.u64.wrap ((i:Int)+1)=((i+1:Nat):Int):=by rw[u64_id (by omega) (by unfold maxB at hnc;omega)];omega
    have hub:(l.length+1)*32<=140737488355328:=by unfold maxB at hnc;omega
    simp[go_sem]
    refine zJ ⟨by simpa using hub,yC rfl⟩ ?_
    simp[go_sem,ea,ei]
    refine zI (i+1,at_+rn,l++ [⟨vk,vn,vs⟩]) ⟨by simp only;omega,⟨q3,by simp only;omega,by simp[hll], ?_⟩,at_n 2 (by simp) rfl rfl (A3 _) (zG (by simp[go_sem,bys,ea,ei]) rfl)⟩
    rw[<-hrow]
    simp only
    rw[show nc - (i+1)=nc - i - 1 by omega,List.drop_drop]
    cases rowG (nc - i - 1) (data.drop (at_+rn))<;>simp
   .have q3:i=nc:=by
     have: ¬i<nc:=by simpa using q3
     omega
    subst q3
    simp[rowG]at hrow
    simp[go_sem,bys,zU]
    refine zT (fun q4=> ?_) (fun q4=> ?_)
    .have q4:at_<data.length:=by simpa using q4
     rw[if_neg (by omega)]at hrow
     simp[go_sem]
     rw[<-hrow]
     exact zP3 rfl
    have q4:data.length<=at_:=by simpa using q4
    rw[if_pos q4]at hrow
    simp[go_sem]
    rw[<-hrow]
    exact xa4 (by simp[rowR])
  .have q1: ¬e=0:=by simpa using q1r
   simp[go_sem,q1r]
   exact bad _ (fun h=>q1 h.1)
 .have hF:rowF ts table data=([],1):=by
   unfold rowF
   rw[dif_neg ht]
  rw[hF]
  refine iV 0 func28 ntmps28 results28 fun c hc hb=> ?_
  refine zA ?_
  simp[go_sem]
  refine zD (is_w regs (ts.map GTable.row) table) cB (zH rfl) rfl ?_
  have hn:(decide (0<=table)&&decide (table<((ts.map GTable.row).length:Int)))=false:=by simp;omega
  rw[hn]
  simp[go_sem]
  exact zP3 rfl
def be (v:Nat):Nat->List UInt8
 |0=> []
 |k+1=>UInt8.ofNat (v/256^k)::be v k
theorem yM6 (v:Nat): ∀k,(be v k).length=k
 |0=>rfl
 |k+1=>by simp[be,yM6 v k]
theorem yU7 (a b:UInt8) (l m:List UInt8):Op.bytesLess (a::l) (b::m)=if a.toNat<b.toNat then true else if b.toNat<a.toNat then false else Op.bytesLess l m:=by
 rw[Op.bytesLess]
 simp only[UInt8.lt_iff_toNat_lt]
 by_cases h1:a.toNat<b.toNat
 .simp[h1]
 .by_cases h2:b.toNat<a.toNat
  .have:a≠b:=fun h=>by subst h;omega
   simp[h1,h2,this]
  .have:a=b:=UInt8.toNat_inj.1 (by omega)
   simp[this]
def esc:List UInt8->List UInt8
 | []=> []
 |c::s=>if c=0 then 0::255::esc s else c::esc s
theorem yu0: ∀s,(esc s).length<=2*s.length
 | []=>by simp[esc]
 |c::s=>by
  have:=yu0 s
  unfold esc
  split<;>simp<;>omega
theorem yb5: ∀a b,esc (a++b)=esc a++esc b
 | [],b=>rfl
 |c::a,b=>by
  have:=yb5 a b
  rw[Bo,esc,esc]
  split<;>simp[this]
def keyF (v:GValue):List UInt8:=
 if mayF v=true then
  UInt8.ofNat v.kind.toNat::(if v.kind=1 then [UInt8.ofNat v.n.toNat]else if v.kind=2 then be (v.n+9223372036854775808).toNat 8 else if v.kind=3 then esc v.s++ [0,1]else [])
 else []
theorem xr9 {v:GValue}:(keyF v).length<=2*v.s.length+10:=by
 have h:=yu0 v.s
 have h2:=yM6 (v.n+9223372036854775808).toNat 8
 unfold keyF
 (repeat' split)<;>simp<;>omega
theorem xX8 (a:Nat) (h:a<2^64):a^^^2^63=(2^63+a)%2^64:=by
 apply Nat.eq_of_testBit_eq
 intro j
 rw[Nat.testBit_xor,Nat.testBit_two_pow,Nat.testBit_mod_two_pow]
 rcases Bi j 63 with h1|h1|h1
 .rw[Nat.testBit_two_pow_add_gt h1]
  simp[show j<64 by omega,show ¬63=j by omega]
 .subst h1
  rw[Nat.testBit_two_pow_add_eq]
  simp
 .rw[Nat.testBit_lt_two_pow (D0 h (Nat.pow_le_pow_right (by decide) (by omega)))]
  simp[show ¬j<64 by omega,show ¬63=j by omega]
theorem xG5 {n:Int} (h1: -9223372036854775808<=n) (h2:n<=9223372036854775807):ze2 .xor .u64 (IntKind.u64.wrap n) 9223372036854775808=(((n+9223372036854775808).toNat:Nat):Int):=by
 obtain⟨a,ha,hlt⟩: ∃a:Nat,IntKind.u64.wrap n=(a:Int)/\(a:Int)=n%18446744073709551616:=by
  unfold IntKind.wrap
  simp[IntKind.bits,IntKind.signed]
  exact⟨(n%18446744073709551616).toNat,by omega,by omega⟩
 have hl:a<2^64:=by omega
 show IntKind.u64.wrap ((BitVec.ofInt 64 (IntKind.u64.wrap n)^^^BitVec.ofInt 64 ((9223372036854775808:Nat):Int)).toNat:Int)=_
 rw[ha,BitVec.ofInt_natCast,BitVec.ofInt_natCast,BitVec.toNat_xor,BitVec.toNat_ofNat,BitVec.toNat_ofNat,Ch hl,show 9223372036854775808%2^64=2^63 by decide,xX8 a hl]
 unfold IntKind.wrap
 simp[IntKind.bits,IntKind.signed]
 omega
theorem xB5 (n:Int) (hn:i64R n):Pure prog 172 [.int .i64 n] (.int .u64 (n+9223372036854775808).toNat):=by
 have e:=xG5 hn.1 hn.2
 refine iW 0 func172 ntmps172 results172 fun c hc hb=>zN ?_
 simp[go_sem,e]
 exact zQ (zC rfl) ⟨rfl,rfl⟩
theorem xX2 (n:Int):IntKind.u8.wrap n<256:=by
 unfold IntKind.wrap
 simp[IntKind.bits,IntKind.signed]
 omega
theorem xS4 (l:List UInt8) (h:l.all (fun c=>decide (c.toNat<=8))=true) (i:Nat):(l[i]?.getD 0).toNat<=8:=by
 rcases Cf i l.length with q|q
 .rw[A0 q]
  simpa using Af.1 h _ (A8 q)
 .rw[Bc q];decide
theorem yE9 {n:Int} (h0:0<=n) (h:n<=64): ∃m:Nat,V.int .i64 n= .int .i64 m/\m<=64:=⟨n.toNat,by congr 1;omega,by omega⟩
theorem xB3 (v:Nat) (_hv:v<18446744073709551616):VCalls prog 142 [.int .u64 v] [] fun r s=>(∃n:Nat,r= .int .i64 n/\n<=64)/\s= []:=by
 have w48:IntKind.i64.wrap 48=48:=by decide+kernel
 have w40:IntKind.i64.wrap 40=40:=by decide+kernel
 have w16:IntKind.i64.wrap 16=16:=by decide+kernel
 have w8:IntKind.i64.wrap 8=8:=by decide+kernel
 have w56:IntKind.i64.wrap (48+8)=56:=by decide+kernel
 have w24:IntKind.i64.wrap (16+8)=24:=by decide+kernel
 refine iW 0 func142 ntmps142 results142 fun c hc hb=>zN ?_
 simp[go_sem]
 repeat' (refine zT (fun q=> ?_) (fun q=> ?_)<;>simp[go_sem])
 all_goals
  refine zJ (xX2 _) ?_
  generalize hx:UInt8.toNat (Option.getD _ _)=x
  have h8:x<=8:=hx▸xS4 _ (by decide+kernel) _
  clear hx
  have e8:IntKind.i64.wrap (x:Int)=x:=i64_id (by omega) (by omega)
  simp[go_sem,e8]
 all_goals
  try simp only[w48,w40,w16,w8,w56,w24]
  first
  |exact zQ (zC rfl) ⟨yE9 (by omega) (by omega),rfl⟩
  |(rw[i64_id (by omega) (by omega)]
    exact zQ (zC rfl) ⟨yE9 (by omega) (by omega),rfl⟩)
theorem xD4 (v k:Nat) (_hk:k<=7):IntKind.u8.wrap ((v:Int).fdiv (2^(8*k)))=((UInt8.ofNat (v/256^k)).toNat:Int):=by
 have e:(v:Int).fdiv (2^(8*k))=((v/256^k:Nat):Int):=by
  rw[Co _ (by exact Int.le_of_lt (Int.pow_pos (by decide)))]
  rw[show(2:Int)^(8*k)=((256^k:Nat):Int) by rw[Int.pow_mul];simp]
  rw[Int.natCast_ediv]
 rw[e,zU1]
theorem xU1 (b:List UInt8) (v:Nat) (hb0:b.length<=maxB) (hv:v<18446744073709551616):Pure prog 171 [bys b,.int .u64 v,.int .i64 8] (.tup [bys (b++be v 8),.int .i64 0]):=by
 refine iV 0 func171 ntmps171 results171 fun c hc hb=> ?_
 refine zA ?_
 simp[go_sem,bys]
 refine xJ5 (R:=fun r=> ∃n:Nat,r= .int .i64 n/\n<=64) (xB3 v hv) cB (zH rfl) (fun r h=>by obtain⟨b,rfl,_⟩:=h;rfl) ?_
 rintro r ⟨n,rfl,hn⟩
 have e64:IntKind.i64.wrap 64=64:=by decide+kernel
 simp[go_sem,e64]
 refine zT (fun q=>absurd q (by simp;omega)) (fun q=> ?_)
 simp[go_sem]
 refine zH5 (yQ9 b 8 hb0 (by decide)) cB (zH rfl) ?_
 rintro r s ⟨rfl,rfl⟩
 simp[go_sem,byA,stA]
 have ew: ∀k:Nat,k<=8->IntKind.i64.wrap (8*(k:Int) - 8)=8*(k:Int) - 8:=fun k h=>i64_id (by omega) (by omega)
 have e56:IntKind.i64.wrap (8*IntKind.i64.wrap 7)=56:=by decide+kernel
 refine zL (S:=Nat×List UInt8) [1,8,9] (fun u=> [.int .u64 v,byA u.2,.int .i64 (8*(u.1:Int) - 8)]) (fun u=>stA u.2) (fun u=>u.1) (fun u=>u.1<=8/\u.2++be v u.1=b++be v 8) hc hb (8,b) ⟨A2 _,rfl⟩ ?_ ?_
 .exact at_n 1 (by simp[stA]) rfl rfl (A3 _) (zG (by simp[go_sem,byA]) rfl)
 rintro⟨k,out⟩ ⟨hk,hout⟩
 simp only at hk hout
 have hol:out.length+k=b.length+8:=by
  have:=congrArg List.length hout
  simpa[yM6]using this
 refine zA ?_
 simp[go_sem,byA,stA]
 refine zT (fun q=> ?_) (fun q=> ?_)
 .obtain⟨j,rfl⟩: ∃j,k=j+1:=⟨k - 1,by simp at q;omega⟩
  have e1:IntKind.u64.wrap (8*((j+1:Nat):Int) - 8)=((8*j:Nat):Int):=by rw[u64_id (by omega) (by omega)];omega
  have e2:IntKind.i64.wrap (8*((j+1:Nat):Int) - 8 - 8)=8*(j:Int) - 8:=by rw[i64_id (by omega) (by omega)];omega
  have e3:=xD4 v j (by omega)
  simp[go_sem]at e1 e2
  simp[go_sem,e1]
  refine zJ (by omega) ?_
  have e4:min (8*(j:Int)).toNat 64=8*j:=by omega
  simp[go_sem,e4,e3]
  refine zJ ⟨zU out,by rw[zU];unfold maxB at hb0;omega,yC rfl⟩ ?_
  simp[go_sem,e2]
  rw[be]at hout
  refine zI (j,out++ [UInt8.ofNat (v/256^j)]) ⟨by simp only;omega,⟨by simp only;omega,by simpa using hout⟩,at_n 1 (by simp) rfl rfl (A3 _) (zG (by simp[go_sem,zP]) rfl)⟩
 .have:k=0:=by simp at q;omega
  subst this
  rw[show be v 0= [] from rfl,B7]at hout
  simp[go_sem]
  rw[<-hout]
  exact zQ (xT (vs':= [bys out,.int .i64 0]) ⟨zr9,za6 rfl,trivial⟩) ⟨rfl,rfl⟩
theorem yf4 {v:GValue} (h:mayF v=true):v.kind=0∨v.kind=1∨v.kind=2∨v.kind=3:=by
 unfold mayF at h
 by_cases h0:v.kind=0
 .exact .inl h0
 .by_cases h1:v.kind=1
  .exact .inr (.inl h1)
  .by_cases h2:v.kind=2
   .exact .inr (.inr (.inl h2))
   .by_cases h3:v.kind=3
    .exact .inr (.inr (.inr h3))
    .simp[h0,h1,h2,h3]at h
theorem xo9 {s:List UInt8} {i:Nat} (h:i<s.length):esc (s.take (i+1))=esc (s.take i)++(if s[i]=0 then [0,255]else [s[i]]):=by
 rw[Ci h,yb5]
 simp only[esc]
theorem xJ1 {s:Nat} {a b:List V} (h1:a.length=s) (h2:b.length=s):uni s [a,b]:=fun r hr=>by
 simp at hr
 rcases hr with rfl|rfl<;>assumption
theorem yF9 {v:GValue} (h:mayF v=true):v.s.length<=64:=by
 unfold mayF at h
 split at h
 .simp at h;rw[h.2];decide
 split at h
 .simp at h;rw[h.2];decide
 split at h
 .simp at h;rw[h];decide
 split at h
 .simp at h;exact h.2
 .cases h
theorem xN1 (b:List UInt8) (v:GValue) (hv:v.ok) (hb0:b.length<=maxB - 1):Pure prog 111 [bys b,.agg v.row] (bys (b++keyF v)):=by
 refine iV 0 func111 ntmps111 results111 fun c hc hb=> ?_
 refine zA ?_
 obtain⟨k,n,s⟩:=v
 have hn:=hv.n
 simp only at hn
 simp[go_sem,bys,zU]
 refine zJ ⟨by unfold maxB at*;omega,by simp[uni],zk8 b⟩ ?_
 simp[go_sem]
 refine zD (ym5 ⟨k,n,s⟩) cB (zH rfl) rfl ?_
 simp[go_sem]
 refine zT (fun h=> ?_) (fun h=> ?_)
 .simp[go_sem]
  refine zo5 ?_
  have h:mayF ⟨k,n,s⟩=false:=by simpa using h
  simp[keyF,h,zP]
 have h:mayF ⟨k,n,s⟩=true:=by simpa using h
 have hs:s.length<=500:=by
   have:s.length<=64:=yF9 h
   omega
 have hk:=yf4 h
 simp only at hk
 simp[go_sem,zU]
 refine zJ ⟨by unfold maxB at*;omega,yC rfl⟩ ?_
 have w0:IntKind.u8.wrap 0=0:=by decide+kernel
 have w1:IntKind.u8.wrap 1=1:=by decide+kernel
 have w2:IntKind.u8.wrap 2=2:=by decide+kernel
 have w3:IntKind.u8.wrap 3=3:=by decide+kernel
 rcases hk with rfl|rfl|rfl|rfl
 .simp[go_sem]
  refine zo5 ?_
  simp[keyF,h,zP,w0]
 .have h1:n=0∨n=1:=by
   unfold mayF at h
   simp at h
   exact h.1
  simp[go_sem]
  refine zJ ⟨zU b,by rw[zU];unfold maxB at*;omega,yC rfl⟩ ?_
  simp[go_sem]
  refine zo5 ?_
  rcases h1 with rfl|rfl<;>simp[keyF,h,zP,w0,w1]
 .simp[go_sem]
  obtain⟨u,hu⟩:=eX ((n+9223372036854775808).toNat)
  have hO:=xB5 n hn
  rw[hu]at hO
  refine zD hO cB (zH rfl) rfl ?_
  simp[go_sem]
  refine zD (xU1 (b++ [2]) u (by simp;unfold maxB at*;omega) (by omega)) cB ⟨zl3 (by simp[zP,w2]),zC rfl,zC rfl,trivial⟩ rfl ?_
  simp[go_sem]
  refine zo5 ?_
  simp[keyF,h,hu]
 .simp[go_sem]
  refine zL (S:=Nat) [3,5,44,45] (fun i=> [.ptr 0 0,.sl (.app 1) (zP (b++3::esc (s.take i))),.int .i64 s.length,.int .i64 i]) (fun i=> [.box [.int .i64 3,.int .i64 n,.str s],.app (b++3::esc (s.take i)).length 1]) (fun i=>s.length - i) (fun i=>i<=s.length) hc hb 0 (A3 _) ?_ ?_
  .exact at_n 2 (by simp[esc]) rfl rfl (A3 _) (zG (by simp[go_sem,esc,zP,w3]) rfl)
  intro i hi
  have hel:=yu0 (s.take i)
  have htl:(s.take i).length<=s.length:=by simp;omega
  obtain⟨o,ho⟩: ∃o,b++3::esc (s.take i)=o:=⟨_,rfl⟩
  have hol:o.length<=maxB+1100:=by
   rw[<-ho]
   simp
   unfold maxB at*
   omega
  rw[ho]
  refine zA ?_
  simp[go_sem]
  refine zT (fun q=> ?_) (fun q=> ?_)
  .have q:i<s.length:=by simpa using q
   have ei:=zV q (by omega)
   have hnext:=xo9 q
   obtain⟨c0,hc0⟩:=eX (s[i])
   simp[go_sem,q,hc0,zU]
   refine zJ ⟨by unfold maxB at*;omega,yC rfl⟩ ?_
   simp[go_sem,q,hc0]
   refine zT (fun q2=> ?_) (fun q2=> ?_)
   .have q2:c0=0:=by
     have:c0.toNat=0:=by simp at q2;omega
     exact UInt8.toNat_inj.1 (by simpa using this)
    rw[hc0,if_pos q2]at hnext
    simp[go_sem,zU]
    refine zJ ⟨by unfold maxB at*;omega,yC rfl⟩ ?_
    simp[go_sem,ei]
    exact zI (i+1) ⟨by omega,q,at_n 2 (by simp[hnext,<-ho];omega) rfl rfl (A3 _) (zG (by simp[go_sem,hnext,<-ho,zP,q2]) rfl)⟩
   .have q2: ¬c0=0:=fun h=>by rw[h]at q2;simp at q2
    rw[hc0,if_neg q2]at hnext
    simp[go_sem,ei]
    exact zI (i+1) ⟨by omega,q,at_n 2 (by simp[hnext,<-ho];omega) rfl rfl (A3 _) (zG (by simp[go_sem,hnext,<-ho,zP]) rfl)⟩
  .have q:i=s.length:=by
    have: ¬i<s.length:=by simpa using q
    omega
   subst q
   simp[go_sem,zU]
   refine zJ ⟨by unfold maxB at*;omega,xJ1 rfl rfl⟩ ?_
   simp[go_sem]
   refine zo5 ?_
   rw[Dp]at ho
   simp[keyF,h,zP,<-ho]
end Go.Proofs.YtkigddpaonhmlaaGreat.R
