/-
  Contracts of functions that the claimed statement reaches, each proved over trees (the library Vx); used by the theorem at the end of the claim.
  Conditions: as each theorem states them.
-/
import Derived.Test.YtefbicjgbaaieaaGreatLAJ
import Derived.Test.YtefbicjgbaaieaaGreatLAF
set_option maxHeartbeats 8000000
namespace Go.Vx
open Go
theorem bL.loose{P:Program}{f:FuncId}{args:List V}{U:St}{R R':V->St->Prop}(h:bL P f args U R)(hR:∀r s,R r s->qE U.length R' r s):bL P f args U R':=by
 intro w L I ab hm ha;refine(h w L I ab hm ha).mono ?_;rintro e w'⟨v,r,L',U',I',he,hr,hl,ae,aj⟩;obtain⟨v1,U1,pick,U2,r2,af,hp,ag,ah⟩:=hR _ _ hr;obtain⟨L2,I2,aa,_,_,ad,_⟩:=af.ok ae (xs:=[v]) (by trivial);refine⟨v,r2,L2,U2,_,he,ah,?_,aa.pick hp hm.len,zf (hp.jm aa.len) ag ad⟩;rw[hp.len];rcases Ck pick.length U.length with ai|ak;.have:=(A5.1 (hp.id pick.length ai)).1;omega
 omega
end Go.Vx
namespace Go.Proofs.YtefbicjgbaaieaaGreat.R
open Go Go.Vx Go.Proofs.Tryz
set_option maxRecDepth 100000
theorem F2{f:FuncId}{args:List V}{l:aij}(h:bL prog f args [] λr s=>r=mP l/\s=mQ l):Pure prog f args (dO l):=h.loose λr s q=>by obtain⟨rfl,rfl⟩:=q;have h:bW (some (mP l)) 0 (λr s=>r=dO l/\s=[]) (mQ l):=zV zP (by trivial);obtain⟨x,h1,h2⟩:=h;grind
def dw (v:bF):Bool:=if v.kind=0then decide (v.n=0)&&v.s.isEmpty else if v.kind=1then(decide (v.n=0)||decide (v.n=1))&&v.s.isEmpty else if v.kind=2then v.s.isEmpty else if v.kind=3then decide (v.n=0)&&decide (v.s.length<=64)else false
theorem F3 (v:bF):Pure prog 177 [.agg v.row] (.bool (dw v)):=by
 obtain⟨k,n,s⟩:=v;refine iW 0 func177 ntmps177 results177 λc hc hb=>zM ?_;simp[go_sem];have yes:∀(r b:Bool)(U:St),r=b->bW (some (.bool r)) 0 (λr s=>r=.bool b/\s=[]) U:=λr b U h=>by subst h;exact zV (zD rfl) sm
 repeat'(first|(refine yA (λq=>?_) (λq=>?_)<;>simp[go_sem,q])|(refine zO (λq=>?_) (λq=>?_)<;>simp[go_sem,q])|(refine yes _ _ _ ?_))
 all_goals grind[dw]
theorem F4 (v:bF):Pure prog 98 [.agg v.row] (.bool (dw v)):=by
 obtain⟨k,n,s⟩:=v;refine iW 0 func98 ntmps98 results98 λc hc hb=>zM ?_;simp[go_sem];have yes:∀(r b:Bool)(U:St),r=b->bW (some (.bool r)) 0 (λr s=>r=.bool b/\s=[]) U:=λr b U h=>by subst h;exact zV (zD rfl) sm
 repeat'(first|(refine yA (λq=>?_) (λq=>?_)<;>simp[go_sem,q])|(refine zO (λq=>?_) (λq=>?_)<;>simp[go_sem,q])|(refine yes _ _ _ ?_))
 all_goals grind[dw]
def wX (v:bF):aij:=if dw v=true then UInt8.ofNat v.kind.toNat::(if v.kind=1then[UInt8.ofNat v.n.toNat]else if v.kind=2then eJ (gA v.n)else if v.kind=3then eJ v.s.length++v.s else[])else[]
theorem qX{ρ:Nat->Nat}{g:Tag}{rows fp:List (List V)}(h:fp=rows):cR ρ (.sl .ro fp) (.sl g rows):=by grind[zP]
theorem mf{b l:aij}{g:Tag}{rows:List (List V)}{U:St}(h:zQ (b++l)=rows):bW (some (.sl g rows)) 0 (λr s=>r=dO (b++l)/\s=[]) U:=by subst h;exact zV zP (by trivial)
theorem xY0 (b:aij)(v:bF)(hv:v.ok)(aa:b.length<=cu-1)(hs:v.s.length<=cu):Pure prog 224 [dO b,.agg v.row] (dO (b++wX v)):=by
 refine iW 0 func224 ntmps224 results224 λc hc hb=>zM ?_;obtain⟨k,n,s⟩:=v;have hn:=hv.n;simp only at hs hn;simp[go_sem,dO,zL];refine zF ⟨by grind,by simp[eM],xN b⟩ ?_;simp[go_sem];refine pC (F3 ⟨k,n,s⟩) ?_;simp[go_sem];refine zO (λh=>?_) (λh=>?_);.simp[go_sem];refine mf ?_;grind[wX]
 have h:dw ⟨k,n,s⟩:=by grind
 have hk:k=0\/k=1\/k=2\/k=3:=by grind[dw]
 simp[go_sem,zL];refine zF ⟨by grind,zT rfl⟩ ?_;have w0:IntKind.u8.wrap 0=0:=by rfl
 have w1:IntKind.u8.wrap 1=1:=by rfl
 have w2:IntKind.u8.wrap 2=2:=by rfl
 have w3:IntKind.u8.wrap 3=3:=by rfl
 rcases hk with rfl|rfl|rfl|rfl;.simp[go_sem];refine mf ?_;grind[wX,zQ]
 .have h1:n=0\/n=1:=by grind[dw]
  simp[go_sem];refine zF ⟨zL b,by simp_all[zL];omega,zT rfl⟩ ?_;simp[go_sem];refine mf ?_;rcases h1 with rfl|rfl<;>simp[wX,h,zQ,w0,w1]
 .simp[go_sem];refine pC (wt0 n hn) ?_;simp[go_sem];refine zJ (F2 (NM (b++[2]) (gA n) (by grind) (NN hn))) cB ⟨qX (by grind[zQ]),zD rfl,tV⟩ rfl ?_;simp[go_sem];refine mf ?_;grind[wX]
 .simp[go_sem];refine zJ (F2 (wk9 (b++[3]) s (by grind) hs)) cB ⟨qX (by grind[zQ]),zD rfl,tV⟩ rfl ?_;simp[go_sem];refine mf ?_;grind[wX]
theorem xg7 (b:aij)(v:bF)(hv:v.ok)(aa:b.length<=cu-1)(hs:v.s.length<=cu):Pure prog 202 [dO b,.agg v.row] (dO (b++wX v)):=by
 refine iW 0 func202 ntmps202 results202 λc hc hb=>zM ?_;obtain⟨k,n,s⟩:=v;have hn:=hv.n;simp only at hs hn;simp[go_sem,dO,zL];refine zF ⟨by grind,by simp[eM],xN b⟩ ?_;simp[go_sem];refine pC (F4 ⟨k,n,s⟩) ?_;simp[go_sem];refine zO (λh=>?_) (λh=>?_);.simp[go_sem];refine mf ?_;grind[wX]
 have h:dw ⟨k,n,s⟩:=by grind
 have hk:k=0\/k=1\/k=2\/k=3:=by grind[dw]
 simp[go_sem,zL];refine zF ⟨by grind,zT rfl⟩ ?_;have w0:IntKind.u8.wrap 0=0:=by rfl
 have w1:IntKind.u8.wrap 1=1:=by rfl
 have w2:IntKind.u8.wrap 2=2:=by rfl
 have w3:IntKind.u8.wrap 3=3:=by rfl
 rcases hk with rfl|rfl|rfl|rfl;.simp[go_sem];refine mf ?_;grind[wX,zQ]
 .have h1:n=0\/n=1:=by grind[dw]
  simp[go_sem];refine zF ⟨zL b,by simp_all[zL];omega,zT rfl⟩ ?_;simp[go_sem];refine mf ?_;rcases h1 with rfl|rfl<;>simp[wX,h,zQ,w0,w1]
 .simp[go_sem];refine pC (xR0 n hn) ?_;simp[go_sem];refine zJ (F2 (NL (b++[2]) (gA n) (by grind) (NN hn))) cB ⟨qX (by grind[zQ]),zD rfl,tV⟩ rfl ?_;simp[go_sem];refine mf ?_;grind[wX]
 .simp[go_sem];refine zJ (F2 (xB1 (b++[3]) s (by grind) hs)) cB ⟨qX (by grind[zQ]),zD rfl,tV⟩ rfl ?_;simp[go_sem];refine mf ?_;grind[wX]
end Go.Proofs.YtefbicjgbaaieaaGreat.R
namespace Go.Proofs.YtefbicjgbaaieaaGreat.R
open Go Go.Vx Go.Proofs.Tryz
set_option maxRecDepth 100000
structure il (row:List bF):Prop where len:row.length<=20s:∀v∈row,v.s.length<=500ok:∀v∈row,v.ok
variable{i:Nat}{n:Nat}{e:Int}{U:St}{x:Nat}{g:Tag}
theorem xg0{v:bF}(hn:dq v.n)(h:v.s.length<=500):(wX v).length<=520:=by unfold wX;have h1:=Es (NN hn);have h2:=Es (v:=v.s.length) om;(repeat' split)<;>simp<;>omega
theorem Sz:∀{l:List bF},(∀v∈l,v.s.length<=500)->(∀v∈l,v.ok)->(l.flatMap wX).length<=520*l.length
 |[],_,_=>by simp|v::l,h,ho=>by have h1:=xg0 (ho v sm).n (h v sm);have h2:=Sz (l:=l) (λx hx=>h x (by simp[hx])) (λx hx=>ho x (by simp[hx]));simp only[Bu,Al,Af];omega
def pw (row:List bF)(i:Nat):aij:=eJ row.length++(row.take i).flatMap wX
def yK (row:List bF):aij:=pw row row.length
theorem Km{row:List bF}(h:il row)(i:Nat):(pw row i).length<=20000:=by
 have h1:=Es (v:=row.length) (by have:=h.len;omega);have h2:=Sz (l:=row.take i) (λv hv=>h.s v (C6 hv)) (λv hv=>h.ok v (C6 hv));have h3:=h.len;have h4:(row.take i).length<=row.length:=by simp;exact Nat.min_le_right _ _
 unfold pw;rw[Al];omega
theorem SA{row:List bF}(h:i<row.length):pw row (i+1)=pw row i++wX row[i]:=by unfold pw;rw[B3 h,ai9,Cb];simp
theorem SB (row:List bF)(h:il row):Pure prog 150 [.sl .ro (row.map bF.row)] (.str (yK row)):=by
 refine iV 0 func150 ntmps150 results150 λc hc hb=>?_;refine zA ?_;have hl:=h.len;have e1:IntKind.u64.wrap (row.length:Int)=(row.length:Int):=cC om om;simp[go_sem,e1];refine zJ (F2 (NM [] row.length dc om)) cB ⟨qX rfl,zD rfl,tV⟩ rfl ?_;simp[go_sem];refine zG (S:=Nat) [3,10,11,12] (λi=>[dO (pw row i),.sl .ro (row.map bF.row),.int .i64 row.length,.int .i64 i]) (λ_=>[]) (λi=>row.length-i) (λi=>i<=row.length) hc hb 0 (A3 _) ?_ ?_;.exact fg rfl (zK (by simp[go_sem,pw]) rfl)
 intro i hi;refine zA ?_;simp[go_sem];refine zO (λq=>?_) (λq=>?_);.have q:i<row.length:=sU q;obtain⟨v,hv⟩:=eX (row[i]);have hm:v∈row:=hv▸A7 q;simp[go_sem,q,hv];have h2:=Km h i;have h3:=h.s v hm;refine pC (xY0 (pw row i) v (h.ok v hm) (by unfold cu;omega) (by unfold cu;omega)) ?_;simp[go_sem,zR q om];refine zH (i+1) ⟨om,q,fg rfl (zK (by simp[go_sem,SA q,hv]) rfl)⟩
 .have q:i=row.length:=by have:¬i<row.length:=sU q;omega
  subst q;simp[go_sem,dO];refine zF (yY _) ?_;simp[go_sem,yx];exact wR
theorem xA6 (row:List bF)(h:il row):Pure prog 132 [.sl .ro (row.map bF.row)] (.str (yK row)):=by
 refine iV 0 func132 ntmps132 results132 λc hc hb=>?_;refine zA ?_;have hl:=h.len;have e1:IntKind.u64.wrap (row.length:Int)=(row.length:Int):=cC om om;simp[go_sem,e1];refine zJ (F2 (NL [] row.length dc om)) cB ⟨qX rfl,zD rfl,tV⟩ rfl ?_;simp[go_sem];refine zG (S:=Nat) [0,3,4] (λi=>[.sl .ro (row.map bF.row),dO (pw row i),.int .i64 i]) (λ_=>[]) (λi=>row.length-i) (λi=>i<=row.length) hc hb 0 (A3 _) ?_ ?_;.exact fg rfl (zK (by simp[go_sem,pw]) rfl)
 intro i hi;refine zA ?_;simp[go_sem];refine zO (λq=>?_) (λq=>?_);.have q:i<row.length:=sU q;obtain⟨v,hv⟩:=eX (row[i]);have hm:v∈row:=hv▸A7 q;simp[go_sem,q,hv];have h2:=Km h i;have h3:=h.s v hm;refine pC (xg7 (pw row i) v (h.ok v hm) (by unfold cu;omega) (by unfold cu;omega)) ?_;simp[go_sem,zR q om];refine zH (i+1) ⟨om,q,fg rfl (zK (by simp[go_sem,SA q,hv]) rfl)⟩
 .have q:i=row.length:=by have:¬i<row.length:=sU q;omega
  subst q;simp[go_sem,dO];refine zF (yY _) ?_;simp[go_sem,yx];exact wR
def xW:aij->Nat->Nat->Nat×Nat×Int |[],_,_=>(0,0,2)|c::rest,i,v=>if i=9/\1<c.toNat then(0,0,5)else if c.toNat<128then(if c.toNat=0/\0<i then(0,0,9)else(v+c.toNat%128*128^i,i+1,0))else xW rest (i+1) (v+c.toNat%128*128^i)
def sC (r:Nat×Nat×Int):V:=.cm [.int .u64 r.1,.int .i64 r.2.1,.int .i64 r.2.2]
theorem xb0:((List.range 256).all λm=>jX .andNot .u8 (m:Int) 128==((m%128:Nat):Int))=true:=by decide+kernel
theorem xC9 (c:UInt8):jX .andNot .u8 (c.toNat:Int) 128=((c.toNat%128:Nat):Int):=by have h:=Aj.1 xb0 c.toNat (D4.2 c.toNat_lt);exact beq_iff_eq.1 h
theorem wr4{m:Nat}(hm:m<18446744073709551616)(hn:n<18446744073709551616)(ho:m|||n<18446744073709551616):jX .or .u64 (m:Int) (n:Int)=((m|||n:Nat):Int):=by show IntKind.u64.wrap ((BitVec.ofInt 64 (m:Int)|||BitVec.ofInt 64 (n:Int)).toNat:Int)=_;rw[ai2,ai2,BitVec.toNat_or,ai4,ai4,Cr om,Cr om];exact cC om om
theorem SD (i:Nat):128^i=2^(7*i):=by rw[Nat.pow_mul]
theorem wp1{v:Nat}(hv:v<128^i):v|||(x*128^i)=v+x*128^i:=by rw[SD]at*;have:=Nat.shiftLeft_add_eq_or_of_lt hv x;rw[Nat.shiftLeft_eq]at this;rw[Nat.or_comm,<-this,Dx]
theorem wp4 (h:i<=8):128^i<=72057594037927936:=Nat.pow_le_pow_right (n:=128) om h
theorem Kn{v:Nat}(hv:v<128^i)(hx:x<128):v+x*128^i<128^(i+1):=by have:(x+1)*128^i<=128*128^i:=Ae _ om;rw[E0];rw[B0]at this;omega
theorem NO{v:Nat}(hv:v<128^i)(hx:x<128)(h9:i<=8\/i=9/\x<=1):v+x*128^i<18446744073709551616/\x*128^i<18446744073709551616:=by
 rcases h9 with h|⟨rfl,h⟩;.have h1:=Kn hv hx;have h2:128^(i+1)<=128^9:=Nat.pow_le_pow_right om om;omega
 .have:x=0\/x=1:=om;rcases this with rfl|rfl<;>omega
theorem sD{b:aij}(h:i<(zQ b).length):(zQ b)[i]=[.int .u8 (b[i]'(by rw[zL]at h;exact h)).toNat]:=by simp[zQ]
theorem NP (b:aij)(ah:b.length<=cu):Pure prog 147 [dO b] (sC (xW b 0 0)):=by
 refine iV 0 func147 ntmps147 results147 λc hc hb=>?_;refine zA ?_;simp[go_sem,dO,zL];refine zG (S:=Nat×Nat) [2,7,8,9] (λu=>[.int .u64 u.2,dO b,.int .i64 b.length,.int .i64 u.1]) (λ_=>[]) (λu=>b.length-u.1) (λu=>u.1<=b.length/\u.1<=9/\u.2<128^u.1/\xW (b.drop u.1) u.1 u.2=xW b 0 0) hc hb (0,0) ⟨A3 _,A3 _,dc,rfl⟩ ?_ ?_;.exact fg rfl (zK (by simp[go_sem,dO]) rfl)
 rintro⟨i,v⟩⟨hi,h9,hv,ht⟩;simp only at hi h9 hv ht;refine zA ?_;simp[go_sem,dO];refine zO (λq=>?_) (λq=>?_)
 .have q:i<b.length:=sU q;obtain⟨c0,ae⟩:∃c,b[i]=c:=⟨_,rfl⟩;rw[A2 q,ae,xW]at ht;have ak:c0.toNat<256:=c0.toNat_lt;have ei:IntKind.i64.wrap ((i:Int)+1)=((i+1:Nat):Int):=zR q (by unfold cu at ah;omega);have ret:∀(r:Nat×Nat×Int)(U:St),r=xW b 0 0->bW (some (sC r)) 0 (λr s=>r=sC (xW b 0 0)/\s=[]) U:=λr U h=>by subst h;exact wR
  by_cases hA:i=9/\1<c0.toNat
  .rw[ahP hA]at ht;simp[go_sem,zL,q,sD,ae];have f1:((i:Int)==9)=true:=by simp;omega
   refine yA (λw=>?_) (λw=>absurd (f1.symm.trans w) dc);simp[go_sem,w];refine zO (λw2=>?_) (λw2=>absurd w2 (by simp;omega));simp[go_sem];exact ret (0,0,5) _ ht
  rw[ahO hA]at ht;have ai:i<=8\/i=9/\c0.toNat%128<=1:=by
   by_cases h:i=9;.exact .inr ⟨h,by have:¬1<c0.toNat:=λw=>hA ⟨h,w⟩;omega⟩
   .exact .inl om
  have hx:c0.toNat%128<128:=Ci _ om;have n12:=NO hv hx ai;have fA:i=9->¬1<c0.toNat:=λh w=>hA ⟨h,w⟩;have a1:=xC9 c0;have e1:IntKind.i64.wrap (7*(i:Int))=7*(i:Int):=bR om om;have e2:IntKind.u64.wrap (7*(i:Int))=7*(i:Int):=cC om om;have e3:IntKind.u64.wrap ((c0.toNat:Int)%128)=(c0.toNat:Int)%128:=cC om om;obtain⟨x,ad⟩:∃x:Nat,x=c0.toNat%128*128^i:=⟨_,rfl⟩;obtain⟨m,af⟩:∃m:Nat,m=v+x:=⟨_,rfl⟩;have ag:m<128^(i+1):=by rw[af,ad];exact Kn hv hx
  have aj:v|||x=m:=by rw[af,ad];exact wp1 hv
  rw[<-ad,<-af]at ht n12;have e4:IntKind.u64.wrap ((c0.toNat:Int)%128*2^min (7*(i:Int)).toNat 64)=(x:Int):=by
   have:min (7*(i:Int)).toNat 64=7*i:=om;rw[this];have h3:(c0.toNat:Int)%128*2^(7*i)=(x:Int):=by rw[ad,SD];simp
   rw[h3,cC om om]
  have e5:jX .or .u64 (v:Int) (x:Int)=(m:Int):=by rw[wr4 om om om,aj]
  simp[go_sem,zL,q,sD,ae];refine yA (λw=>?_) (λw=>?_)
  .have w9:i=9:=by simp at w;omega
   have w1:=fA w9;simp[go_sem,w];refine zO (λw2=>absurd w2 (by simp;omega)) (λw2=>?_);simp[go_sem,a1,e1,e2,e3,e4];try(refine zF om ?_;simp[go_sem,e5])
   refine zO (λw3=>?_) (λw3=>?_)
   .have w4:¬c0.toNat<128:=by have:=ahV w3;omega
    have i8:i+1<=9:=om;rw[ahO w4]at ht;simp[go_sem,ei];exact zH (i+1,m) ⟨by simp only;omega,⟨q,i8,ag,ht⟩,fg rfl (zK (by simp[go_sem]) rfl)⟩
   .have w4:c0.toNat<128:=by have:=ahW w3;omega
    rw[ahP w4]at ht;simp[go_sem];refine yA (λw5=>?_) (λw5=>?_)
    .have aa:c0.toNat=0:=by simp at w5;omega
     simp[go_sem,w5];refine zO (λw6=>?_) (λw6=>?_);.have ab:0<i:=sU w6;rw[ahP ⟨aa,ab⟩]at ht;simp[go_sem];exact ret (0,0,9) _ ht
     .have ab:¬0<i:=sU w6;rw[ahO (λh=>ab h.2)]at ht;simp[go_sem,ei];exact ret (m,i+1,0) _ ht
    .have aa:¬c0.toNat=0:=by simp at w5;omega
     rw[ahO (λh=>aa h.1)]at ht;simp[go_sem,w5,ei];exact ret (m,i+1,0) _ ht
  .have w9:¬i=9:=by simp at w;omega
   simp[go_sem,w,a1,e1,e2,e3,e4];try(refine zF om ?_;simp[go_sem,e5])
   refine zO (λw3=>?_) (λw3=>?_)
   .have w4:¬c0.toNat<128:=by have:=ahV w3;omega
    have i8:i+1<=9:=om;rw[ahO w4]at ht;simp[go_sem,ei];exact zH (i+1,m) ⟨by simp only;omega,⟨q,i8,ag,ht⟩,fg rfl (zK (by simp[go_sem]) rfl)⟩
   .have w4:c0.toNat<128:=by have:=ahW w3;omega
    rw[ahP w4]at ht;simp[go_sem];refine yA (λw5=>?_) (λw5=>?_)
    .have aa:c0.toNat=0:=by simp at w5;omega
     simp[go_sem,w5];refine zO (λw6=>?_) (λw6=>?_);.have ab:0<i:=sU w6;rw[ahP ⟨aa,ab⟩]at ht;simp[go_sem];exact ret (0,0,9) _ ht
     .have ab:¬0<i:=sU w6;rw[ahO (λh=>ab h.2)]at ht;simp[go_sem,ei];exact ret (m,i+1,0) _ ht
    .have aa:¬c0.toNat=0:=by simp at w5;omega
     rw[ahO (λh=>aa h.1)]at ht;simp[go_sem,w5,ei];exact ret (m,i+1,0) _ ht
 .have q:i=b.length:=by have:¬i<b.length:=sU q;omega
  subst q;rw[B7,xW]at ht;simp[go_sem];rw[<-ht];exact wR
theorem NQ (b:aij)(ag:b.length<=cu):Pure prog 45 [dO b] (sC (xW b 0 0)):=by
 refine iV 0 func45 ntmps45 results45 λc hc hb=>?_;refine zA ?_;simp[go_sem,dO];refine zG (S:=Nat×Nat×Nat) [0,5,6,7] (λu=>[dO b,.int .u64 u.2.1,.int .u64 u.2.2,.int .i64 u.1]) (λ_=>[]) (λu=>b.length-u.1) (λu=>u.1<=b.length/\u.1<=9/\u.2.1<128^u.1/\u.2.2=128^u.1/\xW (b.drop u.1) u.1 u.2.1=xW b 0 0) hc hb (0,0,1) ⟨A3 _,A3 _,dc,rfl,rfl⟩ ?_ ?_;.exact fg rfl (zK (by simp[go_sem,dO]) rfl)
 rintro⟨i,v,p⟩⟨hi,h9,hv,hp,ht⟩;simp only at hi h9 hv hp ht;refine zA ?_;have f0:decide ((i:Int)<10)=true:=ahR om;simp[go_sem,dO];refine zO (λq0=>?_) (λq0=>absurd (f0.symm.trans q0) dc);simp[go_sem,zL];refine zO (λq=>?_) (λq=>?_)
 .have q:i=b.length:=by have:=ahV q;omega
  subst q;rw[B7,xW]at ht;simp[go_sem];rw[<-ht];exact wR
 .have q:i<b.length:=by have:=ahW q;omega
  obtain⟨c0,aa⟩:∃c,b[i]=c:=⟨_,rfl⟩;rw[A2 q,aa,xW]at ht;have ak:c0.toNat<256:=c0.toNat_lt;have ei:IntKind.i64.wrap ((i:Int)+1)=((i+1:Nat):Int):=zR q (by unfold cu at ag;omega);have ret:∀(r:Nat×Nat×Int)(U:St),r=xW b 0 0->bW (some (sC r)) 0 (λr s=>r=sC (xW b 0 0)/\s=[]) U:=λr U h=>by subst h;exact wR
  by_cases hA:i=9/\1<c0.toNat
  .rw[ahP hA]at ht;have f1:((i:Int)==9)=true:=by simp;omega
   simp[go_sem];refine yA (λw=>?_) (λw=>absurd (f1.symm.trans w) dc);simp[go_sem,w,zL,q,sD,aa];refine zO (λw2=>?_) (λw2=>absurd w2 (by simp;omega));simp[go_sem];exact ret (0,0,5) _ ht
  rw[ahO hA]at ht;have ah:i<=8\/i=9/\c0.toNat%128<=1:=by
   by_cases h:i=9;.exact .inr ⟨h,by have:¬1<c0.toNat:=λw=>hA ⟨h,w⟩;omega⟩
   .exact .inl om
  have hx:c0.toNat%128<128:=Ci _ om;have n12:=NO hv hx ah;have fA:i=9->¬1<c0.toNat:=λh w=>hA ⟨h,w⟩;obtain⟨x,ae⟩:∃x:Nat,x=c0.toNat%128*128^i:=⟨_,rfl⟩;obtain⟨m,af⟩:∃m:Nat,m=v+x:=⟨_,rfl⟩;have ai:m<128^(i+1):=by rw[af,ae];exact Kn hv hx
  rw[<-ae,<-af]at ht n12;have e0:(c0.toNat:Int).tmod 128=(c0.toNat:Int)%128:=D2 om;have e3:IntKind.u64.wrap ((c0.toNat:Int)%128)=(c0.toNat:Int)%128:=cC om om;have e4:IntKind.u64.wrap ((c0.toNat:Int)%128*(p:Int))=(x:Int):=by
   have h3:(c0.toNat:Int)%128*(p:Int)=(x:Int):=by rw[ae,hp];simp
   rw[h3,cC om om]
  have e5:IntKind.u64.wrap ((v:Int)+(x:Int))=(m:Int):=by rw[show(v:Int)+(x:Int)=(m:Int)by omega,cC om om]
  have e6:i≠9->IntKind.u64.wrap ((p:Int)*128)=((p*128:Nat):Int):=λh=>by have h1:128^i<=72057594037927936:=wp4 om;rw[cC om om];omega
  have aj:p*128=128^(i+1):=by rw[hp,E0]
  simp[go_sem];refine yA (λw=>?_) (λw=>?_)
  .have w9:i=9:=by simp at w;omega
   have w1:=fA w9;simp[go_sem,w,zL,q,sD,aa];refine zO (λw2=>absurd w2 (by simp;omega)) (λw2=>?_);simp[go_sem,zL,q,sD,aa,e0,e3,e4,e5];refine zO (λw3=>?_) (λw3=>?_)
   .have w4:c0.toNat<128:=by have:=ahV w3;omega
    rw[ahP w4]at ht;simp[go_sem,zL,q,sD,aa];refine yA (λw5=>?_) (λw5=>?_)
    .have ab:c0.toNat=0:=by simp at w5;omega
     simp[go_sem,w5];refine zO (λw6=>?_) (λw6=>?_);.have ad:0<i:=sU w6;rw[ahP ⟨ab,ad⟩]at ht;simp[go_sem];exact ret (0,0,9) _ ht
     .have ad:¬0<i:=sU w6;rw[ahO (λh=>ad h.2)]at ht;simp[go_sem,ei];exact ret (m,i+1,0) _ ht
    .have ab:¬c0.toNat=0:=by simp at w5;omega
     rw[ahO (λh=>ab h.1)]at ht;simp[go_sem,w5,ei];exact ret (m,i+1,0) _ ht
   .have w4:¬c0.toNat<128:=by have:=ahW w3;omega
    omega
  .have w9:¬i=9:=by simp at w;omega
   simp[go_sem,w,zL,q,sD,aa,e0,e3,e4,e5];refine zO (λw3=>?_) (λw3=>?_)
   .have w4:c0.toNat<128:=by have:=ahV w3;omega
    rw[ahP w4]at ht;simp[go_sem,zL,q,sD,aa];refine yA (λw5=>?_) (λw5=>?_)
    .have ab:c0.toNat=0:=by simp at w5;omega
     simp[go_sem,w5];refine zO (λw6=>?_) (λw6=>?_);.have ad:0<i:=sU w6;rw[ahP ⟨ab,ad⟩]at ht;simp[go_sem];exact ret (0,0,9) _ ht
     .have ad:¬0<i:=sU w6;rw[ahO (λh=>ad h.2)]at ht;simp[go_sem,ei];exact ret (m,i+1,0) _ ht
    .have ab:¬c0.toNat=0:=by simp at w5;omega
     rw[ahO (λh=>ab h.1)]at ht;simp[go_sem,w5,ei];exact ret (m,i+1,0) _ ht
   .have w4:¬c0.toNat<128:=by have:=ahW w3;omega
    have i8:i+1<=9:=om;have e7:=e6 w9;rw[ahO w4]at ht;simp[go_sem];exact zH (i+1,m,p*128) ⟨by simp only;omega,⟨q,i8,ai,aj,ht⟩,fg rfl (zK (by simp[go_sem,ei,e7]) rfl)⟩
theorem xf:∀(l:aij)(i v:Nat),(xW l i v).2.2=0->(xW l i v).2.1<=i+l.length
 |[],i,v,h=>by simp[xW]at h|c::rest,i,v,h=>by
  unfold xW at h⊢;split;.simp_all
  .rename_i h1;rw[ahO h1]at h;split
   .rename_i h2;rw[ahP h2]at h;split;.rename_i h3;rw[ahP h3]at h;simp at h
    .simp
   .rename_i h2;rw[ahO h2]at h;have:=xf rest (i+1) _ h;simp only[Af];omega
def yP (b:aij)(r:Nat×Nat×Int):aij×Nat×Int:=if r.2.2≠0then([],0,r.2.2)else if 1048576<r.1then([],0,3)else if b.length-r.2.1<r.1then([],0,2)else((b.take (r.2.1+r.1)).drop r.2.1,r.2.1+r.1,0)
def px (b:aij):aij×Nat×Int:=yP b (xW b 0 0)
def F5 (r:aij×Nat×Int):V:=.cm [dO r.1,.int .i64 r.2.1,.int .i64 r.2.2]
theorem BC{r:aij×Nat×Int}{rows:List (List V)}(h1:zQ r.1=rows)(h2:r.2.1=n)(h3:r.2.2=e):bW (some (.cm [.sl g rows,.int .i64 n,.int .i64 e])) 0 (λv s=>v=F5 r/\s=[]) U:=by subst h1 h2 h3;have h:cR (cO [] U.length) (F5 r) (.cm [.sl g (zQ r.1),.int .i64 r.2.1,.int .i64 r.2.2]):=yJ ⟨lJ,xJ rfl,xJ rfl,tV⟩;exact zV h ⟨rfl,rfl⟩
theorem xa9 (b:aij)(ab:b.length<=cu):Pure prog 222 [dO b] (F5 (px b)):=by
 have hle:=xf b 0 0;have aa:=NP b ab;unfold px;revert hle aa;generalize xW b 0 0=r;obtain⟨n,k,e⟩:=r;intro hle aa;simp only at hle;refine iW 0 func222 ntmps222 results222 λc hc hb=>zM ?_;simp[go_sem];refine pC aa ?_;simp[go_sem,sC];refine zO (λh=>?_) (λh=>?_);.have h:e≠0:=sU h;simp[go_sem];exact BC (by simp[yP,h,zQ]) (by simp[yP,h]) (by simp[yP,h])
 have h:e=0:=sU h;have hk:=hle h;have e1:IntKind.i64.wrap ((b.length:Int)-(k:Int))=((b.length-k:Nat):Int):=by rw[bR (by unfold cu at*;omega) (by unfold cu at*;omega)];omega
 have e2:IntKind.u64.wrap ((b.length-k:Nat):Int)=((b.length-k:Nat):Int):=cC om (by unfold cu at*;omega);simp[go_sem];refine zO (λh2=>?_) (λh2=>?_)
 .have h2:1048576<n:=by have:=ahV h2;omega
  simp[go_sem];exact BC (by simp[yP,h,h2,zQ]) (by simp[yP,h,h2]) (by simp[yP,h,h2])
 have h2:¬1048576<n:=by have:=ahW h2;omega
 simp[go_sem,dO,zL,e1,e2];refine zO (λh3=>?_) (λh3=>?_)
 .have h3:b.length-k<n:=by have:=ahV h3;omega
  simp[go_sem];exact BC (by simp[yP,h,h2,h3,zQ]) (by simp[yP,h,h2,h3]) (by simp[yP,h,h2,h3])
 have h3:¬b.length-k<n:=by have:=ahW h3;omega
 have e3:IntKind.i64.wrap (n:Int)=(n:Int):=bR om om;have e4:IntKind.i64.wrap ((k:Int)+(n:Int))=((k+n:Nat):Int):=by rw[bR (by unfold cu at*;omega) (by unfold cu at*;omega)];omega
 simp[go_sem,zL,e3,e4];refine zF ⟨om,om,xN b⟩ ?_;have e5:((k:Int)+(n:Int)).toNat=k+n:=om;have hlen:((b.take (k+n)).drop k).length<=cu:=by simp;omega
 simp[go_sem,e5];refine FG (NK ((b.take (k+n)).drop k) 0 hlen dc) cB ⟨qX (by simp[zQ,List.map_take]),zD rfl,tV⟩ ?_;rintro r s⟨rfl,rfl⟩;simp[go_sem,mP,mQ];exact BC (by simp[yP,h,h2,h3]) (by simp[yP,h,h2,h3]) (by simp[yP,h,h2,h3])
theorem yu9 (b:aij)(ae:b.length<=cu):Pure prog 97 [dO b] (F5 (px b)):=by
 have hle:=xf b 0 0;have ab:=NQ b ae;unfold px;revert hle ab;generalize xW b 0 0=r;obtain⟨n,k,e⟩:=r;intro hle ab;simp only at hle;refine iW 0 func97 ntmps97 results97 λc hc hb=>zM ?_;simp[go_sem];refine pC ab ?_;simp[go_sem,sC];refine zO (λh=>?_) (λh=>?_);.have h:e≠0:=sU h;simp[go_sem];exact BC (by simp[yP,h,zQ]) (by simp[yP,h]) (by simp[yP,h])
 have h:e=0:=sU h;have hk:=hle h;have e1:IntKind.i64.wrap ((b.length:Int)-(k:Int))=((b.length-k:Nat):Int):=by rw[bR (by unfold cu at*;omega) (by unfold cu at*;omega)];omega
 simp[go_sem];refine zO (λh2=>?_) (λh2=>?_)
 .have h2:1048576<n:=by have:=ahV h2;omega
  simp[go_sem];exact BC (by simp[yP,h,h2,zQ]) (by simp[yP,h,h2]) (by simp[yP,h,h2])
 have h2:¬1048576<n:=by have:=ahW h2;omega
 have e3:IntKind.i64.wrap (n:Int)=(n:Int):=bR om om;simp[go_sem,dO,zL,e1,e3];refine zO (λh3=>?_) (λh3=>?_)
 .have h3:b.length-k<n:=by have:=ahV h3;omega
  simp[go_sem];exact BC (by simp[yP,h,h2,h3,zQ]) (by simp[yP,h,h2,h3]) (by simp[yP,h,h2,h3])
 have h3:¬b.length-k<n:=by have:=ahW h3;omega
 have e4:IntKind.i64.wrap ((k:Int)+(n:Int))=((k+n:Nat):Int):=by rw[bR (by unfold cu at*;omega) (by unfold cu at*;omega)];omega
 have e5:((k:Int)+(n:Int)).toNat=k+n:=om;have hlen:((b.take (k+n)).drop k).length<=cu:=by simp;omega
 have ad:(zQ b).take (k+n)=zQ (b.take (k+n)):=by simp[zQ,List.map_take]
 have aa:(zQ (b.take (k+n))).drop k=zQ ((b.take (k+n)).drop k):=by simp[zQ]
 simp[go_sem,zL,e3,e4];refine zF ⟨om,om,xN b⟩ ?_;simp[go_sem,e5,ad,aa,zL];refine zF ⟨by have:=Nat.min_le_right (k+n) b.length;unfold cu at*;omega,by simp[eM],xN _⟩ ?_;simp[go_sem,e3,e4];exact BC (by simp[yP,h,h2,h3]) (by simp[yP,h,h2,h3]) (by simp[yP,h,h2,h3])
def ju (u:Nat):Int:=if u%2=0then((u/2:Nat):Int)else-((u/2:Nat):Int)-1
theorem xQ9 (u:Nat)(hu:u<18446744073709551616):Pure prog 96 [.int .u64 u] (.int .i64 (ju u)):=by
 have e0:(u:Int).tmod 2=(u:Int)%2:=D2 om;have e1:(u:Int).tdiv 2=(u:Int)/2:=D1 om;have e2:IntKind.u64.wrap ((u:Int)/2)=(u:Int)/2:=cC om om;have e3:IntKind.i64.wrap ((u:Int)/2)=(u:Int)/2:=bR om om;have e4:IntKind.i64.wrap (-((u:Int)/2))=-((u:Int)/2):=bR om om;have e5:IntKind.i64.wrap (-((u:Int)/2)-1)=-((u:Int)/2)-1:=bR om om;refine iW 0 func96 ntmps96 results96 λc hc hb=>zM ?_;simp[go_sem,e0];refine zO (λh=>?_) (λh=>?_)
 .have h:u%2=0:=by have:(u:Int)%2=0:=sU h;omega
  simp[go_sem,e1,e2,e3];exact zV (zD rfl) ⟨by simp[ju,h],rfl⟩
 .have h:¬u%2=0:=by have:¬(u:Int)%2=0:=sU h;omega
  simp[go_sem,e1,e2,e3,e4,e5];exact zV (zD rfl) ⟨by simp[ju,h],rfl⟩
structure gM where
 v:bF
 n:Nat
 e:Int
def gM.V (r:gM):V:=.cm [.agg r.v.row,.int .i64 r.n,.int .i64 r.e]
def v0:bF:=⟨0,0,[]⟩
def pz (b:aij):gM:=if b.length<2then⟨v0,0,2⟩else if 1<(b.getD 1 0).toNat then⟨v0,0,9⟩else⟨⟨1,(b.getD 1 0).toNat,[]⟩,2,0⟩
theorem xL{r:gM}{k m:Int}{s:aij}(h:r=⟨⟨k,m,s⟩,n,e⟩):bW (some (.cm [.agg [.int .i64 k,.int .i64 m,.str s],.int .i64 n,.int .i64 e])) 0 (λv s=>v=r.V/\s=[]) U:=by subst h;exact wR
theorem xj1 (b:aij)(_:b.length<=cu):Pure prog 220 [dO b] (pz b).V:=by
 refine iW 0 func220 ntmps220 results220 λc hc hb=>zM ?_;simp[go_sem,dO,zL];refine zO (λh=>?_) (λh=>?_)
 .have h:b.length<2:=by have:=ahV h;omega
  simp[go_sem];exact xL (n:=0) (by simp[pz,h,v0])
 have h:¬b.length<2:=by have:=ahW h;omega
 have h1:1<b.length:=om;obtain⟨c0,aa⟩:∃c,b[1]=c:=⟨_,rfl⟩;have ab:b.getD 1 0=c0:=by rw[A9,A0 h1,aa];rfl
 have e1:IntKind.i64.wrap (c0.toNat:Int)=(c0.toNat:Int):=bR om (by have:=c0.toNat_lt;omega);simp[go_sem,zL,h1,sD,aa];refine zF om ?_;simp[go_sem];refine zO (λh2=>?_) (λh2=>?_)
 .have h2:1<c0.toNat:=by have:=ahV h2;omega
  simp[go_sem];exact xL (n:=0) (by simp only[pz,ab];rw[ahO h,ahP h2];rfl)
 .have h2:¬1<c0.toNat:=by have:=ahW h2;omega
  simp[go_sem,zL,h1,sD,aa];refine zF om ?_;simp[go_sem,e1];exact xL (n:=2) (by simp only[pz,ab];rw[ahO h,ahO h2])
theorem ws1{x:Int}(h:0<=x)(h2:x<=9223372036854775807):jX .xor .i64 x 0=x:=by obtain⟨m,rfl⟩:=Ds h;show IntKind.i64.wrap ((BitVec.ofInt 64 (m:Int)^^^BitVec.ofInt 64 0).toNat:Int)=m;have e:BitVec.ofInt 64 (0:Int)=0#64:=rfl;rw[e,BitVec.xor_zero,ai2,ai4,Cr om];exact bR om om
theorem ws2{x:Int}(h:0<=x)(h2:x<=9223372036854775807):jX .xor .i64 x (-1)=-x-1:=by
 obtain⟨m,rfl⟩:=Ds h;show IntKind.i64.wrap ((BitVec.ofInt 64 (m:Int)^^^BitVec.ofInt 64 (-1)).toNat:Int)=_;have e:BitVec.ofInt 64 (-1:Int)=BitVec.allOnes 64:=by decide+kernel
 rw[e,BitVec.xor_allOnes,ai2,BitVec.toNat_not,ai4,Cr om];rw[IntKind.wrap_i64];omega
theorem wt1{m:Nat}(h:m<18446744073709551616):jX .and .u64 (m:Int) 1=(m:Int)%2:=by show IntKind.u64.wrap ((BitVec.ofInt 64 (m:Int)&&&BitVec.ofInt 64 1).toNat:Int)=_;have e:BitVec.ofInt 64 (1:Int)=1#64:=rfl;rw[e,ai2,BitVec.toNat_and,ai4,Cr om];have e2:m&&&(1#64).toNat=m%2:=Nat.and_one_is_mod m;rw[e2,cC om om];omega
theorem ws9 (u:Nat)(hu:u<18446744073709551616):Pure prog 221 [.int .u64 u] (.int .i64 (ju u)):=by
 have e0:=wt1 hu;have e1:(u:Int).fdiv 2=(u:Int)/2:=Int.fdiv_eq_ediv_of_nonneg _ om;have e3:IntKind.i64.wrap ((u:Int)/2)=(u:Int)/2:=bR om om;have e4:IntKind.i64.wrap ((u:Int)%2)=(u:Int)%2:=bR om om;have e5:IntKind.i64.wrap (-((u:Int)%2))=-((u:Int)%2):=bR om om;have e6:jX .xor .i64 ((u:Int)/2) (-((u:Int)%2))=ju u:=by
  unfold ju;by_cases h:u%2=0;.rw[ahP h,show-((u:Int)%2)=0 by omega,ws1 om om];omega
  .rw[ahO h,show-((u:Int)%2)=-1by omega,ws2 om om];omega
 refine iW 0 func221 ntmps221 results221 λc hc hb=>zM ?_;simp[go_sem,e0,e1,e3,e4,e5,e6];exact wR
theorem F6:∀(l:aij)(i v:Nat),v<128^i->i<=9->(xW l i v).1<18446744073709551616
 |[],i,v,_,_=>by simp[xW]|c::rest,i,v,hv,h9=>by
  have hc:=c.toNat_lt;unfold xW;split;.simp
  .rename_i h1;have aa:i<=8\/i=9/\c.toNat%128<=1:=by
    by_cases h:i=9;.exact .inr ⟨h,by have:¬1<c.toNat:=λw=>h1 ⟨h,w⟩;omega⟩
    .exact .inl om
   have hx:c.toNat%128<128:=Ci _ om;have n12:=NO hv hx aa;split
   .split;.simp
    .exact n12.1
   .rename_i h2;refine F6 rest (i+1) _ (Kn hv hx) ?_;rcases aa with h|h;.omega
    .exfalso;have:¬1<c.toNat:=λw=>h1 ⟨h.1,w⟩;omega
def jh (k:Nat)(tb:gM)(r:Nat×Nat×Int)(t:aij×Nat×Int):gM:=if k=0then⟨v0,1,0⟩else if k=1then tb else if k=2then(if r.2.2≠0then⟨v0,0,r.2.2⟩else⟨⟨2,ju r.1,[]⟩,1+r.2.1,0⟩)else if k=3then(if t.2.2≠0then⟨v0,0,t.2.2⟩else if 64<t.1.length then⟨v0,0,3⟩else⟨⟨3,0,t.1⟩,1+t.2.1,0⟩)else⟨v0,0,9⟩
def kJ:aij->gM |[]=>⟨v0,0,2⟩|c::rest=>jh c.toNat (pz (c::rest)) (xW rest 0 0) (px rest)
theorem NR (b:aij):(px b).2.1<=b.length/\((px b).2.2=0->(px b).1.length<=b.length):=by
 have hle:=xf b 0 0;unfold px yP;revert hle;generalize xW b 0 0=r;obtain⟨n,k,e⟩:=r;intro hle;simp only at hle⊢;split;.simp
 .rename_i h;have h:e=0:=Decidable.not_not.1 h;have hk:=hle h;split;.simp
  .split;.simp
   .refine⟨?_,λ_=>?_⟩;.simp only;omega
    .simp;omega
theorem wk8 (b:aij)(ah:b.length<=cu):Pure prog 148 [dO b] (kJ b).V:=by cases b with |nil=>refine iW 0 func148 ntmps148 results148 λc hc hb=>zM ?_;simp[go_sem,dO,zQ];exact xL (n:=0) rfl|cons c0 rest=>
  have hc:=c0.toNat_lt;have hr:rest.length<=cu:=by simp only[Af]at ah;omega
  have ab:=F6 rest 0 0 dc dc;have hle:=xf rest 0 0;have ad:=NP rest hr;have ae:=xa9 rest hr;have af:=NR rest;have ag:=xj1 (c0::rest) ah;have e1:IntKind.i64.wrap (c0.toNat:Int)=(c0.toNat:Int):=bR om om;have aa:zQ (c0::rest)=[.int .u8 c0.toNat]::zQ rest:=rfl;rw[kJ];revert ab hle ad ae ag af;generalize xW rest 0 0=r;generalize px rest=t;generalize pz (c0::rest)=tb;obtain⟨n,k,e⟩:=r;obtain⟨tx,tk,te⟩:=t;obtain⟨⟨bk,bn,bs⟩,bm,be⟩:=tb;obtain⟨q,hq⟩:=eX c0.toNat;intro ab hle ad ae af ag;simp only at ab hle af;rw[hq]at hc e1 aa⊢;have e2:e=0->IntKind.i64.wrap (1+(k:Int))=((1+k:Nat):Int):=λh=>by have:=hle h;rw[bR om (by unfold cu at*;omega)];omega
  have e3:IntKind.i64.wrap (1+(tk:Int))=((1+tk:Nat):Int):=by rw[bR om (by unfold cu at*;omega)];omega
  have e4:(zQ rest).take rest.length=zQ rest:=Ac (by rw[zL];omega);have hu:eM 1 ([V.int .u8 (q:Int)]::zQ rest):=aa▸xN (c0::rest);refine iW 0 func148 ntmps148 results148 λc hc hb=>zM ?_;simp[go_sem,dO,aa,zL];refine zO (λw=>absurd w (by simp;omega)) (λw=>?_);simp[go_sem,zL,e1];refine zO (λw1=>?_) (λw1=>?_)
  .have w1:q=0:=by simp at w1;omega
   simp[go_sem];exact xL (n:=1) (by simp[jh,w1,v0])
  have w1:¬q=0:=by simp at w1;omega
  simp[go_sem];refine zO (λw2=>?_) (λw2=>?_)
  .have w2:q=1:=by simp at w2;omega
   simp[go_sem];refine zJ ag cB (zK (by simp[dO,aa]) rfl) rfl ?_;simp[go_sem,gM.V];exact xL (n:=bm) (by simp[jh,w2])
  have w2:¬q=1:=by simp at w2;omega
  simp[go_sem];refine zO (λw3=>?_) (λw3=>?_)
  .have w3:q=2:=by simp at w3;omega
   simp[go_sem,zL];refine zF ⟨om,hu⟩ ?_;simp[go_sem,e4];refine pC ad ?_;simp[go_sem,sC];refine zO (λw4=>?_) (λw4=>?_);.have w4:e≠0:=sU w4;simp[go_sem];exact xL (n:=0) (by simp[jh,w3,w4,v0])
   have w4:e=0:=sU w4;have e5:=e2 w4;simp[go_sem];refine pC (ws9 n ab) ?_;simp[go_sem,e5];exact xL (n:=1+k) (by simp[jh,w3,w4])
  have w3:¬q=2:=by simp at w3;omega
  simp[go_sem];refine zO (λw4=>?_) (λw4=>?_)
  .have w4:q=3:=by simp at w4;omega
   simp[go_sem,zL];refine zF ⟨om,hu⟩ ?_;simp[go_sem,e4];refine pC ae ?_;simp[go_sem,F5,dO];refine zO (λw5=>?_) (λw5=>?_);.have w5:te≠0:=sU w5;simp[go_sem];exact xL (n:=0) (by simp[jh,w4,w5,v0])
   have w5:te=0:=sU w5;simp[go_sem,zL];refine zO (λw6=>?_) (λw6=>?_)
   .have w6:64<tx.length:=by have:=ahV w6;omega
    simp[go_sem];exact xL (n:=0) (by simp[jh,w4,w5,w6,v0])
   have w6:¬64<tx.length:=by have:=ahW w6;omega
   simp[go_sem];refine zF (yY _) ?_;simp[go_sem,e3,yx];exact xL (n:=1+tk) (by simp[jh,w4,w5,w6])
  have w4:¬q=3:=by simp at w4;omega
  simp[go_sem];exact xL (n:=0) (by simp[jh,w1,w2,w3,w4,v0])
theorem yI9 (c0:UInt8)(rest:aij)(_:(c0::rest).length<=cu)(ad:c0.toNat<=1):Pure prog 95 [dO (c0::rest)] (jh c0.toNat (pz (c0::rest)) (xW rest 0 0) (px rest)).V:=by
 have aa:zQ (c0::rest)=[.int .u8 c0.toNat]::zQ rest:=rfl;have hl:(c0::rest).length=rest.length+1:=rfl;obtain⟨q,hq⟩:=eX c0.toNat;rw[hq]at aa ad⊢;refine iW 0 func95 ntmps95 results95 λc hc hb=>zM ?_;simp[go_sem,dO,aa,zL];refine zO (λw=>absurd w (by simp;omega)) (λw=>?_);simp[go_sem,zL];refine zO (λw1=>?_) (λw1=>?_)
 .have w1:q=0:=by simp at w1;omega
  simp[go_sem];exact xL (n:=1) (by simp[jh,w1,v0])
 have w1:¬q=0:=by simp at w1;omega
 have ab:q=1:=om;simp[go_sem];refine zO (λw2=>?_) (λw2=>absurd w2 (by simp;omega));simp[go_sem,zL];refine zO (λh=>?_) (λh=>?_)
 .have h:(c0::rest).length<2:=by have:=ahV h;omega
  simp[go_sem];exact xL (n:=0) (by simp only[jh,ab,pz];rw[ahP h];rfl)
 have h:¬(c0::rest).length<2:=by have:=ahW h;omega
 have h1:0<rest.length:=om;have e9:∀x:UInt8,IntKind.i64.wrap (x.toNat:Int)=(x.toNat:Int):=λx=>bR om (by have:=x.toNat_lt;omega);have hg:(c0::rest).getD 1 0=rest[0]:=by rw[List.getD_cons_succ,A9,A0 h1];rfl
 simp[go_sem,zL,h1,sD];try(refine zF om ?_;simp[go_sem])
 refine zO (λh2=>?_) (λh2=>?_)
 .have h2:1<(rest[0]).toNat:=by have:=ahV h2;omega
  simp[go_sem];exact xL (n:=0) (by simp only[jh,ab,pz,hg];rw[ahO h,ahP h2];rfl)
 have h2:¬1<(rest[0]).toNat:=by have:=ahW h2;omega
 simp[go_sem,zL,h1,sD];try(refine zF om ?_;simp[go_sem,e9])
 exact xL (n:=2) (by simp only[jh,ab,pz,hg];rw[ahO h,ahO h2];rfl)
theorem xB0 (b:aij)(ai:b.length<=cu):Pure prog 46 [dO b] (kJ b).V:=by cases b with |nil=>refine iW 0 func46 ntmps46 results46 λc hc hb=>zM ?_;simp[go_sem,dO,zQ];exact xL (n:=0) rfl|cons c0 rest=>
  have hc:=c0.toNat_lt;have hr:rest.length<=cu:=by simp only[Af]at ai;omega
  have ae:=F6 rest 0 0 dc dc;have hle:=xf rest 0 0;have af:=NQ rest hr;have ag:=yu9 rest hr;have ah:=NR rest;have ad:=yI9 c0 rest ai;have e1:IntKind.i64.wrap (c0.toNat:Int)=(c0.toNat:Int):=bR om om;have aa:zQ (c0::rest)=[.int .u8 c0.toNat]::zQ rest:=rfl;rw[kJ];revert ae hle af ag ad ah;generalize xW rest 0 0=r;generalize px rest=t;generalize pz (c0::rest)=tb;obtain⟨n,k,e⟩:=r;obtain⟨tx,tk,te⟩:=t;obtain⟨⟨bk,bn,bs⟩,bm,be⟩:=tb;obtain⟨q,hq⟩:=eX c0.toNat;intro ae hle af ag ah ad;simp only at ae hle ah;rw[hq]at hc e1 aa ad⊢;have e2:e=0->IntKind.i64.wrap ((k:Int)+1)=((1+k:Nat):Int):=λh=>by have:=hle h;rw[bR om (by unfold cu at*;omega)];omega
  have e3:IntKind.i64.wrap ((tk:Int)+1)=((1+tk:Nat):Int):=by rw[bR om (by unfold cu at*;omega)];omega
  have e4:(zQ rest).take rest.length=zQ rest:=Ac (by rw[zL];omega);have hu:eM 1 ([V.int .u8 (q:Int)]::zQ rest):=aa▸xN (c0::rest);refine iW 0 func46 ntmps46 results46 λc hc hb=>zM ?_;simp[go_sem,dO,aa,zL];refine zO (λw=>absurd w (by simp;omega)) (λw=>?_);simp[go_sem,zL];refine zO (λaj=>?_) (λw1=>?_)
  .have w1:q=0:=by simp at aj;omega
   simp[go_sem];refine zO (λak=>?_) (λak=>absurd (aj.symm.trans ak) dc);simp[go_sem];have e9:jh q ⟨⟨bk,bn,bs⟩,bm,be⟩ (n,k,e) (tx,tk,te)=⟨v0,1,0⟩:=by simp[jh,w1]
   have ab:=ad om;rw[e9]at ab;refine zJ ab cB (zK (by simp[dO,aa]) rfl) rfl ?_;simp[go_sem,gM.V,v0];exact xL (n:=1) (by rw[e9];rfl)
  have w1:¬q=0:=by simp at w1;omega
  simp[go_sem];refine zO (λw2=>?_) (λw2=>?_)
  .have w2:q=1:=by simp at w2;omega
   simp[go_sem];have e9:jh q ⟨⟨bk,bn,bs⟩,bm,be⟩ (n,k,e) (tx,tk,te)=⟨⟨bk,bn,bs⟩,bm,be⟩:=by simp[jh,w2]
   have ab:=ad om;rw[e9]at ab;refine zJ ab cB (zK (by simp[dO,aa]) rfl) rfl ?_;simp[go_sem,gM.V];exact xL (n:=bm) (by rw[e9])
  have w2:¬q=1:=by simp at w2;omega
  simp[go_sem];refine zO (λw3=>?_) (λw3=>?_)
  .have w3:q=2:=by simp at w3;omega
   simp[go_sem,zL];refine zF ⟨om,hu⟩ ?_;simp[go_sem,e4];refine pC af ?_;simp[go_sem,sC];refine zO (λw4=>?_) (λw4=>?_);.have w4:e≠0:=sU w4;simp[go_sem];exact xL (n:=0) (by simp[jh,w3,w4,v0])
   have w4:e=0:=sU w4;have e5:=e2 w4;simp[go_sem];refine pC (xQ9 n ae) ?_;simp[go_sem,e5];exact xL (n:=1+k) (by simp[jh,w3,w4])
  have w3:¬q=2:=by simp at w3;omega
  simp[go_sem];refine zO (λw4=>?_) (λw4=>?_)
  .have w4:q=3:=by simp at w4;omega
   simp[go_sem,zL];refine zF ⟨om,hu⟩ ?_;simp[go_sem,e4];refine pC ag ?_;simp[go_sem,F5,dO];refine zO (λw5=>?_) (λw5=>?_);.have w5:te≠0:=sU w5;simp[go_sem];exact xL (n:=0) (by simp[jh,w4,w5,v0])
   have w5:te=0:=sU w5;simp[go_sem,zL];refine zO (λw6=>?_) (λw6=>?_)
   .have w6:64<tx.length:=by have:=ahV w6;omega
    simp[go_sem];exact xL (n:=0) (by simp[jh,w4,w5,w6,v0])
   have w6:¬64<tx.length:=by have:=ahW w6;omega
   simp[go_sem];refine zF (yY _) ?_;simp[go_sem,e3,yx];exact xL (n:=1+tk) (by simp[jh,w4,w5,w6])
  have w4:¬q=3:=by simp at w4;omega
  simp[go_sem];exact xL (n:=0) (by simp[jh,w1,w2,w3,w4,v0])
theorem js (aa dK:List (List V))(t:Int):Pure prog 146 [.agg [.sl .ro aa,.sl .ro dK],.int .i64 t] (.bool (decide (0<=t)&&decide (t<dK.length))):=by
 refine iW 0 func146 ntmps146 results146 λc hc hb=>zM ?_;simp[go_sem];repeat'(first|(refine yA (λq=>?_) (λq=>?_)<;>simp[go_sem,q])|(refine zO (λq=>?_) (λq=>?_)<;>simp[go_sem,q]))
 all_goals exact zV (zD rfl) ⟨by simp_all,rfl⟩
theorem HP (aa dK:List (List V))(t:Int):Pure prog 44 [.agg [.sl .ro aa,.sl .ro dK],.int .i64 t] (.bool (decide (0<=t)&&decide (t<dK.length))):=by
 refine iW 0 func44 ntmps44 results44 λc hc hb=>zM ?_;simp[go_sem];repeat'(first|(refine yA (λq=>?_) (λq=>?_)<;>simp[go_sem,q])|(refine zO (λq=>?_) (λq=>?_)<;>simp[go_sem,q]))
 all_goals exact zV (zD rfl) ⟨by simp_all,rfl⟩
theorem SF (b:aij):(kJ b).e=0->(kJ b).n<=b.length:=by cases b<;>grind[kJ,xf,NR,jh,pz]
def fX:Nat->aij->Option (List bF) |0,b=>if b=[]then some []else none|n+1,b=>if(kJ b).e=0then(fX n (b.drop (kJ b).n)).map ((kJ b).v::·)else none
def rD (o:Option (List bF)):List bF×Int:=match o with|some l=>(l,0)|none=>([],9)
def iU (nc:Nat)(data:aij):List bF×Int:=if(xW data 0 0).2.2=0/\(xW data 0 0).1=nc then rD (fX nc (data.drop (xW data 0 0).2.1))else([],9)
def eO (ts:List bH)(table:Int)(data:aij):List bF×Int:=if h:0<=table/\table<ts.length then iU (ts[table.toNat]'om).bP.length data else([],1)
theorem NS (b:aij)(k:Nat):List.drop k (List.take b.length (zQ b))=zQ (b.drop k):=by simp[Ac,zQ]
def jv (r:List bF×Int):V:=.cm [.sl .ro (r.1.map bF.row),.int .i64 r.2]
theorem NT{r:List bF×Int}{l:List bF}(h:r=(l,e)):bW (some (.cm [.sl g (l.map bF.row),.int .i64 e])) 0 (λv s=>v=jv r/\s=[]) U:=by subst h;exact zV (r:=jv (l,e)) (yJ (gP:=[.sl .ro (l.map bF.row),.int .i64 e]) ⟨lJ,xJ rfl,tV⟩) sm
theorem BD{r:List bF×Int}(h:r=([],e)):bW (some (.cm [.sl g [],.int .i64 e])) 0 (λv s=>v=jv r/\s=[]) U:=NT (l:=[]) h
theorem SG (ab:List (List V))(ts:List bH)(table:Int)(data:aij)(hd:data.length<=cu)(ak:∀t∈ts,t.bP.length<=cu):Pure prog 87 [.agg [.sl .ro ab,.sl .ro (ts.map bH.row)],.int .i64 table,.str data] (jv (eO ts table data)):=by
 have af:=F6 data 0 0 dc dc;have hle:=xf data 0 0;have ag:=NP data hd;by_cases ht:0<=table/\table<ts.length
 .obtain⟨j,rfl⟩:∃j:Nat,table=j:=⟨table.toNat,om⟩;have hj:j<ts.length:=om;obtain⟨t,aj⟩:=eX (ts[j]);have al:=ak t (aj▸A7 hj);have hF:eO ts j data=iU t.bP.length data:=by simp_all[eO]
  rw[hF];unfold iU;revert af hle ag;generalize xW data 0 0=r;obtain⟨n,k,e⟩:=r;intro af hle ag;simp only at af hle⊢;obtain⟨nc,ae⟩:=eX t.bP.length;rw[ae]at al⊢;have eu:IntKind.u64.wrap (nc:Int)=nc:=cC om (by grind);refine iV 0 func87 ntmps87 results87 λc hc hb=>?_;refine zA ?_;simp[go_sem];refine pC (js ab (ts.map bH.row) j) ?_;simp[go_sem,hj];refine zJ ag cB (zK (by rfl) rfl) rfl ?_;simp[go_sem,sC];have bad:∀U:St,¬(e=0/\n=nc)->bW (some (.cm [.sl .full [],.int .i64 9])) 0 (λv s=>v=jv (if e=0/\n=nc then rD (fX nc (data.drop k))else([],9))/\s=[]) U:=λU h=>BD (by grind);refine yA (λah=>?_) (λah=>?_)
  .have q1:e=0:=by grind
   simp[go_sem,ah,hj,aj,ae,eu];refine zO (λq2=>?_) (λq2=>?_)
   .have q2:¬n=nc:=by grind
    simp[go_sem];exact bad _ om
   have q2:n=nc:=by grind
   have hk:=hle q1;rw[ahP ⟨q1,q2⟩];simp[go_sem];refine wL 12 3 dc rfl ?_;refine zG (S:=Nat×Nat×List bF) [8,10,12,42,43] (λu=>[dO data,.int .i64 u.2.1,.sl (.app 1) (u.2.2.map bF.row),.int .u64 nc,.int .u64 u.1]) (λu=>[.box [.sl .ro ab,.sl .ro (ts.map bH.row)],.app u.2.2.length 3]) (λu=>nc-u.1) (λu=>u.1<=nc/\u.2.1<=data.length/\u.2.2.length=u.1/\(fX (nc-u.1) (data.drop u.2.1)).map (u.2.2++·)=fX nc (data.drop k)) hc hb (0,k,[]) (by simp_all) ?_ ?_;.exact bT 2 sm rfl rfl om (zC (by simp[go_sem,dO,zQ,q2]) rfl)
   rintro⟨i,at_,l⟩⟨hi,an,ao,aa⟩;simp only at hi an ao aa;have aq:data.length-at_<=cu:=om;have ai:=wk8 (data.drop at_) (by simp;omega);have ad:=SF (data.drop at_);rw[List.length_drop]at ad;refine zA ?_;simp[go_sem];refine zO (λq3=>?_) (λq3=>?_)
   .have q3:i<nc:=by grind
    rw[show nc-i=(nc-i-1)+1by omega,fX]at aa;revert ai ad aa;generalize kJ (data.drop at_)=r;obtain⟨⟨vk,vn,vs⟩,rn,re⟩:=r;intro aa ai ad;simp only at ad aa;simp[go_sem,dO,zL];refine zF (by grind[xN]) ?_;simp[go_sem];refine zJ ai cB (zK (by grind[dO,NS]) rfl) rfl ?_;simp[go_sem,gM.V];refine zO (λq4=>?_) (λq4=>?_)
    .have q4:¬re=0:=by grind
     rw[ahO q4]at aa;simp[go_sem];rw[<-aa];exact BD rfl
    have q4:re=0:=by grind
    rw[ahP q4]at aa;have ar:=ad q4;have ea:IntKind.i64.wrap ((at_:Int)+rn)=((at_+rn:Nat):Int):=by rw[bR om (by grind)];omega
    have ei:IntKind.u64.wrap ((i:Int)+1)=((i+1:Nat):Int):=by rw[cC om om];omega
    have au:(l.length+1)*32<=140737488355328:=by grind
    simp[go_sem];refine zF ⟨om,zT rfl⟩ ?_;simp[go_sem,ea,ei];refine zH (i+1,at_+rn,l++[⟨vk,vn,vs⟩]) ⟨om,⟨q3,by grind,by grind,?_⟩,bT 2 sm rfl rfl om (zC (by simp[go_sem]) rfl)⟩;rw[<-aa];simp only;rw[show nc-(i+1)=nc-i-1by omega,Do];cases fX (nc-i-1) (data.drop (at_+rn))<;>simp
   .have q3:i=nc:=by grind
    subst q3;simp[fX]at aa;simp[go_sem,dO,zL];refine zO (λq4=>?_) (λq4=>?_)
    .have q4:at_<data.length:=by grind
     rw[ahO om]at aa;simp[go_sem];rw[<-aa];exact BD rfl
    have q4:data.length<=at_:=by grind
    rw[ahP q4]at aa;simp[go_sem];rw[<-aa];exact NT (by rfl)
  .have q1:¬e=0:=by grind
   simp[go_sem,ah];exact bad _ om
 .have hF:eO ts table data=([],1):=by simp_all[eO,dif_neg]
  rw[hF];refine iV 0 func87 ntmps87 results87 λc hc hb=>?_;refine zA ?_;simp[go_sem];refine pC (js ab (ts.map bH.row) table) ?_;have hn:(decide (0<=table)&&decide (table<((ts.map bH.row).length:Int)))=false:=by grind
  rw[hn];simp[go_sem];exact BD rfl
theorem xQ8 (ab:List (List V))(ts:List bH)(table:Int)(data:aij)(hd:data.length<=cu)(an:∀t∈ts,t.bP.length<=cu):Pure prog 23 [.agg [.sl .ro ab,.sl .ro (ts.map bH.row)],.int .i64 table,.str data] (jv (eO ts table data)):=by
 have af:=F6 data 0 0 dc dc;have hle:=xf data 0 0;have ag:=NQ data hd;by_cases ht:0<=table/\table<ts.length
 .obtain⟨j,rfl⟩:∃j:Nat,table=j:=⟨table.toNat,om⟩;have hj:j<ts.length:=om;obtain⟨t,aj⟩:=eX (ts[j]);have ao:=an t (aj▸A7 hj);have hF:eO ts j data=iU t.bP.length data:=by simp_all[eO]
  rw[hF];unfold iU;revert af hle ag;generalize xW data 0 0=r;obtain⟨n,k,e⟩:=r;intro af hle ag;simp only at af hle⊢;obtain⟨nc,ae⟩:=eX t.bP.length;rw[ae]at ao⊢;have eu:IntKind.u64.wrap (nc:Int)=nc:=cC om (by grind);refine iV 0 func23 ntmps23 results23 λc hc hb=>?_;refine zA ?_;simp[go_sem];refine pC (HP ab (ts.map bH.row) j) ?_;simp[go_sem,hj];refine zJ ag cB (zK (by rfl) rfl) rfl ?_;simp[go_sem,sC];have bad:∀U:St,¬(e=0/\n=nc)->bW (some (.cm [.sl .full [],.int .i64 9])) 0 (λv s=>v=jv (if e=0/\n=nc then rD (fX nc (data.drop k))else([],9))/\s=[]) U:=λU h=>BD (by grind);refine yA (λah=>?_) (λah=>?_)
  .have q1:e=0:=by grind
   simp[go_sem,ah,hj,aj,ae,eu];refine zO (λq2=>?_) (λq2=>?_)
   .have q2:¬n=nc:=by grind
    simp[go_sem];exact bad _ om
   have q2:n=nc:=by grind
   have hk:=hle q1;rw[ahP ⟨q1,q2⟩];have en:IntKind.i64.wrap (nc:Int)=nc:=bR om (by grind);simp[go_sem,zL];refine zF (by grind[xN]) ?_;simp[go_sem];refine wL 12 3 dc rfl ?_;refine zG (S:=Nat×Nat×List bF) [8,9,12,13] (λu=>[dO (data.drop u.2.1),.int .u64 nc,.sl (.app 1) (u.2.2.map bF.row),.int .i64 u.1]) (λu=>[.box [.sl .ro ab,.sl .ro (ts.map bH.row)],.app u.2.2.length 3]) (λu=>nc-u.1) (λu=>u.1<=nc/\u.2.1<=data.length/\u.2.2.length=u.1/\(fX (nc-u.1) (data.drop u.2.1)).map (u.2.2++·)=fX nc (data.drop k)) hc hb (0,k,[]) (by simp_all) ?_ ?_;.exact bT 2 sm rfl rfl om (zC (by simp[go_sem,dO,NS,q2]) rfl)
   rintro⟨i,at_,l⟩⟨hi,aq,ar,aa⟩;simp only at hi aq ar aa;have av:data.length-at_<=cu:=om;have ai:=xB0 (data.drop at_) (by simp;omega);have ad:=SF (data.drop at_);rw[List.length_drop]at ad;refine zA ?_;simp[go_sem,en];refine zO (λq3=>?_) (λq3=>?_)
   .have q3:i<nc:=by grind
    rw[show nc-i=(nc-i-1)+1by omega,fX]at aa;revert ai ad aa;generalize kJ (data.drop at_)=r;obtain⟨⟨vk,vn,vs⟩,rn,re⟩:=r;intro aa ai ad;simp only at ad aa;simp[go_sem];refine zJ ai cB (zK (by rfl) rfl) rfl ?_;simp[go_sem,gM.V];refine zO (λq4=>?_) (λq4=>?_)
    .have q4:¬re=0:=by grind
     rw[ahO q4]at aa;simp[go_sem];rw[<-aa];exact BD rfl
    have q4:re=0:=by grind
    rw[ahP q4]at aa;have aw:=ad q4;have ea:IntKind.i64.wrap ((at_:Int)+rn)=((at_+rn:Nat):Int):=by rw[bR om (by grind)];omega
    have ei:IntKind.u64.wrap ((i:Int)+1)=((i+1:Nat):Int):=by rw[cC om om];omega
    have ak:IntKind.i64.wrap ((i:Int)+1)=((i+1:Nat):Int):=zR q3 (by grind);have au:(l.length+1)*32<=140737488355328:=by grind
    simp[go_sem];refine yB [] 3 rfl (by rfl) kR ?_;simp[go_sem];refine zF ⟨au,zT rfl⟩ ?_;simp[go_sem,dO,zL];refine zF (by grind[xN]) ?_;simp[go_sem,ak];have al:zQ (data.drop (at_+rn))=List.drop rn (List.take (data.length-at_) (zQ (data.drop at_))):=by rw[show data.length-at_=(data.drop at_).length by simp,NS,Do]
    refine zH (i+1,at_+rn,l++[⟨vk,vn,vs⟩]) ⟨om,⟨q3,by grind,by grind,?_⟩,bT 2 sm rfl rfl om (zC (by simp[go_sem,al]) rfl)⟩;rw[<-aa];simp only;rw[show nc-(i+1)=nc-i-1by omega,Do];cases fX (nc-i-1) (data.drop (at_+rn))<;>simp
   .have q3:i=nc:=by grind
    subst q3;simp[fX]at aa;simp[go_sem,dO,zL];refine zO (λq4=>?_) (λq4=>?_)
    .have q4:at_<data.length:=by grind
     rw[ahO om]at aa;simp[go_sem];rw[<-aa];exact BD rfl
    have q4:data.length<=at_:=by grind
    rw[ahP q4]at aa;simp[go_sem];rw[<-aa];exact NT (by rfl)
  .have q1:¬e=0:=by grind
   simp[go_sem,ah];exact bad _ om
 .have hF:eO ts table data=([],1):=by simp_all[eO,dif_neg]
  rw[hF];refine iV 0 func23 ntmps23 results23 λc hc hb=>?_;refine zA ?_;simp[go_sem];refine pC (HP ab (ts.map bH.row) table) ?_;have hn:(decide (0<=table)&&decide (table<((ts.map bH.row).length:Int)))=false:=by grind
  rw[hn];simp[go_sem];exact BD rfl
def be (v:Nat):Nat->aij|0=>[]|k+1=>UInt8.ofNat (v/256^k)::be v k
theorem Et (v:Nat):∀k,(be v k).length=k|0=>rfl|k+1=>by simp[be,Et v k]
theorem SH (a b:UInt8)(l m:aij):Op.bytesLess (a::l) (b::m)=if a.toNat<b.toNat then true else if b.toNat<a.toNat then false else Op.bytesLess l m:=by
 rw[Op.bytesLess];simp only[UInt8.lt_iff_toNat_lt];by_cases h1:a.toNat<b.toNat;.grind
 .by_cases h2:b.toNat<a.toNat;.grind
  .have:a=b:=E3.1 om;grind
def kX:aij->aij |[]=>[]|c::s=>if c=0then 0::255::kX s else c::kX s
theorem Ko:∀s,(kX s).length<=2*s.length
 |[]=>by decide|c::s=>by have:=Ko s;unfold kX;split<;>simp<;>omega
theorem SI:∀a b,kX (a++b)=kX a++kX b
 |[],b=>rfl|c::a,b=>by have:=SI a b;rw[Bg,kX,kX];split<;>simp[this]
def im (v:bF):aij:=if dw v=true then UInt8.ofNat v.kind.toNat::(if v.kind=1then[UInt8.ofNat v.n.toNat]else if v.kind=2then be (v.n+9223372036854775808).toNat 8 else if v.kind=3then kX v.s++[0,1]else[])else[]
theorem xL5{v:bF}:(im v).length<=2*v.s.length+10:=by grind[Ko,Et,im]
theorem ww1 (a:Nat)(h:a<2^64):a^^^2^63=(2^63+a)%2^64:=by
 apply Nat.eq_of_testBit_eq;intro j;rw[Nat.testBit_xor,Nat.testBit_two_pow,Nat.testBit_mod_two_pow];rcases Ba j 63with h1|h1|h1;.rw[Nat.testBit_two_pow_add_gt h1];simp[show j<64by omega,show¬63=j by omega]
 .subst h1;rw[Nat.testBit_two_pow_add_eq];simp
 .rw[Nat.testBit_lt_two_pow (Dh h (Nat.pow_le_pow_right dc om))];simp[show¬j<64by omega,show¬63=j by omega]
theorem wd6{n:Int}(h1:-9223372036854775808<=n)(h2:n<=9223372036854775807):jX .xor .u64 (IntKind.u64.wrap n) 9223372036854775808=(((n+9223372036854775808).toNat:Nat):Int):=by
 obtain⟨a,ha,aa⟩:∃a:Nat,IntKind.u64.wrap n=(a:Int)/\(a:Int)=n%18446744073709551616:=by unfold IntKind.wrap;simp[IntKind.bits,IntKind.signed];exact⟨(n%18446744073709551616).toNat,om,om⟩
 have hl:a<2^64:=om;show IntKind.u64.wrap ((BitVec.ofInt 64 (IntKind.u64.wrap n)^^^BitVec.ofInt 64 ((9223372036854775808:Nat):Int)).toNat:Int)=_;rw[ha,ai2,ai2,BitVec.toNat_xor,ai4,ai4,Cr hl,show 9223372036854775808%2^64=2^63by decide,ww1 a hl];unfold IntKind.wrap;simp[IntKind.bits,IntKind.signed];omega
theorem xX8 (n:Int)(hn:dq n):Pure prog 256 [.int .i64 n] (.int .u64 (n+9223372036854775808).toNat):=by have e:=wd6 hn.1 hn.2;refine iW 0 func256 ntmps256 results256 λc hc hb=>zM ?_;simp[go_sem,e];exact wR
theorem xg6 (n:Int)(hn:dq n):Pure prog 169 [.int .i64 n] (.int .u64 (n+9223372036854775808).toNat):=by
 unfold dq at hn;refine iW 0 func169 ntmps169 results169 λc hc hb=>zM ?_;simp[go_sem];refine zO (λq=>?_) (λq=>?_)
 .have q:0<=n:=sU q;have e1:IntKind.u64.wrap n=n:=cC om om;have e2:IntKind.u64.wrap (9223372036854775808+n)=((n+9223372036854775808).toNat:Int):=by rw[cC om om];omega
  simp[go_sem,e1,e2];exact wR
 .have q:n<0:=sU q;have e1:IntKind.i64.wrap (n+9223372036854775807)=n+9223372036854775807:=bR om om;have e2:IntKind.i64.wrap (n+9223372036854775807+1)=n+9223372036854775807+1:=bR om om;have e3:IntKind.u64.wrap (n+9223372036854775807+1)=((n+9223372036854775808).toNat:Int):=by rw[cC om om];omega
  simp[go_sem,e1,e2,e3];exact wR
theorem wv7 (n:Int):IntKind.u8.wrap n<256:=by unfold IntKind.wrap;simp[IntKind.bits,IntKind.signed];omega
theorem wr0 (l:aij)(h:l.all (λc=>decide (c.toNat<=8)))(i:Nat):(l[i]?.getD 0).toNat<=8:=by
 rcases Ck i l.length with q|q;.rw[A0 q];simpa using Aj.1 h _ (A7 q)
 .rw[Cq q];decide
theorem SJ{n:Int}(h0:0<=n)(h:n<=64):∃m:Nat,V.int .i64 n=.int .i64 m/\m<=64:=⟨n.toNat,by congr 1;omega,om⟩
theorem xX6 (v:Nat)(_hv:v<18446744073709551616):bL prog 246 [.int .u64 v] [] λr s=>(∃n:Nat,r=.int .i64 n/\n<=64)/\s=[]:=by
 have aa:IntKind.i64.wrap 48=48:=by decide+kernel
 have ab:IntKind.i64.wrap 40=40:=by decide+kernel
 have ad:IntKind.i64.wrap 16=16:=by decide+kernel
 have w8:IntKind.i64.wrap 8=8:=by decide+kernel
 have ae:IntKind.i64.wrap (48+8)=56:=by decide+kernel
 have af:IntKind.i64.wrap (16+8)=24:=by decide+kernel
 refine iW 0 func246 ntmps246 results246 λc hc hb=>zM ?_;simp[go_sem];repeat'(refine zO (λq=>?_) (λq=>?_)<;>simp[go_sem])
 all_goals refine zF (wv7 _) ?_;generalize hx:UInt8.toNat (Option.getD _ _)=x;have h8:x<=8:=hx▸wr0 _ (by decide+kernel) _;clear hx;have e8:IntKind.i64.wrap (x:Int)=x:=bR om om;simp[go_sem,e8]
 all_goals
  try simp only[aa,ab,ad,w8,ae,af]
  first|exact zV (zD rfl) ⟨SJ om om,rfl⟩|(rw[bR om om];exact zV (zD rfl) ⟨SJ om om,rfl⟩)
theorem xZ8 (v k:Nat)(_hk:k<=7):IntKind.u8.wrap ((v:Int).fdiv (2^(8*k)))=((UInt8.ofNat (v/256^k)).toNat:Int):=by
 have e:(v:Int).fdiv (2^(8*k))=((v/256^k:Nat):Int):=by rw[Int.fdiv_eq_ediv_of_nonneg _ (by exact Int.le_of_lt (Int.pow_pos dc))];rw[show(2:Int)^(8*k)=((256^k:Nat):Int)by rw[Int.pow_mul];simp];rw[Int.natCast_ediv]
 rw[e,rC]
theorem ws6 (b:aij)(v:Nat)(ab:b.length<=cu)(hv:v<18446744073709551616):Pure prog 255 [dO b,.int .u64 v,.int .i64 8] (.cm [dO (b++be v 8),.int .i64 0]):=by
 refine iV 0 func255 ntmps255 results255 λc hc hb=>?_;refine zA ?_;simp[go_sem,dO];refine Yw (R:=λr=>∃n:Nat,r=.int .i64 n/\n<=64) (xX6 v hv) cB (yC rfl) (λr h=>by obtain⟨b,rfl,_⟩:=h;rfl) ?_;rintro r⟨n,rfl,hn⟩;have ad:IntKind.i64.wrap 64=64:=by decide+kernel
 simp[go_sem,ad];refine zO (λq=>absurd q (by simp;omega)) (λq=>?_);simp[go_sem];refine FG (NK b 8 ab dc) cB (yC rfl) ?_;rintro r s⟨rfl,rfl⟩;simp[go_sem,mP,mQ];have ew:∀k:Nat,k<=8->IntKind.i64.wrap (8*(k:Int)-8)=8*(k:Int)-8:=λk h=>bR om om;have ae:IntKind.i64.wrap (8*IntKind.i64.wrap 7)=56:=by decide+kernel
 refine zG (S:=Nat×aij) [1,8,9] (λu=>[.int .u64 v,mP u.2,.int .i64 (8*(u.1:Int)-8)]) (λu=>mQ u.2) (λu=>u.1) (λu=>u.1<=8/\u.2++be v u.1=b++be v 8) hc hb (8,b) ⟨A6 _,rfl⟩ ?_ ?_;.exact bT 1 (by simp[mQ]) rfl rfl (A3 _) (zC (by simp[go_sem,mP]) rfl)
 rintro⟨k,out⟩⟨hk,aa⟩;simp only at hk aa;have af:out.length+k=b.length+8:=by have:=ahU List.length aa;simpa[Et]using this
 refine zA ?_;simp[go_sem,mP,mQ];refine zO (λq=>?_) (λq=>?_)
 .obtain⟨j,rfl⟩:∃j,k=j+1:=⟨k-1,by simp at q;omega⟩;have e1:IntKind.u64.wrap (8*((j+1:Nat):Int)-8)=((8*j:Nat):Int):=by rw[cC om om];omega
  have e2:IntKind.i64.wrap (8*((j+1:Nat):Int)-8-8)=8*(j:Int)-8:=by rw[bR om om];omega
  have e3:=xZ8 v j om;simp[go_sem]at e1 e2;simp[go_sem,e1];refine zF om ?_;have e4:min (8*(j:Int)).toNat 64=8*j:=om;simp[go_sem,e4,e3];refine zF ⟨zL out,by rw[zL];unfold cu at ab;omega,zT rfl⟩ ?_;simp[go_sem,e2];rw[be]at aa;refine zH (j,out++[UInt8.ofNat (v/256^j)]) ⟨by simp only;omega,⟨by simp only;omega,by simpa using aa⟩,bT 1 sm rfl rfl (A3 _) (zC (by simp[go_sem,zQ]) rfl)⟩
 .have:k=0:=by simp at q;omega
  subst this;rw[show be v 0=[]from rfl,Ay]at aa;simp[go_sem];rw[<-aa];exact zV (yJ (gP:=[dO out,.int .i64 0]) ⟨lJ,xJ rfl,tV⟩) ⟨rfl,rfl⟩
def iX (v k:Nat):List (List V):=List.replicate (8-k) [.int .u8 0]++zQ (be v k)
theorem xP4{v k:Nat}(h:k<=8):(iX v k).length=8:=by simp[iX,zL,Et];omega
theorem xP5{v k:Nat}(h:k+1<=8):(iX v k).set (7-k) [.int .u8 (UInt8.ofNat (v/256^k)).toNat]=iX v (k+1):=by unfold iX;rw[be,show(8-k)=(8-(k+1))+1by omega,List.replicate_succ',Cb,List.set_append_right _ _ sm];rw[show 7-k-(List.replicate (8-(k+1)) [V.int IntKind.u8 0]).length=0 by simp];rfl
def NU (r:List V):Prop:=∃x,r=[.int .u8 x]
theorem NV (v k:Nat):∀r∈iX v k,NU r:=λr hr=>by
 unfold iX at hr;rcases Ak.1 hr with h|h;.exact⟨0,(List.mem_replicate.1 h).2⟩
 .obtain⟨x,_,rfl⟩:=Aa.1 h;exact⟨_,rfl⟩
theorem SK{rows:List (List V)}(h:∀r∈rows,NU r)(n:Nat):[Ob.cj rows 1].all (bO n)=true:=by simp only[Aq,Cs,D3,bO,Aj];intro r hr;obtain⟨x,rfl⟩:=h r hr;intro y hy;cases hy with |head=>rfl|tail _ h=>cases h
theorem wp6{rows:List (List V)}(h:∀r∈rows,NU r):xB rows=true:=by simp only[xB,Aj];intro r hr;obtain⟨x,rfl⟩:=h r hr;intro y hy;cases hy with|head=>rfl|tail _ h=>cases h
theorem wp7 (v:Nat):iX v 8=zQ (be v 8):=by simp[iX]
theorem xQ7 (v:Nat)(hv:v<18446744073709551616):Pure prog 248 [dO [],.int .u64 v,.int .i64 8] (.cm [dO (be v 8),.int .i64 0]):=by
 refine iV 0 func248 ntmps248 results248 λc hc hb=>?_;refine qQ 17 dc ?_;refine zA ?_;simp[go_sem,dO,zQ];refine zG (S:=Nat×Nat) [0,1,8,9] (λu=>[dO [],.int .u64 u.2,.cL 0 1 8 0 8,.int .i64 (7-(u.1:Int))]) (λu=>[.cj (iX v u.1) 1]) (λu=>8-u.1) (λu=>u.1<=8/\u.2=v/256^u.1) hc hb (0,v) ⟨A3 _,sm⟩ ?_ ?_;.exact bT 1 (by simp[iX,be,zQ]) rfl (SK (NV _ _) _) (A3 _) (zC (by simp[go_sem,dO,zQ]) rfl)
 rintro⟨k,z⟩⟨hk,hz⟩;simp only at hk hz;have ag:z<=v:=hz▸Nat.div_le_self _ _;have ab:=xP4 (v:=v) hk;refine zA ?_;simp[go_sem];refine zO (λq=>?_) (λq=>?_)
 .have q:k+1<=8:=by simp at q;omega
  have e0:((7:Int)-k).toNat=7-k:=om;have e1:IntKind.i64.wrap (7-(k:Int)-1)=7-((k:Int)+1):=by rw[bR om om];omega
  have e2:IntKind.u64.wrap ((z:Int)/256)=((z/256:Nat):Int):=by rw[cC om om];omega
  have e3:IntKind.u8.wrap ((z:Int).tmod 256)=((UInt8.ofNat z).toNat:Int):=by rw[D2 om,show(z:Int)%256=((z%256:Nat):Int)by omega,rC];simp
  have aa:=xP5 (v:=v) q;rw[<-hz]at aa;simp[go_sem];refine zF ⟨om,om⟩ ?_;have ad:∀h,(iX v k)[7-k]'h=[.int .u8 0]:=λh=>by
   have:(iX v k)[7-k]?=some [.int .u8 0]:=by unfold iX;rw[Be (by simp;omega),List.getElem?_replicate,ahP om]
   exact(A5.1 this).2
  simp at aa;simp[go_sem,ab,show 7-k<8by omega,ad,e1,e2,e3];refine zH (k+1,z/256) ⟨by simp only;omega,⟨q,by rw[hz,E0,Nat.div_div_eq_div_mul]⟩,bT 1 (by simp[aa]) rfl (SK (NV _ _) _) (A3 _) (zC (by simp[go_sem,dO,zQ]) rfl)⟩
 .have:k=8:=by simp at q;omega
  subst this;have ae:z=0:=by rw[hz];exact Nat.div_eq_of_lt om
  subst ae;simp[go_sem,dO,zQ];refine zF (λr h=>by cases h) ?_;have af:gE (iX v 8) 0 8=zQ (be v 8):=by rw[wp7];simp[gE,Ac,Et,zQ,pT]
  simp[go_sem,ab,af];refine zF ⟨wp6 λr hr=>NV v 8 r (C6 hr),by rw[zL,Et];decide,xN _⟩ ?_;simp[go_sem];exact zV (yJ (gP:=[dO (be v 8),.int .i64 0]) ⟨lJ,xJ rfl,tV⟩) ⟨rfl,rfl⟩
theorem xX4 (v:Nat)(hv:v<18446744073709551616):Pure prog 168 [.int .u64 v] (dO (be v 8)):=by refine iW 0 func168 ntmps168 results168 λc hc hb=>zM ?_;simp[go_sem];refine zJ (xQ7 v hv) cB ⟨qX rfl,zD rfl,zD rfl,tV⟩ rfl ?_;simp[go_sem];exact wR
theorem SL{v:bF}(h:dw v):v.kind=0\/v.kind=1\/v.kind=2\/v.kind=3:=by
 unfold dw at h;by_cases h0:v.kind=0;.exact .inl h0
 .by_cases h1:v.kind=1;.exact .inr (.inl h1)
  .by_cases h2:v.kind=2;.exact .inr (.inr (.inl h2))
   .by_cases h3:v.kind=3;.exact .inr (.inr (.inr h3))
    .simp[h0,h1,h2,h3]at h
theorem SM{s:aij}(h:i<s.length):kX (s.take (i+1))=kX (s.take i)++(if s[i]=0then[0,255]else[s[i]]):=by rw[B3 h,SI];simp only[kX]
theorem SN{s:Nat}{a b:List V}(h1:a.length=s)(h2:b.length=s):eM s [a,b]:=λr hr=>by simp at hr;rcases hr with rfl|rfl<;>assumption
theorem NW{v:bF}(h:dw v):v.s.length<=64:=by
 unfold dw at h;split at h;.simp at h;rw[h.2];decide
 split at h;.simp at h;rw[h.2];decide
 split at h;.simp at h;rw[h];decide
 split at h;.simp at h;exact h.2
 .cases h
theorem wk6 (b:aij)(v:bF)(hv:v.ok)(ad:b.length<=cu-1):Pure prog 179 [dO b,.agg v.row] (dO (b++im v)):=by
 refine iV 0 func179 ntmps179 results179 λc hc hb=>?_;refine zA ?_;obtain⟨k,n,s⟩:=v;have hn:=hv.n;simp only at hn;simp[go_sem,dO,zL];refine zF ⟨by unfold cu at*;omega,by simp[eM],xN b⟩ ?_;simp[go_sem];refine pC (F3 ⟨k,n,s⟩) ?_;simp[go_sem];refine zO (λh=>?_) (λh=>?_);.simp[go_sem];refine mf ?_;have h:dw ⟨k,n,s⟩=false:=sU h;simp[im,h,zQ]
 have h:dw ⟨k,n,s⟩:=sU h;have hs:s.length<=500:=by have:s.length<=64:=NW h;omega
 have hk:=SL h;simp only at hk;simp[go_sem,zL];refine zF ⟨by unfold cu at*;omega,zT rfl⟩ ?_;have w0:IntKind.u8.wrap 0=0:=by decide+kernel
 have w1:IntKind.u8.wrap 1=1:=by decide+kernel
 have w2:IntKind.u8.wrap 2=2:=by decide+kernel
 have w3:IntKind.u8.wrap 3=3:=by decide+kernel
 rcases hk with rfl|rfl|rfl|rfl;.simp[go_sem];refine mf ?_;simp[im,h,zQ,w0]
 .have h1:n=0\/n=1:=by unfold dw at h;simp at h;exact h.1
  simp[go_sem];refine zF ⟨zL b,by rw[zL];unfold cu at*;omega,zT rfl⟩ ?_;simp[go_sem];refine mf ?_;rcases h1 with rfl|rfl<;>simp[im,h,zQ,w0,w1]
 .simp[go_sem];obtain⟨u,hu⟩:=eX ((n+9223372036854775808).toNat);have hO:=xX8 n hn;rw[hu]at hO;refine pC hO ?_;simp[go_sem];refine zJ (ws6 (b++[2]) u (by simp;unfold cu at*;omega) om) cB ⟨qX (by simp[zQ,w2]),zD rfl,zD rfl,tV⟩ rfl ?_;simp[go_sem];refine mf ?_;simp[im,h,hu]
 .simp[go_sem];refine zG (S:=Nat) [3,5,44,45] (λi=>[.ptr 0 0,.sl (.app 1) (zQ (b++3::kX (s.take i))),.int .i64 s.length,.int .i64 i]) (λi=>[.box [.int .i64 3,.int .i64 n,.str s],.app (b++3::kX (s.take i)).length 1]) (λi=>s.length-i) (λi=>i<=s.length) hc hb 0 (A3 _) ?_ ?_;.exact bT 2 (by simp[kX]) rfl rfl (A3 _) (zC (by simp[go_sem,kX,zQ,w3]) rfl)
  intro i hi;have ae:=Ko (s.take i);have af:(s.take i).length<=s.length:=by simp;omega
  obtain⟨o,ho⟩:∃o,b++3::kX (s.take i)=o:=⟨_,rfl⟩;have ag:o.length<=cu+1100:=by rw[<-ho];simp;unfold cu at*;omega
  rw[ho];refine zA ?_;simp[go_sem];refine zO (λq=>?_) (λq=>?_)
  .have q:i<s.length:=sU q;have ei:=zR q om;have aa:=SM q;obtain⟨c0,ab⟩:=eX (s[i]);simp[go_sem,q,ab,zL];refine zF ⟨by unfold cu at*;omega,zT rfl⟩ ?_;simp[go_sem,q,ab];refine zO (λq2=>?_) (λq2=>?_)
   .have q2:c0=0:=by
     have:c0.toNat=0:=by simp at q2;omega
     exact E3.1 (sU this)
    rw[ab,ahP q2]at aa;simp[go_sem,zL];refine zF ⟨by unfold cu at*;omega,zT rfl⟩ ?_;simp[go_sem,ei];exact zH (i+1) ⟨om,q,bT 2 (by simp[aa,<-ho];omega) rfl rfl (A3 _) (zC (by simp[go_sem,aa,<-ho,zQ,q2]) rfl)⟩
   .have q2:¬c0=0:=λh=>by rw[h]at q2;simp at q2
    rw[ab,ahO q2]at aa;simp[go_sem,ei];exact zH (i+1) ⟨om,q,bT 2 (by simp[aa,<-ho];omega) rfl rfl (A3 _) (zC (by simp[go_sem,aa,<-ho,zQ]) rfl)⟩
  .have q:i=s.length:=by have:¬i<s.length:=sU q;omega
   subst q;simp[go_sem,zL];refine zF ⟨by unfold cu at*;omega,SN rfl rfl⟩ ?_;simp[go_sem];refine mf ?_;rw[Dq]at ho;simp[im,h,zQ,<-ho]
theorem xA8 (b:aij)(v:bF)(hv:v.ok)(ad:b.length<=cu-1):Pure prog 99 [dO b,.agg v.row] (dO (b++im v)):=by
 refine iV 0 func99 ntmps99 results99 λc hc hb=>?_;refine zA ?_;obtain⟨k,n,s⟩:=v;have hn:=hv.n;simp only at hn;simp[go_sem,dO,zL];refine zF ⟨by unfold cu at*;omega,by simp[eM],xN b⟩ ?_;simp[go_sem];refine pC (F4 ⟨k,n,s⟩) ?_;simp[go_sem];refine zO (λh=>?_) (λh=>?_);.simp[go_sem];refine mf ?_;have h:dw ⟨k,n,s⟩=false:=sU h;simp[im,h,zQ]
 have h:dw ⟨k,n,s⟩:=sU h;have hs:s.length<=500:=by have:s.length<=64:=NW h;omega
 have hk:=SL h;simp only at hk;simp[go_sem,zL];refine zF ⟨by unfold cu at*;omega,zT rfl⟩ ?_;have w0:IntKind.u8.wrap 0=0:=by decide+kernel
 have w1:IntKind.u8.wrap 1=1:=by decide+kernel
 have w2:IntKind.u8.wrap 2=2:=by decide+kernel
 have w3:IntKind.u8.wrap 3=3:=by decide+kernel
 rcases hk with rfl|rfl|rfl|rfl;.simp[go_sem];refine mf ?_;simp[im,h,zQ,w0]
 .have h1:n=0\/n=1:=by unfold dw at h;simp at h;exact h.1
  simp[go_sem];refine zF ⟨zL b,by rw[zL];unfold cu at*;omega,zT rfl⟩ ?_;simp[go_sem];refine mf ?_;rcases h1 with rfl|rfl<;>simp[im,h,zQ,w0,w1]
 .simp[go_sem];obtain⟨u,hu⟩:=eX ((n+9223372036854775808).toNat);have hO:=xg6 n hn;rw[hu]at hO;refine pC hO ?_;simp[go_sem];refine pC (xX4 u om) ?_;simp[go_sem,dO,zL];refine zF ⟨by rw[Et];unfold cu at*;omega,xN _⟩ ?_;simp[go_sem];refine mf ?_;simp[im,h,hu,zQ,w2]
 .simp[go_sem];refine zG (S:=Nat) [3,5,6] (λi=>[.ptr 0 0,.sl (.app 1) (zQ (b++3::kX (s.take i))),.int .i64 i]) (λi=>[.box [.int .i64 3,.int .i64 n,.str s],.app (b++3::kX (s.take i)).length 1]) (λi=>s.length-i) (λi=>i<=s.length) hc hb 0 (A3 _) ?_ ?_;.exact bT 2 (by simp[kX]) rfl rfl (A3 _) (zC (by simp[go_sem,kX,zQ,w3]) rfl)
  intro i hi;have ae:=Ko (s.take i);have af:(s.take i).length<=s.length:=by simp;omega
  obtain⟨o,ho⟩:∃o,b++3::kX (s.take i)=o:=⟨_,rfl⟩;have ag:o.length<=cu+1100:=by rw[<-ho];simp;unfold cu at*;omega
  rw[ho];refine zA ?_;simp[go_sem];refine zO (λq=>?_) (λq=>?_)
  .have q:i<s.length:=sU q;have ei:=zR q om;have aa:=SM q;obtain⟨c0,ab⟩:=eX (s[i]);simp[go_sem,q,ab,zL];refine zF ⟨by unfold cu at*;omega,zT rfl⟩ ?_;simp[go_sem,q,ab];refine zO (λq2=>?_) (λq2=>?_)
   .have q2:c0=0:=by
     have:c0.toNat=0:=by simp at q2;omega
     exact E3.1 (sU this)
    rw[ab,ahP q2]at aa;simp[go_sem,zL];refine zF ⟨by unfold cu at*;omega,zT rfl⟩ ?_;simp[go_sem,ei];exact zH (i+1) ⟨om,q,bT 2 (by simp[aa,<-ho];omega) rfl rfl (A3 _) (zC (by simp[go_sem,aa,<-ho,zQ,q2]) rfl)⟩
   .have q2:¬c0=0:=λh=>by rw[h]at q2;simp at q2
    rw[ab,ahO q2]at aa;simp[go_sem,ei];exact zH (i+1) ⟨om,q,bT 2 (by simp[aa,<-ho];omega) rfl rfl (A3 _) (zC (by simp[go_sem,aa,<-ho,zQ]) rfl)⟩
  .have q:i=s.length:=by have:¬i<s.length:=sU q;omega
   subst q;simp[go_sem,zL];refine zF ⟨by unfold cu at*;omega,SN rfl rfl⟩ ?_;simp[go_sem];refine mf ?_;rw[Dq]at ho;simp[im,h,zQ,<-ho]
theorem NX (b:Bool):Pure prog 57 [.bool b] (.int .i64 (if b then-1 else 1)):=by refine iW 0 func57 ntmps57 results57 λc hc hb=>zM ?_;simp[go_sem];refine zO (λq=>?_) (λq=>?_)<;>simp[go_sem,q]<;>exact wR
def F7 (a b:bF):Int:=if a.kind≠b.kind then(if a.kind<b.kind then-1 else 1)else if a.n≠b.n then(if a.n<b.n then-1 else 1)else if a.s≠b.s then(if Op.bytesLess a.s b.s then-1 else 1)else 0
theorem xu0 (a b:bF):Pure prog 30 [.agg a.row,.agg b.row] (.int .i64 (F7 a b)):=by
 obtain⟨k,n,s⟩:=a;obtain⟨k2,n2,s2⟩:=b;refine iW 0 func30 ntmps30 results30 λc hc hb=>zM ?_;have ret:∀(r:Int)(U:St),r=F7 ⟨k,n,s⟩ ⟨k2,n2,s2⟩->bW (some (.int .i64 r)) 0 (λr s'=>r=.int .i64 (F7 ⟨k,n,s⟩ ⟨k2,n2,s2⟩)/\s'=[]) U:=λr U h=>by subst h;exact wR
 unfold F7 at ret;simp only at ret;simp[go_sem];refine zO (λq=>?_) (λq=>?_);.have q:k≠k2:=sU q;simp[go_sem];refine pC (NX _) ?_;simp[go_sem];exact ret _ _ (by rw[ahP q])
 have q:k=k2:=sU q;subst q;simp[go_sem];refine zO (λq=>?_) (λq=>?_);.have q:n≠n2:=sU q;simp[go_sem];refine pC (NX _) ?_;simp[go_sem];exact ret _ _ (by simp only[ne_eq,ai7,ai3,q,ai0,not_false_eq_true])
 have q:n=n2:=sU q;subst q;simp[go_sem];refine zO (λq=>?_) (λq=>?_);.have q:s≠s2:=sU q;simp[go_sem];refine pC (NX _) ?_;simp[go_sem];exact ret _ _ (by simp only[ne_eq,ai7,ai3,q,ai0,not_false_eq_true])
 have q:s=s2:=sU q;subst q;simp[go_sem];exact ret _ _ sm
def nk (n:Nat)(t:Int):Bool:=decide (0<=t)&&decide (t<n)
theorem F8{t:Int}(h:nk n t):∃j:Nat,t=j/\j<n:=by simp[nk]at h;exact⟨t.toNat,om,om⟩
def np (n:Nat)(t:Int)(v:bF):aij:=if nk n t=true then UInt8.ofNat (t.toNat+1)::im v else[]
def jw (n:Nat)(t:Int):aij×aij:=if nk n t=true then([UInt8.ofNat (t.toNat+1)],[UInt8.ofNat (t.toNat+2)])else([],[])
theorem SO (aa dK:List (List V))(t:Int)(v:bF)(hn:dK.length<=cu)(hv:v.ok):Pure prog 107 [.agg [.sl .ro aa,.sl .ro dK],.int .i64 t,.agg v.row] (.str (np dK.length t v)):=by
 have ab:=js aa dK t;rw[show(decide (0<=t)&&decide (t<dK.length))=nk dK.length t from rfl]at ab;refine iW 0 func107 ntmps107 results107 λc hc hb=>zM ?_;simp[go_sem];refine pC ab ?_;unfold np;refine(A1 (nk dK.length t)).elim (λh=>?_) (λh=>?_)
 .obtain⟨j,rfl,hj⟩:=F8 h;rw[h,ahP rfl];have e1:IntKind.u8.wrap (IntKind.i64.wrap ((j:Int)+1))=((UInt8.ofNat (j+1)).toNat:Int):=by rw[bR om (by unfold cu at hn;omega),show(j:Int)+1=((j+1:Nat):Int)by omega,rC]
  simp[go_sem,e1];refine zJ (wk6 [UInt8.ofNat (j+1)] v hv (by simp[cu])) cB ⟨qX (by simp[zQ]),zD rfl,tV⟩ rfl ?_;simp[go_sem,dO];refine zF (yY _) ?_;simp[go_sem,yx];exact wR
 .rw[h];simp[go_sem];exact wR
theorem xX3 (aa dK:List (List V))(t:Int)(v:bF)(hn:dK.length<=cu)(hv:v.ok)(_hs:v.s.length<=500):Pure prog 107 [.agg [.sl .ro aa,.sl .ro dK],.int .i64 t,.agg v.row] (.str (np dK.length t v)):=SO aa dK t v hn hv
theorem ws3 (aa dK:List (List V))(t:Int)(hn:dK.length<=cu):Pure prog 108 [.agg [.sl .ro aa,.sl .ro dK],.int .i64 t] (.cm [.str (jw dK.length t).1,.str (jw dK.length t).2]):=by
 have ab:=js aa dK t;rw[show(decide (0<=t)&&decide (t<dK.length))=nk dK.length t from rfl]at ab;refine iW 0 func108 ntmps108 results108 λc hc hb=>zM ?_;simp[go_sem];refine pC ab ?_;unfold jw;refine(A1 (nk dK.length t)).elim (λh=>?_) (λh=>?_)
 .obtain⟨j,rfl,hj⟩:=F8 h;rw[h,ahP rfl];obtain⟨x,hx⟩:=eX (UInt8.ofNat (j+1));obtain⟨y,hy⟩:=eX (UInt8.ofNat (j+2));have e1:IntKind.u8.wrap (IntKind.i64.wrap ((j:Int)+1))=(x.toNat:Int):=by rw[bR om (by unfold cu at hn;omega),show(j:Int)+1=((j+1:Nat):Int)by omega,rC,hx]
  have e2:IntKind.u8.wrap (IntKind.i64.wrap ((j:Int)+2))=(y.toNat:Int):=by rw[bR om (by unfold cu at hn;omega),show(j:Int)+2=((j+2:Nat):Int)by omega,rC,hy]
  simp only;simp[go_sem];refine yB [] 1 rfl kR kR ?_;simp[go_sem,e1];refine zF (yY [x]) ?_;have r1:pW [V.int IntKind.u8 x.toNat]=x:=by simp[pW]
  have r2:pW [V.int IntKind.u8 y.toNat]=y:=by simp[pW]
  simp[go_sem,e2,r1];refine zF (yY [y]) ?_;simp[go_sem,r2];exact zV (zD rfl) ⟨by rw[<-hx,<-hy];simp,rfl⟩
 .rw[h];simp[go_sem];exact wR
theorem SP (aa dK:List (List V))(t:Int)(v:bF)(hn:dK.length<=cu)(hv:v.ok):Pure prog 50 [.agg [.sl .ro aa,.sl .ro dK],.int .i64 t,.agg v.row] (.str (np dK.length t v)):=by
 have ab:=HP aa dK t;rw[show(decide (0<=t)&&decide (t<dK.length))=nk dK.length t from rfl]at ab;refine iW 0 func50 ntmps50 results50 λc hc hb=>zM ?_;simp[go_sem];refine pC ab ?_;unfold np;refine(A1 (nk dK.length t)).elim (λh=>?_) (λh=>?_)
 .obtain⟨j,rfl,hj⟩:=F8 h;rw[h,ahP rfl];have e1:IntKind.u8.wrap (IntKind.i64.wrap ((j:Int)+1))=((UInt8.ofNat (j+1)).toNat:Int):=by rw[bR om (by unfold cu at hn;omega),show(j:Int)+1=((j+1:Nat):Int)by omega,rC]
  simp[go_sem,e1];refine zJ (xA8 [UInt8.ofNat (j+1)] v hv (by simp[cu])) cB ⟨qX (by simp[zQ]),zD rfl,tV⟩ rfl ?_;simp[go_sem,dO];refine zF (yY _) ?_;simp[go_sem,yx];exact wR
 .rw[h];simp[go_sem];exact wR
theorem xQ1 (aa dK:List (List V))(t:Int)(hn:dK.length<=cu):Pure prog 261 [.agg [.sl .ro aa,.sl .ro dK],.int .i64 t] (.cm [.str (jw dK.length t).1,.str (jw dK.length t).2]):=by
 have ab:=HP aa dK t;rw[show(decide (0<=t)&&decide (t<dK.length))=nk dK.length t from rfl]at ab;refine iW 0 func261 ntmps261 results261 λc hc hb=>zM ?_;simp[go_sem];refine pC ab ?_;unfold jw;refine(A1 (nk dK.length t)).elim (λh=>?_) (λh=>?_)
 .obtain⟨j,rfl,hj⟩:=F8 h;rw[h,ahP rfl];obtain⟨x,hx⟩:=eX (UInt8.ofNat (j+1));obtain⟨y,hy⟩:=eX (UInt8.ofNat (j+2));have e1:IntKind.u8.wrap (IntKind.i64.wrap ((j:Int)+1))=(x.toNat:Int):=by rw[bR om (by unfold cu at hn;omega),show(j:Int)+1=((j+1:Nat):Int)by omega,rC,hx]
  have e2:IntKind.u8.wrap (IntKind.i64.wrap ((j:Int)+2))=(y.toNat:Int):=by rw[bR om (by unfold cu at hn;omega),show(j:Int)+2=((j+2:Nat):Int)by omega,rC,hy]
  simp only;simp[go_sem];refine yB [] 1 rfl kR kR ?_;simp[go_sem,e1];refine zF (yY [x]) ?_;have r1:pW [V.int IntKind.u8 x.toNat]=x:=by simp[pW]
  have r2:pW [V.int IntKind.u8 y.toNat]=y:=by simp[pW]
  simp[go_sem,e2,r1];refine zF (yY [y]) ?_;simp[go_sem,r2];exact zV (zD rfl) ⟨by rw[<-hx,<-hy];simp,rfl⟩
 .rw[h];simp[go_sem];exact wR
end Go.Proofs.YtefbicjgbaaieaaGreat.R
namespace Go.Proofs.YtefbicjgbaaieaaGreat
open Go Go.Vx R Go.Proofs.Tryz
set_option maxRecDepth 100000
theorem SQ (v:bF):(im v).length<=140:=by
 by_cases h:dw v=true;.have h1:=xL5 (v:=v);have h2:=NW h;omega
 .unfold im;rw[ahO h];simp
def eS (x y:aij):aij:=if Op.bytesLess x y=true then y else x
def iq (x y:aij):aij:=if Op.bytesLess x y=true\/x=y then x else y
def jT (at_:aij)(sign:aij)(b:aij×aij):aij×aij:=if sign=[61]then(eS b.1 at_,iq b.2 (at_++[0]))else if sign=[60]then(b.1,iq b.2 at_)else if sign=[60,61]then(b.1,iq b.2 (at_++[0]))else if sign=[62]then(eS b.1 (at_++[0]),b.2)else if sign=[62,61]then(eS b.1 at_,b.2)else b
def va (n:Nat)(t:Int)(name:aij)(l:List bG)(b:aij×aij):aij×aij:=l.foldl (λb e=>match lu e name with|none=>b|some (s,v)=>jT (np n t v) s b) b
def xg (T:bH):Option aij:=if 0<=T.key then(T.bP[T.key.toNat]?).map (·.name)else none
def mR (ts:List bH)(t:Int)(st:bQ):aij×aij:=if nk ts.length t=true then match(ts[t.toNat]?).bind xg with|none=>jw ts.length t|some name=>let b:=va ts.length t name (lQ st) (jw ts.length t);(b.1,eS b.2 b.1)else jw ts.length t
def Eu (b:aij×aij):V:=.cm [.str b.1,.str b.2]
theorem SR (o:Option (aij×bF)):iH (nT o)=true:=by obtain _|⟨s,v⟩:=o<;>rfl
theorem xD4 (aa:List (List V))(ts:List bH)(t:Int)(st:bQ)(hn:ts.length<=cu)(_hc0:∀T∈ts,T.bP.length<=maxLen)(hl:(lQ st).length<=maxLen)(hv:∀e∈lQ st,∀name s v,lu e name=some (s,v)->v.ok):Pure prog 60 [.agg [.sl .ro aa,.sl .ro (ts.map bH.row)],.int .i64 t,.agg st.row] (Eu (mR ts t st)):=by
 generalize hM:mR ts t st=M;have ret:∀(r:aij×aij)(U:St),r=M->bW (some (.cm [.str r.1,.str r.2])) 0 (λr s=>r=Eu M/\s=[]) U:=λr U h=>by subst h;exact wR
 have ab:=ws3 aa (ts.map bH.row) t (sU hn);have ag:=Sv st;simp only[Bq]at ab;unfold mR at hM;generalize hA:jw ts.length t=A at ab hM;generalize hL:lQ st=L at ag hM hl hv;refine iV 0 func60 ntmps60 results60 λc hc hb=>?_;refine zA ?_;simp[go_sem];refine pC ab ?_;simp[go_sem];refine(A1 (nk ts.length t)).elim (λh=>?_) (λh=>?_);rotate_left
 .simp only[h]at hM;have h2:decide (t<0)=true\/(decide (t<0)=false/\decide ((ts.length:Int)<=t)=true):=by unfold nk at h;simp only[Bool.and_eq_false_iff,ahZ]at h;simp only[ahS,ahZ];omega
  refine h2.elim (λq=>?_) (λq=>?_);all_goals simp[go_sem,q]
  all_goals exact ret _ _ hM
 obtain⟨j,rfl,hj⟩:=F8 h;obtain⟨T,hT⟩:=eX (ts[j]);have ax:decide ((ts.length:Int)<=j)=false:=ahQ om;have ah:decide ((j:Int)<0)=false:=ahQ om;simp only[h,ai0,Ai,A0 hj,hT,An]at hM;have ai:decide (ts.length<=j)=false:=ahQ om;simp[go_sem,ah,ai,hj,hT];by_cases hk:0<=T.key/\T.key<T.bP.length;rotate_left
 .have ad:xg T=none:=by
   unfold xg;split;.rw[Cq om];rfl
   .rfl
  rw[ad]at hM;have h2:decide (T.key<0)=true\/(decide (T.key<0)=false/\decide ((T.bP.length:Int)<=T.key)=true):=by simp only[ahS,ahZ];omega
  refine h2.elim (λq=>?_) (λq=>?_);all_goals simp[go_sem,q]
  all_goals exact ret _ _ hM
 obtain⟨m,hm⟩:∃m:Nat,T.key=m:=⟨T.key.toNat,om⟩;have ae:m<T.bP.length:=om;obtain⟨C,hC⟩:=eX (T.bP[m]);have ad:xg T=some C.name:=by unfold xg;rw[ahP om,hm,Ai,A0 ae,hC];rfl
 simp only[ad]at hM;have aj:decide (T.key<0)=false:=ahQ om;have ak:decide ((T.bP.length:Int)<=T.key)=false:=ahQ om;simp[go_sem,aj,ak];refine zJ ag cB (zK sg rfl) rfl ?_;simp[go_sem];refine zG (S:=Nat×aij×aij) [1,3,6,7,8,52,53,54] (λu=>[.int .i64 j,.ptr 0 0,.str u.2.1,.str u.2.2,.ptr 1 0,.sl .ro (L.map bG.row),.int .i64 L.length,.int .i64 u.1]) (λ_=>[.box [.sl .ro aa,.sl .ro (ts.map bH.row)],.box T.row]) (λu=>L.length-u.1) (λu=>u.1<=L.length/\va ts.length j C.name (L.drop u.1) u.2=va ts.length j C.name L A) hc hb (0,A) ⟨A3 _,rfl⟩ ?_ ?_
 .exact AL [0,2] dc rfl ⟨by simp[go_sem,yO,dz,dE],by simp[go_sem,yO,dz,dE],tV⟩ ⟨zD rfl,.inl (by simp[go_sem,dG,dQ,dz,dE,cO]),zD rfl,zD rfl,.inl (by simp[go_sem,dG,dQ,dz,dE,cO]),zP,zD rfl,zD rfl,tV⟩
 rintro⟨i,b⟩⟨hi,hinv⟩;simp only at hi hinv;by_cases q:i<L.length;rotate_left;.rw[A4 om]at hinv;have al:b=va ts.length j C.name L A:=hinv;rw[<-al]at hM;refine zA ?_;simp[go_sem,q];exact ret (b.1,eS b.2 b.1) _ hM
 have ei:=zR q (by unfold maxLen at hl;omega);obtain⟨x,hx⟩:=eX (L[i]);have an:x∈L:=hx▸A7 q;rw[A2 q,hx]at hinv;have ao:=Sw x C.name;have aq:=hv x an C.name;have aw:=bG.bK x;refine zA ?_;simp[go_sem,q,hx];refine yB [(8,0),(15,3)] 3 sm kR kR ?_;have ar:T.bP[m]?=some C:=by rw[A0 ae,hC]
 simp[go_sem,hm,ar];refine zF ae ?_;simp[go_sem];refine yF ao cB (λ_=>zK sg (by rw[bG.bK];rfl)) (SR _) ?_;cases ha:lu x C.name with |none=>simp only[va,Ap,ha]at hinv;simp[go_sem,nT,Kl,ei];refine zH (i+1,b) ⟨by simp only;omega,⟨by simp only;omega,hinv⟩,?_⟩;exact bT 2 (by simp[go_sem,hm]) rfl (by rfl) (A3 _) (zC sg rfl)|some p=>
  obtain⟨s,v⟩:=p;have au:=aq s v ha;have af:=SO aa (ts.map bH.row) j v (sU hn) au;simp only[Bq]at af;simp only[va,Ap,ha]at hinv;obtain⟨B,hB⟩:=eX (np ts.length j v);have av:B.length<=9223372036854775806:=by have:=SQ v;rw[<-hB];unfold np;rw[ahP h];simp only[Af];omega
  rw[hB]at af;simp[go_sem,nT];refine zJ af cB (zK sg rfl) rfl ?_;simp[go_sem];refine zF av ?_;simp[go_sem];have fin:∀b',jT B s b=b'->va ts.length j C.name (L.drop (i+1)) b'=va ts.length j C.name L A:=λb' h=>by rw[<-h,<-hB];exact hinv
  repeat'(first|(refine zO (λq=>?_) (λq=>?_)<;>simp[go_sem,q,ei]))
  all_goals simp only[ahX,beq_eq_false_iff_ne]at*
  all_goals refine zH (i+1,jT B s b) ⟨by simp only;omega,⟨by simp only;omega,fin _ rfl⟩,?_⟩
  all_goals refine bT 2 (by simp[go_sem,hm]) rfl (by rfl) (A3 _) (zC ?_ rfl)
  all_goals unfold jT eS iq
  all_goals simp[go_sem, *]
theorem nU:(Tryz.prog.funcs.all λfn=>!(fn.name=="runtime.NumGoroutine"))=true:=kR
theorem wV:Tryz.prog.follows .mixedOrders=true:=kR
def marks (f:Nat):aik:=if f=185then[7]else[]
def NY:AP:=⟨[1],[],[0,1],0,0,0⟩
def kY:bH:=⟨[84],[⟨[82],2,false⟩,⟨[75],2,false⟩,⟨[86],3,true⟩,⟨[78],2,true⟩],1,0,0,NY⟩
def rE:bH:=⟨[71],[⟨[75],3,false⟩,⟨[78],2,false⟩,⟨[66],1,true⟩],0,1,0,NY⟩
def rF:bH:=⟨[72],[⟨[66],1,false⟩,⟨[78],2,true⟩],0,2,1,NY⟩
def bI:List bH:= [kY,rE,rF]
def yL:List (List V):=[[.int .i64 0],[.int .i64 0],[.int .i64 1],[.int .i64 1]]
def Ev:V:=.agg [.sl .full yL,.sl .full (bI.map bH.row)]
def cA (ts:List bH):V:=.agg [.sl .ro yL,.sl .ro (ts.map bH.row)]
theorem xE0:Pure prog 39 [] Ev:=pf nU wV marks 10000 kR
theorem xS1{ρ:Nat->Nat}:cR ρ (cA bI) Ev:=uM ⟨yH,yH,tV⟩
def wY (t r:Int):Int×Int:=if t=0then(if r=0then(0,0)else if r=1then(1,0)else(0,19))else if t=1then(2,0)else if t=2then(3,0)else(0,1)
def Ew (p:Int×Int):V:=.cm [.int .i64 p.1,.int .i64 p.2]
theorem SU (t r:Int)(h:t=0\/t=1\/t=2)(hr:r=-1\/r=0\/r=1\/r=2\/r=3\/r=4):Pure prog 62 [cA bI,.int .i64 t,.int .i64 r] (Ew (wY t r)):=by rcases h with rfl|rfl|rfl<;>rcases hr with rfl|rfl|rfl|rfl|rfl|rfl<;>exact pf nU wV marks 10000 kR
theorem xu1 (j:Nat)(hj:j<3):Pure prog 62 [cA (bI.take (j+1)),.int .i64 j,.int .i64 0] (Ew (wY j 0)):=by match j,hj with |0,_=>exact pf nU wV marks 10000 kR|1,_=>exact pf nU wV marks 10000 kR|2,_=>exact pf nU wV marks 10000 kR
def dY (r:Int):Int×Int×Int:=if r=0then(0,0,0)else if r=1then(0,1,0)else if r=2then(1,-1,0)else if r=3then(2,1,0)else(0,0,1)
def mg (p:Int×Int×Int):V:=.cm [.int .i64 p.1,.int .i64 p.2.1,.int .i64 p.2.2]
theorem wb7:Pure prog 111 [cA bI] (.int .i64 0):=pf nU wV marks 10000 kR
theorem xB3:Pure prog 116 [cA bI] (.sl .ro [[.int .i64 0],[.int .i64 1]]):=bL.GM (Rg nU wV marks 10000 (v:=.cL 1 1 4 0 2) (U':=[.box [.sl .ro yL,.sl .ro (bI.map bH.row)],.cj [[.int .i64 0],[.int .i64 1],[.int .i64 0],[.int .i64 0]] 1]) kR) (λr s⟨h1,h2⟩=>by subst h1;subst h2;exact⟨_,_,.step 1 1 [[.int .i64 0],[.int .i64 1],[.int .i64 0],[.int .i64 0]] rfl rfl (.refl _ _),zP⟩)
def Kq (t:Nat):Int:=if t=0then 2 else 1
theorem NZ (j:Nat)(hj:j<3):Pure prog 145 [cA bI,.agg (bI[j]'hj).row] (.int .i64 (Kq j)):=by match j,hj with |0,_=>exact pf nU wV marks 10000 kR|1,_=>exact pf nU wV marks 10000 kR|2,_=>exact pf nU wV marks 10000 kR
theorem Kr{M:Int×Int×Int}{a b e:Int}{U:St}(h:(a,b,e)=M):bW (some (.cm [.int .i64 a,.int .i64 b,.int .i64 e])) 0 (λr s=>r=mg M/\s=[]) U:=by subst h;exact wR
theorem HQ (g:Nat)(hg:g<1000):Pure prog 86 [cA bI,.int .i64 g] (mg (dY g)):=by
 have ab:=NZ 0 dc;have ad:=NZ 1 dc;have ae:=NZ 2 dc;have hr:=xB3;generalize hM:dY g=M;refine iV 0 func86 ntmps86 results86 λc hc hb=>?_;refine zA ?_;simp[go_sem,cA];have h0:decide ((g:Int)<0)=false:=ahQ om;simp[go_sem,h0];refine zG (S:=Nat×Nat) [1,2,13,14,15] (λu=>[.int .i64 u.2,.ptr 0 0,.sl .ro (bI.map bH.row),.int .i64 3,.int .i64 u.1]) (λ_=>[.box [.sl .ro yL,.sl .ro (bI.map bH.row)]]) (λu=>3-u.1) (λu=>(u.1=0/\u.2=g)\/(u.1=1/\u.2+2=g)\/(u.1=2/\u.2+3=g)\/(u.1=3/\u.2+4=g)) hc hb (0,g) (.inl ⟨rfl,rfl⟩) ?_ ?_;.exact aM 1 (by rfl) (zC (by simp[go_sem];rfl) rfl)
 rintro⟨i,r⟩ h;simp only at h;refine h.elim (λ⟨h1,h2⟩=>?_) λh=>h.elim (λ⟨h1,h2⟩=>?_) λh=>h.elim (λ⟨h1,h2⟩=>?_) λ⟨h1,h2⟩=>?_
 .subst h1;refine zA ?_;simp[go_sem,bI];refine zJ ab cB (zK (by simp[go_sem,cA,bI]) rfl) rfl ?_;simp[go_sem,Kq];by_cases q:2<=r
  .have q':decide ((2:Int)<=r)=true:=ahR om;have e:IntKind.i64.wrap ((r:Int)-2)=((r-2:Nat):Int):=by rw[bR om om];omega
   simp[go_sem,q',e];exact zH (1,r-2) ⟨by simp only;omega,.inr (.inl ⟨rfl,by simp only;omega⟩),aN 1 (by rfl)⟩
  .have q':decide ((2:Int)<=r)=false:=ahQ om;simp[go_sem,q',show kY.place=0from rfl];refine yB [(2,0)] 2 sm kR kR ?_;simp[go_sem];refine yF hr cB (λ_=>zK (by simp[go_sem,cA,bI,show kY.place=0from rfl]) rfl) rfl ?_;have aa:r=0\/r=1:=om;refine aa.elim (λe=>?_) (λe=>?_);all_goals subst e
   all_goals simp[go_sem]
   all_goals exact Kr (by rw[<-hM,<-h2];rfl)
 .subst h1;refine zA ?_;simp[go_sem,bI];refine zJ ad cB (zK (by simp[go_sem,cA,bI]) rfl) rfl ?_;simp[go_sem,Kq];by_cases q:1<=r
  .have q':decide ((1:Int)<=r)=true:=ahR om;have e:IntKind.i64.wrap ((r:Int)-1)=((r-1:Nat):Int):=by rw[bR om om];omega
   simp[go_sem,q',e];exact zH (2,r-1) ⟨by simp only;omega,.inr (.inr (.inl ⟨rfl,by simp only;omega⟩)),aN 1 (by rfl)⟩
  .have q':decide ((1:Int)<=r)=false:=ahQ om;simp[go_sem,q',show rE.place=1from rfl];have aa:r=0:=om;subst aa;exact Kr (by rw[<-hM,<-h2];rfl)
 .subst h1;refine zA ?_;simp[go_sem,bI];refine zJ ae cB (zK (by simp[go_sem,cA,bI]) rfl) rfl ?_;simp[go_sem,Kq];by_cases q:1<=r
  .have q':decide ((1:Int)<=r)=true:=ahR om;have e:IntKind.i64.wrap ((r:Int)-1)=((r-1:Nat):Int):=by rw[bR om om];omega
   simp[go_sem,q',e];exact zH (3,r-1) ⟨by simp only;omega,.inr (.inr (.inr ⟨rfl,by simp only;omega⟩)),aN 1 (by rfl)⟩
  .have q':decide ((1:Int)<=r)=false:=ahQ om;have aa:r=0:=om;subst aa;simp[go_sem,show rF.place=2from rfl];refine yB [] 2 sm kR kR ?_;simp[go_sem];exact Kr (by rw[<-hM,<-h2];rfl)
 .subst h1;refine zA ?_;simp[go_sem,bI];exact Kr (by rw[<-hM,<-h2];unfold dY;rw[ahO om,ahO om,ahO om,ahO om])
theorem wq8 (v:bF)(l:aim):([.box v.row,.cj (l.map yG) 1]:St).all (bO 2)=true:=by simp[bO,cH,cF,yG,bF.row]
theorem SV (v:bF)(r:Int):bL prog 113 [.int .i64 r,.ptr 0 0] [.box v.row] (λx s=>x=.bool (r !=v.n)/\s=[.box v.row]):=by refine iW 1 func113 ntmps113 results113 λc hc hb=>zM ?_;simp[go_sem];exact wC 1 sg rfl rfl (A6 _) (zD rfl) ⟨rfl,rfl⟩
def kZ (p:Int->Bool):aim->Nat->Int|[],_=>-1|x::l,i=>if p x=true then i else kZ p l (i+1)
theorem wt8 (v:bF)(xs:aim)(m:Nat)(hm:m<=xs.length)(hl:xs.length<=1000):bL prog 182 [.cL 1 1 xs.length 0 m,.fn 113 [.ptr 0 0]] [.box v.row,.cj (xs.map yG) 1] (λr s=>r=.int .i64 (kZ (λx=>x !=v.n) (xs.take m) 0)/\s=[.box v.row,.cj (xs.map yG) 1]):=by
 generalize hM:kZ (λx=>x !=v.n) (xs.take m) 0=M;have ret:∀(r:Int)(U:St),r=M->U.take 2=[.box v.row,.cj (xs.map yG) 1]->bW (some (.int .i64 r)) 2 (λr s=>r=.int .i64 M/\s=[.box v.row,.cj (xs.map yG) 1]) U:=λr U h hs=>by subst h;exact wC 2 hs rfl (by simp[bO,cH,cF,yG,bF.row]) (A6 _) (zD rfl) ⟨rfl,rfl⟩
 refine iV 2 func182 ntmps182 results182 λc hc hb=>?_;refine zA ?_;simp[go_sem];refine zG (S:=Nat) [0,1,7,8] (λi=>[.cL 1 1 xs.length 0 m,.fn 113 [.ptr 0 0],.int .i64 m,.int .i64 i]) (λ_=>[.box v.row,.cj (xs.map yG) 1]) (λi=>m-i) (λi=>i<=m/\kZ (λx=>x !=v.n) ((xs.take m).drop i) i=M) hc hb 0 ⟨A3 _,hM⟩ ?_ ?_;.exact aN 2 (by simp[bO,cH,cF,yG,bF.row])
 rintro i⟨hi,hinv⟩;by_cases q:i<m;rotate_left;.rw[A4 (by simp;omega)]at hinv;refine zA ?_;simp[go_sem,q];exact ret _ _ hinv rfl
 have ei:=zR q om;have aa:i<xs.length:=om;obtain⟨x,hx⟩:=eX (xs[i]);have ab:(xs.take m)[i]'(by simp;omega)=x:=by rw[List.getElem_take];exact hx
 rw[A2 (by simp;omega),ab,kZ]at hinv;have hd:=SV v x;obtain⟨b,ad⟩:=eX ((x !=v.n));rw[ad]at hd hinv;refine zA ?_;simp[go_sem,q,aa,hx];refine sf 1 hd cB sg rfl rfl (pa rfl) (λr s h=>by obtain⟨rfl,rfl⟩:=h;exact⟨rfl,rfl,rfl⟩) ?_;rintro r s⟨rfl,rfl⟩;simp[go_sem];refine zO (λw=>?_) (λw=>?_);.rw[ahP w]at hinv;simp[go_sem];exact ret _ _ hinv rfl
 .rw[ahO (by rw[w];decide)]at hinv;simp[go_sem,ei];exact zH (i+1) ⟨om,⟨q,hinv⟩,aN 2 (by simp[bO,cH,cF,yG])⟩
def lv (n:Int)(l:aim):aim:=l.filter (·==n)
theorem SX{n:Int}:∀(l:aim)(i:Nat),kZ (λx=>x !=n) l i=-1->lv n l=l
 |[],_,_=>rfl|x::l,i,h=>by
  unfold kZ at h;split at h;.omega
  .rename_i q;have:=SX l (i+1) h;have hx:(x==n)=true:=sU q;unfold lv at this⊢;rw[List.filter_cons_of_pos (sU hx),this]
theorem SY{n:Int}:∀(l:aim)(i:Nat),kZ (λx=>x !=n) l i≠-1->∃k,kZ (λx=>x !=n) l i=((i+k:Nat):Int)/\k<l.length/\lv n (l.take k)=l.take k/\(∀x,l[k]?=some x->x≠n)
 |[],i,h=>absurd rfl h|x::l,i,h=>by
  unfold kZ at h⊢;split;.rename_i q;exact⟨0,sm,sm,rfl,λy hy=>by simp at hy;subst hy;simpa using q⟩
  .rename_i q;rw[ahO q]at h;obtain⟨k,h1,h2,h3,h4⟩:=SY l (i+1) h;have hx:(x==n)=true:=sU q;refine⟨k+1,by rw[h1];congr 1;omega,by simp;omega,?_,λy hy=>h4 y (sU hy)⟩;unfold lv at h3⊢;rw[C3,List.filter_cons_of_pos (sU hx),h3]
theorem N0{n:Int}{xs:aim}{j:Nat}{x:Int}(h:xs[j]?=some x):lv n (xs.take (j+1))=lv n (xs.take j)++(if x=n then[x]else[]):=by
 unfold lv;rw[Cn,h,List.filter_append];by_cases q:x=n;.simp[q]
 .simp[q]
theorem wl5 (v:bF)(xs:aim)(m:Nat)(hm:m<=xs.length)(hl:xs.length<=1000):bL prog 112 [.cL 1 1 xs.length 0 m,.fn 113 [.ptr 0 0]] [.box v.row,.cj (xs.map yG) 1] (λr s=>∃ys:aim,ys.length=xs.length/\(lv v.n (xs.take m)).length<=m/\ys.take (lv v.n (xs.take m)).length=lv v.n (xs.take m)/\r=.cL 1 1 xs.length 0 (lv v.n (xs.take m)).length/\s=[.box v.row,.cj (ys.map yG) 1]):=by
 obtain⟨K,hK⟩:=eX (lv v.n (xs.take m));have an:K.length<=m:=by rw[<-hK];unfold lv;exact Ao (Dk _ _) (by simp;omega)
 rw[hK];have ret:∀(ys:aim)(k:Nat)(U:St),ys.length=xs.length->k=K.length->ys.take K.length=K->U.take 2=[.box v.row,.cj (ys.map yG) 1]->bW (some (.cL 1 1 xs.length 0 k)) 2 (λr s=>∃ys:aim,ys.length=xs.length/\K.length<=m/\ys.take K.length=K/\r=.cL 1 1 xs.length 0 K.length/\s=[.box v.row,.cj (ys.map yG) 1]) U:=λys k U h1 h2 h3 h4=>by subst h2;exact wC 2 h4 rfl (by simp[bO,cH,cF,yG,bF.row]) (A6 _) (o7 rfl) ⟨ys,h1,an,h3,rfl,rfl⟩
 have ao:=wt8 v xs m hm hl;refine iV 2 func112 ntmps112 results112 λc hc hb=>?_;refine zA ?_;simp[go_sem];refine sf 2 ao cB sg rfl (by simp[bO,cH,cF,yG,bF.row]) (pa rfl) (λr s h=>by obtain⟨rfl,rfl⟩:=h;exact⟨rfl,by simp[bO,cH,cF,yG,bF.row],rfl⟩) ?_;rintro r s⟨rfl,rfl⟩;by_cases h0:kZ (λx=>x !=v.n) (xs.take m) 0=-1;.have ag:=SX _ _ h0;rw[hK]at ag;rw[h0];simp[go_sem];exact ret xs m _ rfl (by rw[ag];simp;omega) (by rw[ag];simp) (by rfl)
 obtain⟨k,h1,h2,h3,h4⟩:=SY _ _ h0;rw[Ab]at h1;rw[h1];have aq:k<m:=by simp at h2;omega
 have ar:((k:Int)==-1)=false:=sm;have ek:IntKind.i64.wrap ((k:Int)+1)=((k+1:Nat):Int):=by rw[bR om om];omega
 have au:lv v.n (xs.take (k+1))=xs.take k:=by have ai:k<xs.length:=om;have h5:=h4 xs[k] (by rw[Aw,ahP aq,A0 ai]);rw[N0 (A0 ai),ahO h5,Ay];rw[List.take_take,Dj om]at h3;exact h3
 simp[go_sem,ar,ek];refine zG (S:=Nat×Nat×aim) [0,1,5,6] (λu=>[.cL 1 1 xs.length 0 m,.fn 113 [.ptr 0 0],.int .i64 u.1,.int .i64 u.2.1]) (λu=>[.box v.row,.cj (u.2.2.map yG) 1]) (λu=>m-u.2.1) (λu=>u.1<u.2.1/\u.2.1<=m/\u.2.2.length=xs.length/\u.2.2.take u.1=lv v.n (xs.take u.2.1)/\u.2.2.drop u.2.1=xs.drop u.2.1) hc hb (k,k+1,xs) ⟨by simp only;omega,by simp only;omega,rfl,au.symm,rfl⟩ ?_ ?_;.exact aN 2 (by simp[bO,cH,cF,yG,bF.row])
 rintro⟨i,j,ys⟩⟨av,aw,ad,aa,ab⟩;simp only at av aw ad aa ab;by_cases q:j<m;rotate_left
 .have hj:j=m:=om;subst hj;rw[hK]at aa;have aj:i=K.length:=by rw[<-aa];simp;omega
  have af:i<=j:=om;refine zA ?_;simp[go_sem];refine zF af ?_;simp[go_sem,ad];refine zF om ?_;simp[go_sem];refine zF (.inl af) ?_;simp[go_sem];refine ret (ys.take i++List.replicate (j-i) 0++ys.drop (i+(j-i))) i _ (by simp;omega) aj (by rw[<-aj,Cb,List.take_append_of_le_length (by simp;omega)];rw[List.take_take,Nat.min_self,aa]) ?_;simp[go_sem,yG]
 have ej:=zR q om;have ax:j<ys.length:=om;have ay:j<xs.length:=om;obtain⟨x,hx⟩:=eX (ys[j]);have az:ys[j]?=some x:=by rw[A0 ax,hx]
 have ak:xs[j]?=some x:=by have:=ahU (λl=>l[0]?) ab;simp only[C7,D6]at this;rw[<-this,az]
 have ei:IntKind.i64.wrap ((i:Int)+1)=((i+1:Nat):Int):=by rw[bR om om];omega
 have hd:=SV v x;obtain⟨b,ah⟩:=eX ((x !=v.n));rw[ah]at hd;refine zA ?_;simp[go_sem,q,ay,hx,ad];refine sf 1 hd cB sg rfl rfl (pa rfl) (λr s h=>by obtain⟨rfl,rfl⟩:=h;exact⟨rfl,rfl,rfl⟩) ?_;rintro r s⟨rfl,rfl⟩;simp[go_sem];refine zO (λw=>?_) (λw=>?_);all_goals simp[go_sem,ej]
 .have q2:x=v.n:=by simpa using(show(x !=v.n)=false by rw[ah];simpa using w)
  have ae:=N0 (n:=v.n) ak;rw[ahP q2]at ae;refine zF om ?_;have al:i<xs.length:=om;obtain⟨y,a1⟩:∃y,ys[i]?=some y:=⟨_,A0 om⟩;simp[go_sem,ad,al,ei,ej];refine zH (i+1,j+1,ys.set i x) ⟨by simp only;omega,⟨by simp only;omega,by simp only;omega,by simp[ad],?_,?_⟩,?_⟩;.rw[ae,<-aa,Cn,Bc om,List.take_set_of_le (A6 i)];simp
  .simp only;rw[List.drop_set,ahP om];have:=ahU (List.drop 1) ab;simpa[Do,Dx]using this
  .exact bT 2 (by simp[go_sem,yG]) rfl (wq8 v _) (A6 _) (zC sg rfl)
 .have q2:¬x=v.n:=by
   have:(x !=v.n)=true:=by rw[ah];simpa using w
   simpa using this
  have ae:=N0 (n:=v.n) ak;rw[ahO q2,Ay]at ae;refine zH (i,j+1,ys) ⟨by simp only;omega,⟨by simp only;omega,by simp only;omega,ad,by rw[ae];exact aa,?_⟩,?_⟩;.have:=ahU (List.drop 1) ab;simpa[Do,Dx]using this
  .exact aN 2 (by simp[bO,cH,cF,yG])
def sE (t:Nat):aim:=if t=0then[0,1]else if t=1then[-1]else[1]
def ku (l:List bG)(rs:aim):aim:=l.foldl (λrs e=>match lu e [82]with|none=>rs|some (s,v)=>if s=[61]/\v.kind=2then lv v.n rs else rs) rs
def wE (t:Int)(st:bQ):aim:=if t=0then ku (lQ st) [0,1]else if t=1then[-1]else if t=2then[1]else[]
theorem xw3{n:Int}(l:aim):(lv n l).length<=l.length:=Dk _ _
theorem xw1 (l:aim):xB (l.map yG)=true:=by simp[xB,yG,oz]
theorem xb6 (l:aim)(m:Nat):gE (l.map yG) 0 m=(l.take m).map yG:=by unfold gE;rw[Au,<-List.map_take,B8];rfl
theorem SZ (st:bQ)(T:bH)(l:aim):([.box [.sl .ro yL,.sl .ro (bI.map bH.row)],.box st.row,.box T.row,.cj (l.map yG) 1]:St).all (bO 4)=true:=by simp[bO,cH,cF,yG,bQ.row,bH.row]
theorem N1 (T:bH)(l:aim):([.box T.row,.cj (l.map yG) 1]:St).all (bO 2)=true:=by simp[bO,cH,cF,yG,bH.row]
theorem S0 (n:Nat)(l:aim):bO n (.cj (l.map yG) 1)=true:=by simp[bO,cH,cF,yG]
theorem xh0 (j:Nat)(hj:j<3):∃s0:Nat,wY j 0=((s0:Int),0)/\s0+(sE j).length<5/\(∀(k:Nat) x,(sE j)[k]?=some x->dY ((s0+k:Nat):Int)=((j:Int),x,0))/\((dY ((s0+(sE j).length:Nat):Int)).2.2≠0\/((dY ((s0+(sE j).length:Nat):Int)).2.2=0/\(dY ((s0+(sE j).length:Nat):Int)).1≠j)):=by match j,hj with
 |0,_=>exact⟨0,rfl,dc,λk x h=>(by match k with |0=>cases h;rfl|1=>cases h;rfl|k+2=>cases h),.inr dc⟩|1,_=>exact⟨2,rfl,dc,λk x h=>(by match k with |0=>cases h;rfl|k+1=>cases h),.inr dc⟩|2,_=>exact⟨3,rfl,dc,λk x h=>(by match k with|0=>cases h;rfl|k+1=>cases h),.inl dc⟩
theorem S1:∀(l:List bG)(rs:aim),(ku l rs).length<=rs.length
 |[],_=>A6 _|e::l,rs=>by
  have h1:ku (e::l) rs=ku l (match lu e [82]with|none=>rs|some (s,v)=>if s=[61]/\v.kind=2then lv v.n rs else rs):=rfl;rw[h1];refine Ao (S1 l _) ?_;split;.exact A6 _
  .split;.exact xw3 _
   .exact A6 _
theorem xu2 (t:Int)(st:bQ)(hl:(lQ st).length<=maxLen):Pure prog 61 [cA bI,.int .i64 t,.agg st.row] (.sl .ro ((wE t st).map yG)):=by
 have al:=Sv st;generalize hM:wE t st=M;unfold wE at hM;generalize hL:lQ st=L at al hM hl;have an:∀(g:Tag)(U:St),[]=M->bW (some (.sl g [])) 0 (λr s=>r=.sl .ro (M.map yG)/\s=[]) U:=λg U h=>by subst h;exact zV zP ⟨rfl,rfl⟩
 have ah:∀(id:Nat)(ys:aim)(N m:Nat)(U:St),U[id]?=some (.cj (ys.map yG) 1)->ys.length=N->m<=N->ys.take m=M->bW (some (.cL id 1 N 0 m)) 0 (λr s=>r=.sl .ro (M.map yG)/\s=[]) U:=λid ys N m U h1 h2 h3 h4=>by refine L6 id 1 (ys.map yG) h1 (xw1 ys) ?_;simp only[fr,iF,iE,ij,Bq,h2,Ab,h3,and_self,ai0,xb6,h4];exact zV zP ⟨rfl,rfl⟩
 refine iV 0 func61 ntmps61 results61 λc hc hb=>?_;refine zA ?_;simp[go_sem,cA];by_cases ht:0<=t/\t<3;rotate_left
 .have ar:[]=M:=by rw[<-hM,ahO om,ahO om,ahO om]
  have h2:decide (t<0)=true\/(decide (t<0)=false/\decide ((bI.length:Int)<=t)=true):=by simp only[ahS,ahZ,show bI.length=3from rfl];omega
  refine h2.elim (λq=>?_) (λq=>?_);all_goals simp[go_sem,q]
  all_goals exact an _ _ ar
 obtain⟨j,rfl⟩:∃j:Nat,t=j:=⟨t.toNat,om⟩;have hj:j<3:=om;obtain⟨T,hT⟩:=eX (bI[j]'(by exact hj));have ao:=xu1 j hj;obtain⟨s0,au,av,cK,aa⟩:=xh0 j hj;obtain⟨n,hn⟩:=eX ((sE j).length);rw[hn]at av aa;rw[au]at ao;have aw:decide ((j:Int)<0)=false:=ahQ om;have aG:decide ((bI.length:Int)<=j)=false:=ahQ (by simp only[show bI.length=3from rfl];omega);have ax:decide (bI.length<=j)=false:=ahQ (by simp only[show bI.length=3from rfl];omega);have ay:j<bI.length:=hj;have hle:=wb7;have e1:IntKind.i64.wrap ((j:Int)+1)=((j+1:Nat):Int):=by rw[bR om om];omega
 simp[go_sem,aw,ax,ay];refine FH 8 1 dc sg ?_;refine yB [(10,0),(11,0)] 4 sm kR kR ?_;simp[go_sem,e1];refine zF ⟨om,by simp only[show bI.length=3from rfl];omega,vZ λT=>rfl⟩ ?_;simp[go_sem];refine yF hle cB (λ_=>zK (by simp[go_sem,cA]) rfl) rfl ?_;simp[go_sem];refine yF ao cB (λ_=>zK (by simp[go_sem,cA]) rfl) rfl ?_;simp[go_sem,Ew];refine zG (S:=Nat) [1,3,5,7,8,9] (λk=>[.int .i64 j,.ptr 0 0,.ptr 1 0,.ptr 2 0,.cL 3 1 k 0 k,.int .i64 ((s0+k:Nat):Int)]) (λk=>[.box [.sl .ro yL,.sl .ro (bI.map bH.row)],.box st.row,.box T.row,.cj (((sE j).take k).map yG) 1]) (λk=>n-k) (λk=>k<=n) hc hb 0 (A3 _) ?_ ?_;.exact bT 4 (by simp[go_sem,<-hT];exact⟨rfl,rfl,rfl,rfl,rfl,rfl,rfl,rfl,rfl,rfl,rfl⟩) rfl (SZ st T _) (A3 _) (zC sg rfl)
 intro k hk;have az:=HQ (s0+k) om;refine zA ?_;simp[go_sem];refine zJ az cB (zK (by simp[go_sem,cA]) rfl) rfl ?_;by_cases aH:k<n
 .obtain⟨x,hx⟩:∃x,(sE j)[k]?=some x:=⟨_,A0 om⟩;rw[cK k x hx];have a1:¬(k+1<=k):=om;have ei:IntKind.i64.wrap (((s0:Int)+k)+1)=(s0:Int)+k+1:=by rw[bR om om]
  simp[go_sem,mg,a1];refine zF ⟨om,zT rfl,om⟩ ?_;simp[go_sem,ei];refine zH (k+1) ⟨om,om,?_⟩;exact bT 4 (by simp[go_sem,Cn,hx,yG]) rfl (SZ st T _) (A3 _) (zC (by simp[go_sem];omega) rfl)
 .obtain rfl:k=n:=om;obtain⟨⟨a,b2,e⟩,hp⟩:∃p,dY ((s0+k:Nat):Int)=p:=⟨_,rfl⟩;rw[hp]at aa⊢;simp only at aa;have hY:((sE j).take k).length=k:=by simp;omega
  have ad:(e !=0)=true\/((e !=0)=false/\(a !=j)=true):=by
   rcases aa with h|h;.exact .inl (sU h)
   .exact .inr ⟨by simpa using h.1,by simpa using h.2⟩
  by_cases ai:j=0;rotate_left
  .have aj:(T.place !=0)=true:=by rw[<-hT];match j,hj,ai with|1,_,_=>rfl|2,_,_=>rfl
   have a6:(sE j)=M:=by rw[<-hM];match j,hj,ai with|1,_,_=>rfl|2,_,_=>rfl
   refine ad.elim (λq=>?_) (λq=>?_);all_goals simp[go_sem,mg,q,aj]
   all_goals exact ah 3 ((sE j).take k) k k _ sg hY (A6 _) (by rw[List.take_take,Nat.min_self,Ac om];exact a6)
  subst ai;have aj:(T.place !=0)=false:=by rw[<-hT];rfl
  have ab:T.bP=[⟨[82],2,false⟩,⟨[75],2,false⟩,⟨[86],3,true⟩,⟨[78],2,true⟩]:=by rw[<-hT];rfl
  have a7:k=2:=by rw[<-hn];rfl
  subst a7;have ak:(e !=0)=true\/((e !=0)=false/\(a !=0)=true):=sU ad;refine ak.elim (λq=>?_) (λq=>?_);all_goals simp[go_sem,mg,q,aj,ab]
  all_goals refine zJ al cB (zK sg rfl) rfl ?_
  all_goals simp[go_sem]
  all_goals refine zG (S:=Nat×aim×aim) [7,8,79,80,81] (λu=>[.ptr 0 0,.cL 1 1 2 0 u.2.1.length,.sl .ro (L.map bG.row),.int .i64 L.length,.int .i64 u.1]) (λu=>[.box T.row,.cj (u.2.2.map yG) 1]) (λu=>L.length-u.1) (λu=>u.1<=L.length/\u.2.1.length<=2/\u.2.2.length=2/\u.2.2.take u.2.1.length=u.2.1/\ku (L.drop u.1) u.2.1=M) hc hb (0,[0,1],[0,1]) ⟨A3 _,A6 _,rfl,rfl,hM⟩ ?_ ?_
  all_goals try exact AL [2,3] dc rfl ⟨by simp[go_sem,yO,dz,dE,ab],by simp[go_sem,yO,dz,dE,sE,yG],tV⟩ ⟨.inl (by simp[go_sem,dG,dQ,dz,dE,cO]),.inl (by simp[go_sem,dG,dQ,dz,dE,cO]),zP,zD rfl,zD rfl,tV⟩
  all_goals rintro⟨i,rs,ys⟩⟨hi,ag,ae,af,hinv⟩
  all_goals simp only at hi ag ae af hinv
  all_goals(
   by_cases hq:i<L.length;rotate_left;.rw[A4 om]at hinv;have a8:rs=M:=hinv;refine zA ?_;simp[go_sem,hq];exact ah 1 ys 2 rs.length _ sg ae ag (by rw[af];exact a8)
   have ei:=zR hq (by unfold maxLen at hl;omega);obtain⟨x,hx⟩:=eX (L[i]);rw[A2 hq,hx]at hinv;have aA:=Sw x [82];refine zA ?_;simp[go_sem,hq,hx,ab];refine yB [(6,0),(13,3)] 3 sm kR kR ?_;simp[go_sem];refine yF aA cB (λ_=>zK sg (by rw[bG.bK];rfl)) (SR _) ?_;cases ha:lu x [82]with |none=>simp only[ku,Ap,ha]at hinv;simp[go_sem,nT,Kl,ei];refine zH (i+1,rs,ys) ⟨by simp only;omega,⟨by simp only;omega,ag,ae,af,hinv⟩,?_⟩;exact bT 2 (by simp[go_sem,ab]) rfl (N1 T _) (A3 _) (zC sg rfl)|some p=>
    obtain⟨s,v⟩:=p;simp only[ku,Ap,ha]at hinv
    simp[go_sem,nT];by_cases hs:s=[61]/\v.kind=2;.rw[ahP hs]at hinv;have aB:(s==[61])=true:=sU hs.1;have aC:(v.kind==2)=true:=sU hs.2;have aq:=wl5 v ys rs.length om om;rw[af,ae]at aq;simp[go_sem,aB,aC];refine YG 3 1 aq cB dc sg sg rfl (S0 _ _) ⟨.inl (by simp[go_sem,dG,dQ,dz,dE,cO]),.inl (by simp[go_sem,dG,dQ,dz,dE,cO]),tV⟩ (λr s h=>by obtain⟨zs,_,_,_,_,rfl⟩:=h;exact⟨_,_,rfl,rfl,S0 _ _⟩) ?_;rintro r o2 p2⟨zs,aI,aJ,aD,rfl,aE⟩;obtain⟨rfl,rfl⟩:o2=.box v.row/\p2=.cj (zs.map yG) 1:=sU aE;simp[go_sem,dG,dQ,dz,dE,cO,ei];refine zH (i+1,lv v.n rs,zs) ⟨by simp only;omega,⟨by simp only;omega,by simp only;omega,om,aD,hinv⟩,?_⟩;exact bT 2 (by simp[go_sem,ab]) rfl (N1 T _) (A3 _) (zC sg rfl)
    .rw[ahO hs]at hinv;have aF:(s==[61])=false\/((s==[61])=true/\(v.kind==2)=false):=by
      by_cases h1:s=[61];.exact .inr ⟨by simpa using h1,by simpa usingλh2=>hs ⟨h1,h2⟩⟩
      .exact .inl (sU h1)
     refine aF.elim (λq1=>?_) (λq1=>?_);all_goals simp[go_sem,q1,ei]
     all_goals refine zH (i+1,rs,ys) ⟨by simp only;omega,⟨by simp only;omega,ag,ae,af,hinv⟩,?_⟩
     all_goals exact bT 2 (by simp[go_sem,ab]) rfl (N1 T _) (A3 _) (zC sg rfl))
end Go.Proofs.YtefbicjgbaaieaaGreat
