/-
  Contracts of functions that the claimed statement reaches, each proved over trees (the library Vx); used by the theorem at the end of the claim.
  Conditions: as each theorem states them.
-/
import Derived.Test.YtegbonbgofjlcaaGreatMAI
import Derived.Test.YtegbonbgofjlcaaGreatMAL
import Derived.Test.YtegbonbgofjlcaaGreatMAK
import Derived.Test.YtegbonbgofjlcaaGreatMAE
import Derived.Lib.Overlaps
import Derived.Lib.AppendZerosOnto
import Derived.Laws.Externs
import Derived.Laws.IdiomCopy
import Derived.Deep.RegionLaw
import Derived.Test.YtegbonbgofjlcaaGreatMAF
set_option maxHeartbeats 8000000
namespace Go.Proofs.YtegbonbgofjlcaaGreat
open Go Go.Vx Go.Proofs.Tryz
set_option maxRecDepth 100000
theorem Vs(c:UInt8):Pure prog 302 [.int .u8 c.toNat] (.bool (kg c)):=by
 unfold kg;generalize c.toNat=n;generalize hM:decide (48<=n/\n<=57)=M;have ret:∀(r:Bool)(I:St),r=M->cz (some (.bool r)) 0 (λr s=>r=.bool M/\s=[]) I:=λr I h=>by subst h;exact zQ (zC rfl) sM
 refine iW 0 func302 ntmps302 results302 λc hc hb=>zM ?_;simp[go_sem];refine xG (λq=>?_) (λq=>?_);.simp[go_sem,q];refine ret _ _ ?_;rw[<-hM];grind
 .simp[go_sem,q];refine ret _ _ ?_;grind
theorem xi6:∀n:Fin 256,nh (UInt8.ofNat n.1)=(((decide (97<=jF .or .u8 (n.1:Nat) 32)&&decide (jF .or .u8 (n.1:Nat) 32<=122))&&decide (65<=((n.1:Nat):Int)))||(((n.1:Nat):Int)==95)):=dC
theorem yU6(c:UInt8):Pure prog 371 [.int .u8 c.toNat] (.bool (nh c)):=by
 have h:=xi6 ⟨c.toNat,c.toNat_lt⟩;simp only[UInt8.ofNat_toNat]at h;rw[h];clear h;obtain⟨n,hn⟩:=eX c.toNat;simp only[hn];generalize hg:jF .or .u8 (n:Nat) 32=g;refine iW 0 func371 ntmps371 results371 λc hc hb=>zM ?_;simp[go_sem,hg];refine(A6 (decide (97<=g))).elim (λq1=>?_) (λq1=>?_)
 .refine(A6 (decide (g<=122))).elim (λq2=>?_) (λq2=>?_)
  .refine(A6 (decide (65<=(n:Int)))).elim (λq3=>?_) (λq3=>?_);.rw[q1,q2,q3];simp[go_sem,hg,q2,q3];exact zQ (zC rfl) sM
   .rw[q1,q2,q3];simp[go_sem,hg,q2,q3];exact zQ (zC rfl) sM
  .rw[q1,q2];simp[go_sem,hg,q2];exact zQ (zC rfl) sM
 .rw[q1];simp[go_sem];exact zQ (zC rfl) sM
def qW (c:UInt8):Bool:=nh c||kg c
theorem xi8(c:UInt8):Pure prog 304 [.int .u8 c.toNat] (.bool (qW c)):=by
 have h1:=yU6 c;have h2:=Vs c;unfold qW;generalize nh c=a at h1⊢;generalize kg c=b at h2⊢;refine iW 0 func304 ntmps304 results304 λc hc hb=>zM ?_;simp[go_sem];refine pC h1 ?_;simp[go_sem];refine(A6 a).elim (λq=>?_) (λq=>?_);.simp[go_sem,q];exact zQ (zC rfl) sM
 .simp[go_sem,q];refine pC h2 ?_;simp[go_sem];exact zQ (zC rfl) (by grind)
def np(p:UInt8->Bool):alW->Nat|[]=>0|c::l=>if p c=true then np p l+1 else 0
theorem xU5(s:alW)(hl:s.length<=maxLen):Pure prog 303 [.str s,.fn 304 []] (.int .i64 (np qW s:Nat)):=by
 generalize hM:np qW s=M;have ret:∀(r:Nat)(I:St),r=M->cz (some (.int .i64 r)) 0 (λr s=>r=.int .i64 (M:Nat)/\s=[]) I:=λr I h=>by subst h;exact zQ (zC rfl) sM
 refine iV 0 func303 ntmps303 results303 λc hc hb=>?_;refine zA ?_;simp[go_sem];refine zG (S:=Nat) [0,1,5] (λi=>[.str s,.fn 304 [],.int .i64 i]) (λ_=>[]) (λi=>s.length-i) (λi=>i<=s.length/\i+np qW (s.drop i)=M) hc hb 0 (by grind) ?_ ?_;.exact gC rfl (zR (by rfl) rfl)
 rintro i⟨hi,hinv⟩;by_cases q:i<s.length;rotate_left;.rw[Bt om,np,D7]at hinv;refine zA ?_;simp[go_sem,q];exact ret _ _ hinv
 have ei:=zO q (by unfold maxLen at hl;omega);obtain⟨x,hx⟩:=eX (s[i]);rw[A4 q,hx,np]at hinv;have aa:=xi8 x;obtain⟨b,ab⟩:=eX (qW x);rw[ab]at aa hinv;refine zA ?_;simp[go_sem,q,hx];refine pC aa ?_;simp[go_sem];refine(A6 b).elim (λw=>?_) (λw=>?_);.rw[alq w]at hinv;simp[go_sem,w,ei];exact zH (i+1) ⟨om,om,gC rfl (zR (by rfl) rfl)⟩
 .rw[alp (by grind)]at hinv;simp[go_sem,w];exact ret _ _ om
theorem Vt(p:UInt8->Bool):∀s:alW,decide (np p s<s.length)=!(s.all p)
 |[]=>by rfl|c::l=>by have h:=Vt p l;unfold np;grind
def HB:alW->List alW |[]=>[]|c::l=>if c=32/\32∈l then l.takeWhile (·!=32)::HB l else HB l
theorem Vu:∀(s l:alW),(∀c∈s,c≠32)->((s++[32]).isPrefixOf l=true↔l.takeWhile (·!=32)=s/\32∈l)
 |[],[],_=>by simp|[],c::l,_=>by
  by_cases h:c=32;.simp_all
  .have h':(c !=32)=true:=by grind
   have h2:¬(32=c):=(by grind);simp_all|a::s,[],_=>by simp|a::s,c::l,hs=>by have ih:=Vu s l λx hx=>hs x (by simp[hx]);have ha:a≠32:=(by grind);rw[Bk,List.isPrefixOf,Aa,ih];grind[List.takeWhile_cons_of_neg,D8]
theorem Vv(s:alW)(hs:∀c∈s,c≠32):∀T:alW,0<=Lib.index T (32::(s++[32]))↔s∈HB T
 |[]=>by grind[Lib.index,HB]|b::l=>by have ih:=Vv s hs l;have hg:=Lib.index_ge l (32::(s++[32]));have hp:=Vu s l hs;unfold Lib.index HB;grind
def JB:alW:=[32,65,76,76,32,65,78,68,32,65,83,32,65,83,67,32,66,69,84,87,69,69,78,32,66,79,85,78,68,32,66,89,32,67,79,85,78,84,32,68,69,76,69,84,69,32,68,69,83,67,32,69,88,65,67,84,32,70,65,76,83,69,32,70,82,79,77,32,73,78,83,69,82,84,32,73,78,84,79,32,73,83,32,76,73,77,73,84,32,78,79,84,32,78,85,76,76,32,78,79,87,32,79,70,32,79,82,32,79,82,68,69,82,32,83,69,76,69,67,84,32,83,69,84,32,83,85,77,32,83,89,83,84,69,77,32,84,73,77,69,32,84,82,85,69,32,85,80,68,65,84,69,32,86,65,76,85,69,83,32,87,72,69,82,69,32]
theorem yZ4:HB JB=jL:=by rfl
theorem xZ8(s:alW)(hs:∀c∈s,c≠32):Lib.contains JB (32::(s++[32]))=jL.contains s:=by have h:=Vv s hs JB;rw[yZ4]at h;unfold Lib.contains;grind
theorem yu3(s sub:alW)(hs:s.length<4294967281):Pure prog 306 [.str s,.str sub] (.bool (Lib.contains s sub)):=by intro w L J aa hm ha;match aa,ha with |[a,b],⟨h1,h2,_⟩=>have e1:=lU h1;have e2:=lU h2;subst e1 e2;obtain⟨_,m,hc⟩:=hm.jV.num (tM.headD (0,.i64)) dC;refine(Tryz.strings_Contains _ _ m w (by simpa) hc).mono ?_;rintro e w'⟨rfl,rfl⟩;exact⟨_,.bool _,L,[],J,rfl,sM,om,hm,cM.bool _⟩
def lN:alW->Nat->alW |[],_=>[]|c::l,0=>c::l|c::l,i+1=>yR c::lN l i
theorem Vy:∀(s:alW)(i:Nat),(lN s i).length=s.length |[],_=>rfl|_::_,0=>rfl|c::l,i+1=>by rw[lN,Ah,Vy l i,Ah]
theorem Qj:∀s:alW,lN s 0=s|[]=>rfl|_::_=>rfl
theorem Vz:∀s:alW,lN s s.length=s.map yR |[]=>rfl|c::l=>by rw[Ah,lN,Vz l,Ag]
theorem VA:∀(s:alW)(i:Nat),(lN s i)[i]?=s[i]? |[],_=>rfl|_::_,0=>rfl|c::l,i+1=>by rw[lN,E0,E0,VA l i]
theorem VB:∀(s:alW)(i:Nat)(h:i<s.length),(lN s i).set i (yR s[i])=lN s (i+1)
 |[],_,h=>(by rfl)|c::l,0,_=>by rw[lN,lN,Qj];rfl|c::l,i+1,h=>by rw[lN,C4,List.getElem_cons_succ,VB l i (sU h),lN]
theorem VD:∀(s:alW)(i:Nat)(h:i<s.length),yR s[i]=s[i]->lN s i=lN s (i+1)
 |[],_,h,_=>(by rfl)|c::l,0,_,hg=>by grind[lN,Qj]|c::l,i+1,h,hg=>by rw[lN,lN,VD l i (sU h) (sU hg)]
abbrev DP:UInt8->List V:=λc=>[V.int .u8 c.toNat]
theorem VE (s:alW):zU s=s.map DP:=rfl
theorem ww1(l:alW)(n:Nat):bS n (.cv (l.map DP) 1)=true:=by simp only[bS,Am];intro r hr;obtain⟨x,_,rfl⟩:=Ab.1 hr;intro y hy;cases hy<;>trivial
theorem MD(l:alW):([Ob.cv (l.map DP) 1]:St).all (bS 1)=true:=by grind[ww1]
theorem xN1(l:alW):xB (l.map DP)=true:=by simp only[xB,Am];intro r hr;obtain⟨x,_,rfl⟩:=Ab.1 hr;intro y hy;cases hy<;>trivial
theorem xB1(l:alW)(n:Nat)(h:l.length=n):wU (l.map DP) 0 n=l.map DP:=by unfold wU;rw[B1,Ad (by grind),B8];rfl
theorem xi7(s:alW)(hl:s.length<=maxLen):Pure prog 305 [.str s] (.str (s.map yR)):=by
 obtain⟨n,hn⟩:=eX s.length;unfold maxLen at hl;refine iV 0 func305 ntmps305 results305 λc hc hb=>?_;refine tg 7 dC ?_;refine zA ?_;simp[go_sem,VE,hn];refine zG (S:=Nat) [3,8,9,10] (λi=>[.cS 0 1 n 0 n,.cS 0 1 n 0 n,.int .i64 n,.int .i64 i]) (λi=>[.cv ((lN s i).map DP) 1]) (λi=>n-i) (λi=>i<=n) hc hb 0 om ?_ ?_;.exact bU 1 (by grind[Qj]) rfl (MD _) om (zD (by rfl) rfl)
 intro i hi;by_cases q:i<n;rotate_left
 .have aj:i=n:=om;subst aj;rw[<-hn,Vz,hn];have ae:=xB1 (s.map yR) i (by rw[Au,hn]);have ab:=Gk (s.map yR);have ad:=xX (s.map yR);rw[VE]at ab ad;generalize hS:s.map yR=S at ae ab ad⊢;have ak:S.length=i:=by grind
  clear hS;refine CW 0 1 (S.map DP) rfl (xN1 _) ?_;refine zA ?_;simp[go_sem,ak,ae];refine zJ ad ?_;simp[go_sem];rw[<-B8,ab];exact zQ (zC rfl) sM
 have hq:i<s.length:=om;have ei:=zO q om;obtain⟨x,hx⟩:=eX (s[i]);obtain⟨cur,af⟩:∃c,lN s i=c:=⟨_,rfl⟩;obtain⟨ah,ao⟩:∃c,lN s (i+1)=c:=⟨_,rfl⟩;have ai:cur.length=n:=by grind[Vy]
 have ar:i<cur.length:=om;have al:cur[i]=x:=by grind[VA]
 have aq:cur.set i (yR x)=ah:=by grind[VB]
 have aa:yR x=x->cur=ah:=(by grind[VD]);rw[af];have au:0<=((x.toNat:Nat):Int)/\((x.toNat:Nat):Int)<=255:=by have:=x.toNat_lt;omega
 refine zA ?_;simp[go_sem,q,al,ai];have small:¬(97<=x.toNat/\x.toNat<=122)->yR x=x:=(by simp_all[yR,alp]);refine xG (λq1=>?_) (λq1=>?_)
 .simp[go_sem,q1];refine zX (λq2=>?_) (λq2=>?_)
  .have q1:97<=x.toNat:=by grind
   have q2:x.toNat<=122:=by grind
   have hg:IntKind.u8.wrap ((x.toNat:Int)-32)=((yR x).toNat:Int):=by rw[LX om om];simp_all[yR];omega
   simp[go_sem,hg,q,ai,ei];exact zH (i+1) ⟨om,om,bU 1 (by grind[Cq]) rfl (MD _) om (zD (by rfl) rfl)⟩
  .have q2:¬x.toNat<=122:=by grind
   have hs:=aa (small λh=>q2 h.2);simp[go_sem,ei];exact zH (i+1) ⟨om,om,bU 1 (by grind) rfl (MD _) om (zD (by rfl) rfl)⟩
 .have q1:¬97<=x.toNat:=by grind
  have hs:=aa (small λh=>q1 h.1);have an:decide ((97:Int)<=x.toNat)=false:=by grind
  simp[go_sem,ei,an];exact zH (i+1) ⟨om,om,bU 1 (by grind) rfl (MD _) om (zD (by rfl) rfl)⟩
theorem xD0(s:alW):(s.map yR==s)=s.all λc=>yR c==c:=by induction s<;>grind
theorem we8(s:alW):l9 s=(decide (1<=s.length/\s.length<=16)&&(!kg (s.headD 0)&&(s.all qW&&(s.all (λc=>yR c==c)&&!jL.contains s)))):=by
 have h:s.all vY=(s.all qW&&s.all (λc=>yR c==c)):=by induction s with|nil=>rfl|cons c l ih=>grind[vY,qW]
 grind[l9]
theorem we9:qW 32=false:=dC
theorem ME(s:alW)(hl:s.length<=maxLen):Pure prog 232 [.str s] (.bool (l9 s)):=by
 have aa:=xU5 s hl;have ae:=Vt qW s;have af:=xi7 s hl;have ah:=xD0 s;have ai:=Vs (s[0]?.getD 0);have aj:s.headD 0=s[0]?.getD 0:=by cases s<;>rfl
 have ab:(s.all qW)=true->Pure prog 306 [.str JB,.str (32::(s++[32]))] (.bool (jL.contains s)):=λh=>by have h1:∀c∈s,c≠32:=(by grind[we9]);have h2:=yu3 JB (32::(s++[32])) dC;grind[xZ8]
 generalize hM:l9 s=M;rw[we8,aj]at hM;generalize np qW s=r at aa ae;generalize s.map yR=u at af ah;generalize kg (s[0]?.getD 0)=d at ai hM;generalize(s.all λc=>yR c==c)=g at ah hM;generalize jL.contains s=k at ab hM;generalize s.all qW=w at ae ab hM;have ret:∀(b:Bool)(I:St),b=M->cz (some (.bool b)) 0 (λr s=>r=.bool M/\s=[]) I:=λr I h=>by subst h;exact zQ (zC rfl) sM
 unfold maxLen at hl;refine iV 0 func232 ntmps232 results232 λc hc hb=>?_;refine zA ?_;simp[go_sem];by_cases h0:s=[]
 .subst h0;have hM:M=false:=by grind
  simp[go_sem];exact ret _ _ hM.symm
 have h1:1<=s.length:=by grind
 have ak:s.isEmpty=false:=by grind
 simp[go_sem,ak];by_cases h2:16<s.length
 .have ad:decide ((16:Int)<s.length)=true:=by grind
  have hM:M=false:=by grind
  simp[go_sem,ad];exact ret _ _ hM.symm
 have ad:decide ((16:Int)<s.length)=false:=by grind
 rw[als om,Ba]at hM;simp[go_sem,ad];refine zJ om ?_;simp[go_sem];refine pC ai ?_;simp[go_sem];refine(A6 d).elim (λq=>?_) (λq=>?_)
 .have hM:M=false:=by grind
  simp[go_sem,q];exact ret _ _ hM.symm
 rw[q,Bool.not_false,Ba]at hM;simp[go_sem,q];refine pC aa ?_;simp[go_sem];refine(A6 w).elim (λq2=>?_) (λq2=>?_);rotate_left
 .have hM:M=false:=by grind
  have hr:decide (r<s.length)=true:=by grind
  simp[go_sem,hr];exact ret _ _ hM.symm
 have hr:decide (r<s.length)=false:=by grind
 rw[q2,Ba]at hM;simp[go_sem,hr];refine pC af ?_;simp[go_sem];refine(A6 g).elim (λq3=>?_) (λq3=>?_);rotate_left
 .have hM:M=false:=by grind
  have hu:(u==s)=false:=by grind
  simp[go_sem,hu];exact ret _ _ hM.symm
 have hu:(u==s)=true:=by grind
 rw[q3,Ba]at hM;simp[go_sem,hu];refine zJ om ?_;simp[go_sem];refine zJ om ?_;simp[go_sem];refine pC (ab q2) ?_;simp[go_sem];exact ret _ _ hM
end Go.Proofs.YtegbonbgofjlcaaGreat
namespace Go.Proofs.YtegbonbgofjlcaaGreat
open Go Go.Vx R Go.Proofs.Tryz
set_option maxRecDepth 100000
def JC(s:alW):Int:=if uE s=0then-1 else uE s
theorem xn9(s:alW):Pure prog 308 [.str s] (.int .i64 (JC s)):=by
 have hM:JC s=if ng.contains s=true then 1 else if lp.contains s=true then 2 else-1:=by
  unfold JC uE;by_cases h1:lp.contains s=true
  .have h2:ng.contains s=false:=by unfold lp at h1;simp only[Dl,List.contains_nil,Bool.or_false,Ch,alx]at h1;rcases h1 with rfl|rfl|rfl|rfl|rfl|rfl|rfl|rfl|rfl|rfl|rfl|rfl|rfl<;>decide
   grind
  grind
 generalize JC s=M at hM⊢;have ret:∀(r:Int)(I:St),r=M->cz (some (.int .i64 r)) 0 (λr s=>r=.int .i64 M/\s=[]) I:=λr I h=>by subst h;exact zQ (zC rfl) sM
 unfold lp ng at hM;simp only[Dl,List.contains_nil]at hM;refine iW 0 func308 ntmps308 results308 λc hc hb=>zM ?_;simp[go_sem];repeat'(first|(refine xG (λq=>?_) (λq=>?_)<;>simp[go_sem,q])|(refine zX (λq=>?_) (λq=>?_)<;>simp[go_sem,q]))
 all_goals exact ret _ _ (by simp_all)
def w7(e:bJ):Bool:=e.kind==0&&(e.s.isEmpty&&(oD e.v&&e.args.isEmpty))
theorem xQ4(l:List bJ)(hl:l.length<=maxLen):Pure prog 373 [.sl .ro (l.map bJ.row),.sl .ro [],.fn 309 []] (.bool l.isEmpty):=by
 generalize hM:l.isEmpty=M;have ret:∀(r:Bool)(I:St),r=M->cz (some (.bool r)) 0 (λr s=>r=.bool M/\s=[]) I:=λr I h=>by subst h;exact zQ (zC rfl) sM
 refine iW 0 func373 ntmps373 results373 λc hc hb=>zM ?_;cases l with
 |nil=>
  simp[go_sem];refine zG (S:=Unit) [15,16,17] (λ_=>[.sl .ro [],.int .i64 0,.int .i64 0]) (λ_=>[]) (λ_=>0) (λ_=>True) hc hb () trivial ?_ ?_;.exact gC rfl (zR (by rfl) rfl)
  rintro _ _;refine zA ?_;simp[go_sem];exact ret _ _ hM|cons x l=>
  have q:(((x::l).length:Int)!=0)=true:=by rfl
  simp only[Ah,Int.natCast_add,C5]at q;simp[go_sem,q];exact ret _ _ hM
theorem wn9(e:bJ)(hw:e.args.length<=maxLen):Pure prog 309 [.agg e.row,.agg dw.row] (.bool (w7 e)):=by
 have heq:=xQ4 e.args hw;generalize hM:w7 e=M;unfold w7 oD at hM;generalize e.args.isEmpty=b at heq hM;have ret:∀(r:Bool)(I:St),r=M->cz (some (.bool r)) 0 (λr s=>r=.bool M/\s=[]) I:=λr I h=>by subst h;exact zQ (zC rfl) sM
 have aa:(e.s==[])=e.s.isEmpty:=sM;have ab:(e.v.s==[])=e.v.s.isEmpty:=sM;have z1:dw.kind=0:=rfl;have z2:dw.s=[]:=rfl;have z3:dw.v=⟨0,0,[]⟩:=rfl;have z4:dw.args=[]:=rfl;refine iW 0 func309 ntmps309 results309 λc hc hb=>zM ?_;simp[go_sem,z1,z2,z3,z4];repeat'(first |(refine xG (λq=>?_) (λq=>?_)<;>simp[go_sem,q])|(refine zX (λq=>?_) (λq=>?_)<;>simp[go_sem,q])|(refine pC heq ?_;simp[go_sem]))
 all_goals exact ret _ _ (by rw[<-hM];simp_all)
theorem VF(e:bJ)(hw:e.args.length<=maxLen):Pure prog 234 [.agg e.row] (.bool (w7 e)):=by
 have h:=wn9 e hw;generalize w7 e=b at h⊢;refine iW 0 func234 ntmps234 results234 λc hc hb=>zM ?_;simp[go_sem];refine zL h cB ⟨?_,?_,tV⟩ rfl ?_;.rw[bJ.bQ];exact zC rfl
 .rw[bJ.bQ];exact xM ⟨zF rfl,zF rfl,zF rfl,zF rfl,zF rfl,zY,tV⟩
 simp[go_sem];exact zQ (zC rfl) sM
def gk:Nat->bJ->Bool
 |0,_=>false|n+1,e=>if e.kind=1then e.s.isEmpty&&(e.args.isEmpty&&(e9 e.v&&decide (0<=e.v.n)))else if e.kind=2then oD e.v&&(e.args.isEmpty&&l9 e.s)else if¬e.kind=3\/oD e.v=false\/uE e.s=0\/¬(e.args.length:Int)=uE e.s then false else e.args.all (gk n)
theorem JD{U:Type}(p:U->Bool)(l:List U)(i:Nat)(h:i<l.length):(l.drop i).all p=(p l[i]&&(l.drop (i+1)).all p):=by grind[A4]
theorem JE:∀(n:Nat)(e:bJ),n<=1000->fP e->Good e->Pure prog 233 [.agg e.row,.int .i64 n] (.bool (gk n e))
 |n,e,hn,hw,hg=>by
  have hlen:=hw.len;have al:=hw.sub;have ao:=hg.sub;have ih:∀m,n=m+1->∀x∈e.args,Pure prog 233 [.agg x.row,.int .i64 m] (.bool (gk m x)):=λm hm x hx=>JE m x om (al x hx) (ao x hx);have ah:=Hw e.v;have aa:=ME e.s (by have:=hg.str;grind[maxLen]);have aq:=xn9 e.s;have hz:=Vq e.v;obtain⟨M,hM⟩:=eX (gk n e);rw[hM];have ret:∀(r:Bool)(I:St),r=M->cz (some (.bool r)) 0 (λr s=>r=.bool M/\s=[]) I:=λr I h=>by subst h;exact zQ (zC rfl) sM
  have ha:((e.args.length:Int)==0)=e.args.isEmpty:=by cases e.args<;>simp;omega
  have au:(e.s==[])=e.s.isEmpty:=sM;have av:(e.v.s==[])=e.v.s.isEmpty:=sM;refine iV 0 func233 ntmps233 results233 λc hc hb=>?_;by_cases h0:n=0;.subst h0;rw[gk]at hM;refine zA ?_;simp[go_sem];exact ret _ _ hM
  obtain⟨m,rfl⟩:∃m,n=m+1:=(by simp;omega);have ih:=ih m rfl;rw[gk]at hM;have an:(((m+1:Nat):Int)==0)=false:=by rfl
  have em:IntKind.i64.wrap (((m+1:Nat):Int)-1)=(m:Int):=by grind[bX]
  have ar:IntKind.i64.wrap (m:Int)=(m:Int):=(by grind);refine zA ?_;simp only[Int.natCast_add,C5]at an em;simp[go_sem,an];by_cases q1:e.kind=1
  .have af:(e.kind==1)=true:=by grind
   rw[alq q1]at hM;generalize e9 e.v=b at ah hM;generalize e.args.isEmpty=ae at ha hM;simp[go_sem,af];repeat'(first |(refine xG (λq=>?_) (λq=>?_)<;>simp[go_sem,q,ha])|(refine zL ah cB (zR sg rfl) rfl ?_;simp[go_sem]))
   all_goals exact ret _ _ (by rw[<-hM];simp_all)
  rw[alp q1]at hM;have af:(e.kind==1)=false:=by grind
  by_cases q2:e.kind=2
  .have ai:(e.kind==2)=true:=by grind
   rw[alq q2]at hM;unfold oD at hM;generalize l9 e.s=b at aa hM;generalize e.args.isEmpty=ae at ha hM;simp[go_sem,af,ai];repeat'(first |(refine xG (λq=>?_) (λq=>?_)<;>simp[go_sem,q,ha])|(refine zL aa cB (zR sg rfl) rfl ?_;simp[go_sem]))
   all_goals exact ret _ _ (by rw[<-hM];simp_all)
  rw[alp q2]at hM;have ai:(e.kind==2)=false:=by grind
  simp[go_sem,af,ai];refine xV [(15,0)] 1 sM (by rfl) kR ?_;simp[go_sem];by_cases q3:e.kind=3;rotate_left
  .have aj:(e.kind !=3)=true:=by grind
   rw[alq (.inl q3)]at hM;simp[go_sem,aj];exact ret _ _ hM
  have aj:(e.kind !=3)=false:=by grind
  simp[go_sem,aj,hz];refine(A6 (oD e.v)).elim (λw=>?_) (λw=>?_);rotate_left;.rw[alq (.inr (.inl w))]at hM;simp[go_sem,w];exact ret _ _ hM
  simp[go_sem,w];refine wW aq cB (λ_=>zR (by rfl) rfl) rfl ?_;unfold JC;by_cases q4:uE e.s=0\/¬(e.args.length:Int)=uE e.s
  .have ak:((e.args.length:Int)!=(if uE e.s=0then-1 else uE e.s))=true:=by grind
   rw[alq om]at hM;simp[go_sem,ak];exact ret _ _ hM
  have ak:((e.args.length:Int)!=(if uE e.s=0then-1 else uE e.s))=false:=by grind
  rw[alp (by grind)]at hM;simp[go_sem,ak];obtain⟨args,ab⟩:=eX e.args;rw[ab]at hM hlen ih;simp[go_sem,ab];refine zG (S:=Nat) [1,73,74,75] (λi=>[.int .i64 ((m:Int)+1),.sl .ro (args.map bJ.row),.int .i64 args.length,.int .i64 (i:Int)]) (λ_=>[]) (λi=>args.length-i) (λi=>i<=args.length/\(args.drop i).all (gk m)=M) hc hb 0 (by grind) ?_ ?_;.exact gC rfl (zR (by rfl) rfl)
  rintro i⟨hi,hinv⟩;by_cases q:i<args.length;rotate_left;.rw[A8 om]at hinv;refine zA ?_;simp[go_sem,q];exact ret _ _ hinv
  have ei:=zO q om;rw[JD _ _ _ q]at hinv;obtain⟨x,hx⟩:=eX (args[i]);have ad:=ih x (hx▸A9 q);rw[hx]at hinv;generalize gk m x=b at ad hinv;refine zA ?_;simp[go_sem,q,hx,ar];refine zL ad cB (zR sg (by rw[bJ.bQ];rfl)) rfl ?_;refine(A6 b).elim (λp=>?_) (λp=>?_);.rw[p,Ba]at hinv;simp[go_sem,p,ei];exact zH (i+1) ⟨om,(by grind),gC rfl (zR (by rfl) rfl)⟩
  .rw[p,Di]at hinv;simp[go_sem,p];exact ret _ _ hinv
def uZ(n:Nat)(x:de):Bool:=if x.kind=1then decide (n<=1)&&w7 x.e else if x.kind=3then w7 x.e else if x.kind=2\/x.kind=4then gk 16 x.e else false
def JF(l:List de):Bool:=l.all (uZ l.length)&&(decide (1<=l.length)&&decide (l.length<=6))
def u7(r:List bJ):Bool:=(decide (1<=r.length)&&decide (r.length<=6))&&r.all (gk 16)
def JG(l:List (List bJ)):Bool:=l.all u7&&(decide (1<=l.length)&&decide (l.length<=16))
def jQ(x:cy):Bool:=l9 x.name&&gk 16 x.e
def JH(l:List cy):Bool:=(decide (1<=l.length)&&decide (l.length<=6))&&l.all jQ
theorem fJ{b M:Bool}{I:St}(h:b=M):cz (some (.bool b)) 0 (λr s=>r=.bool M/\s=[]) I:=by subst h;exact wR
theorem xj2(l:List de)(hl:l.length<=12)(hx:∀x∈l,cL x.kind/\jt x.e):Pure prog 235 [.sl .ro (l.map de.row)] (.bool (JF l)):=by
 obtain⟨n,hn⟩:=eX l.length;generalize hM:JF l=M;unfold JF at hM;rw[hn]at hM;have e1:decide ((1:Int)<=n)=decide (1<=n):=decide_eq_decide.2 om;have e2:decide ((n:Int)<=6)=decide (n<=6):=decide_eq_decide.2 om;have e3:decide ((1:Int)<n)=!decide (n<=1):=by
  by_cases h:n<=1;.rw[als h,alr om];rfl
  .rw[alr h,als om];rfl
 refine iV 0 func235 ntmps235 results235 λc hc hb=>?_;refine zA ?_;simp[go_sem];refine zG (S:=Nat) [0,5,6,7] (λi=>[.sl .ro (l.map de.row),.sl .ro (l.map de.row),.int .i64 n,.int .i64 (i:Int)]) (λ_=>[]) (λi=>n-i) (λi=>i<=n/\((l.drop i).all (uZ n)&&(decide (1<=n)&&decide (n<=6)))=M) hc hb 0 ⟨A5 _,by rw[B1];exact hM⟩ ?_ ?_;.exact gC rfl (zR (by simp[go_sem,hn]) rfl)
 rintro i⟨hi,hinv⟩;by_cases q:i<n;rotate_left
 .rw[A8 om,De,Ba]at hinv;refine zA ?_;simp[go_sem,q,hn,e1];refine xG (λw=>?_) (λw=>?_);.simp[go_sem,w,hn,e2];exact fJ (by rw[<-hinv,w,Ba])
  .simp[go_sem,w];exact fJ (by rw[<-hinv,w];rfl)
 have hq:i<l.length:=om;have ei:=zO q om;rw[JD _ _ _ hq]at hinv;obtain⟨x,ah⟩:=eX (l[i]);obtain⟨hk,hE⟩:=hx x (ah▸A9 hq);have ai:=VF x.e (by have:=hE.wide.len;unfold maxLen;omega);have ae:=JE 16 x.e dC hE.wide hE.eD;rw[ah]at hinv;obtain⟨b,aa⟩:=eX (uZ n x);rw[aa]at hinv;unfold uZ at aa;have yes:b=true->((l.drop (i+1)).all (uZ n)&&(decide (1<=n)&&decide (n<=6)))=M:=λh=>by rw[h,Ba]at hinv;exact hinv
 have no:b=false->false=M:=λh=>by rw[h]at hinv;exact hinv
 clear hinv;generalize w7 x.e=bl at ai aa;generalize gk 16 x.e=me at ae aa;simp only[C5]at ae;refine zA ?_;simp[go_sem,q,hq,ah];by_cases k1:x.kind=1
 .have ab:(x.kind==1)=true:=sU k1;rw[alq k1]at aa;simp[go_sem,ab,hn,e3];refine xG (λw=>?_) (λw=>?_)
  .have w2:decide (n<=1)=true:=sU w;rw[w2,Ba]at aa;simp[go_sem,w2];refine zL ai cB (zR sg (by rw[bJ.bQ];rfl)) rfl ?_;simp[go_sem];refine(A6 bl).elim (λw=>?_) (λw=>?_);.simp[go_sem,w,ei];exact zH (i+1) ⟨om,⟨om,yes (by rw[<-aa,w])⟩,aO⟩
   .simp[go_sem,w];exact fJ (no (by rw[<-aa,w]))
  .have w2:decide (n<=1)=false:=sU w;rw[w2,Di]at aa;simp[go_sem,w2];exact fJ (no aa.symm)
 rw[alp k1]at aa;have ab:(x.kind==1)=false:=sU k1;by_cases k3:x.kind=3
 .have ad:(x.kind==3)=true:=sU k3;rw[alq k3]at aa;simp[go_sem,ab,ad];refine zL ai cB (zR sg (by rw[bJ.bQ];rfl)) rfl ?_;simp[go_sem];refine(A6 bl).elim (λw=>?_) (λw=>?_);.simp[go_sem,w,ei];exact zH (i+1) ⟨om,⟨om,yes (by rw[<-aa,w])⟩,aO⟩
  .simp[go_sem,w];exact fJ (no (by rw[<-aa,w]))
 rw[alp k3]at aa;have ad:(x.kind==3)=false:=sU k3;by_cases k2:x.kind=2
 .have af:(x.kind==2)=true:=sU k2;rw[alq (.inl k2)]at aa;simp[go_sem,ab,ad,af];refine zL ae cB (zR sg (by rw[bJ.bQ];rfl)) rfl ?_;simp[go_sem];refine(A6 me).elim (λw=>?_) (λw=>?_);.simp[go_sem,w,ei];exact zH (i+1) ⟨om,⟨om,yes (by rw[<-aa,w])⟩,aO⟩
  .simp[go_sem,w];exact fJ (no (by rw[<-aa,w]))
 have af:(x.kind==2)=false:=sU k2;by_cases k4:x.kind=4
 .have aj:(x.kind==4)=true:=sU k4;rw[alq (.inr k4)]at aa;simp[go_sem,ab,ad,af,aj];refine zL ae cB (zR sg (by rw[bJ.bQ];rfl)) rfl ?_;simp[go_sem];refine(A6 me).elim (λw=>?_) (λw=>?_);.simp[go_sem,w,ei];exact zH (i+1) ⟨om,⟨om,yes (by rw[<-aa,w])⟩,aO⟩
  .simp[go_sem,w];exact fJ (no (by rw[<-aa,w]))
 have aj:(x.kind==4)=false:=sU k4;rw[alp (λh=>h.elim k2 k4)]at aa;simp[go_sem,ab,ad,af,aj];exact fJ (no aa.symm)
def wB{U:Type}(p:U->Bool):List U->Nat->Int |[],_=>-1|x::l,i=>if p x=true then(i:Int)else wB p l (i+1)
theorem FX{U:Type}(p:U->Bool):∀(l:List U)(i:Nat),decide (0<=wB p l i)=l.any p
 |[],i=>rfl|x::l,i=>by
  rw[wB,alU];split;.rename_i h;rw[h];exact als om
  .rename_i h;have h:p x=false:=sU h;rw[h,Bv,FX p l (i+1)]
theorem ww3(x:bJ)(hE:jt x):Pure prog 311 [.agg x.row] (.bool (!gk 16 x)):=by have aa:=JE 16 x dC hE.wide hE.eD;generalize gk 16 x=b at aa⊢;simp only[C5]at aa;refine iW 0 func311 ntmps311 results311 λc hc hb=>zM ?_;simp[go_sem];refine zL aa cB (zR sg (by rw[bJ.bQ];rfl)) rfl ?_;simp[go_sem];exact wR
theorem ww2(x:cy)(hn:x.name.length<=maxLen)(hE:jt x.e):Pure prog 312 [.agg x.row] (.bool (!jQ x)):=by
 have aa:=JE 16 x.e dC hE.wide hE.eD;have hw:=ME x.name hn;generalize hM:(!jQ x)=M;unfold jQ at hM;generalize gk 16 x.e=b at aa hM;generalize l9 x.name=w at hw hM;simp only[C5]at aa;refine iW 0 func312 ntmps312 results312 λc hc hb=>zM ?_;simp[go_sem];refine zL hw cB (zR sg rfl) rfl ?_;refine(A6 w).elim (λp=>?_) (λp=>?_);.simp[go_sem,p];refine zL aa cB (zR sg (by rw[bJ.bQ];rfl)) rfl ?_;simp[go_sem];exact fJ (by rw[<-hM,p,Ba])
 .simp[go_sem,p];exact fJ (by rw[<-hM,p];rfl)
theorem wx9(l:List bJ)(hl:l.length<=12)(hx:∀x∈l,jt x):Pure prog 374 [.sl .ro (l.map bJ.row),.fn 311 []] (.int .i64 (wB (λx=>!gk 16 x) l 0)):=by
 generalize hM:wB (λx=>!gk 16 x) l 0=M;have ret:∀(r:Int)(I:St),r=M->cz (some (.int .i64 r)) 0 (λr s=>r=.int .i64 M/\s=[]) I:=λr I h=>by subst h;exact wR
 refine iV 0 func374 ntmps374 results374 λc hc hb=>?_;refine zA ?_;simp[go_sem];refine zG (S:=Nat) [0,1,6,7,8] (λi=>[.sl .ro (l.map bJ.row),.fn 311 [],.sl .ro (l.map bJ.row),.int .i64 l.length,.int .i64 (i:Int)]) (λ_=>[]) (λi=>l.length-i) (λi=>i<=l.length/\wB (λx=>!gk 16 x) (l.drop i) i=M) hc hb 0 ⟨A5 _,hM⟩ ?_ ?_;.exact aO
 rintro i⟨hi,hinv⟩;by_cases q:i<l.length;rotate_left;.rw[A8 om]at hinv;refine zA ?_;simp[go_sem,q];exact ret _ _ hinv
 have ei:=zO q om;obtain⟨x,ab⟩:=eX (l[i]);rw[A4 q,ab,wB]at hinv;have aa:=ww3 x (hx x (ab▸A9 q));generalize(!gk 16 x)=b at aa hinv;refine zA ?_;simp[go_sem,q,ab];refine zL aa cB (zR sg (by rw[bJ.bQ];rfl)) rfl ?_;refine(A6 b).elim (λp=>?_) (λp=>?_);.rw[alq p]at hinv;simp[go_sem,p];exact ret _ _ hinv
 .rw[alp (by rw[p];decide)]at hinv;simp[go_sem,p,ei];exact zH (i+1) ⟨om,⟨om,hinv⟩,aO⟩
theorem wx3(l:List bJ)(hl:l.length<=12)(hx:∀x∈l,jt x):Pure prog 310 [.sl .ro (l.map bJ.row),.fn 311 []] (.bool (!l.all (gk 16))):=by
 have h:=wx9 l hl hx;have hg:=FX (λx=>!gk 16 x) l 0;have ha:l.any (λx=>!gk 16 x)=!l.all (gk 16):=by rw[List.all_eq_not_any_not,Bool.not_not]
 rw[ha]at hg;rw[<-hg];generalize wB (λx=>!gk 16 x) l 0=n at h⊢;refine iW 0 func310 ntmps310 results310 λc hc hb=>zM ?_;simp[go_sem];refine zL h cB (zR sg rfl) rfl ?_;simp[go_sem];exact wR
theorem wx6(l:List cy)(hl:l.length<=12)(hx:∀x∈l,x.name.length<=1048576/\jt x.e):Pure prog 317 [.sl .ro (l.map cy.row),.fn 312 []] (.int .i64 (wB (λx=>!jQ x) l 0)):=by
 generalize hM:wB (λx=>!jQ x) l 0=M;have ret:∀(r:Int)(I:St),r=M->cz (some (.int .i64 r)) 0 (λr s=>r=.int .i64 M/\s=[]) I:=λr I h=>by subst h;exact wR
 refine iV 0 func317 ntmps317 results317 λc hc hb=>?_;refine zA ?_;simp[go_sem];refine zG (S:=Nat) [0,1,6,7,8] (λi=>[.sl .ro (l.map cy.row),.fn 312 [],.sl .ro (l.map cy.row),.int .i64 l.length,.int .i64 (i:Int)]) (λ_=>[]) (λi=>l.length-i) (λi=>i<=l.length/\wB (λx=>!jQ x) (l.drop i) i=M) hc hb 0 ⟨A5 _,hM⟩ ?_ ?_;.exact aO
 rintro i⟨hi,hinv⟩;by_cases q:i<l.length;rotate_left;.rw[A8 om]at hinv;refine zA ?_;simp[go_sem,q];exact ret _ _ hinv
 have ei:=zO q om;obtain⟨x,ab⟩:=eX (l[i]);rw[A4 q,ab,wB]at hinv;obtain⟨ae,ad⟩:=hx x (ab▸A9 q);have aa:=ww2 x (by unfold maxLen;omega) ad;generalize(!jQ x)=b at aa hinv;refine zA ?_;simp[go_sem,q,ab];refine zL aa cB (zR sg rfl) rfl ?_;refine(A6 b).elim (λp=>?_) (λp=>?_);.rw[alq p]at hinv;simp[go_sem,p];exact ret _ _ hinv
 .rw[alp (by rw[p];decide)]at hinv;simp[go_sem,p,ei];exact zH (i+1) ⟨om,⟨om,hinv⟩,aO⟩
theorem wx1(l:List cy)(hl:l.length<=12)(hx:∀x∈l,x.name.length<=1048576/\jt x.e):Pure prog 243 [.sl .ro (l.map cy.row),.fn 312 []] (.bool (!l.all jQ)):=by
 have h:=wx6 l hl hx;have hg:=FX (λx=>!jQ x) l 0;have ha:l.any (λx=>!jQ x)=!l.all jQ:=by rw[List.all_eq_not_any_not,Bool.not_not]
 rw[ha]at hg;rw[<-hg];generalize wB (λx=>!jQ x) l 0=n at h⊢;refine iW 0 func243 ntmps243 results243 λc hc hb=>zM ?_;simp[go_sem];refine zL h cB (zR sg rfl) rfl ?_;simp[go_sem];exact wR
theorem JI(n:Nat):decide ((1:Int)<=n)=decide (1<=n):=(by grind)
theorem VG(n k:Nat):decide ((n:Int)<=k)=decide (n<=k):=sM
theorem xF0(l:List (List bJ))(hl:l.length<=20)(hx:∀r∈l,r.length<=12/\∀e∈r,jt e):Pure prog 236 [.sl .ro (l.map λr=>[V.sl .ro (r.map bJ.row)])] (.bool (JG l)):=by
 obtain⟨n,hn⟩:=eX l.length;generalize hM:JG l=M;unfold JG at hM;rw[hn]at hM;have e1:=JI n;have e2:decide ((n:Int)<=16)=decide (n<=16):=VG n 16;refine iV 0 func236 ntmps236 results236 λc hc hb=>?_;refine zA ?_;simp[go_sem];refine zG (S:=Nat) [0,5,6,7] (λi=>[.sl .ro (l.map λr=>[V.sl .ro (r.map bJ.row)]),.sl .ro (l.map λr=>[V.sl .ro (r.map bJ.row)]),.int .i64 n,.int .i64 (i:Int)]) (λ_=>[]) (λi=>n-i) (λi=>i<=n/\((l.drop i).all u7&&(decide (1<=n)&&decide (n<=16)))=M) hc hb 0 (by grind) ?_ ?_;.exact gC rfl (zR (by simp[go_sem,hn]) rfl)
 rintro i⟨hi,hinv⟩;by_cases q:i<n;rotate_left
 .rw[A8 om,De,Ba]at hinv;refine zA ?_;simp[go_sem,q,hn,e1];refine xG (λw=>?_) (λw=>?_);.simp[go_sem,w,hn,e2];exact fJ (by grind)
  .simp[go_sem,w];exact fJ (by grind)
 have hq:i<l.length:=om;have ei:=zO q om;rw[JD _ _ _ hq]at hinv;obtain⟨r,hr⟩:=eX (l[i]);obtain⟨af,ah⟩:=hx r (by grind);have aa:=wx3 r af ah;rw[hr]at hinv;obtain⟨b,ab⟩:=eX (u7 r);rw[ab]at hinv;unfold u7 at ab;have yes:b=true->((l.drop (i+1)).all u7&&(decide (1<=n)&&decide (n<=16)))=M:=(by grind);have no:b=false->false=M:=(by grind);clear hinv;generalize r.all (gk 16)=ra at aa ab;have ad:((r.length:Int)==0)=!decide (1<=r.length):=by grind
 have ae:decide ((6:Int)<r.length)=!decide (r.length<=6):=by grind
 generalize decide (1<=r.length)=d1 at ad ab;generalize decide (r.length<=6)=d2 at ae ab;refine zA ?_;simp[go_sem,q,hq,hr,ad];refine(A6 d1).elim (λw=>?_) (λw=>?_);rotate_left;.simp[go_sem,w];exact fJ (by grind)
 simp[go_sem,w,ae];refine(A6 d2).elim (λw2=>?_) (λw2=>?_);rotate_left;.simp[go_sem,w2];exact fJ (by grind)
 simp[go_sem,w2];refine zL aa cB (zR (by rfl) rfl) rfl ?_;simp[go_sem];refine(A6 ra).elim (λw3=>?_) (λw3=>?_);.simp[go_sem,w3,ei];exact zH (i+1) ⟨om,(by grind),gC rfl (zR (by rfl) rfl)⟩
 .simp[go_sem,w3];exact fJ (by grind)
theorem xF1(l:List cy)(hl:l.length<=12)(hx:∀x∈l,x.name.length<=1048576/\jt x.e):Pure prog 237 [.sl .ro (l.map cy.row)] (.bool (JH l)):=by
 have aa:=wx1 l hl hx;generalize hM:JH l=M;unfold JH at hM;generalize l.all jQ=a at aa hM;obtain⟨n,hn⟩:=eX l.length;rw[hn]at hM;have e1:=JI n;have e2:decide ((n:Int)<=6)=decide (n<=6):=VG n 6;refine iW 0 func237 ntmps237 results237 λc hc hb=>zM ?_;simp[go_sem,hn,e1];refine xG (λw=>?_) (λw=>?_);rotate_left;.simp[go_sem,w];exact fJ (by grind)
 simp[go_sem,w,hn,e2];refine xG (λw2=>?_) (λw2=>?_);rotate_left;.simp[go_sem,w2];exact fJ (by grind)
 simp[go_sem,w2];refine zL aa cB (zR (by rfl) rfl) rfl ?_;simp[go_sem];exact fJ (by grind)
def VH(st:bZ):Bool:=!((!(st.kind==1)&&(!st.items.isEmpty||(!st.order.isEmpty||(st.down||!(st.bV==0)))))||((!(st.kind==2)&&!st.rows.isEmpty)||(!(st.kind==3)&&!st.cJ.isEmpty)))
def VI(st:bZ):Bool:=l9 st.table&&(if st.ef=true then gk 16 st.cH else w7 st.cH)
def Qk(st:bZ):Bool:=if st.kind=1then JF st.items&&(((st.order.isEmpty&&!st.down)||l9 st.order)&&decide (-1<=st.bV))else if st.kind=2then JG st.rows&&!st.ef else if st.kind=3then JH st.cJ else st.kind==4
def kQ(st:bZ):Bool:=VI st&&(VH st&&Qk st)
theorem Ql{U:Type}(l:List U):decide (0<l.length)=!l.isEmpty:=by grind
theorem xF2(st:bZ)(hs:lq st):Pure prog 165 [.agg st.row] (.bool (kQ st)):=by
 have ai:=ME st.table (by have:=hs.table;grind[maxLen]);have aj:=ME st.order (by have:=hs.order;grind[maxLen]);have ae:=JE 16 st.cH dC hs.cH.wide hs.cH.eD;have ak:=VF st.cH (by have:=hs.cH.wide.len;grind[maxLen]);have hit:=xj2 st.items hs.items.1 hs.items.2;have al:=xF0 st.rows hs.rows.1 hs.rows.2;have an:=xF1 st.cJ hs.cJ.1 hs.cJ.2;simp only[C5]at ae;generalize hM:kQ st=M;unfold kQ VI VH Qk at hM;obtain⟨k,hk⟩:=eX st.kind;obtain⟨f,hf⟩:=eX st.ef;obtain⟨d,hd⟩:=eX st.down;rw[hk,hf,hd]at hM;generalize l9 st.table=wt at ai hM;generalize l9 st.order=wo at aj hM;generalize gk 16 st.cH=me at ae hM;generalize w7 st.cH=bl at ak hM;generalize JF st.items=mi at hit hM;generalize JG st.rows=mr at al hM;generalize JH st.cJ=ms at an hM;have ao:=Ql st.items;have aq:=Ql st.rows;have ar:=Ql st.cJ;have a6:(st.order !=[])=!st.order.isEmpty:=by grind
 have ay:(st.order==[])=st.order.isEmpty:=sM;generalize st.items.isEmpty=ie at ao hM;generalize st.rows.isEmpty=re at aq hM;generalize st.cJ.isEmpty=se at ar hM;have hz:∀b:Bool,b=M->∀I:St,cz (some (.bool b)) 0 (λr s=>r=.bool M/\s=[]) I:=λb h I=>fJ h;have af:((wt&&(if f=true then me else bl))=false->false=M)/\((wt&&(if f=true then me else bl))=true->(!((!(k==1)&&(!ie||(!st.order.isEmpty||(d||!(st.bV==0)))))||((!(k==2)&&!re)||(!(k==3)&&!se)))&&(if k=1then mi&&(((st.order.isEmpty&&!d)||wo)&&decide (-1<=st.bV))else if k=2then mr&&!f else if k=3then ms else k==4))=M):=by grind
 obtain⟨az,ad⟩:=af;clear hM;refine iV 0 func165 ntmps165 results165 λc hc hb=>?_;refine zN (zA ?_);simp[go_sem];refine nK (S:=Unit) [1] (λ_=>[.ptr 0 0]) (λ_=>[.box st.row]) (λ_=>(wt&&(if f=true then me else bl))=true) hc hb ?_ ?_
 .refine zA ?_;simp[go_sem];refine zL ai cB (zR (by rfl) rfl) rfl ?_;refine(A6 wt).elim (λw=>?_) (λw=>?_);rotate_left;.simp[go_sem,w];exact fJ (by grind)
  simp[go_sem,w,hf];refine(A6 f).elim (λw2=>?_) (λw2=>?_)
  .simp[go_sem,w2];refine zL ae cB (zR sg (by rw[bJ.bQ];rfl)) rfl ?_;refine(A6 me).elim (λw3=>?_) (λw3=>?_);.simp[go_sem,w3,w2];exact zH () ⟨by grind,bU 1 (by grind) rfl (by rfl) om (zD (by rfl) rfl)⟩
   .simp[go_sem,w3];exact fJ (by grind)
  .simp[go_sem,w2];refine zL ak cB (zR sg (by rw[bJ.bQ];rfl)) rfl ?_;refine(A6 bl).elim (λw3=>?_) (λw3=>?_);.simp[go_sem,w3];exact zH () ⟨by grind,bU 1 (by grind) rfl (by rfl) om (zD (by rfl) rfl)⟩
   .simp[go_sem,w3];exact fJ (by grind)
 .rintro _ h1;have hM:=ad h1;clear az ad;generalize hB:(if k=1then mi&&(((st.order.isEmpty&&!d)||wo)&&decide (-1<=st.bV))else if k=2then mr&&!f else if k=3then ms else k==4)=B at hM;obtain⟨S,hS⟩:=eX (((!(k==1)&&(!ie||(!st.order.isEmpty||(d||!(st.bV==0)))))||((!(k==2)&&!re)||(!(k==3)&&!se))));rw[hS]at hM;have no:S=true->false=M:=(by grind);have yes:S=false->B=M:=(by grind);clear hM;have au:(st.bV !=0)=!(st.bV==0):=rfl;have av:(st.kind !=2)=!(k==2):=by grind
  have aw:(st.kind !=3)=!(k==3):=by grind
  have ax:(st.kind==1)=(k==1):=by rw[hk]
  refine zN (zA ?_);simp[go_sem];refine nK (S:=Unit) [1] (λ_=>[.ptr 0 0]) (λ_=>[.box st.row]) (λ_=>S=false) hc hb ?_ ?_
  .generalize(st.bV==0)=l0 at au hS;generalize(k==1)=k1 at ax hS;generalize(k==2)=k2 at av hS;generalize(k==3)=k3 at aw hS;clear yes hB;refine zA ?_;simp[go_sem,ax];repeat'(first |(refine xG (λw=>?_) (λw=>?_)<;>simp[go_sem,w,av,aw,au,ao,aq,ar,hd])|(refine zX (λw=>?_) (λw=>?_)<;>simp[go_sem,w]))
   all_goals first |exact fJ (by grind)|exact zH () ⟨by rw[<-hS];simp_all,bU 1 (by simp[go_sem,hd]<;>simp_all) rfl (by simp[bS,cV,cR]) om (zD sg rfl)⟩
  .rintro _ a1;have hM:=yes a1;rw[<-hB]at hM;clear yes no hS hB;refine zA ?_;simp[go_sem,hk];by_cases k1:k=1
   .have aa:(k==1)=true:=by grind
    rw[alq k1]at hM;have a7:decide (-1<=st.bV)=decide (-1<=st.bV):=rfl;simp[go_sem,aa];refine zL hit cB (zR (by rfl) rfl) rfl ?_;simp[go_sem];repeat'(first |(refine xG (λw=>?_) (λw=>?_)<;>simp[go_sem,w,ay,hd])|(refine zL aj cB (zR sg rfl) rfl ?_;simp[go_sem]))
    all_goals exact fJ (by rw[<-hM];simp_all)
   have aa:(k==1)=false:=by grind
   rw[alp k1]at hM;by_cases k2:k=2
   .have ab:(k==2)=true:=by grind
    rw[alq k2]at hM;simp[go_sem,aa,ab];refine zL al cB (zR (by rfl) rfl) rfl ?_;simp[go_sem];refine(A6 mr).elim (λw=>?_) (λw=>?_);.simp[go_sem,w,hf];exact fJ (by grind)
    .simp[go_sem,w];exact fJ (by grind)
   have ab:(k==2)=false:=by grind
   rw[alp k2]at hM;by_cases k3:k=3
   .have ah:(k==3)=true:=by grind
    rw[alq k3]at hM;simp[go_sem,aa,ab,ah];refine zL an cB (zR (by rfl) rfl) rfl ?_;simp[go_sem];exact fJ hM
   have ah:(k==3)=false:=by grind
   rw[alp k3]at hM;simp[go_sem,aa,ab,ah];exact fJ hM
def VJ(l:eF):Bool:=(decide (0<=l.mode)&&(decide (l.mode<=2)&&(decide (0<=l.n)&&(!(l.mode==0&&!(l.n==0))))))&&(decide (1<=l.stmts.length)&&decide (l.stmts.length<=8))
def nq(l:eF):Bool:=VJ l&&l.stmts.all kQ
theorem xK0(l:eF)(hl:lr l):Pure prog 102 [.agg l.row] (.bool (nq l)):=by
 obtain⟨L,hL⟩:=eX l.stmts;obtain⟨m,hm⟩:=eX l.mode;obtain⟨n,hn⟩:=eX l.n;obtain⟨af,ad⟩:=hl.stmts;rw[hL]at af ad;generalize hM:nq l=M;unfold nq VJ at hM;rw[hL,hm,hn]at hM;have no:∀h:Bool,(h&&L.all kQ)=M->h=false->false=M:=sM;refine iV 0 func102 ntmps102 results102 λc hc hb=>?_;refine zN (zA ?_);simp[go_sem];refine nK (S:=Unit) [1] (λ_=>[.ptr 0 0]) (λ_=>[.box l.row]) (λ_=>L.all kQ=M) hc hb ?_ ?_
 .have d1:decide (m<0)=!decide (0<=m):=by grind
  have d2:decide (2<m)=!decide (m<=2):=by grind
  have d3:decide (n<0)=!decide (0<=n):=by grind
  have d4:((L.length:Int)==0)=!decide (1<=L.length):=by grind
  have d5:decide ((8:Int)<L.length)=!decide (L.length<=8):=by grind
  have d6:(n !=0)=!(n==0):=rfl;generalize decide (0<=m)=b1 at d1 hM;generalize decide (m<=2)=b2 at d2 hM;generalize decide (0<=n)=b3 at d3 hM;generalize decide (1<=L.length)=b4 at d4 hM;generalize decide (L.length<=8)=b5 at d5 hM;generalize(n==0)=b6 at d6 hM;have ah:=no _ hM;have ae:((b1&&(b2&&(b3&&(!(m==0&&!b6)))))&&(b4&&b5))=true->L.all kQ=M:=(by grind);generalize ai:(m==0)=b7 at ah ae;clear hM no;refine zA ?_;simp[go_sem,hm,hn,hL,d1];repeat'(first |(refine xG (λw=>?_) (λw=>?_)<;>simp[go_sem,w,ai,d2,d3,d4,d5,d6])|(refine zX (λw=>?_) (λw=>?_)<;>simp[go_sem,w]))
  all_goals first |exact fJ (by grind)|exact zH () ⟨(by grind),bU 1 (by simp[go_sem,hm,hn,hL]) rfl (by simp[bS,cV,cR]) om (zD sg rfl)⟩
 .rintro _ hM;refine zA ?_;simp[go_sem,hL];refine zG (S:=Nat) [41,42,43] (λi=>[.sl .ro (L.map bZ.row),.int .i64 L.length,.int .i64 (i:Int)]) (λ_=>[]) (λi=>L.length-i) (λi=>i<=L.length/\(L.drop i).all kQ=M) hc hb 0 (by grind) ?_ ?_;.exact gC rfl (zR (by rfl) rfl)
  rintro i⟨hi,hinv⟩;by_cases q:i<L.length;rotate_left;.rw[A8 om]at hinv;refine zA ?_;simp[go_sem,q];exact fJ hinv
  have ei:=zO q om;rw[JD _ _ _ q]at hinv;obtain⟨st,ab⟩:=eX (L[i]);have aa:=xF2 st (ad st (ab▸A9 q));rw[ab]at hinv;generalize kQ st=b at aa hinv;refine zA ?_;simp[go_sem,q,ab];refine zL aa cB (zR (by rfl) rfl) rfl ?_;refine(A6 b).elim (λp=>?_) (λp=>?_);.rw[p,Ba]at hinv;simp[go_sem,p,ei];exact zH (i+1) ⟨om,(by grind),gC rfl (zR (by rfl) rfl)⟩
  .rw[p,Di]at hinv;simp[go_sem,p];exact fJ hinv
def p7(T:bL)(e:bJ)(want:Int):Int:=if(jf T e).2≠0then(jf T e).2else if(jf T e).1≠want/\(jf T e).1≠0then 15 else 0
theorem fp{b M:Int}{I:St}(h:b=M):cz (some (.int .i64 b)) 0 (λr s=>r=.int .i64 M/\s=[]) I:=by subst h;exact wR
theorem MF(T:bL)(hT:T.cw.length<=maxLen)(e:bJ)(he:jt e)(want:Int):Pure prog 241 [.agg T.row,.agg e.row,.int .i64 want] (.int .i64 (p7 T e want)):=by
 have h:=MC T hT e he;generalize hM:p7 T e want=M;unfold p7 at hM;generalize jf T e=k at h hM;refine iW 0 func241 ntmps241 results241 λc hc hb=>zM ?_;simp[go_sem];refine zL h cB (zR sg (by rw[bJ.bQ];rfl)) rfl ?_;simp[go_sem,wO];by_cases q1:k.2=0;rotate_left;.have aa:(k.2!=0)=true:=sU q1;rw[alq q1]at hM;simp[go_sem,aa];exact fp hM
 have aa:(k.2!=0)=false:=sU q1;rw[alp (λh=>h q1)]at hM;simp[go_sem,aa];by_cases q2:k.1=want;.have ab:(k.1!=want)=false:=sU q2;rw[alp (λh=>h.1 q2)]at hM;simp[go_sem,ab];exact fp hM
 have ab:(k.1!=want)=true:=sU q2;simp[go_sem,ab];by_cases q3:k.1=0;.have ad:(k.1!=0)=false:=sU q3;rw[alp (λh=>h.2 q3)]at hM;simp[go_sem,ad];exact fp hM
 .have ad:(k.1!=0)=true:=sU q3;rw[alq ⟨q2,q3⟩]at hM;simp[go_sem,ad];exact fp hM
def DQ(T:bL)(st:bZ):Int:=if st.ef=true then p7 T st.cH 1 else 0
theorem VL(T:bL)(hT:T.cw.length<=maxLen)(st:bZ)(hs:lq st):Pure prog 170 [.agg T.row,.agg st.row] (.int .i64 (DQ T st)):=by
 have h:=MF T hT st.cH hs.cH 1;generalize hM:DQ T st=M;unfold DQ at hM;generalize p7 T st.cH 1=k at h hM;refine iW 0 func170 ntmps170 results170 λc hc hb=>zM ?_;simp[go_sem];refine(A6 st.ef).elim (λw=>?_) (λw=>?_);.rw[alq w]at hM;simp[go_sem,w];refine zL h cB (zR sg (by rw[bJ.bQ];rfl)) rfl ?_;simp[go_sem];exact fp hM
 .rw[alp (by rw[w];decide)]at hM;simp[go_sem,w];exact fp hM
def HC(T:bL)(x:de):Int:=if x.kind=2then(jf T x.e).2else if x.kind=4then p7 T x.e 2 else 0
def sq(T:bL):List de->Int|[]=>0|x::l=>if HC T x≠0then HC T x else sq T l
def u9(l:List de):Bool:=l.any λx=>x.kind==2
def tI(l:List de):Bool:=l.any λx=>x.kind==3||x.kind==4
def JJ(T:bL)(st:bZ):Int:=if st.order.isEmpty=true then 0 else if dg T st.order<0then 14 else if tI st.items=true then 9 else 0
def MG(T:bL)(st:bZ):Int:=if sq T st.items≠0then sq T st.items else if(u9 st.items&&tI st.items)=true then 9 else if DQ T st≠0then DQ T st else JJ T st
theorem xO4(T:bL)(hT:T.cw.length<=maxLen)(st:bZ)(hs:lq st):Pure prog 167 [.agg T.row,.agg st.row] (.int .i64 (MG T st)):=by
 obtain⟨L,hL⟩:=eX st.items;obtain⟨ao,aj⟩:=hs.items;rw[hL]at ao aj;have ai:=VL T hT st hs;have af:=HA T st.order hT;rw[show xW (λc:fZ=>c.name==st.order) T.cw 0=dg T st.order from rfl]at af;generalize hM:MG T st=M;unfold MG JJ at hM;rw[hL]at hM;refine iV 0 func167 ntmps167 results167 λc hc hb=>?_;refine zN (zA ?_);simp[go_sem];refine zN (zA ?_);simp[go_sem];refine nK (S:=Unit) [2,3,5,6] (λ_=>[.ptr 0 0,.ptr 1 0,.bool (u9 L),.bool (tI L)]) (λ_=>[.box T.row,.box st.row]) (λ_=>sq T L=0) hc hb ?_ ?_
 .refine zN (zA ?_);simp[go_sem,hL];refine yt ?_;refine zG (S:=Nat×Bool×Bool) [2,3,5,6,12,13,14] (λu=>[.ptr 0 0,.ptr 1 0,.bool u.2.1,.bool u.2.2,.sl .ro (L.map de.row),.int .i64 L.length,.int .i64 (u.1:Int)]) (λ_=>[.box T.row,.box st.row]) (λu=>L.length-u.1) (λu=>u.1<=L.length/\(u.2.1||u9 (L.drop u.1))=u9 L/\(u.2.2||tI (L.drop u.1))=tI L/\sq T (L.drop u.1)=sq T L) hc hb (0,false,false) ⟨A5 _,sM,sM,sM⟩ ?_ ?_;.exact bU 2 (by simp[go_sem,hL]) rfl (by simp[bS,cV,cR,bL.row,bZ.row]) (A5 _) (zD sg rfl)
  rintro⟨i,pl,wh⟩⟨hi,hp,hw,hinv⟩;simp only at hi hp hw hinv;by_cases q:i<L.length;rotate_left
  .rw[A8 om]at hp hw hinv;have hp:pl=u9 L:=by rw[<-hp];exact(Bool.or_false _).symm
   have hw:wh=tI L:=by rw[<-hw];exact(Bool.or_false _).symm
   refine zA ?_;simp[go_sem,q];exact zH () ⟨hinv.symm,aM 2 (by simp[bS,cV,cR]) (zD (by simp[go_sem,hp,hw]) rfl)⟩
  have ei:=zO q om;obtain⟨x,hx⟩:=eX (L[i]);have hE:=(aj x (hx▸A9 q)).2;rw[A4 q,hx]at hp hw hinv;unfold u9 at hp;unfold tI at hw;rw[alU]at hp hw;rw[sq]at hinv;have bad:HC T x≠0->HC T x=M:=λh=>by rw[alq h]at hinv;rw[<-hM,<-hinv,alq h]
  have eD:HC T x=0->sq T (L.drop (i+1))=sq T L:=λh=>by rw[alp (λg=>g h)]at hinv;exact hinv
  clear hinv;unfold HC at bad eD;have ak:=MC T hT x.e hE;have al:=MF T hT x.e hE 2;generalize jf T x.e=ty at ak bad eD;generalize p7 T x.e 2=kc at al bad eD;have go:∀(a b:Bool)(e I),(a||u9 (L.drop (i+1)))=u9 L->(b||tI (L.drop (i+1)))=tI L->sq T (L.drop (i+1))=sq T L->At 0 [2,3,5,6,12,13,14] [.ptr 0 0,.ptr 1 0,.bool a,.bool b,.sl .ro (L.map de.row),.int .i64 L.length,.int .i64 ((i+1:Nat):Int)] [.box T.row,.box st.row] e I->Vx.Next (λs':Nat×Bool×Bool=>L.length-s'.1<L.length-i/\(s'.1<=L.length/\(s'.2.1||u9 (L.drop s'.1))=u9 L/\(s'.2.2||tI (L.drop s'.1))=tI L/\sq T (L.drop s'.1)=sq T L)/\At 0 [2,3,5,6,12,13,14] [.ptr 0 0,.ptr 1 0,.bool s'.2.1,.bool s'.2.2,.sl .ro (L.map de.row),.int .i64 L.length,.int .i64 (s'.1:Int)] [.box T.row,.box st.row] e I) fx:=λa b e I h1 h2 h3 h4=>zH (i+1,a,b) ⟨by simp only;omega,⟨by simp only;omega,h1,h2,h3⟩,h4⟩;refine zA ?_;simp[go_sem,q,hx];by_cases k2:x.kind=2
  .have ab:(x.kind==2)=true:=sU k2;rw[alq k2]at bad eD;have aq:(x.kind==3||x.kind==4)=false:=by rw[k2];rfl
   simp only[ab,Dm,alV]at hp;simp only[aq,Bv]at hw;simp[go_sem,ab];refine zL ak cB (zR sg (by rw[bJ.bQ];rfl)) rfl ?_;by_cases qe:ty.2=0;.have aa:(ty.2!=0)=false:=sU qe;simp[go_sem,wO,aa,ei];exact go true wh _ _ (by rw[Dm];exact hp) hw (eD qe) (aN 2 (by simp[bS,cV,cR,bL.row,bZ.row]))
   .have aa:(ty.2!=0)=true:=sU qe;simp[go_sem,wO,aa];exact fp (bad qe)
  rw[alp k2]at bad eD;have ab:(x.kind==2)=false:=sU k2;simp only[ab,Bv]at hp;by_cases k4:x.kind=4
  .have ae:(x.kind==4)=true:=sU k4;rw[alq k4]at bad eD;simp only[ae,Dm,alV]at hw;simp[go_sem,ab,ae];refine zL al cB (zR sg (by rw[bJ.bQ];rfl)) rfl ?_;by_cases qe:kc=0;.have aa:(kc !=0)=false:=sU qe;simp[go_sem,aa,ei];exact go pl true _ _ hp (by rw[Dm];exact hw) (eD qe) (aN 2 (by simp[bS,cV,cR,bL.row,bZ.row]))
   .have aa:(kc !=0)=true:=sU qe;simp[go_sem,aa];exact fp (bad qe)
  rw[alp k4]at bad eD;have ae:(x.kind==4)=false:=sU k4;by_cases k3:x.kind=3;.have ah:(x.kind==3)=true:=sU k3;simp only[ah,Dm,alV]at hw;simp[go_sem,ab,ae,ah,ei];exact go pl true _ _ hp (by rw[Dm];exact hw) (eD rfl) (aN 2 (by simp[bS,cV,cR,bL.row,bZ.row]))
  .have ah:(x.kind==3)=false:=sU k3;simp only[ah,ae,Bv]at hw;simp[go_sem,ab,ae,ah,ei];exact go pl wh _ _ hp hw (eD rfl) (aN 2 (by simp[bS,cV,cR,bL.row,bZ.row]))
 .rintro _ hI;rw[alp (λh=>h hI)]at hM;generalize u9 L=pl at hM⊢;generalize tI L=wh at hM⊢;generalize DQ T st=wc at ai hM;have an:(st.order==[])=st.order.isEmpty:=by cases st.order<;>rfl
  refine zA ?_;simp[go_sem];refine(A6 (pl&&wh)).elim (λw=>?_) (λw=>?_)
  .rw[alq w]at hM;have w1:pl:=by cases pl<;>simp_all
   have w2:wh:=by cases wh<;>simp_all
   simp[go_sem,w1,w2];exact fp hM
  rw[alp (by rw[w];decide)]at hM;refine xG (λw1=>?_) (λw1=>?_)
  .have w2:wh=false:=by cases wh<;>simp_all
   simp[go_sem,w1,w2];refine zL ai cB (zR sg rfl) rfl ?_;by_cases qe:wc=0;rotate_left;.have aa:(wc !=0)=true:=sU qe;rw[alq qe]at hM;simp[go_sem,aa];exact fp hM
   have aa:(wc !=0)=false:=sU qe;rw[alp (λh=>h qe)]at hM;simp[go_sem,aa,an];refine(A6 st.order.isEmpty).elim (λw3=>?_) (λw3=>?_);.rw[alq w3]at hM;simp[go_sem,w3];exact fp hM
   rw[alp (by rw[w3];decide)]at hM;simp[go_sem,w3];refine zL af cB (zR sg rfl) rfl ?_;by_cases qc:dg T st.order<0;.have ad:decide (dg T st.order<0)=true:=als qc;rw[alq qc]at hM;simp[go_sem,ad];exact fp hM
   have ad:decide (dg T st.order<0)=false:=alr qc;rw[alp qc]at hM;simp[go_sem,ad];rw[alp (by rw[w2];decide)]at hM;exact fp hM
  .have w1:pl=false:=sU w1;simp[go_sem,w1];refine zL ai cB (zR sg rfl) rfl ?_;by_cases qe:wc=0;rotate_left;.have aa:(wc !=0)=true:=sU qe;rw[alq qe]at hM;simp[go_sem,aa];exact fp hM
   have aa:(wc !=0)=false:=sU qe;rw[alp (λh=>h qe)]at hM;simp[go_sem,aa,an];refine(A6 st.order.isEmpty).elim (λw3=>?_) (λw3=>?_);.rw[alq w3]at hM;simp[go_sem,w3];exact fp hM
   rw[alp (by rw[w3];decide)]at hM;simp[go_sem,w3];refine zL af cB (zR sg rfl) rfl ?_;by_cases qc:dg T st.order<0;.have ad:decide (dg T st.order<0)=true:=als qc;rw[alq qc]at hM;simp[go_sem,ad];exact fp hM
   have ad:decide (dg T st.order<0)=false:=alr qc;rw[alp qc]at hM;simp[go_sem,ad];refine(A6 wh).elim (λw4=>?_) (λw4=>?_);.rw[alq w4]at hM;simp[go_sem,w4];exact fp hM
   .rw[alp (by rw[w4];decide)]at hM;simp[go_sem,w4];exact fp hM
def kn(l:alZ)(v:Int):Nat:=(l.filter λx=>decide (x<v)).length
theorem VM(l:alZ)(v:Int)(i:Nat)(hi:i<=l.length)(h1:∀k(h:k<l.length),k<i->l[k]<v)(h2:∀k(h:k<l.length),i<=k->v<=l[k]):kn l v=i:=by
 unfold kn;have e:l=l.take i++l.drop i:=(B0 i l).symm;rw[e,List.filter_append,Al];have ha:(l.take i).filter (λx=>decide (x<v))=l.take i:=D6.2 λx hx=>by obtain⟨k,hk,rfl⟩:=Cm.1 hx;rw[alS];rw[Cf]at hk;exact als (h1 k om om)
 have hb:(l.drop i).filter (λx=>decide (x<v))=[]:=List.filter_eq_nil_iff.2 λx hx=>by obtain⟨k,hk,rfl⟩:=Cm.1 hx;rw[List.getElem_drop];rw[D9]at hk;have:=h2 (i+k) om om;simp;omega
 rw[ha,hb,Cf];simp;omega
theorem VN(l:alZ)(v:Int)(hs:l.Pairwise (·<·))(i:Nat)(h1:∀k(h:k<l.length),k<i->l[k]<v)(h2:∀k(h:k<l.length),i<=k->v<=l[k]):(if h:i<l.length then l[i]==v else false)=l.contains v:=by
 rw[Df,alL];constructor
 .intro h;split at h;.rename_i hi;rw[<-eq_of_beq h];exact A9 hi
  .cases h
 .intro h;obtain⟨k,hk,rfl⟩:=Cm.1 h;have ab:i<=k:=by
   rcases C3 k i with q|q;.have:=h1 k hk q;omega
   .exact q
  have hi:i<l.length:=om;rw[dif_pos hi];have aa:k=i:=by
   rcases C3 i k with q|q;.have h3:=Cz.1 hs i k hi hk q;have h4:=h2 i hi (A7 _);omega
   .omega
  subst aa;exact beq_self_eq_true _
theorem xR7(s k:Nat):(s:Int).fdiv k=((s/k:Nat):Int):=by rw[Dt _ om];rfl
theorem VO(x:Int):Pure prog 348 [.int .i64 x] (.bool false):=by refine iW 0 func348 ntmps348 results348 λc hc hb=>zM ?_;simp[go_sem];exact wR
def gN(x y:Int):Int:=if x<y then-1 else if x>y then 1 else 0
theorem Qm(x y:Int):Pure prog 265 [.int .i64 x,.int .i64 y] (.int .i64 (gN x y)):=by
 generalize hM:gN x y=M;have ret:∀(r:Int)(I:St),r=M->cz (some (.int .i64 r)) 0 (λr s=>r=.int .i64 M/\s=[]) I:=λr I h=>by subst h;exact wR
 unfold gN at hM;refine iW 0 func265 ntmps265 results265 λc hc hb=>zM ?_;simp[go_sem];refine pC (VO x) ?_;simp[go_sem];refine pC (VO y) ?_;simp[go_sem];repeat'(first|(refine zX (λq=>?_) (λq=>?_)<;>simp[go_sem,q]))
 all_goals exact ret _ _ (by rw[<-hM];simp only[alw,aly]at*;(repeat' split)<;>omega)
@[go_sem]def p8(x:Int×List ca):List V:=[.int .i64 x.1,.sl .ro (x.2.map ca.row)]
theorem VP(x:Int×List ca)(r:Int):Pure prog 276 [.agg (p8 x),.int .i64 r] (.int .i64 (gN x.1 r)):=by refine iW 0 func276 ntmps276 results276 λc hc hb=>zM ?_;simp[go_sem];refine pC (Qm x.1 r) ?_;simp[go_sem];exact wR
theorem wy0(l:List ca)(x:ca)(hl:l.length<=maxLen):Pure prog 357 [.sl .ro (l.map ca.row),.agg x.row] (.int .i64 (xW (λt:ca=>t==x) l 0)):=by
 generalize hM:xW (λt:ca=>t==x) l 0=M;have ret:∀(r:Int)(I:St),r=M->cz (some (.int .i64 r)) 0 (λr s=>r=.int .i64 M/\s=[]) I:=λr I h=>by subst h;exact wR
 refine iV 0 func357 ntmps357 results357 λc hc hb=>?_;refine zA ?_;simp[go_sem];refine zG (S:=Nat) [0,3,7,8] (λi=>[.sl .ro (l.map ca.row),.ptr 0 0,.int .i64 l.length,.int .i64 i]) (λ_=>[.box x.row]) (λi=>l.length-i) (λi=>i<=l.length/\xW (λt:ca=>t==x) (l.drop i) i=M) hc hb 0 ⟨A5 _,hM⟩ ?_ ?_;.exact aN 1 rfl
 rintro i⟨hi,hinv⟩;by_cases q:i<l.length;rotate_left;.rw[Bt om,xW]at hinv;refine zA ?_;simp[go_sem,q];exact ret _ _ hinv
 have ei:=zO q (by unfold maxLen at hl;omega);obtain⟨y,hy⟩:=eX (l[i]);rw[A4 q,hy,xW]at hinv;refine zA ?_;simp[go_sem,q];refine yA [] 1 rfl kR kR ?_;simp[go_sem,q,hy];have aa:(x.lo==y.lo&&x.hi==y.hi)=(y==x):=by rw[Df];obtain⟨a,b⟩:=x;obtain⟨c,d⟩:=y;simp only[Aa,alx,ca.mk.injEq];exact⟨λh=>⟨h.1.symm,h.2.symm⟩,λh=>⟨h.1.symm,h.2.symm⟩⟩
 rw[aa];refine zX (λw=>?_) (λw=>?_);.rw[alq w]at hinv;simp[go_sem];exact ret _ _ hinv
 .rw[alp (by rw[w];decide)]at hinv;simp[go_sem,ei];exact zH (i+1) ⟨om,⟨q,hinv⟩,aN 1 rfl⟩
theorem VQ(x:ca):∀(l:List ca)(i:Nat),decide (0<=xW (λt:ca=>t==x) l i)=l.contains x
 |[],_=>rfl|y::l,i=>by
  unfold xW;rw[Dl,<-VQ x l (i+1)];by_cases h:y=x;.subst h;simp
  .rw[alp (sU h),show(x==y)=false by simpa usingλe=>h e.symm,Bv]
theorem VR(l:List ca)(x:ca)(hl:l.length<=maxLen):Pure prog 278 [.sl .ro (l.map ca.row),.agg x.row] (.bool (l.contains x)):=by have h:=wy0 l x hl;rw[<-VQ x l 0];refine iW 0 func278 ntmps278 results278 λc hc hb=>zM ?_;simp[go_sem];refine zL h cB (zR sg rfl) rfl ?_;simp[go_sem];exact wR
theorem wE1(uJ:List (Int×List ca))(v:Int)(hl:uJ.length<=1000)(hs:(uJ.map (·.1)).Pairwise (·<·)):Pure prog 275 [.sl .ro (uJ.map p8),.int .i64 v,.fn 276 []] (.cC [.int .i64 (kn (uJ.map (·.1)) v:Nat),.bool ((uJ.map (·.1)).contains v)]):=by
 obtain⟨l,hle⟩:=eX (uJ.map (·.1));have aj:l.length=uJ.length:=by rw[<-hle];simp
 rw[hle]at hs⊢;have ab:∀(k:Nat)(hk:k<uJ.length),l[k]'om=(uJ[k]).1:=λk hk=>by subst hle;simp
 refine iV 0 func275 ntmps275 results275 λc hc hb=>?_;refine zA ?_;simp[go_sem];refine zG (S:=Nat×Nat) [0,1,2,8,9,10] (λu=>[.sl .ro (uJ.map p8),.int .i64 v,.fn 276 [],.int .i64 uJ.length,.int .i64 u.1,.int .i64 u.2]) (λ_=>[]) (λu=>u.2-u.1) (λu=>u.1<=u.2/\u.2<=l.length/\(∀k(h:k<l.length),k<u.1->l[k]<v)/\(∀k(h:k<l.length),u.2<=k->v<=l[k])) hc hb (0,l.length) ⟨A5 _,A7 _,λk _ h=>absurd h (Nat.not_lt_zero _),λk h h'=>by simp only at h';omega⟩ ?_ ?_;.exact gC rfl (zR (by simp[go_sem,aj]) rfl)
 rintro⟨i,j⟩⟨ak,hj,h1,h2⟩;simp only at ak hj h1 h2;by_cases q:i<j;rotate_left
 .have al:j=i:=om;subst al;have ai:=VM l v j hj h1 h2;have aa:=VN l v hs j h1 h2;rw[ai];by_cases q2:j<uJ.length
  .obtain⟨x,hx⟩:=eX (uJ[j]);rw[dif_pos om,ab j q2,hx]at aa;have an:(gN x.1 v==0)=(x.1==v):=by rw[Df];simp only[alx];unfold gN;(repeat' split)<;>omega
   have ae:=VP x v;rw[<-aa];refine zA ?_;simp[go_sem,q2,hx];refine zL ae cB (zR sg rfl) rfl ?_;simp[go_sem,an];exact wR
  .rw[dif_neg om]at aa;rw[<-aa];refine zA ?_;simp[go_sem,q2];exact wR
 obtain⟨h,hh⟩:=eX ((i+j)/2);have aq:i<=h:=om;have ar:h<j:=om;have af:h<uJ.length:=om;have ad:h<l.length:=om;obtain⟨x,hx⟩:=eX (uJ[h]);have au:l[h]=x.1:=by rw[ab h af,hx]
 have e1:IntKind.i64.wrap ((i:Int)+j)=((i+j:Nat):Int):=by rw[bX om om];omega
 have em:IntKind.i64.wrap ((IntKind.u64.wrap (IntKind.i64.wrap ((i:Int)+j))).fdiv 2)=(h:Int):=by rw[e1,Vx.dp om om,show(2:Int)=((2:Nat):Int)by rfl,xR7,hh,bX om om]
 have eh:=zO af om;have ae:=VP x v;have ao:decide (gN x.1 v<0)=decide (x.1<v):=by rw[Df];simp only[alw];unfold gN;(repeat' split)<;>omega
 refine zA ?_;simp[go_sem,q,em,af,hx];refine zL ae cB (zR sg rfl) rfl ?_;simp[go_sem,ao];refine zX (λw=>?_) (λw=>?_)
 .have w:x.1<v:=sU w;simp[go_sem,eh];refine zH (h+1,j) ⟨by simp only;omega,⟨by simp only;omega,by simp only;omega,λk hk ah=>?_,h2⟩,aO⟩;simp only at ah;rcases C3 k h with q3|q3;.have:=Cz.1 hs k h hk ad q3;omega
  .have:k=h:=om;subst this;omega
 .have w:¬x.1<v:=sU w;simp[go_sem];refine zH (i,h) ⟨by simp only;omega,⟨by simp only;omega,by simp only;omega,h1,λk hk ah=>?_⟩,aO⟩;simp only at ah;rcases C3 h k with q3|q3;.have:=Cz.1 hs h k ad hk q3;omega
  .have:k=h:=om;subst this;omega
end Go.Proofs.YtegbonbgofjlcaaGreat
namespace Go.Proofs.YtegbonbgofjlcaaGreat
open Go Go.Vx Go.Proofs.Tryz
set_option maxRecDepth 100000
theorem MH{P:Program}{w:World}{dT sT ty el:TypeId}{b o aa ad ab ae s k:Nat}{a:Addr}{arr:am0}{T:TypeId}{fz:Nat×Nat}{cs:alY}(hu:P.underlying dT=some (.slice el))(hs:(P.info? el).map (·.size)=some s) (hk:Nat.min ab aa=k)(hn:cs.length=k*s)(af:∀j v,cs[j]?=some v->w.cell? (a.add j)=some v)(hh:w.heap[b]?=some (.cells arr T fz))(hf:sS arr fz)(ai:o+cs.length<=arr.size)(h1:∀v∈cs,v.oneCell'):(Builtin.copy_ #[dT,sT] ty #[.slice (some ⟨b,o,none⟩) aa ad,.slice (some a) ab ae]).run P w=.ok (goInt k) (yG w b (.cells (yH arr o cs) T fz)):=by have hl:=run_loadCells_list (P:=P) w a cs af;have ah:=xU P b o T fz cs 0 arr w hh hf om h1;rw[D7]at ah;cases hq:P.info? el<;>simp_all[Builtin.copy_,run_underlying,Builtin.lenOf,Builtin.firstCells,sizeOf,typeInfo]
theorem VS{P:Program}{ops:Array Oper}{o:Oper}{a:Act}{w:World}{K:Act->World->Prop}{Q:Exit->Act->World->Prop}{E:Prop}(hg:o.guard=none)(d x:Operand)(dT sT:TypeId)(aa:o.op=Op.call {callee:=Callee.builtin Builtin.copy,args:=#[d,x],argTypes:=#[dT,sT]}) (v u:Value)(hd:a.eval d=v)(hx:a.eval x=u){v':Value}{w':World}(hr:(Builtin.copy_ #[dT,sT] o.type #[v,u]).run P w=.ok v' w')(hK:K (a.put o.dst v') w'):if Region.wanted o (yielded ops a.tmps)=true then Oper.wp P o a w K Q else E:=by
 have hw:Region.wanted o (yielded ops a.tmps):=by grind[Region.wanted]
 rw[alq hw];unfold Oper.wp;simp[execOp,aa,resolve,invoke,builtin,hd,hx,hr,Result.andThen];exact hK
theorem xD3(b vb c vc n i:Nat)(arr aa:am0)(T Tv:TypeId)(fz ad:Nat×Nat)(D news:alY)(w:World)(hi:i<n)(ak:n+1<=c)(aw:n<=9223372036854775806)(af:vb≠b) (hh:w.heap[b]?=some (.cells arr T fz))(hf:sS arr fz)(ay:c*2<=arr.size)(hv:w.heap[vb]?=some (.cells aa Tv ad))(ah:gi 2 aa ad)(ax:2<=aa.size) (hD:D=(arr.toList.drop (i*2)).take ((n-i)*2))(hn:news=aa.toList.take 2)(al:∀v∈D,v.oneCell')(an:∀v∈news,v.oneCell'):Calls prog 277 #[.slice (some ⟨b,0,none⟩) n c,.int .i64 i,.slice (some ⟨vb,0,none⟩) 1 vc] w λe w'=>e=.returned (.slice (some ⟨b,0,none⟩) (n+1) c)/\w'=yG (yG w.drew b (.cells (yH arr ((i+1)*2) D) T fz)) b (.cells (yH (yH arr ((i+1)*2) D) (i*2) news) T fz):=by
 have az:i<=n:=om;have a1:¬((i:Int)=(n:Int)):=om;have a6:(0:Int)<=(i:Int)+1:=om;have a7:((i:Int)+1).toNat=i+1:=om;have a8:¬(c=i+1):=om;have aA:(i:Int)<=(n:Int)+1:=om;have aB:(i:Int)+1<=(n:Int)+1:=om;have aC:¬(c=i):=om;have aD:IntKind.i64.wrap ((i:Int)+1)=(i:Int)+1:=by grind[IntKind.wrap_i64]
 have ao:D.length=(n-i)*2:=by grind
 have aq:news.length=2:=by grind
 have ar:w.frozen? ⟨vb,0,none⟩=false:=by have:=ah.1 0 om;grind[World.frozen?]
 have au:w.frozen? ⟨vb,aa.size,none⟩=false:=by have:=ah.2.resolve_left dC;grind[World.frozen?]
 have av:∀lb cb,(callFunc 355 #[.slice (some ⟨vb,0,none⟩) 1 vc,.slice (some ⟨b,(i+1)*2,none⟩) lb cb]).run prog w=.ok (.value (.bool false)) w:=λlb cb=>by rw[run_callFunc_extern func355 (by rfl) (by rfl) (by rfl) (e:=Extern.SlicesOverlaps.overlaps #[222,222] #[4]) kR,Lib.run_overlaps_apart w 222 4 225 underlying222 2 sizeOf225 ⟨vb,0,none⟩ ⟨b,(i+1)*2,none⟩ 1 vc lb cb af Tv T aa.size arr.size (by grind[World.shape?]) (by grind[World.shape?]) om ar au];rfl
 have ab:(Tryz.prog.info? 225).map (·.size)=some 2:=by rfl
 have ae:∀(j:Nat) v,D[j]?=some v->j<(n-i)*2/\arr[i*2+j]?=some v:=(by grind);have ai:∀ty dc sc,(Builtin.copy_ #[222,222] ty #[.slice (some ⟨b,(i+1)*2,none⟩) (n-i) dc,.slice (some ⟨b,i*2,none⟩) (n+1-i) sc]).run prog w.drew=.ok (goInt (n-i:Nat)) (yG w.drew b (.cells (yH arr ((i+1)*2) D) T fz)):=λty dc sc=>MH underlying222 ab (by grind) ao (λj v e=>by obtain⟨_,e2⟩:=ae j v e;rw[Addr.add_lit];show w.cell? _=_;grind[World.cell?]) hh hf om al;have aE:(yG w.drew b (.cells (yH arr ((i+1)*2) D) T fz)).heap[b]?=some (.cells (yH arr ((i+1)*2) D) T fz):=xL _ _ _ (Bu.1 hh).1;have aj:∀(W:World),W.heap=(yG w.drew b (.cells (yH arr ((i+1)*2) D) T fz)).heap->∀ty dc,(Builtin.copy_ #[222,222] ty #[.slice (some ⟨b,i*2,none⟩) (n+1-i) dc,.slice (some ⟨vb,0,none⟩) 1 vc]).run prog W=.ok (goInt (1:Nat)) (yG W b (.cells (yH (yH arr ((i+1)*2) D) (i*2) news) T fz)):=λW hW ty dc=>MH underlying222 ab (by grind) (by rw[aq]) (λj v e=>by
   have hj:j<2:=by grind
   rw[hn,An,alq hj,Ao]at e;have e3:W.heap[vb]?=some (.cells aa Tv ad):=by rw[hW,vG _ _ _ _ af];exact hv
   grind[Addr.add_lit,World.cell?]) (by grind) (λo ho=>hf o (by grind[yK])) (by grind[yK]) an;go_enter func277,ntmps277;go_wp2_with(simp only[av]);go_region_law(refine VS rfl _ _ 222 222 rfl _ _ (by simp[Act.eval,Act.put]) (by simp[Act.eval,Act.put]) (ai _ _ _) ?_);go_wp2_with(at_builtin;refine wpList_copy_runI _ rfl _ _ 222 222 rfl _ _ rfl rfl (aj _ rfl _ _) ?_);go_ret;subst hD hn;simp
theorem yG7(b c n:Nat)(arr:am0)(T:TypeId)(fz:Nat×Nat)(x:Value)(news:alY)(w:World)(ab:n+1<=c)(ah:n<=9223372036854775806) (hh:w.heap[b]?=some (.cells arr T fz))(hf:sS arr fz)(ai:c*2<=arr.size)(va:Option Addr)(vc:Nat)(hx:x=.slice va 1 vc)(aa:Src prog 2 222 x 1 news w):Calls prog 277 #[.slice (some ⟨b,0,none⟩) n c,.int .i64 n,x] w λe w'=>e=.returned (.slice (some ⟨b,0,none⟩) (n+1) c)/\w'=yG w b (.cells (yH arr (n*2) news) T fz):=by
 subst hx;have ad:(Tryz.prog.info? 225).map (·.size)=some 2:=by rfl
 obtain⟨i0,ae,af⟩:∃i0,Tryz.prog.info? 225=some i0/\i0.size=2:=by decide
 have aj:=aa.newsLen;have hr:∀ty,(Builtin.append_ #[222,222] ty #[.slice (some ⟨b,0,none⟩) n c,.slice va 1 vc]).run prog w=.ok (.slice (some ⟨b,0,none⟩) (n+1) c) (yG w b (.cells (yH arr (n*2) news) T fz)):=λty=>by have h:=Gi (P:=prog) (ty:=ty) (i:=i0) (o:=0) (n:=n) (cap:=c) (m:=1) underlying222 ae (by rw[af];exact aa) ab hh hf (by grind);grind
 go_enter func277,ntmps277;go_wp2_with(at_builtin;refine Lib.wpList_append_run _ rfl _ _ _ _ rfl _ _ rfl rfl _ _ (hr _) ?_);go_ret;simp
theorem yG6(base:Option Addr)(c n:Nat)(x:Value)(fw news:alY)(w:World)(ab:c<n+1)(ak:n<=c)(al:(n+1)*32<=140737488355328) (hold:(Builtin.firstCells 2 n (.slice base n c)).run prog w.drew=.ok fw.toArray w.drew)(ao:fw.length=n*2)(va:Option Addr)(vc:Nat)(hx:x=.slice va 1 vc)(an:Src prog 2 222 x 1 news w):∃(aa:Nat)(arr:am0),n+1<=aa/\aa*2<=arr.size/\arr.toList.take ((n+1)*2)=fw++news/\Calls prog 277 #[.slice base n c,.int .i64 n,x] w λe w'=>e=.returned (.slice (some ⟨w.heap.size,0,none⟩) (n+1) aa)/\w'=w.drew.alloc (.cells arr 225):=by
 subst hx;have af:(Tryz.prog.info? 225).map (λi=>(i.zero.map (·.cells.size),i.size,i.bytes))=some (some 2,2,32):=by rfl
 obtain⟨i0,z,ah,hz,aq,ai,ar⟩:∃i0 z,Tryz.prog.info? 225=some i0/\i0.zero=some z/\z.cells.size=2/\i0.size=2/\i0.bytes=32:=by cases h:Tryz.prog.info? 225<;>simp_all
 obtain⟨aa,arr,aj,ad,ae,hr⟩:=KF (P:=prog) (w:=w) (t:=222) (tx:=222) (ty:=222) (base:=base) (cap:=c) (n:=n) (k:=1) (y:=.slice va 1 vc) (fw:=fw) (news:=news) underlying222 ah hz om om (by grind) (by grind) (by grind) ab (by grind);rw[ai]at ad ae;refine⟨aa,arr,aj,ad,ae,?_⟩;go_enter func277,ntmps277;cases base with |none=>go_wp2_with(at_builtin;refine Lib.wpList_append_run _ rfl _ _ _ _ rfl _ _ rfl rfl _ _ hr ?_);go_ret;trivial|some a=>go_wp2_with(at_builtin;refine Lib.wpList_append_run _ rfl _ _ _ _ rfl _ _ rfl rfl _ _ hr ?_);go_ret;trivial
theorem VT(w:World)(o o':Go.Obj):yG (w.alloc o) w.heap.size o'=w.alloc o':=by show{w with heap:=(w.heap.push o).setIfInBounds w.heap.size o'}={w with heap:=w.heap.push o'};congr 1;grind
theorem xT5(b vb c vc n i:Nat)(arr ab:am0)(T Tv:TypeId)(fz aq:Nat×Nat)(news:alY)(w:World)(hi:i<n)(an:c<n+1)(aU:n<=c)(ar:(n+1)*32<=140737488355328)(_hvb:vb≠b) (hh:w.heap[b]?=some (.cells arr T fz))(aV:c*2<=arr.size)(hv:w.heap[vb]?=some (.cells ab Tv aq))(aP:2<=ab.size) (hn:news=ab.toList.take 2)(aB:∀v∈arr.toList.take (n*2),v.oneCell')(aC:∀v∈news,v.oneCell'):∃(ah:Nat)(ai:am0),n+1<=ah/\ah*2<=ai.size/\ai.toList.take ((n+1)*2)=arr.toList.take (i*2)++news++(arr.toList.take (n*2)).drop (i*2)/\Calls prog 277 #[.slice (some ⟨b,0,none⟩) n c,.int .i64 i,.slice (some ⟨vb,0,none⟩) 1 vc] w λe w'=>e=.returned (.slice (some ⟨w.heap.size,0,none⟩) (n+1) ah)/\w'=w.drew.drew.alloc (.cells ai 225):=by
 have aD:(Tryz.prog.info? 225).map (λi=>(i.zero.map (·.cells.size),i.size,i.bytes))=some (some 2,2,32):=kR;have ad:(Tryz.prog.info? 225).map (·.size)=some 2:=kR;obtain⟨i0,z,aE,hz,aW,au,av⟩:∃i0 z,Tryz.prog.info? 225=some i0/\i0.zero=some z/\z.cells.size=2/\i0.size=2/\i0.bytes=32:=by cases h:Tryz.prog.info? 225<;>simp_all
 have aw:news.length=2:=by rw[hn];simp;omega
 have aQ:n<=4398046511103:=om;have aX:¬((i:Int)=(n:Int)):=om;have aY:(c:Int)<(n:Int)+1:=om;have aZ:i<=n:=om;have ba:IntKind.i64.wrap ((i:Int)+1)=(i:Int)+1:=by rw[IntKind.wrap_i64];omega
 have bb:(0:Int)<=(i:Int)+1:=om;have bc:((i:Int)+1).toNat=i+1:=om;have bd:(i:Int)<=(n:Int):=om;have bf:(i:Int)<=(n:Int)+1:=om;have bg:(i:Int)+1<=(n:Int)+1:=om;have bh:¬(c=i):=om;have aF:b<w.heap.size:=(Bu.1 hh).1;have aG:vb<w.heap.size:=(Bu.1 hv).1;have ax:(n:Int)+1-(i:Int)=((n+1-i:Nat):Int):=om;have ak:i+(n+1-i)=n+1:=om;obtain⟨D,hD⟩:∃D,D=(arr.toList.take (n*2)).drop (i*2):=⟨_,rfl⟩;have ay:D.length=(n-i)*2:=by rw[hD];simp;omega
 have hold:(Builtin.firstCells i0.size i (.slice (some ⟨b,0,none⟩) i c)).run prog w.drew=.ok (arr.toList.take (i*2)).toArray w.drew:=by rw[au];refine run_firstCells_some w.drew 2 i ⟨b,0,none⟩ i c (arr.toList.take (i*2)) (by simp;omega) (λj v hj=>?_);rw[Addr.add_lit];show w.cell? _=_;simp_all[An,World.cell?]
 have dG:grownCap w (n+1) c 225=grownCap w (i+(n+1-i)) c 225:=by rw[ak]
 have ao:n+1<=grownCap w (n+1) c 225:=grownCap_ge w _ _ _;have aj:∀ty,∃aa:am0,grownCap w (n+1) c 225*2<=aa.size/\aa.toList.take (i*2)=arr.toList.take (i*2)/\(Builtin.append_ #[222,3] ty #[.slice (some ⟨b,0,none⟩) i c,.int .i64 ((n:Int)+1-(i:Int))]).run prog w=.ok (.slice (some ⟨w.heap.size,0,none⟩) (n+1) (grownCap w (n+1) c 225)) (w.drew.alloc (.cells aa 225)):=λty=>by have h:=Lib.run_append_grow_zeros w 222 3 ty 225 i0 _ .i64 .i64 underlying222 underlying3 aE hz (some ⟨b,0,none⟩) i c (arr.toList.take (i*2)) hold (n+1-i) om (by rw[au];decide) om om (by rw[av];omega) (by rw[av,ak];exact growslice_fits an ar);rw[ak]at h;rw[ax];refine⟨_,?_,?_,h⟩;all_goals grind[size_zeroCells]
 have az:=ao;obtain⟨G,hG⟩:∃G,G=grownCap w (n+1) c 225:=⟨_,rfl⟩;have aR:G<=9223372036854775807:=by grind[grownCap_le_maxLen,maxLen]
 rw[<-hG]at aj ao;obtain⟨aa,aH,bj,aj⟩:=aj 222;obtain⟨W1,af⟩:∃W1,W1=w.drew.alloc (.cells aa 225):=⟨_,rfl⟩;have a1:W1.heap[w.heap.size]?=some (.cells aa 225):=by rw[af];exact yM w.drew _
 have aI:W1.heap[b]?=some (.cells arr T fz):=by rw[af];exact(H2 w.drew _ aF).trans hh
 have bk:W1.heap[vb]?=some (.cells ab Tv aq):=by rw[af];exact(H2 w.drew _ aG).trans hv
 have a6:∀A:am0,sS A (0,0):=λA q _ hq=>by simp at hq
 have a7:∀(W:World),W.heap=W1.heap->∀ty dc,(Builtin.copy_ #[222,222] ty #[.slice (some ⟨w.heap.size,i*2,none⟩) (n+1-i) dc,.slice (some ⟨vb,0,none⟩) 1 vc]).run prog W=.ok (goInt (1:Nat)) (yG W w.heap.size (.cells (yH aa (i*2) news) 225 (0,0))):=λW hW ty dc=>MH underlying222 ad (by simp only[Nat.min_def];split<;>omega) (by rw[aw]) (by simp_all[An,Addr.add_lit,World.cell?]) (by rw[hW];exact a1) (a6 _) (by rw[aw];omega) aC;obtain⟨W2,al⟩:∃W2,W2=yG W1 w.heap.size (.cells (yH aa (i*2) news) 225 (0,0)):=⟨_,rfl⟩;have aJ:W2.heap[w.heap.size]?=some (.cells (yH aa (i*2) news) 225):=by rw[al];exact xL _ _ _ (Bu.1 a1).1
 have bm:W2.heap[b]?=some (.cells arr T fz):=by rw[al,vG _ _ _ _ om];exact aI
 have a8:∀(W:World),W.heap=W2.heap->∀ty dc sc,(Builtin.copy_ #[222,222] ty #[.slice (some ⟨w.heap.size,(i+1)*2,none⟩) (n-i) dc,.slice (some ⟨b,i*2,none⟩) (n-i) sc]).run prog W=.ok (goInt (n-i:Nat)) (yG W w.heap.size (.cells (yH (yH aa (i*2) news) ((i+1)*2) D) 225 (0,0))):=λW hW ty dc sc=>MH underlying222 ad (by simp only[Nat.min_def];split<;>omega) ay (by simp_all[An,Addr.add_lit,World.cell?]) (by rw[hW];exact aJ) (a6 _) (by rw[yK,ay];omega) (λv aA=>aB v (Bz (by rw[hD]at aA;exact aA)));refine⟨G,yH (yH aa (i*2) news) ((i+1)*2) D,ao,by rw[yK,yK];exact aH,?_,?_⟩
 .have bn:(yH (yH aa (i*2) news) ((i+1)*2) D).size=aa.size:=by rw[yK,yK]
  refine Bi λk=>?_;have hA:(arr.toList.take (i*2)).length=i*2:=by simp;omega
  by_cases hk:k<(n+1)*2;.rw[An,alq hk,Ao,wV _ _ _ _ (by rw[yK];omega),wV _ _ _ _ om];grind
  grind
 rw[<-af]at aj;have aS:yG W2.drew w.heap.size (.cells (yH (yH aa (i*2) news) ((i+1)*2) D) 225 (0,0))=w.drew.drew.alloc (.cells (yH (yH aa (i*2) news) ((i+1)*2) D) 225):=by rw[al,af];have e1:=VT w.drew (.cells aa 225) (.cells (yH aa (i*2) news) 225 (0,0));have e0:w.drew.heap.size=w.heap.size:=rfl;rw[e0]at e1;rw[e1];exact VT w.drew.drew _ _
 have bo:¬(G=i):=om;have aT:¬(G=i+1):=om;clear hold az dG ax ak hG hn hD;subst al;subst af;have aK:((w.alloc (.cells aa 225)).drew).heap=(w.drew.alloc (.cells aa 225)).heap:=rfl;have aL:((yG ((w.alloc (.cells aa 225)).drew) w.heap.size (.cells (yH aa (i*2) news) 225 (0,0))).drew).heap=(yG (w.drew.alloc (.cells aa 225)) w.heap.size (.cells (yH aa (i*2) news) 225 (0,0))).heap:=rfl;go_enter func277,ntmps277;go_wp2_with(first |(at_builtin;refine Lib.wpList_append_run _ rfl _ _ _ _ rfl _ _ rfl rfl _ _ aj ?_)|(at_builtin;refine ae _ rfl _ _ 222 222 rfl _ _ rfl rfl (a7 _ aK _ _) ?_));go_region_law(refine VS rfl _ _ 222 222 rfl (.slice (some ⟨w.heap.size,(i+1)*2,none⟩) (n-i) (G-(i+1))) (.slice (some ⟨b,i*2,none⟩) (n-i) (c-i)) (by simp[Act.eval,Act.put]) (by simp[Act.eval,Act.put]) (a8 _ aL 3 (G-(i+1)) (c-i)) ?_);go_wp2;go_ret;simpa
end Go.Proofs.YtegbonbgofjlcaaGreat
namespace Go.Proofs.YtegbonbgofjlcaaGreat
open Go Go.Vx Go.Proofs.Tryz
set_option maxRecDepth 100000
set_option maxHeartbeats 1000000
theorem yJ5(w:World)(b:Nat)(o o':Go.Obj):yG (yG w b o) b o'=yG w b o':=by
 show{w with heap:=(w.heap.setIfInBounds b o).setIfInBounds b o'}={w with heap:=w.heap.setIfInBounds b o'};congr 1;apply Array.ext_getElem?;intro i;rw[Array.getElem?_setIfInBounds,Array.getElem?_setIfInBounds];by_cases h:b=i;.subst h;simp[Array.getElem?_setIfInBounds]
 .simp[h]
theorem xn3(arr:am0)(o s:Nat)(D news:alY)(hn:news.length=s)(aa:o+s+D.length<=arr.size):yH (yH arr (o+s) D) o news=yH arr o (news++D):=by
 apply Array.ext_getElem?;intro k;rw[wV _ _ _ _ (by rw[yK];omega),wV _ _ _ _ aa,wV _ _ _ _ (by rw[Al];omega)];by_cases h1:o<=k/\k<o+news.length;.rw[alq h1,alq (by rw[Al];omega),Ap om]
 .rw[alp h1];by_cases h2:o+s<=k/\k<o+s+D.length;.rw[alq h2,alq (by rw[Al];omega),Ar om];congr 1;omega
  .rw[alp h2,alp (by rw[Al];omega)]
theorem yF7{s:Nat}{rows:List (List V)}(h:eU s rows)(i:Nat)(hi:i<=rows.length):(rows.take i).flatten=rows.flatten.take (i*s):=by
 have hl:(rows.take i).flatten.length=i*s:=by rw[yE (λr hr=>h r (B6 hr)),Cf,C1 hi]
 have e:rows.flatten=(rows.take i).flatten++(rows.drop i).flatten:=by rw[<-By,B0]
 rw[e];rw[List.take_append_of_le_length (Cg hl.symm),Ad (Cg hl)]
theorem yF6{s:Nat}{rows:List (List V)}(h:eU s rows)(i:Nat)(hi:i<=rows.length):(rows.drop i).flatten=rows.flatten.drop (i*s):=by
 have hl:(rows.take i).flatten.length=i*s:=by rw[yE (λr hr=>h r (B6 hr)),Cf,C1 hi]
 have e:rows.flatten=(rows.take i).flatten++(rows.drop i).flatten:=by rw[<-By,B0]
 rw[e];rw[List.drop_append_of_le_length (Cg hl.symm),Bt (Cg hl),Cc]
theorem xT7(I:St)(p q:Nat)(rows:List (List V))(x:List V)(i:Nat)(hp:I[p]?=some (.cv rows 2))(hq:I[q]?=some (.cv [x] 2))(bg:p≠q)(hi:i<=rows.length)(a6:(rows.length+1)*32<=140737488355328):bN prog 277 [.cS p 2 rows.length 0 rows.length,.int .i64 i,.cS q 2 1 0 1] I (λr I'=>r=.cS p 2 (rows.length+1) 0 (rows.length+1)/\I'=I.set p (.cv (rows.take i++x::rows.drop i) 2)):=by intro w L J aP hm ha;match aP,ha with
 |[v0,v1,v2],⟨h0,h1,h2,_⟩=>
 obtain⟨a,c0,rfl,⟨b7,b8⟩,bz,hc⟩:=h0;obtain⟨eR,e,b9,hb⟩:∃eR,I[p]?=some (.cv eR 2)/\rows.length<=eR.length/\(rows.length=eR.length->∃b c1,J[p]?=some (.slice b rows.length c1)/\c0=c1-0/\0<=c1/\(0<c1->∃k,b=some ⟨k,0,none⟩/\a=some ⟨k,0*2,none⟩)):=hc.resolve_left (by rw[hp];simp);rw[hp]at e;cases e;obtain⟨b0,c1,dD,aq,_,ar⟩:=hb rfl;rw[Nat.sub_zero]at aq;subst aq;obtain⟨a',cq,rfl,⟨bA,_⟩,_,bh⟩:=h2;obtain⟨bj,e,_,bk⟩:∃eR,I[q]?=some (.cv eR 2)/\1<=eR.length/\(1=eR.length->∃b c1,J[q]?=some (.slice b 1 c1)/\cq=c1-0/\0<=c1/\(0<c1->∃k,b=some ⟨k,0,none⟩/\a'=some ⟨k,0*2,none⟩)):=bh.resolve_left (by rw[hq];simp);rw[hq]at e;cases e;obtain⟨bq,c1,aQ,aq,_,aC⟩:=bk rfl;rw[Nat.sub_zero]at aq;subst aq;obtain⟨vb,rfl,rfl⟩:=aC om;have aR:=hm.dE p _ _ hp dD;obtain⟨a2,b1,e1,au,aS,av,cZ⟩:=hm.dE p _ _ hp dD;cases e1;obtain⟨a3,b2,e1,b3,bB,aT,aU⟩:=hm.dE q _ _ hq aQ;cases e1;obtain⟨bC,ak,Tv,aV,e1,aD,bm,b4,bD,aE⟩:=aU om;cases e1;cases(show v1=.int .i64 (i:Int)from by cases h1;rfl);have bn:x.length=2:=aT x sM;obtain⟨news,ad⟩:∃news,news=ak.toList.take 2:=⟨_,rfl⟩;have a7:2<=ak.size:=om;have aF:news.length=2:=by rw[ad];simp;omega
 have ao:bP (dy w L I J) x news:=by rw[ad];simpa using aE
 have aG:∀v∈news,v.oneCell':=λv hv=>by
  obtain⟨j,hj⟩:=Aq.1 hv;have aH:j<x.length:=by rw[ao.length];exact(A3.1 hj).1
  obtain⟨z,hz,r⟩:=ao.get j _ (A0 aH);rw[hj]at hz;cases hz;exact r.dS
 have aW:p<I.length:=(A3.1 hp).1;have bE:=yE av;have az:eU 2 (rows.take i++x::rows.drop i):=λr hr=>by
  rcases Ai.1 hr with hr|hr;.exact av r (B6 hr)
  .rcases Af.1 hr with rfl|hr;.exact bn
   .exact av r (Bz hr)
 have ab:(rows.take i++x::rows.drop i).length=rows.length+1:=by simp;omega
 have aw:(rows.take i++x::rows.drop i).flatten=rows.flatten.take (i*2)++(x++rows.flatten.drop (i*2)):=by rw[By,D3,yF7 av i hi,yF6 av i hi]
 have a8:(rows.take i++x::rows.drop i).flatten=putCells rows.flatten (i*2) (x++rows.flatten.drop (i*2)):=by unfold putCells;rw[aw,Bt (l:=rows.flatten) (i:=i*2+_) (by simp only[Al,D9];omega),Aw]
 have aX:∀k0,b0=some ⟨k0,0,none⟩->0<c0->vb≠k0:=λk0 e hc e2=>by subst e;subst e2;exact hm.apart p q _ _ _ _ vb bg hp dD hq aQ (by simp[dt,hc]) (by simp[dt];omega)
 have aA:Src prog 2 222 (.slice (some ⟨vb,0*2,none⟩) 1 cq) 1 news w:=Src.ofSlice w underlying222 ⟨vb,0*2,none⟩ 1 cq news (by rw[aF]) (λj u hj=>by
  have bo:j<2:=by rw[<-aF];exact(A3.1 hj).1
  rw[ad,An,alq bo,Ao]at hj;rw[Addr.add_lit];simpa[World.cell?,aD]using hj) aG;have done:∀(w':World)(k1 c1:Nat),rows.length+1<=c1->Mem (entry w L I J) w' L (I.set p (.cv (rows.take i++x::rows.drop i) 2)) (J.set p (.slice (some ⟨k1,0,none⟩) (rows.length+1) c1))->∃v r L' I' J',Ending.returned (.slice (some ⟨k1,0,none⟩) (rows.length+1) c1)=.returned v/\(r=.cS p 2 (rows.length+1) 0 (rows.length+1)/\I'=I.set p (.cv (rows.take i++x::rows.drop i) 2))/\I.length<=I'.length/\Mem (entry w L I J) w' L' I' J'/\dP w' L' I' J' r v:=by intro w' k1 c1 bp aa;refine⟨_,_,L,_,_,rfl,⟨rfl,rfl⟩,sM,aa,?_⟩;refine⟨_,c1,rfl,⟨bp,om⟩,λ_=>⟨_,_,rfl⟩,.inr ⟨_,Bm aW,by rw[ab];exact A7 _,λ_=>⟨_,c1,Bm (by rw[hm.len];exact aW),rfl,A5 _,λ_=>⟨k1,rfl,by rw[D0]⟩⟩⟩⟩
 by_cases aY:i<rows.length
 .have ae:0<c0:=om;obtain⟨k0,rfl,rfl⟩:=ar ae;obtain⟨br,arr,T,fz,e1,hh,hf,a1,hL,al⟩:=cZ ae;cases e1;have bF:rows.length*2<=c0*2:=Ak _ au;obtain⟨D,hD⟩:∃D,D=(arr.toList.take (rows.length*2)).drop (i*2):=⟨_,rfl⟩;have bG:D.length=(rows.length-i)*2:=by rw[hD];simp;omega
  have aZ:bP (dy w L I J) (rows.flatten.drop (i*2)) D:=by rw[hD];exact al.drop _
  have bt:D=(arr.toList.drop (i*2)).take ((rows.length-i)*2):=by rw[hD,List.drop_take];congr 1;omega
  have aB:∀v∈arr.toList.take (rows.length*2),v.oneCell':=λv hv=>by
   obtain⟨j,hj⟩:=Aq.1 hv;have aH:j<rows.flatten.length:=by rw[al.length];exact(A3.1 hj).1
   obtain⟨z,hz,r⟩:=al.get j _ (A0 aH);rw[hj]at hz;cases hz;exact r.dS
  by_cases af:rows.length+1<=c0
  .have hd:=hm.drew;obtain⟨an,T',bH,ba,_,_,aa,hle,ax⟩:=hd.1.gI (off:=i*2) (vs:=x++rows.flatten.drop (i*2)) (xs:=news++D) (cI:=rows.take i++x::rows.drop i) hp dD ae ((ao.append aZ).imp λ_ _=>dy.mono hd.2 (Ext.refl _ _)) om az a8 om om;rw[show w.drew.heap[k0]?=w.heap[k0]?from rfl,hh]at ba;cases ba;refine(xD3 k0 vb c0 cq rows.length i arr ak T Tv fz aV D news w aY af om (aX k0 rfl ae) hh hf.1 a1 aD bm a7 bt ad (λv hv=>aB v (Bz (by rw[<-hD];exact hv))) aG).mono ?_;rintro e w'⟨rfl,rfl⟩;rw[yJ5,show(i+1)*2=i*2+2by omega,xn3 _ _ _ _ _ aF om];rw[ab]at aa;exact done _ k0 c0 af aa
  .obtain⟨ai,an,aI,ay,aJ,aj⟩:=xT5 k0 vb c0 cq rows.length i arr ak T Tv fz aV news w aY om au a6 (aX k0 rfl ae) hh a1 aD a7 ad aB aG;refine aj.mono ?_;rintro e w'⟨rfl,rfl⟩;have hd:=hm.drew;have bb:=hd.1.drew;have ah:bP (dy w.drew.drew L I J) (rows.take i++x::rows.drop i).flatten (an.toList.take ((rows.take i++x::rows.drop i).length*2)):=by rw[ab,aJ,aw,Bj];refine((?_:bP (dy w L I J) _ _).append (ao.append aZ|>λh=>by rw[hD]at h;exact h)).imp λ_ _=>dy.mono (hd.2.trans bb.2) (Ext.refl _ _);have:=al.take (i*2);rwa[alR,C1 om]at this
   obtain⟨aa,hle,ax⟩:=bb.1.qP (cap:=ai) (T:=225) hp dD aS az ah om om ay;rw[ab]at aa;exact done _ _ ai aI aa
 .have bu:i=rows.length:=om;subst bu;have bc:rows.flatten.drop (rows.length*2)=[]:=Bt om;by_cases af:rows.length+1<=c0
  .have ae:0<c0:=om;obtain⟨k0,rfl,rfl⟩:=ar ae;obtain⟨arr,T,fz,hh,hf,b5,aa,hle,ax⟩:=hm.gI (off:=rows.length*2) (vs:=x++rows.flatten.drop (rows.length*2)) (xs:=news) (cI:=rows.take rows.length++x::rows.drop rows.length) hp dD ae (by rw[bc,Aw];exact ao) (A7 _) az a8 om om;obtain⟨br,b6,T2,bI,e1,bd,_,a1,_,_⟩:=cZ ae;cases e1;rw[hh]at bd;cases bd;refine(yG7 k0 c0 rows.length arr T fz _ news w af om hh hf a1 _ _ rfl aA).mono ?_;rintro e w'⟨rfl,rfl⟩;rw[ab]at aa;exact done _ k0 c0 af aa
  .obtain⟨fw,hold,bf,aK⟩:=NL (P:=prog) underlying222 aR;have aL:(Builtin.firstCells 2 rows.length (.slice a rows.length c0)).run prog w.drew=.ok fw.toArray w.drew:=by
    by_cases ae:0<c0;.obtain⟨k0,rfl,rfl⟩:=ar ae;exact hold
    .have bw:rows=[]:=B3 om;subst bw;have bx:fw=[]:=B3 (by rw[bf];simp);subst bx;cases a with |none=>exact(Src.ofNil (P:=prog) (size:=2) w underlying222 0).cellsD|some a0=>exact(Src.ofSlice (P:=prog) (size:=2) w underlying222 a0 0 0 [] sM (λj u h=>by simp at h) (λ_ h=>by cases h)).cellsD
   obtain⟨ai,an,aI,ay,aJ,aj⟩:=yG6 a c0 rows.length (.slice (some ⟨vb,0*2,none⟩) 1 cq) fw news w om au a6 aL bf _ _ rfl aA;refine aj.mono ?_;rintro e w'⟨rfl,rfl⟩;have hd:=hm.drew;have ah:bP (dy w.drew L I J) (rows.take rows.length++x::rows.drop rows.length).flatten (an.toList.take ((rows.take rows.length++x::rows.drop rows.length).length*2)):=by rw[ab,aJ,aw,bc,Aw,Ad om];exact(aK.append ao).imp λ_ _=>dy.mono hd.2 (Ext.refl _ _)
   obtain⟨aa,hle,ax⟩:=hd.1.qP (cap:=ai) (T:=225) hp dD aS az ah om om ay;rw[ab]at aa;exact done _ _ ai aI aa
end Go.Proofs.YtegbonbgofjlcaaGreat
namespace Go.Proofs.YtegbonbgofjlcaaGreat
open Go Go.Vx R Go.Proofs.Tryz
set_option maxRecDepth 100000
def fu(x:Int×List ca×Nat):List V:=[.int .i64 x.1,.sl (.app (x.2.2+2)) (x.2.1.map ca.row)]
def gS(b:List V)(rows:List (List V))(A:alX):St:=.box b::.cv rows 2::A.map (λn=>Ob.app n 2)
def jg(N:List (Int×List ca×Nat))(A:alX):St:=gS [.cS 1 2 N.length 0 N.length] (N.map fu) A
structure lO(N:List (Int×List ca×Nat))(A:alX):Prop where
 app:∀x∈N,A[x.2.2]?=some x.2.1.length
 ids:(N.map (·.2.2)).Nodup
 sr:(N.map (·.1)).Pairwise (·<·)
def fr(N:List (Int×List ca×Nat)):List (Int×List ca):=N.map λx=>(x.1,x.2.1)
def jw(dN:Int)(x:ca)(uJ:List (Int×List ca)):List (Int×List ca):=if(uJ.map (·.1)).contains dN=true then uJ.modify (kn (uJ.map (·.1)) dN) (λy=>(y.1,if y.2.contains x=true then y.2else y.2++[x]))else uJ.take (kn (uJ.map (·.1)) dN)++(dN,[x])::uJ.drop (kn (uJ.map (·.1)) dN)
def mI(dN:Int)(x:ca)(uJ:List (Int×List ca)):List (Int×List ca):=if(Op.bytesLess x.hi x.lo||x.hi==x.lo)=true then uJ else jw dN x uJ
section
variable{b:List V}{rows:List (List V)}{A:alX}{τ:St}
theorem yL:(gS b rows A).length=A.length+2:=by simp[gS]
theorem Qn:(gS b rows A++τ)[1]?=some (.cv rows 2):=rfl
theorem JK{h:0<(gS b rows A).length}:(gS b rows A)[0]'h=.box b:=rfl
theorem HD{h:1<(gS b rows A).length}:(gS b rows A)[1]'h=.cv rows 2:=rfl
theorem wj0:(gS b rows A++τ)[A.length+3]?=τ[1]?:=by simp[Ar,yL]
theorem wj1:(gS b rows A++τ)[A.length+4]?=τ[2]?:=by simp[Ar,yL]
theorem VU{i n:Nat}(h:A[i]?=some n):(gS b rows A++τ)[i+2]?=some (.app n 2):=by have hi:=(A3.1 h).1;rw[Ap (by grind[yL])];show(A.map (λn=>Ob.app n 2))[i]?=_;grind
theorem wj2{r':List (List V)}:(gS b rows A++τ).set 1 (.cv r' 2)=gS b r' A++τ:=rfl
theorem wj3{i m:Nat}(h:i<A.length):(gS b rows A++τ).set (i+2) (.app m 2)=gS b rows (A.set i m)++τ:=by rw[Dv _ _ (by grind[yL])];show Ob.box b::.cv rows 2::(A.map (λn=>Ob.app n 2)).set i (.app m 2)++τ=_;rw[<-Cq];rfl
end
variable{k:Nat}{N:List (Int×List ca×Nat)}{A:alX}{dN:Int}{x:ca}{sp:List ca}
theorem VV(N:List (Int×List ca×Nat)):wU (N.map fu) 0 N.length=(fr N).map p8:=by unfold wU fr;rw[B1,Ad sM,B8,B8];rfl
theorem VX(N:List (Int×List ca×Nat)):xB (N.map fu)=true:=by grind[xB,fu,o7]
theorem VY(v:Int):∀l:alZ,l.Pairwise (·<·)->∃i,i<=l.length/\(∀k(h:k<l.length),k<i->l[k]<v)/\(∀k(h:k<l.length),i<=k->v<=l[k])
 |[],_=>sM|a::l,hp=>by
  obtain⟨i,h0,h1,h2⟩:=VY v l (by grind);by_cases ha:a<v;.refine⟨i+1,by grind,(by grind),(by grind)⟩;all_goals grind
  .refine⟨0,om,om,λk h hk=>?_⟩;match k with
   |0=>grind|k+1=>
    have aa:k<l.length:=by grind
    have:=(Ck.1 hp).1 l[k] (A9 aa);grind
theorem VZ{l:alZ}{v:Int}(hp:l.Pairwise (·<·))(hk:kn l v=k):k<=l.length/\(∀j(h:j<l.length),j<k->l[j]<v)/\(∀j(h:j<l.length),k<=j->v<=l[j])/\(if h:k<l.length then l[k]==v else false)=l.contains v:=by obtain⟨i,h0,h1,h2⟩:=VY v l hp;have:=VM l v i h0 h1 h2;grind[VN]
theorem V0{uJ:List (Int×List ca)}(hk:kn (uJ.map (·.1)) dN=k)(aa:(uJ.map (·.1)).contains dN)(hU:uJ[k]?=some (dN,sp))(hx:sp.contains x):jw dN x uJ=uJ:=by unfold jw;rw[alq aa,hk];refine Bi λj=>?_;grind
theorem V1{uJ:List (Int×List ca)}(hk:kn (uJ.map (·.1)) dN=k)(aa:(uJ.map (·.1)).contains dN)(hU:uJ[k]?=some (dN,sp))(hx:sp.contains x=false):jw dN x uJ=uJ.set k (dN,sp++[x]):=by unfold jw;rw[alq aa,hk];refine Bi λj=>?_;grind
theorem V2{y:Int×List ca×Nat}(h:N[k]?=some y):(fr N)[k]?=some (y.1,y.2.1):=by unfold fr;grind
theorem V3{U J:Type}(f:U->J){l:List U}{a b:U}(h:l[k]?=some a)(hf:f b=f a):(l.set k b).map f=l.map f:=by refine Bi λj=>?_;grind
theorem lO.ft(h:lO N A){r:Int}{id:Nat}(hk:N[k]?=some (r,sp,id))(x:ca):lO (N.set k (r,sp++[x],id)) (A.set id (sp.length+1)):=by
 have hid:=h.app _ (Bp hk);have ab:=(A3.1 hid).1;refine⟨λy hy=>?_,?_,?_⟩
 .obtain⟨j,hj⟩:=Aq.1 hy;rw[List.getElem?_set]at hj;by_cases q:k=j;.grind
  .rw[alp q]at hj;have aa:id≠y.2.2:=λe=>by
    have hi:=h.ids;have h1:(N.map (·.2.2))[k]?=some id:=by grind
    have h2:(N.map (·.2.2))[j]?=some y.2.2:=by grind
    grind[List.getElem_inj]
   rw[Dd aa];exact h.app y (by grind)
 .rw[V3 (λy:Int×List ca×Nat=>y.2.2) (b:=(r,sp++[x],id)) hk rfl];exact h.ids
 .rw[V3 (λy:Int×List ca×Nat=>y.1) (b:=(r,sp++[x],id)) hk rfl];exact h.sr
theorem HE(N:List (Int×List ca×Nat))(A:alX)(h:lO N A):(gS [.cS 1 2 N.length 0 N.length] (N.map fu) A).all (bS (A.length+2))=true:=by have hi:∀x∈N,x.2.2<A.length:=λx hx=>(A3.1 (h.app x hx)).1;simp_all[gS,bS,cV,cR,fu];omega
theorem lO.new(h:lO N A)(x:ca)(_hk:k<=N.length) (h1:∀j(h:j<((fr N).map (·.1)).length),j<k->((fr N).map (·.1))[j]<dN)(h2:∀j(h:j<((fr N).map (·.1)).length),k<=j->dN<=((fr N).map (·.1))[j])(h3:((fr N).map (·.1)).contains dN=false):lO (N.take k++(dN,[x],A.length)::N.drop k) (A++[1]):=by
 have hi:∀y∈N,y.2.2<A.length:=λy hy=>(A3.1 (h.app y hy)).1;have hu:(fr N).map (·.1)=N.map (·.1):=by unfold fr;simp
 simp only[hu]at h1 h2 h3;refine⟨λy hy=>?_,?_,?_⟩
 .rcases Ai.1 hy with hy|hy;.have hm:=B6 hy;rw[Ap (hi y hm)];exact h.app y hm
  .rcases Af.1 hy with rfl|hy;.simp
   .have hm:=Bz hy;rw[Ap (hi y hm)];exact h.app y hm
 .have hp:(N.take k++(dN,[x],A.length)::N.drop k).Perm ((dN,[x],A.length)::N):=by grind[B0]
  have:=(hp.map (λy:Int×List ca×Nat=>y.2.2)).nodup_iff;rw[this,Ag,C6];refine⟨λhm=>?_,h.ids⟩;grind
 .have aa:=h.sr;rw[C2,Ag,List.map_take,E2];rw[<-B0 k (N.map (·.1))]at aa;obtain⟨p1,p2,p3⟩:=Bw.1 aa;refine Bw.2 ⟨p1,Ck.2 ⟨λb hb=>?_,p2⟩,λa ha b hb=>?_⟩;.obtain⟨j,hj,e⟩:=Cm.1 hb;grind
  .have ab:a<dN:=by obtain⟨j,hj,e⟩:=Cm.1 ha;grind
   grind
theorem xV9(h:lO N A){M:List (Int×List ca)}(hk:k<=N.length)(hM:(fr N).take k++(dN,[x])::(fr N).drop k=M) (h1:∀j(h:j<((fr N).map (·.1)).length),j<k->((fr N).map (·.1))[j]<dN)(h2:∀j(h:j<((fr N).map (·.1)).length),k<=j->dN<=((fr N).map (·.1))[j])(h3:((fr N).map (·.1)).contains dN=false)(o1 o2:Ob):cz (some (.cC [])) (A.length+2) (λr s=>r=V.cC []/\∃N' A',s=gS [V.cS 1 2 N'.length 0 N'.length] (List.map fu N') A'/\lO N' A'/\fr N'=M) (gS [.cS 1 2 (N.length+1) 0 (N.length+1)] ((N.take k).map fu++[.int .i64 dN,.sl (.app (A.length+4)) [x.row]]::(N.drop k).map fu) A++[o1,o2,.app 1 2]):=by
 have hi:∀y∈N,y.2.2<A.length:=λy hy=>(A3.1 (h.app y hy)).1;have cZ:=h.new x hk h1 h2 h3;have hlen:(N.take k++(dN,[x],A.length)::N.drop k).length=N.length+1:=by simp;omega
 obtain⟨pick,hp⟩:∃pick,pick=List.range (A.length+2)++[A.length+4]:=⟨_,rfl⟩;have aj:pick.length=A.length+3:=by rw[hp];simp
 have ab:∀i,i<A.length+2->pick[i]?=some i:=λi hi=>by rw[hp,Ap (sU hi),Dh hi]
 have ae:pick[A.length+2]?=some (A.length+4):=by rw[hp,Ar sM];simp
 have af:∀(M i:Nat),i<A.length+2->cO pick M i=i:=λM i hi=>by unfold cO;grind
 have ak:∀M:Nat,cO pick M (A.length+2)=A.length+4:=λM=>by unfold cO;rw[dif_pos om];have:=ae;rw[A0 om]at this;exact alI this
 have ah:∀(M:Nat)(y:Int×List ca×Nat),y∈N->(fu y).map (du (cO pick M))=fu y:=λM y hy=>by have:=hi y hy;simp[fu,du,dv,af M (y.2.2+2) om]
 refine OU pick ?_ ab (s:=jg (N.take k++(dN,[x],A.length)::N.drop k) (A++[1])) (by unfold jg;rw[yL,aj];simp) (λi j o aa ho=>?_) (zC rfl) ⟨rfl,_,_,rfl,cZ,?_⟩;.rw[hp];refine Ct.2 ⟨Be,sM,λa ha b hb=>?_⟩;simp at ha hb;omega
 .unfold jg at ho;match i with
  |0=>rw[ab 0 om]at aa;cases aa;cases ho;show some (Ob.box _)=_;simp[yC,du,dv,af _ 1 om];omega|1=>
   rw[ab 1 om]at aa;cases aa;cases ho;show some (Ob.cv _ 2)=_;simp only[yC,C2,Ag,B8];congr 2;congr 1;.refine Bb λy hy=>?_;exact(ah _ y (B6 hy)).symm
   .congr 1;.simp[fu,du,dv,ak]
    grind[Bb]|i+2=>
   have ai:((A++[1]).map λn=>Ob.app n 2)[i]?=some o:=ho;rw[B9,As]at ai;obtain⟨n,hn,rfl⟩:=ai;have al:=(A3.1 hn).1;by_cases ad:i<A.length;.rw[ab (i+2) om]at aa;cases aa;rw[Ap ad]at hn;exact VU hn
   .have ad:i=A.length:=by simp at al;omega
    subst ad;rw[ae]at aa;cases aa;simp at hn;subst hn;rw[wj1];rfl
 grind[fr,List.map_take,E2]
theorem Qo(N:List (Int×List ca×Nat))(A:alX)(h:lO N A)(dN:Int)(x:ca)(hN:N.length<=1000)(hS:∀y∈N,y.2.1.length<=1000000):bN prog 184 [.ptr 0 0,.int .i64 dN,.agg x.row] (jg N A) (λr s=>r=.cC []/\∃N' A',s=jg N' A'/\lO N' A'/\fr N'=mI dN x (fr N)):=by
 have ao:=wE1 (fr N) dN (by grind[fr]) (by unfold fr;rw[B8];exact h.sr);have aq:kn ((fr N).map (·.1)) dN<=N.length:=by grind[kn,fr]
 obtain⟨k,hk⟩:=eX (kn ((fr N).map (·.1)) dN);obtain⟨there,ah⟩:=eX (((fr N).map (·.1)).contains dN);rw[hk,ah]at ao;rw[hk]at aq;have ar:((fr N).map (·.1)).Pairwise (·<·):=by unfold fr;rw[B8];exact h.sr
 obtain⟨_,au,av,aw⟩:=VZ ar hk;rw[ah]at aw;generalize hM:mI dN x (fr N)=M;unfold mI at hM;refine bN.iN (A.length+2) func184 ntmps184 results184 rfl (by grind[jg,gS]) sM λc hc hb=>?_;refine tg 32 dC ?_;refine zA ?_;unfold jg;rw[<-Aw (gS _ _ _)];simp[go_sem,yL];refine(A6 (Op.bytesLess x.hi x.lo||x.hi==x.lo)).elim (λq=>?_) (λq=>?_);.simp only[q,alB]at hM;simp[go_sem,q];refine yW (A.length+2) (s:=gS [.cS 1 2 N.length 0 N.length] (N.map fu) A) (by grind[yL]) yL (HE _ _ h) om (zC rfl) (by grind)
 simp only[q]at hM;simp[go_sem,q,yL,JK];refine Om ao cB (.step 1 2 (N.map fu) Qn (VX N) (.refl _ _)) ?_ rfl ?_;.simp only[Aw,Ag,Bq,fO,fX,fN,fH,Au,Ae,A7,and_self,alB,VV];exact⟨zK,zC rfl,zC rfl,tV⟩
 simp[go_sem];rw[alp dC]at hM;refine(A6 there).elim (λq2=>?_) (λq2=>?_)
 .have ad:k<N.length:=by grind[fr]
  obtain⟨⟨r0,sp,id⟩,ae⟩:∃y,N[k]=y:=⟨_,rfl⟩;have a7:r0=dN:=by simp_all[fr]
  subst a7;have af:(r0,sp,id)∈N:=(by grind);have hid:A[id]?=some sp.length:=h.app _ af;have a8:sp.length<=1000000:=hS _ af;have ax:=(A3.1 hid).1;have ai:=VR sp x (by unfold maxLen;omega);simp[go_sem,q2];refine yA [(9,0)] (A.length+3) (by simp[yL]) (by rfl) kR ?_;simp[go_sem,yL,JK,HD,ad,ae,fu];refine pD ai ?_;simp[go_sem];refine(A6 (sp.contains x)).elim (λq3=>?_) (λq3=>?_);.have aj:=(V0 hk (by grind) (by grind[V2]) q3).symm.trans hM;simp only[List.contains_eq_mem]at q3;simp[go_sem,q3];exact yW (A.length+2) (s:=gS [.cS 1 2 N.length 0 N.length] (N.map fu) A) (by rw[<-yL (b:=[.cS 1 2 N.length 0 N.length]) (rows:=N.map fu),List.take_left]) yL (HE _ _ h) om (zC rfl) (by grind)
  .have aj:=(V1 hk (ah.trans q2) (V2 (by rw[A0 ad,ae])) q3).symm.trans hM;simp only[List.contains_eq_mem]at q3;simp[go_sem,q3];refine xV [(13,2),(15,3),(18,4)] 2 (by simp[yL]) (by rfl) kR ?_;simp[go_sem,yL,JK,HD,ad,ae,fu,VU hid,wj3 ax];refine zJ ⟨om,zZ rfl⟩ ?_;simp[go_sem,yL,HD,ad,ae,fu];have ay:N[k]?=some (r0,sp,id):=by grind
   have az:=h.ft ay x;refine yW (A.length+2) (s:=jg (N.set k (r0,sp++[x],id)) (A.set id (sp.length+1))) ?_ (by grind[jg,yL]) (by grind[HE,jg]) om (zC rfl) ⟨rfl,_,_,rfl,az,?_⟩;all_goals simp_all[jg,gS,fu,ca.row,fr]
 .have aj:(fr N).take k++(dN,[x])::(fr N).drop k=M:=by rw[<-hM];unfold jw;grind
  simp[go_sem,q2,yL,JK];have aa:=xT7 (gS [.cS 1 2 N.length 0 N.length] (N.map fu) A++[.box [.str x.lo,.str x.hi],.cv [[.int .i64 dN,.sl .full []]] 2]) 1 (A.length+2+1) (N.map fu) [.int .i64 dN,.sl .full []] k Qn wj0 om (by grind) (by grind);simp only[Au,wj2]at aa;obtain⟨R,hR⟩:∃R,List.take k (List.map fu N)++[V.int IntKind.i64 dN,V.sl Tag.full []]::List.drop k (List.map fu N)=R:=⟨_,rfl⟩;rw[hR]at aa;have a1:k<=(N.map fu).length:=by grind
  have ak:R.length=N.length+1:=by grind
  have aA:R[k]?=some [.int .i64 dN,.sl .full []]:=by rw[<-hR,Ar (by grind),Cf,C1 a1,Nat.sub_self];rfl
  have al:k<N.length+1:=om;have aB:k<R.length:=om;have ab:R[k]=[.int .i64 dN,.sl .full []]:=by grind
  have ai:=VR [] x sM;have an:(k:Int)<N.length+1:=om;refine Hb aa cB ?_;rintro r s⟨rfl,rfl⟩_;simp[go_sem,yL,JK];refine yA [(9,0)] (A.length+4) (by simp[yL]) (by rfl) kR ?_;simp[go_sem,yL];refine zJ an ?_;simp[go_sem,yL,HD,al,ab,ak];refine pD ai ?_;simp[go_sem];refine xV [(13,2),(15,3),(18,4)] 2 sM (by rfl) kR ?_;simp[go_sem,yL];refine zJ an ?_;simp[go_sem,yL,HD,al,ab,ak];refine zJ ⟨λ_ q=>by grind,zZ rfl⟩ ?_;simp[go_sem];refine zJ an ?_;simp[go_sem,yL,HD,al,ab,ak];have a6:R.set k [.int .i64 dN,.sl (.app (A.length+2+2)) [[.str x.lo,.str x.hi]]]=(N.take k).map fu++[.int .i64 dN,.sl (.app (A.length+4)) [x.row]]::(N.drop k).map fu:=by rw[<-hR,List.set_append_right _ _ (by grind),Cf,C1 a1,Nat.sub_self,Cj,List.map_take,E2];rfl
  rw[a6];exact xV9 h om aj au av (by grind) _ _
theorem we2(id off s:Nat)(cells:List V){P:Program}{c:Ctx}{nt:Nat}{e:Env}{I:St}{Q:QT}{y:Code}(h0:0<s)(cP:I[id]?=some (.box cells))(hc:cells[off]?=some (.sl .full [])) (hy:gV P c nt y Q fx fx e (I.set id (.box (cells.set off (.cS I.length s 0 0 0)))++[.cv [] s])):gV P c nt y Q fx fx e I:=by intro a w L J hs;obtain⟨x,h1,h2⟩:=SD hs.mem h0 cP hc;exact hy a w L (J++[x]) ⟨h1,hs.size,hs.defs,λk=>(hs.env k).mono (Le.refl _ _) h2⟩
abbrev US:=List (Int×List ca)
def Bd(n:Nat)(uJ:US):Prop:=uJ.length<=n/\∀y∈uJ,y.2.length<=n
theorem Bd.eP{n:Nat}{uJ:US}(h:Bd n uJ)(r:Int)(x:ca):Bd (n+1) (mI r x uJ):=by
 have up:Bd (n+1) uJ:=⟨by have:=h.1;omega,λy hy=>by have:=h.2 y hy;omega⟩;unfold mI;split;.exact up
 .unfold jw;split
  .refine⟨by rw[List.length_modify];exact up.1,λy hy=>?_⟩;obtain⟨j,hj⟩:=Aq.1 hy;rw[List.getElem?_modify]at hj;split at hj;.rw[Option.map_eq_map,As]at hj;obtain⟨z,hz,rfl⟩:=hj;have aa:=h.2 z (by grind);grind
   .simp at hj;exact up.2 y (by grind)
  .refine⟨by have:=h.1;grind,λy hy=>?_⟩;rcases Ai.1 hy with hy|hy;.exact up.2 y (by grind)
   .rcases Af.1 hy with rfl|hy;.simp
    .exact up.2 y (by grind)
def HF(t:Int)(b:alW×alW)(uJ:US)(rg:Int):US:=mI (xJ t rg).1 ⟨b.1,b.2⟩ uJ
def xO(name:alW):Int:=xW (λT:bL=>T.name==name) bO 0
def su(eM:Int->List bJ->US->US)(uJ:US)(st:bZ):US:=if xO st.table<0then uJ else if st.kind=2then st.rows.foldl (λuJ r=>eM (xO st.table) r uJ) uJ else(wJ (xO st.table) st).foldl (HF (xO st.table) (oC bO (xO st.table) st)) uJ
def lA(st:bZ):Nat:=if st.kind=2then st.rows.length else 2
theorem Qp:∀(n:Nat)(q l:List bJ),(uP n q l).length<=l.length+n
 |0,_,_=>A7 _|n+1,[],l=>by grind[uP]|n+1,e::q,l=>by
  rw[uP];split;.have:=Qp n (q++e.args) l;omega
  .have:=Qp n q (l++[e]);simp at this;omega
theorem MI(st:bZ):(pj st).length<=4096:=by grind[pj,Qp]
theorem MJ(name:alW):xO name=-1\/xO name=0\/xO name=1\/xO name=2:=by have h:=uX (λT:bL=>T.name==name) bO 0;have hl:bO.length=3:=rfl;grind[xO]
theorem V4:∀(l:List bJ)(rs:alZ)(r:Int),r∈jv l rs->r∈rs
 |[],_,_,h=>h|e::l,rs,r,h=>by
  have h1:jv (e::l) rs=jv l (match pn e [82]with|none=>rs|some (s,v)=>if s=[61]/\v.kind=2then ly v.n rs else rs):=rfl;rw[h1]at h;have:=V4 l _ r h;split at this;.exact this
  .split at this;.exact(Bn.1 this).1
   .exact this
theorem yI7{t:Int}{st:bZ}{r:Int}(h:r∈wJ t st):r=-1\/r=0\/r=1:=by
 unfold wJ at h;split at h;.have:=V4 _ _ _ h;grind
 grind
theorem V5(t:Int)(st:bZ):(wJ t st).length<=2:=by grind[wJ,Qg]
def MK(st:bZ):Prop:=∀e∈pj st,∀name s v,pn e name=some (s,v)->v.ok
theorem wE7{b:List V}{rows:List (List V)}{τ:St}{h:0<(gS b rows A++τ).length}:(gS b rows A++τ)[0]'h=.box b:=rfl
theorem Qq{b:List V}{rows:List (List V)}{x:Ob}{τ:St}:(gS b rows A++x::τ).take (A.length+3)=gS b rows A++[x]:=by
 have e:(gS b rows A++[x]).length=A.length+3:=by rw[Al,yL];rfl
 grind
theorem vd(N:List (Int×List ca×Nat))(A:alX):(jg N A).length=A.length+2:=yL
theorem xa(h:lO N A):(jg N A).all (bS (jg N A).length)=true:=by rw[vd];exact HE N A h
theorem JL(h:lO N A):(jg N A++[.box [.sl .ro xN,.sl .ro (bO.map bL.row)]]:St).all (bS (A.length+3))=true:=by rw[E9,Aa];refine⟨?_,by rfl⟩;have:=HE N A h;rw[Am]at this⊢;exactλo ho=>LD om (this o ho)
theorem V6:([.box [.sl .ro xN,.sl .ro (bO.map bL.row)]]:St).all (bS 0)=true:=by rfl
def Qr(eM:Int->List bJ->US->US)(st:bZ):Prop:=∀r∈st.rows,∀N A,lO N A->Bd 1000 (fr N)->bN prog 180 [.ptr 0 0,dW bO,.int .i64 (xO st.table),.sl .ro (r.map bJ.row)] (jg N A) (λx s=>x=.cC []/\∃N' A',s=jg N' A'/\lO N' A'/\fr N'=eM (xO st.table) r (fr N))
theorem V7{n:Nat}(h:Bd n (fr N)):N.length<=n/\∀y∈N,y.2.1.length<=n:=by unfold Bd fr at h;refine⟨by grind,λy hy=>?_⟩;have:=h.2 (y.1,y.2.1) (by grind);omega
theorem wg2(eM:Int->List bJ->US->US)(aB:∀t r n uJ,Bd n uJ->Bd (n+1) (eM t r uJ))(l:eF)(hl:l.stmts.length<=maxLen)(hv:∀st∈l.stmts,MK st)(au:(l.stmts.map lA).sum<=900)(av:∀st∈l.stmts,st.rows.length<=maxLen)(ai:∀st∈l.stmts,st.kind=2->xO st.table≠-1->Qr eM st):Pure prog 108 [dW bO,.agg l.row] (.sl .ro ((l.stmts.foldl (su eM) []).map p8)):=by
 obtain⟨L,hL⟩:=eX l.stmts;rw[hL]at hl hv au av ai⊢;generalize hM:L.foldl (su eM) []=M;refine iV 0 func108 ntmps108 results108 λc hc hb=>?_;refine zA ?_;simp[go_sem,dW,hL];refine we2 2 0 2 [.sl .full []] dC (by rfl) sM ?_;refine zG (S:=Nat×List (Int×List ca×Nat)×alX) [2,5,20,21,22] (λu=>[.ptr (u.2.2.length+2) 0,.ptr 0 0,.sl .ro (L.map bZ.row),.int .i64 L.length,.int .i64 u.1]) (λu=>jg u.2.1 u.2.2++[.box [.sl .ro xN,.sl .ro (bO.map bL.row)]]) (λu=>L.length-u.1) (λu=>u.1<=L.length/\lO u.2.1 u.2.2/\(L.drop u.1).foldl (su eM) (fr u.2.1)=M/\∃n,Bd n (fr u.2.1)/\n+((L.drop u.1).map lA).sum<=900) hc hb (0,[],[]) ⟨om,⟨sM,Bo,List.Pairwise.nil⟩,hM,0,(by trivial),by grind⟩ ?_ ?_;.exact yu [2,3,0] dC rfl (by trivial) ⟨.inl (by rfl),.inl (by rfl),zK,zC rfl,zC rfl,tV⟩
 rintro⟨i,N,A⟩⟨hi,cZ,hinv,n,aC,hn⟩;simp only at hi cZ hinv aC hn;by_cases q:i<L.length;rotate_left;.rw[A8 om]at hinv;have aD:fr N=M:=hinv;refine zA ?_;unfold jg;simp[go_sem,q,wE7];refine Lh 1 2 (N.map fu) Qn (VX N) ?_;simp only[fO,fX,fN,fH,Au,Ae,A7,and_self,alB,VV,aD];exact zQ zK sM
 have ei:=zO q (by unfold maxLen at hl;omega);obtain⟨st,aw⟩:=eX (L[i]);have ah:st∈L:=(by grind);rw[A4 q,aw]at hinv hn;rw[Ag,List.sum_cons]at hn;rw[B7]at hinv;have al:=Qh bO st.table dC;rw[show xW (λt:bL=>t.name==st.table) bO 0=xO st.table from rfl]at al;obtain⟨t,ht⟩:=eX (xO st.table);have aE:=MJ st.table;rw[ht]at al aE;refine zA ?_;unfold jg;simp[go_sem,q,aw,yL];refine zL al cB (zR (by rfl) rfl) rfl ?_;by_cases ax:t=-1
 .have hF:su eM (fr N) st=fr N:=by simp_all[su]
  rw[hF]at hinv;subst ax;simp[go_sem,ei];refine zH (i+1,N,A) ⟨om,(by grind),?_⟩;exact bU (A.length+3) Qq (by simp[yL]) (JL cZ) om (zD (by rfl) (by grind[hZ,iu,cV,cR]))
 have aK:¬t<0:=om;have ay:decide (t<0)=false:=(by grind);by_cases hk:st.kind=2
 .have an:(st.kind==2)=true:=by grind
  simp[go_sem,ay,an,yL];have aF:=ai st ah hk (by rw[ht];exact ax);have ao:=av st ah;have aq:lA st=st.rows.length:=by simp_all[lA]
  rw[aq]at hn;have hF:su eM (fr N) st=st.rows.foldl (λuJ r=>eM t r uJ) (fr N):=by simp_all[su,alp]
  rw[hF]at hinv;obtain⟨U2,ar⟩:=eX (st.rows.foldl (λuJ r=>eM t r uJ) (fr N));rw[ar]at hinv;refine zG (S:=Nat×List (Int×List ca×Nat)×alX) [2,5,8,20,21,22,68,69,70] (λu=>[.ptr (u.2.2.length+2) 0,.ptr 0 0,.int .i64 t,.sl .ro (L.map bZ.row),.int .i64 L.length,.int .i64 i,.sl .ro (st.rows.map λl=>[V.sl .ro (l.map bJ.row)]),.int .i64 st.rows.length,.int .i64 u.1]) (λu=>jg u.2.1 u.2.2++[.box [.sl .ro xN,.sl .ro (bO.map bL.row)]]) (λu=>st.rows.length-u.1) (λu=>u.1<=st.rows.length/\lO u.2.1 u.2.2/\(st.rows.drop u.1).foldl (λuJ r=>eM t r uJ) (fr u.2.1)=U2/\∃m,Bd m (fr u.2.1)/\m+(st.rows.length-u.1)+((L.drop (i+1)).map lA).sum<=900) hc hb (0,N,A) (by grind) ?_ ?_;.exact bU (A.length+3) Qq (by simp[vd]) (JL cZ) om (zD (by rfl) (by simp[hZ,iu,cV,cR]))
  rintro⟨j,N1,A1⟩⟨hj,ab,aa,m,ad,hm⟩;simp only at hj ab aa ad hm;by_cases qj:j<st.rows.length;rotate_left;.rw[A8 om]at aa;have aG:fr N1=U2:=aa;refine zA ?_;simp[go_sem,qj,ei];refine zH (i+1,N1,A1) ⟨om,(by grind),?_⟩;exact bU (A1.length+3) (by rw[Ad (by simp[vd])];rfl) (by simp[yL]) (JL ab) om (zD (by rfl) (by grind[hZ,iu,cV,cR]))
  have ej:=zO qj (by unfold maxLen at ao;omega);obtain⟨r,hr⟩:=eX (st.rows[j]);have az:r∈st.rows:=(by grind);rw[A4 qj,hr,B7]at aa;have ae:=aF r az N1 A1 ab ⟨by have:=ad.1;omega,λy hy=>by have:=ad.2 y hy;omega⟩;rw[ht]at ae;refine zA ?_;unfold jg;simp[go_sem,qj,hr,yL];refine LG ae cB (xa ab) V6 ⟨(by grind[xR,jg,hZ,iu,cV,cR,vd]),zC rfl,zC rfl,zK,tV⟩ (λr s h=>by obtain⟨rfl,N2,A2,rfl,h2,_⟩:=h;exact⟨rfl,xa h2⟩) ?_;rintro r s⟨rfl,N2,A2,rfl,aj,a1⟩hle I' pick af;simp[go_sem,ej];refine zH (j+1,N2,A2) ⟨om,(by grind),?_⟩;refine Tp af ⟨.inl ?_,.inl ?_,zC rfl,zK,zC rfl,zC rfl,zK,zC rfl,.inl (by rfl),tV⟩;.have:=af.IU (M:=I'.length) (i:=0) sM;rw[vd,yL]at this;simp[go_sem,dL,dQ,du,dv]at this⊢;omega
  .have:=af.IT (M:=I'.length) (i:=0) (by grind[yL]);simp[go_sem,dL,dQ,du,dv,this]
 have an:(st.kind==2)=false:=by grind
 have aq:lA st=2:=by simp_all[lA]
 rw[aq]at hn;have a6:=Vj xN bO t st dC dC (by grind[MI,maxLen]) (hv st ah);have a7:=Vp t st (by have:=MI st;unfold maxLen;omega);obtain⟨b,aH⟩:=eX (oC bO t st);obtain⟨rs,ao⟩:=eX (wJ t st);rw[aH]at a6;have a8:=V5 t st;have ak:=λr=>yI7 (t:=t) (st:=st) (r:=r);rw[ao]at a7 a8 ak;have hF:su eM (fr N) st=rs.foldl (HF t b) (fr N):=by simp_all[su,alp]
 rw[hF]at hinv;obtain⟨U2,ar⟩:=eX (rs.foldl (HF t b) (fr N));rw[ar]at hinv;simp[go_sem,ay,an,yL];refine zL a6 cB (zR (by rfl) rfl) rfl ?_;simp[go_sem,My,yL];refine zL a7 cB (zR (by rfl) rfl) rfl ?_;simp[go_sem];refine zG (S:=Nat×List (Int×List ca×Nat)×alX) [2,5,8,11,12,20,21,22,40,41,42] (λu=>[.ptr (u.2.2.length+2) 0,.ptr 0 0,.int .i64 t,.str b.1,.str b.2,.sl .ro (L.map bZ.row),.int .i64 L.length,.int .i64 i,.sl .ro (rs.map yU),.int .i64 rs.length,.int .i64 u.1]) (λu=>jg u.2.1 u.2.2++[.box [.sl .ro xN,.sl .ro (bO.map bL.row)]]) (λu=>rs.length-u.1) (λu=>u.1<=rs.length/\lO u.2.1 u.2.2/\(rs.drop u.1).foldl (HF t b) (fr u.2.1)=U2/\∃m,Bd m (fr u.2.1)/\m+(rs.length-u.1)+((L.drop (i+1)).map lA).sum<=900) hc hb (0,N,A) (by grind) ?_ ?_;.exact bU (A.length+3) Qq (by simp[vd]) (JL cZ) om (zD (by rfl) (by simp[hZ,iu,cV,cR]))
 rintro⟨j,N1,A1⟩⟨hj,ab,aa,m,ad,hm⟩;simp only at hj ab aa ad hm;by_cases qj:j<rs.length;rotate_left;.rw[A8 om]at aa;have aG:fr N1=U2:=aa;refine zA ?_;simp[go_sem,qj,ei];refine zH (i+1,N1,A1) ⟨om,(by grind),?_⟩;exact bU (A1.length+3) (by rw[Ad (by simp[vd])];rfl) (by simp[yL]) (JL ab) om (zD (by rfl) (by grind[hZ,iu,cV,cR]))
 have ej:=zO qj om;obtain⟨r,hr⟩:=eX (rs[j]);have az:=ak r (hr▸A9 qj);rw[A4 qj,hr,B7]at aa;have aA:=Jz t r om om;have aI:=V7 ad;have ae:=Qo N1 A1 ab (xJ t r).1 ⟨b.1,b.2⟩ om (by grind);obtain⟨⟨g,ge⟩,hg⟩:∃g,xJ t r=g:=⟨_,rfl⟩;have aJ:HF t b (fr N1) r=mI g ⟨b.1,b.2⟩ (fr N1):=by grind[HF]
 rw[hg]at aA ae;rw[aJ]at aa;refine zA ?_;unfold jg;simp[go_sem,qj,hr,yL];refine zL aA cB (zR (by rfl) rfl) rfl ?_;simp[go_sem,FV];refine LG ae cB (xa ab) V6 ⟨(by grind[xR,jg,hZ,iu,cV,cR,vd]),zC rfl,zC rfl,tV⟩ (λr s h=>by obtain⟨rfl,N2,A2,rfl,h2,_⟩:=h;exact⟨rfl,xa h2⟩) ?_;rintro r' s⟨rfl,N2,A2,rfl,aj,a1⟩hle I' pick af;simp[go_sem,ej];refine zH (j+1,N2,A2) ⟨om,⟨om,aj,by grind,m+1,by simp only;rw[a1];exact ad.eP _ _,om⟩,?_⟩;refine Tp af ⟨.inl ?_,.inl ?_,zC rfl,zC rfl,zC rfl,zK,zC rfl,zC rfl,zK,zC rfl,.inl (by rfl),tV⟩;.have:=af.IU (M:=I'.length) (i:=0) sM;rw[vd,yL]at this;simp[go_sem,dL,dQ,du,dv]at this⊢;omega
 .have:=af.IT (M:=I'.length) (i:=0) (by grind[yL]);simp[go_sem,dL,dQ,du,dv,this]
end Go.Proofs.YtegbonbgofjlcaaGreat
