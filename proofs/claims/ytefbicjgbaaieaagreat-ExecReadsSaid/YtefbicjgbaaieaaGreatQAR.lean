/-
  Which lots may be, in the program, over trees (the library Vx); used by the theorem at the end of the claim.
  Conditions: as each theorem states them.
-/
import Derived.Test.YtefbicjgbaaieaaGreatQAL
import Derived.Test.YtefbicjgbaaieaaGreatQAQ
import Derived.Test.YtefbicjgbaaieaaGreatQAP
import Derived.Test.YtefbicjgbaaieaaGreatQAG
import Derived.Test.YtefbicjgbaaieaaGreatQAH
import Derived.Lib.Overlaps
import Derived.Lib.AppendZerosOnto
import Derived.Laws.Externs
import Derived.Laws.IdiomCopy
import Derived.Deep.RegionLaw
set_option maxHeartbeats 8000000
namespace Go.Proofs.YtefbicjgbaaieaaGreat
open Go Go.Vx Go.Proofs.Tryz
set_option maxRecDepth 100000
theorem yg5(c:UInt8):Pure prog 268 [.int .u8 c.toNat] (.bool (wU c)):=by
 unfold wU;generalize c.toNat=n;generalize hM:decide (48<=n/\n<=57)=M;have ret:∀(r:Bool)(σ:St),r=M->wret (some (.bool r)) 0 (λr s=>r=.bool M/\s=[]) σ:=λr σ h=>by subst h;exact wR
 refine iW 0 func268 ntmps268 results268 λc hc hb=>zO ?_;simp[go_sem];refine zY (λq=>?_) (λq=>?_);.simp[go_sem,q];refine ret _ _ ?_;rw[<-hM];simp at q;exact decide_eq_decide.2 om
 .simp[go_sem,q];refine ret _ _ ?_;rw[<-hM];simp at q;exact(decide_eq_false om).symm
theorem yS7:∀n:Fin 256,za9 (UInt8.ofNat n.1)=(((decide (97<=zf5 .or .u8 (n.1:Nat) 32)&&decide (zf5 .or .u8 (n.1:Nat) 32<=122))&&decide (65<=((n.1:Nat):Int)))||(((n.1:Nat):Int)==95)):=by decide+kernel
theorem yJ4(c:UInt8):Pure prog 338 [.int .u8 c.toNat] (.bool (za9 c)):=by
 have h:=yS7 ⟨c.toNat,c.toNat_lt⟩;simp only[UInt8.ofNat_toNat]at h;rw[h];clear h;obtain⟨n,hn⟩:=eX c.toNat;simp only[hn];generalize hg:zf5 .or .u8 (n:Nat) 32=g;refine iW 0 func338 ntmps338 results338 λc hc hb=>zO ?_;simp[go_sem,hg];refine(A4 (decide (97<=g))).elim (λq1=>?_) (λq1=>?_)
 .refine(A4 (decide (g<=122))).elim (λq2=>?_) (λq2=>?_)
  .refine(A4 (decide (65<=(n:Int)))).elim (λq3=>?_) (λq3=>?_);.rw[q1,q2,q3];simp[go_sem,hg,q2,q3];exact wR
   .rw[q1,q2,q3];simp[go_sem,hg,q2,q3];exact wR
  .rw[q1,q2];simp[go_sem,hg,q2];exact wR
 .rw[q1];simp[go_sem];exact wR
def zp3 (c:UInt8):Bool:=za9 c||wU c
theorem yS9(c:UInt8):Pure prog 270 [.int .u8 c.toNat] (.bool (zp3 c)):=by
 have h1:=yJ4 c;have h2:=yg5 c;unfold zp3;generalize za9 c=a at h1⊢;generalize wU c=b at h2⊢;refine iW 0 func270 ntmps270 results270 λc hc hb=>zO ?_;simp[go_sem];refine pC h1 ?_;simp[go_sem];refine(A4 a).elim (λq=>?_) (λq=>?_);.simp[go_sem,q];exact wA (zD rfl) ⟨sm,rfl⟩
 .simp[go_sem,q];refine pC h2 ?_;simp[go_sem];exact wA (zD rfl) ⟨by simp[q],rfl⟩
def runF(p:UInt8->Bool):List UInt8->Nat|[]=>0|c::l=>if p c=true then runF p l+1 else 0
theorem xx1(s:List UInt8)(hl:s.length<=maxLen):Pure prog 269 [.str s,.fn 270 []] (.int .i64 (runF zp3 s:Nat)):=by
 generalize hM:runF zp3 s=M;have ret:∀(r:Nat)(σ:St),r=M->wret (some (.int .i64 r)) 0 (λr s=>r=.int .i64 (M:Nat)/\s=[]) σ:=λr σ h=>by subst h;exact wR
 refine iV 0 func269 ntmps269 results269 λc hc hb=>?_;refine zA ?_;simp[go_sem];refine zH (S:=Nat) [0,1,5] (λi=>[.str s,.fn 270 [],.int .i64 i]) (λ_=>[]) (λi=>s.length-i) (λi=>i<=s.length/\i+runF zp3 (s.drop i)=M) hc hb 0 ⟨A2 _,by rw[B8,Ab,hM]⟩ ?_ ?_;.exact aO
 rintro i⟨hi,hinv⟩;by_cases q:i<s.length;rotate_left;.rw[Bu om,runF,Cg]at hinv;refine zA ?_;simp[go_sem,q];exact ret _ _ hinv
 have ei:=zS q (by unfold maxLen at hl;omega);obtain⟨x,hx⟩:=eX (s[i]);rw[A5 q,hx,runF]at hinv;have aa:=yS9 x;obtain⟨b,ab⟩:=eX (zp3 x);rw[ab]at aa hinv;refine zA ?_;simp[go_sem,q,hx];refine pC aa ?_;simp[go_sem];refine(A4 b).elim (λw=>?_) (λw=>?_);.rw[if_pos w]at hinv;simp[go_sem,w,ei];exact zG (i+1) ⟨om,⟨q,om⟩,aO⟩
 .rw[if_neg (by rw[w];decide)]at hinv;simp[go_sem,w];exact ret _ _ om
theorem yN2(p:UInt8->Bool):∀s:List UInt8,decide (runF p s<s.length)=!(s.all p)
 |[]=>by simp[runF]|c::l=>by
  have h:=yN2 p l;unfold runF;by_cases q:p c=true;.rw[if_pos q,Ap,q,Ar,<-h];exact decide_eq_decide.2 sm
  .rw[if_neg q];have q:p c=false:=by simpa using q
   simp[q]
def spW:List UInt8->List (List UInt8) |[]=>[]|c::l=>if c=32/\32∈l then l.takeWhile (·!=32)::spW l else spW l
theorem xz7:∀(s l:List UInt8),(∀c∈s,c≠32)->((s++[32]).isPrefixOf l=true↔l.takeWhile (·!=32)=s/\32∈l)
 |[],[],_=>by simp|[],c::l,_=>by
  by_cases h:c=32;.subst h;simp
  .have h':(c !=32)=true:=by simpa using h
   have h2:¬(32=c):=λe=>h e.symm;simp[List.isPrefixOf,h',h2]|a::s,[],_=>by simp|a::s,c::l,hs=>by
  have ih:=xz7 s l λx hx=>hs x (by simp[hx]);have ha:a≠32:=hs a sm;rw[Bo,List.isPrefixOf,A6,ih];by_cases h:c=32
  .subst h;rw[List.takeWhile_cons_of_neg sm];constructor;.rintro⟨h1,_⟩;exact absurd (by simpa using h1) ha
   .rintro⟨h1,_⟩;cases h1
  .have h':(c !=32)=true:=by simpa using h
   rw[Dp (by simpa using h),Ag];constructor
   .rintro⟨h1,h2,h3⟩;have h1:a=c:=by simpa using h1
    exact⟨by rw[h1,h2],.inr h3⟩
   .rintro⟨h1,h2⟩;obtain⟨h3,h4⟩:=List.cons.inj h1;exact⟨by simp[h3],h4,h2.resolve_left λe=>h e.symm⟩
theorem yI5(s:List UInt8)(hs:∀c∈s,c≠32):∀T:List UInt8,0<=Lib.index T (32::(s++[32]))↔s∈spW T
 |[]=>by simp[Lib.index,spW]|b::l=>by
  have ih:=yI5 s hs l;have hg:=Lib.index_ge l (32::(s++[32]));have hp:=xz7 s l hs;unfold Lib.index spW;by_cases h:(32::(s++[32])).isPrefixOf (b::l)=true;.rw[if_pos h];rw[List.isPrefixOf,A6,hp]at h;have hb:b=32:=(eq_of_beq h.1).symm;rw[if_pos ⟨hb,h.2.2⟩,h.2.1];exact⟨λ_=>Bb,λ_=>Int.le_refl 0⟩
  .rw[if_neg h];rw[List.isPrefixOf,A6,hp]at h;have aa:s∈(if b=32/\32∈l then l.takeWhile (·!=32)::spW l else spW l)↔s∈spW l:=by
    split
    .rename_i hc;rw[Ag];constructor
     .rintro(e|e);.exact absurd ⟨by rw[hc.1];exact beq_self_eq_true _,e.symm,hc.2⟩ h
      .exact e
     .exact .inr
    .exact Iff.rfl
   rw[aa,<-ih];split;.rename_i e;rw[eq_of_beq e]
   .rename_i e;have e:¬Lib.index l (32::(s++[32]))=-1:=λq=>e (by rw[q];rfl);omega
def yM5:List UInt8:=[32,65,76,76,32,65,78,68,32,65,83,32,65,83,67,32,66,69,84,87,69,69,78,32,66,79,85,78,68,32,66,89,32,67,79,85,78,84,32,68,69,76,69,84,69,32,68,69,83,67,32,69,88,65,67,84,32,70,65,76,83,69,32,70,82,79,77,32,73,78,83,69,82,84,32,73,78,84,79,32,73,83,32,76,73,77,73,84,32,78,79,84,32,78,85,76,76,32,78,79,87,32,79,70,32,79,82,32,79,82,68,69,82,32,83,69,76,69,67,84,32,83,69,84,32,83,85,77,32,83,89,83,84,69,77,32,84,73,77,69,32,84,82,85,69,32,85,80,68,65,84,69,32,86,65,76,85,69,83,32,87,72,69,82,69,32]
theorem yM6:spW yM5=resv:=by decide+kernel
theorem xB4(s:List UInt8)(hs:∀c∈s,c≠32):Lib.contains yM5 (32::(s++[32]))=resv.contains s:=by have h:=yI5 s hs yM5;rw[yM6]at h;unfold Lib.contains;rw[Du,decide_eq_true_eq,h];simp
theorem yl6(s sub:List UInt8)(hs:s.length<4294967281):Pure prog 272 [.str s,.str sub] (.bool (Lib.contains s sub)):=by intro w L β aa hm ha;match aa,ha with |[a,b],⟨h1,h2,_⟩=>have e1:=wW h1;have e2:=wW h2;subst e1 e2;obtain⟨_,m,hc⟩:=hm.tab.num (vints.headD (0,.i64)) dc;refine(Tryz.strings_Contains _ _ m w (by rw[zm3];exact hs) hc).mono ?_;rintro e w'⟨rfl,rfl⟩;exact⟨_,.bool _,L,[],β,rfl,⟨rfl,rfl⟩,A3 _,hm,RdP.bool _⟩
def upI:List UInt8->Nat->List UInt8 |[],_=>[]|c::l,0=>c::l|c::l,i+1=>yF c::upI l i
theorem xf6:∀(s:List UInt8)(i:Nat),(upI s i).length=s.length|[],_=>rfl|_::_,0=>rfl|c::l,i+1=>by rw[upI,Ah,xf6 l i,Ah]
theorem xD9:∀s:List UInt8,upI s 0=s|[]=>rfl|_::_=>rfl
theorem xf4:∀s:List UInt8,upI s s.length=s.map yF|[]=>rfl|c::l=>by rw[Ah,upI,xf4 l,Al]
theorem xf5:∀(s:List UInt8)(i:Nat),(upI s i)[i]?=s[i]?|[],_=>rfl|_::_,0=>rfl|c::l,i+1=>by rw[upI,Cs,Cs,xf5 l i]
theorem xf7:∀(s:List UInt8)(i:Nat)(h:i<s.length),(upI s i).set i (yF s[i])=upI s (i+1)
 |[],_,h=>absurd h (Bg _)|c::l,0,_=>by rw[upI,upI,xD9];rfl|c::l,i+1,h=>by rw[upI,Ca,List.getElem_cons_succ,xf7 l i (by simpa using h),upI]
theorem yO9:∀(s:List UInt8)(i:Nat)(h:i<s.length),yF s[i]=s[i]->upI s i=upI s (i+1)
 |[],_,h,_=>absurd h (Bg _)|c::l,0,_,hg=>by rw[upI,upI,xD9];rw[List.getElem_cons_zero]at hg;rw[hg]|c::l,i+1,h,hg=>by rw[upI,upI,yO9 l i (by simpa using h) (by simpa using hg)]
abbrev bRw:UInt8->List V:=λc=>[V.int .u8 c.toNat]
theorem zX4(s:List UInt8):zM s=s.map bRw:=rfl
theorem xT7(l:List UInt8)(n:Nat):ltOb n (.lst (l.map bRw) 1)=true:=by simp only[ltOb,Af];intro r hr;obtain⟨x,_,rfl⟩:=Ac.1 hr;intro y hy;cases hy with|head=>rfl|tail _ h=>cases h
theorem yw0(l:List UInt8):([Ob.lst (l.map bRw) 1]:St).all (ltOb 1)=true:=by simp only[Ap,xT7,C3,Bool.and_self]
theorem xq1(l:List UInt8):xQ (l.map bRw)=true:=by simp only[xQ,Af];intro r hr;obtain⟨x,_,rfl⟩:=Ac.1 hr;intro y hy;cases hy with|head=>rfl|tail _ h=>cases h
theorem xg7(l:List UInt8)(n:Nat)(h:l.length=n):za4 (l.map bRw) 0 n=l.map bRw:=by unfold za4;rw[B8,Av (by simp;omega),Br];rfl
theorem yS8(s:List UInt8)(hl:s.length<=maxLen):Pure prog 271 [.str s] (.str (s.map yF)):=by
 obtain⟨n,hn⟩:=eX s.length;unfold maxLen at hl;refine iV 0 func271 ntmps271 results271 λc hc hb=>?_;refine zp2 7 dc ?_;refine zA ?_;simp[go_sem,zX4,hn];refine zH (S:=Nat) [3,8,9,10] (λi=>[.lsv 0 1 n 0 n,.lsv 0 1 n 0 n,.int .i64 n,.int .i64 i]) (λi=>[.lst ((upI s i).map bRw) 1]) (λi=>n-i) (λi=>i<=n) hc hb 0 (A2 _) ?_ ?_;.exact at_n 1 (by simp[go_sem,xD9]) rfl (yw0 _) (A2 _) (zC sg rfl)
 intro i hi;by_cases q:i<n;rotate_left
 .have ak:i=n:=om;subst ak;rw[<-hn,xf4,hn];have ag:=xg7 (s.map yF) i (by rw[Ay,hn]);have ae:=ze3 (s.map yF);have af:=xL (s.map yF);rw[zX4]at ae af;generalize hS:s.map yF=S at ag ae af⊢;have al:S.length=i:=by rw[<-hS,Ay,hn]
  clear hS;refine zq8 0 1 (S.map bRw) rfl (xq1 _) ?_;refine zA ?_;simp[go_sem,al,ag];refine zI af ?_;simp[go_sem];rw[<-Br,ae];exact wR
 have hq:i<s.length:=om;have ei:=zS q om;obtain⟨x,hx⟩:=eX (s[i]);obtain⟨cur,aa⟩:∃c,upI s i=c:=⟨_,rfl⟩;obtain⟨ah,ab⟩:∃c,upI s (i+1)=c:=⟨_,rfl⟩;have ai:cur.length=n:=by rw[<-aa,xf6,hn]
 have an:i<cur.length:=om;have ao:cur[i]=x:=by have h:=xf5 s i;rw[aa,A0 an,A0 hq,hx]at h;exact Option.some.inj h
 have aj:cur.set i (yF x)=ah:=by rw[<-aa,<-hx,xf7 s i hq,ab]
 have ad:yF x=x->cur=ah:=λh=>by rw[<-aa,<-ab];exact yO9 s i hq (by rw[hx];exact h)
 rw[aa];have ar:0<=((x.toNat:Nat):Int)/\((x.toNat:Nat):Int)<=255:=by have:=x.toNat_lt;omega
 refine zA ?_;simp[go_sem,q,ao,ai];have small:¬(97<=x.toNat/\x.toNat<=122)->yF x=x:=λh=>by unfold yF;rw[if_neg h]
 refine zY (λq1=>?_) (λq1=>?_)
 .simp[go_sem,q1];refine zN (λq2=>?_) (λq2=>?_)
  .have q1:97<=x.toNat:=by simp at q1;omega
   have q2:x.toNat<=122:=by simp at q2;omega
   have hg:IntKind.u8.wrap ((x.toNat:Int)-32)=((yF x).toNat:Int):=by rw[yC5 om om];unfold yF;rw[if_pos ⟨q1,q2⟩,UInt8.toNat_ofNat'];omega
   simp[go_sem,hg,q,ai,ei];exact zG (i+1) ⟨om,om,at_n 1 (by rw[ab,<-aj];simp[go_sem,List.map_set]) rfl (yw0 _) (A2 _) (zC sg rfl)⟩
  .have q2:¬x.toNat<=122:=by simp at q2;omega
   have hs:=ad (small λh=>q2 h.2);simp[go_sem,ei];exact zG (i+1) ⟨om,om,at_n 1 (by rw[ab,<-hs];simp[go_sem]) rfl (yw0 _) (A2 _) (zC sg rfl)⟩
 .have q1:¬97<=x.toNat:=by simp at q1;omega
  have hs:=ad (small λh=>q1 h.1);have aq:decide ((97:Int)<=x.toNat)=false:=by simp;omega
  simp[go_sem,ei,aq];exact zG (i+1) ⟨om,om,at_n 1 (by rw[ab,<-hs];simp[go_sem]) rfl (yw0 _) (A2 _) (zC sg rfl)⟩
theorem xh9(s:List UInt8):(s.map yF==s)=s.all λc=>yF c==c:=by induction s with |nil=>rfl|cons c l ih=>rw[Al,Ap,<-ih];rfl
theorem xF6(s:List UInt8):ze1 s=(decide (1<=s.length/\s.length<=16)&&(!wU (s.headD 0)&&(s.all zp3&&(s.all (λc=>yF c==c)&&!resv.contains s)))):=by
 have h:s.all okC=(s.all zp3&&s.all (λc=>yF c==c)):=by induction s with|nil=>rfl|cons c l ih=>rw[Ap,Ap,Ap,ih];unfold okC zp3;cases za9 c<;>cases wU c<;>cases(yF c==c)<;>simp
 unfold ze1;rw[h,Bool.and_assoc]
theorem xF8:zp3 32=false:=dc
theorem zL5(s:List UInt8)(hl:s.length<=maxLen):Pure prog 211 [.str s] (.bool (ze1 s)):=by
 have ad:=xx1 s hl;have aa:=yN2 zp3 s;have ag:=yS8 s hl;have ab:=xh9 s;have ah:=yg5 (s[0]?.getD 0);have ai:s.headD 0=s[0]?.getD 0:=by cases s<;>rfl
 have ae:(s.all zp3)=true->Pure prog 272 [.str yM5,.str (32::(s++[32]))] (.bool (resv.contains s)):=λh=>by
  have h1:∀c∈s,c≠32:=λc hc e=>by rw[Af]at h;have:=h c hc;rw[e,xF8]at this;cases this
  have h2:=yl6 yM5 (32::(s++[32])) dc;rw[xB4 s h1]at h2;exact h2
 generalize hM:ze1 s=M;rw[xF6,ai]at hM;generalize runF zp3 s=r at ad aa;generalize s.map yF=u at ag ab;generalize wU (s[0]?.getD 0)=d at ah hM;generalize(s.all λc=>yF c==c)=g at ab hM;generalize resv.contains s=k at ae hM;generalize s.all zp3=w at aa ae hM;have ret:∀(b:Bool)(σ:St),b=M->wret (some (.bool b)) 0 (λr s=>r=.bool M/\s=[]) σ:=λr σ h=>by subst h;exact wR
 unfold maxLen at hl;refine iV 0 func211 ntmps211 results211 λc hc hb=>?_;refine zA ?_;simp[go_sem];by_cases h0:s=[]
 .subst h0;have hM:M=false:=by rw[<-hM];rfl
  simp[go_sem];exact ret _ _ hM.symm
 have h1:1<=s.length:=by cases s with|nil=>exact absurd rfl h0|cons _ _=>simp
 have aj:s.isEmpty=false:=by cases s with |nil=>exact absurd rfl h0|cons _ _=>rfl
 simp[go_sem,aj];by_cases h2:16<s.length
 .have af:decide ((16:Int)<s.length)=true:=by simp;omega
  have hM:M=false:=by rw[<-hM,decide_eq_false om];rfl
  simp[go_sem,af];exact ret _ _ hM.symm
 have af:decide ((16:Int)<s.length)=false:=by simp;omega
 rw[decide_eq_true (show 1<=s.length/\s.length<=16by omega),Ar]at hM;simp[go_sem,af];refine zI om ?_;simp[go_sem];refine pC ah ?_;simp[go_sem];refine(A4 d).elim (λq=>?_) (λq=>?_)
 .have hM:M=false:=by rw[<-hM,q];rfl
  simp[go_sem,q];exact ret _ _ hM.symm
 rw[q,Bool.not_false,Ar]at hM;simp[go_sem,q];refine pC ad ?_;simp[go_sem];refine(A4 w).elim (λq2=>?_) (λq2=>?_);rotate_left
 .have hM:M=false:=by rw[<-hM,q2];rfl
  have hr:decide (r<s.length)=true:=by rw[aa,q2];rfl
  simp[go_sem,hr];exact ret _ _ hM.symm
 have hr:decide (r<s.length)=false:=by rw[aa,q2];rfl
 rw[q2,Ar]at hM;simp[go_sem,hr];refine pC ag ?_;simp[go_sem];refine(A4 g).elim (λq3=>?_) (λq3=>?_);rotate_left
 .have hM:M=false:=by rw[<-hM,q3];rfl
  have hu:(u==s)=false:=by rw[ab,q3]
  simp[go_sem,hu];exact ret _ _ hM.symm
 have hu:(u==s)=true:=by rw[ab,q3]
 rw[q3,Ar]at hM;simp[go_sem,hu];refine zI om ?_;simp[go_sem];refine zI om ?_;simp[go_sem];refine pC (ae q2) ?_;simp[go_sem];exact ret _ _ hM
end Go.Proofs.YtefbicjgbaaieaaGreat
namespace Go.Proofs.YtefbicjgbaaieaaGreat
open Go Go.Vx R Go.Proofs.Tryz
set_option maxRecDepth 100000
def zJ6(s:List UInt8):Int:=if za7 s=0then-1 else za7 s
theorem yX0(s:List UInt8):Pure prog 273 [.str s] (.int .i64 (zJ6 s)):=by
 have hM:zJ6 s=if opsOne.contains s=true then 1 else if opsTwo.contains s=true then 2 else-1:=by
  unfold zJ6 za7;by_cases h1:opsTwo.contains s=true
  .have h2:opsOne.contains s=false:=by unfold opsTwo at h1;simp only[Dt,List.contains_nil,E2,Bv,beq_iff_eq]at h1;rcases h1 with rfl|rfl|rfl|rfl|rfl|rfl|rfl|rfl|rfl|rfl|rfl|rfl|rfl<;>decide
   simp only[h1,h2];rfl
  .have h1:opsTwo.contains s=false:=by simpa using h1
   by_cases h2:opsOne.contains s=true;.simp only[h1,h2];rfl
   .have h2:opsOne.contains s=false:=by simpa using h2
    simp only[h1,h2];rfl
 generalize zJ6 s=M at hM⊢;have ret:∀(r:Int)(σ:St),r=M->wret (some (.int .i64 r)) 0 (λr s=>r=.int .i64 M/\s=[]) σ:=λr σ h=>by subst h;exact wR
 unfold opsTwo opsOne at hM;simp only[Dt,List.contains_nil]at hM;refine iW 0 func273 ntmps273 results273 λc hc hb=>zO ?_;simp[go_sem];repeat'(first|(refine zY (λq=>?_) (λq=>?_)<;>simp[go_sem,q])|(refine zN (λq=>?_) (λq=>?_)<;>simp[go_sem,q]))
 all_goals exact ret _ _ (by simp_all)
def zm4(e:GExpr):Bool:=e.kind==0&&(e.s.isEmpty&&(zk5 e.v&&e.args.isEmpty))
theorem xt2(l:List GExpr)(hl:l.length<=maxLen):Pure prog 340 [.sl .ro (l.map GExpr.row),.sl .ro [],.fn 274 []] (.bool l.isEmpty):=by
 generalize hM:l.isEmpty=M;have ret:∀(r:Bool)(σ:St),r=M->wret (some (.bool r)) 0 (λr s=>r=.bool M/\s=[]) σ:=λr σ h=>by subst h;exact wR
 refine iW 0 func340 ntmps340 results340 λc hc hb=>zO ?_;cases l with
 |nil=>
  simp[go_sem];refine zH (S:=Unit) [15,16,17] (λ_=>[.sl .ro [],.int .i64 0,.int .i64 0]) (λ_=>[]) (λ_=>0) (λ_=>True) hc hb () trivial ?_ ?_;.exact aO
  rintro _ _;refine zA ?_;simp[go_sem];exact ret _ _ hM|cons x l=>
  have q:(((x::l).length:Int)!=0)=true:=by simp;omega
  simp only[Ah,Int.natCast_add,Cb]at q;simp[go_sem,q];exact ret _ _ hM
theorem xN5(e:GExpr)(hw:e.args.length<=maxLen):Pure prog 274 [.agg e.row,.agg zeroE.row] (.bool (zm4 e)):=by
 have heq:=xt2 e.args hw;generalize hM:zm4 e=M;unfold zm4 zk5 at hM;generalize e.args.isEmpty=b at heq hM;have ret:∀(r:Bool)(σ:St),r=M->wret (some (.bool r)) 0 (λr s=>r=.bool M/\s=[]) σ:=λr σ h=>by subst h;exact wR
 have aa:(e.s==[])=e.s.isEmpty:=by cases e.s<;>rfl
 have ab:(e.v.s==[])=e.v.s.isEmpty:=by cases e.v.s<;>rfl
 have z1:zeroE.kind=0:=rfl;have z2:zeroE.s=[]:=rfl;have z3:zeroE.v=⟨0,0,[]⟩:=rfl;have z4:zeroE.args=[]:=rfl;refine iW 0 func274 ntmps274 results274 λc hc hb=>zO ?_;simp[go_sem,z1,z2,z3,z4];repeat'(first |(refine zY (λq=>?_) (λq=>?_)<;>simp[go_sem,q])|(refine zN (λq=>?_) (λq=>?_)<;>simp[go_sem,q])|(refine pC heq ?_;simp[go_sem]))
 all_goals exact ret _ _ (by rw[<-hM];simp_all)
theorem yZ2(e:GExpr)(hw:e.args.length<=maxLen):Pure prog 213 [.agg e.row] (.bool (zm4 e)):=by
 have h:=xN5 e hw;generalize zm4 e=b at h⊢;refine iW 0 func213 ntmps213 results213 λc hc hb=>zO ?_;simp[go_sem];refine zJ h cB ⟨?_,?_,tV⟩ rfl ?_;.rw[GExpr.row_eq];exact zD rfl
 .rw[GExpr.row_eq];exact zv4 ⟨zU rfl,zU rfl,zU rfl,zU rfl,zU rfl,yY,tV⟩
 simp[go_sem];exact wR
theorem yt3(e:GExpr):Pure prog 172 [.agg e.row] (.bool (zm4 e)):=by
 generalize hM:zm4 e=M;unfold zm4 zk5 at hM;have ret:∀(r:Bool)(σ:St),r=M->wret (some (.bool r)) 0 (λr s=>r=.bool M/\s=[]) σ:=λr σ h=>by subst h;exact wR
 have aa:(e.s==[])=e.s.isEmpty:=by cases e.s<;>rfl
 have ab:(e.v.s==[])=e.v.s.isEmpty:=by cases e.v.s<;>rfl
 have ha:((e.args.length:Int)==0)=e.args.isEmpty:=by cases e.args<;>simp;omega
 refine iW 0 func172 ntmps172 results172 λc hc hb=>zO ?_;simp[go_sem];repeat'(first |(refine zY (λq=>?_) (λq=>?_)<;>simp[go_sem,q])|(refine zN (λq=>?_) (λq=>?_)<;>simp[go_sem,q]))
 all_goals exact ret _ _ (by rw[<-hM];simp_all)
def mayE:Nat->GExpr->Bool
 |0,_=>false|n+1,e=>if e.kind=1then e.s.isEmpty&&(e.args.isEmpty&&(mayF e.v&&decide (0<=e.v.n)))else if e.kind=2then zk5 e.v&&(e.args.isEmpty&&ze1 e.s)else if¬e.kind=3∨zk5 e.v=false∨za7 e.s=0∨¬(e.args.length:Int)=za7 e.s then false else e.args.all (mayE n)
theorem zi1{α:Type}(p:α->Bool)(l:List α)(i:Nat)(h:i<l.length):(l.drop i).all p=(p l[i]&&(l.drop (i+1)).all p):=by rw[A5 h,Ap]
theorem zB7:∀(n:Nat)(e:GExpr),n<=1000->Wide e->Good e->Pure prog 212 [.agg e.row,.int .i64 n] (.bool (mayE n e))
 |n,e,hn,hw,hg=>by
  have hlen:=hw.len;have ak:=hw.sub;have an:=hg.sub;have ih:∀m,n=m+1->∀x∈e.args,Pure prog 212 [.agg x.row,.int .i64 m] (.bool (mayE m x)):=λm hm x hx=>zB7 m x om (ak x hx) (an x hx);have ag:=yp0 e.v;have aa:=zL5 e.s (by have:=hg.str;unfold maxLen;omega);have ao:=yX0 e.s;have hz:=zC9 e.v;obtain⟨M,hM⟩:=eX (mayE n e);rw[hM];have ret:∀(r:Bool)(σ:St),r=M->wret (some (.bool r)) 0 (λr s=>r=.bool M/\s=[]) σ:=λr σ h=>by subst h;exact wR
  have ha:((e.args.length:Int)==0)=e.args.isEmpty:=by cases e.args<;>simp;omega
  have ar:(e.s==[])=e.s.isEmpty:=by cases e.s<;>rfl
  have au:(e.v.s==[])=e.v.s.isEmpty:=by cases e.v.s<;>rfl
  refine iV 0 func212 ntmps212 results212 λc hc hb=>?_;by_cases h0:n=0;.subst h0;rw[mayE]at hM;refine zA ?_;simp[go_sem];exact ret _ _ hM
  obtain⟨m,rfl⟩:∃m,n=m+1:=⟨n-1,om⟩;have ih:=ih m rfl;rw[mayE]at hM;have al:(((m+1:Nat):Int)==0)=false:=by simp;omega
  have em:IntKind.i64.wrap (((m+1:Nat):Int)-1)=(m:Int):=by rw[i64_id om om];omega
  have aq:IntKind.i64.wrap (m:Int)=(m:Int):=i64_id om om;refine zA ?_;simp only[Int.natCast_add,Cb]at al em;simp[go_sem,al];by_cases q1:e.kind=1
  .have af:(e.kind==1)=true:=by simpa using q1
   rw[if_pos q1]at hM;generalize mayF e.v=b at ag hM;generalize e.args.isEmpty=ae at ha hM;simp[go_sem,af];repeat'(first |(refine zY (λq=>?_) (λq=>?_)<;>simp[go_sem,q,ha])|(refine zJ ag cB (zL sg rfl) rfl ?_;simp[go_sem]))
   all_goals exact ret _ _ (by rw[<-hM];simp_all)
  rw[if_neg q1]at hM;have af:(e.kind==1)=false:=by simpa using q1
  by_cases q2:e.kind=2
  .have ah:(e.kind==2)=true:=by simpa using q2
   rw[if_pos q2]at hM;unfold zk5 at hM;generalize ze1 e.s=b at aa hM;generalize e.args.isEmpty=ae at ha hM;simp[go_sem,af,ah];repeat'(first |(refine zY (λq=>?_) (λq=>?_)<;>simp[go_sem,q,ha])|(refine zJ aa cB (zL sg rfl) rfl ?_;simp[go_sem]))
   all_goals exact ret _ _ (by rw[<-hM];simp_all)
  rw[if_neg q2]at hM;have ah:(e.kind==2)=false:=by simpa using q2
  simp[go_sem,af,ah];refine yR [(15,0)] 1 sm kR kR ?_;simp[go_sem];by_cases q3:e.kind=3;rotate_left
  .have ai:(e.kind !=3)=true:=by simpa using q3
   rw[if_pos (.inl q3)]at hM;simp[go_sem,ai];exact ret _ _ hM
  have ai:(e.kind !=3)=false:=by simpa using q3
  simp[go_sem,ai,hz];refine(A4 (zk5 e.v)).elim (λw=>?_) (λw=>?_);rotate_left;.rw[if_pos (.inr (.inl w))]at hM;simp[go_sem,w];exact ret _ _ hM
  simp[go_sem,w];refine xE ao cB (λ_=>zL sg rfl) rfl ?_;unfold zJ6;by_cases q4:za7 e.s=0∨¬(e.args.length:Int)=za7 e.s
  .have aj:((e.args.length:Int)!=(if za7 e.s=0then-1 else za7 e.s))=true:=by
    rcases q4 with q4|q4;.rw[if_pos q4];simp<;>omega
    .by_cases q5:za7 e.s=0;.rw[if_pos q5];simp<;>omega
     .rw[if_neg q5];simpa using q4
   rw[if_pos (.inr (.inr q4))]at hM;simp[go_sem,aj];exact ret _ _ hM
  have aj:((e.args.length:Int)!=(if za7 e.s=0then-1 else za7 e.s))=false:=by rw[if_neg (λh=>q4 (.inl h))];simp only[bne_eq_false_iff_eq];exact E6 λh=>q4 (.inr h)
  rw[if_neg (λh=>h.elim (λh=>h q3) λh=>h.elim (λh=>by rw[w]at h;cases h) q4)]at hM;simp[go_sem,aj];obtain⟨args,ab⟩:=eX e.args;rw[ab]at hM hlen ih;simp[go_sem,ab];refine zH (S:=Nat) [1,73,74,75] (λi=>[.int .i64 ((m:Int)+1),.sl .ro (args.map GExpr.row),.int .i64 args.length,.int .i64 (i:Int)]) (λ_=>[]) (λi=>args.length-i) (λi=>i<=args.length/\(args.drop i).all (mayE m)=M) hc hb 0 ⟨A2 _,by rw[B8];exact hM⟩ ?_ ?_;.exact aO
  rintro i⟨hi,hinv⟩;by_cases q:i<args.length;rotate_left;.rw[A9 om]at hinv;refine zA ?_;simp[go_sem,q];exact ret _ _ hinv
  have ei:=zS q om;rw[zi1 _ _ _ q]at hinv;obtain⟨x,hx⟩:=eX (args[i]);have ad:=ih x (hx▸A8 q);rw[hx]at hinv;generalize mayE m x=b at ad hinv;refine zA ?_;simp[go_sem,q,hx,aq];refine zJ ad cB (zL sg (by rw[GExpr.row_eq];rfl)) rfl ?_;refine(A4 b).elim (λp=>?_) (λp=>?_);.rw[p,Ar]at hinv;simp[go_sem,p,ei];exact zG (i+1) ⟨om,⟨om,hinv⟩,aO⟩
  .rw[p,C7]at hinv;simp[go_sem,p];exact ret _ _ hinv
theorem zR9:∀(n:Nat)(e:GExpr),n<=1000->Wide e->Good e->Pure prog 250 [.agg e.row,.int .i64 n] (.bool (mayE n e))
 |n,e,hn,hw,hg=>by
  have hlen:=hw.len;have al:=hw.sub;have aq:=hg.sub;have ih:∀m,n=m+1->∀x∈e.args,Pure prog 250 [.agg x.row,.int .i64 m] (.bool (mayE m x)):=λm hm x hx=>zR9 m x om (al x hx) (aq x hx);have ag:=zS0 e.v;have ab:=zq0 e.s (by have:=hg.str;unfold maxLen;omega);have an:=xp9 e.s;have hz:=zC9 e.v;obtain⟨M,hM⟩:=eX (mayE n e);rw[hM];have ret:∀(r:Bool)(σ:St),r=M->wret (some (.bool r)) 0 (λr s=>r=.bool M/\s=[]) σ:=λr σ h=>by subst h;exact wR
  have ha:((e.args.length:Int)==0)=e.args.isEmpty:=by cases e.args<;>simp;omega
  have au:(e.s==[])=e.s.isEmpty:=by cases e.s<;>rfl
  have av:(e.v.s==[])=e.v.s.isEmpty:=by cases e.v.s<;>rfl
  refine iV 0 func250 ntmps250 results250 λc hc hb=>?_;by_cases h0:n=0;.subst h0;rw[mayE]at hM;refine zA ?_;simp[go_sem];exact ret _ _ hM
  obtain⟨m,rfl⟩:∃m,n=m+1:=⟨n-1,om⟩;have ih:=ih m rfl;rw[mayE]at hM;have ao:(((m+1:Nat):Int)==0)=false:=by simp;omega
  have em:IntKind.i64.wrap (((m+1:Nat):Int)-1)=(m:Int):=by rw[i64_id om om];omega
  have ar:IntKind.i64.wrap (m:Int)=(m:Int):=i64_id om om;refine zA ?_;simp only[Int.natCast_add,Cb]at ao em;simp[go_sem,ao];by_cases q1:e.kind=1
  .have af:(e.kind==1)=true:=by simpa using q1
   rw[if_pos q1]at hM;generalize mayF e.v=b at ag hM;generalize e.args.isEmpty=ae at ha hM;simp[go_sem,af,ha];repeat'(first |(refine zY (λq=>?_) (λq=>?_)<;>simp[go_sem,q])|(refine zJ ag cB (zL sg rfl) rfl ?_;simp[go_sem]))
   all_goals exact ret _ _ (by rw[<-hM];simp_all)
  rw[if_neg q1]at hM;have af:(e.kind==1)=false:=by simpa using q1
  by_cases q2:e.kind=2
  .have ah:(e.kind==2)=true:=by simpa using q2
   rw[if_pos q2]at hM;unfold zk5 at hM;generalize ze1 e.s=b at ab hM;generalize e.args.isEmpty=ae at ha hM;simp[go_sem,af,ah,ha];repeat'(first |(refine zY (λq=>?_) (λq=>?_)<;>simp[go_sem,q])|(refine zJ ab cB (zL sg rfl) rfl ?_;simp[go_sem]))
   all_goals exact ret _ _ (by rw[<-hM];simp_all)
  rw[if_neg q2]at hM;have ah:(e.kind==2)=false:=by simpa using q2
  simp[go_sem,af,ah];by_cases q3:e.kind=3;rotate_left
  .have ai:(e.kind==3)=false:=by simpa using q3
   rw[if_pos (.inl q3)]at hM;simp[go_sem,ai];exact ret _ _ hM
  have ai:(e.kind==3)=true:=by simpa using q3
  simp[go_sem,ai];refine yR [(7,0),(16,0)] 1 sm kR kR ?_;simp[go_sem,hz];refine(A4 (zk5 e.v)).elim (λw=>?_) (λw=>?_);rotate_left;.rw[if_pos (.inr (.inl w))]at hM;simp[go_sem,w];exact ret _ _ hM
  simp[go_sem,w];refine xE an cB (λ_=>zL sg rfl) rfl ?_;by_cases q4:za7 e.s=0
  .have aj:(za7 e.s==0)=true:=by simpa using q4
   rw[if_pos (.inr (.inr (.inl q4)))]at hM;simp[go_sem,aj];exact ret _ _ hM
  have aj:(za7 e.s==0)=false:=by simpa using q4
  simp[go_sem,aj];refine xE an cB (λ_=>zL sg rfl) rfl ?_;by_cases q5:(e.args.length:Int)=za7 e.s;rotate_left
  .have ak:((e.args.length:Int)!=za7 e.s)=true:=by simpa using q5
   rw[if_pos (.inr (.inr (.inr q5)))]at hM;simp[go_sem,ak];exact ret _ _ hM
  have ak:((e.args.length:Int)!=za7 e.s)=false:=by simpa using q5
  rw[if_neg (λh=>h.elim (λh=>h q3) λh=>h.elim (λh=>by rw[w]at h;cases h) λh=>h.elim q4 λh=>h q5)]at hM;simp[go_sem,ak];obtain⟨args,aa⟩:=eX e.args;rw[aa]at hM hlen ih;refine zH (S:=Nat) [1,2,5] (λi=>[.int .i64 ((m:Int)+1),.ptr 0 0,.int .i64 (i:Int)]) (λ_=>[.box e.row]) (λi=>args.length-i) (λi=>i<=args.length/\(args.drop i).all (mayE m)=M) hc hb 0 ⟨A2 _,by rw[B8];exact hM⟩ ?_ ?_;.exact at_n 1 (by simp[go_sem,aa]) rfl (by simp[ltOb,ltC,ltK,GExpr.row_eq]) (A2 _) (zC sg rfl)
  rintro i⟨hi,hinv⟩;by_cases q:i<args.length;rotate_left;.rw[A9 om]at hinv;refine zA ?_;simp[go_sem,q,aa];exact ret _ _ hinv
  have ei:=zS q om;rw[zi1 _ _ _ q]at hinv;obtain⟨x,hx⟩:=eX (args[i]);have ad:=ih x (hx▸A8 q);rw[hx]at hinv;generalize mayE m x=b at ad hinv;refine zA ?_;simp[go_sem,q,aa,hx,ar];refine zJ ad cB (zL sg (by rw[GExpr.row_eq];rfl)) rfl ?_;refine(A4 b).elim (λp=>?_) (λp=>?_);.rw[p,Ar]at hinv;simp[go_sem,p,ei];exact zG (i+1) ⟨om,⟨om,hinv⟩,at_n 1 (by simp[go_sem,aa]) rfl (by simp[ltOb,ltC,ltK,GExpr.row_eq]) (A2 _) (zC sg rfl)⟩
  .rw[p,C7]at hinv;simp[go_sem,p];exact ret _ _ hinv
theorem zF1(e:GExpr)(hw:Wide e)(hg:Good e):Pure prog 171 [.agg e.row] (.bool (mayE 16 e)):=by have h:=zR9 16 e dc hw hg;generalize mayE 16 e=b at h⊢;refine iW 0 func171 ntmps171 results171 λc hc hb=>zO ?_;simp[go_sem];refine zJ h cB (zL sg (by rw[GExpr.row_eq];rfl)) rfl ?_;simp[go_sem];exact wR
def mayI(n:Nat)(x:GItem):Bool:=if x.kind=1then decide (n<=1)&&zm4 x.e else if x.kind=3then zm4 x.e else if x.kind=2∨x.kind=4then mayE 16 x.e else false
def zY9(l:List GItem):Bool:=l.all (mayI l.length)&&(decide (1<=l.length)&&decide (l.length<=6))
def mayR(r:List GExpr):Bool:=(decide (1<=r.length)&&decide (r.length<=6))&&r.all (mayE 16)
def zR8(l:List (List GExpr)):Bool:=l.all mayR&&(decide (1<=l.length)&&decide (l.length<=16))
def mayA(x:GAssign):Bool:=ze1 x.name&&mayE 16 x.e
def zR7(l:List GAssign):Bool:=(decide (1<=l.length)&&decide (l.length<=6))&&l.all mayA
theorem bret{b M:Bool}{σ:St}(h:b=M):wret (some (.bool b)) 0 (λr s=>r=.bool M/\s=[]) σ:=by subst h;exact wR
theorem yT3(l:List GItem)(hl:l.length<=12)(hx:∀x∈l,i64R x.kind/\EOk x.e):Pure prog 214 [.sl .ro (l.map GItem.row)] (.bool (zY9 l)):=by
 obtain⟨n,hn⟩:=eX l.length;generalize hM:zY9 l=M;unfold zY9 at hM;rw[hn]at hM;have e1:decide ((1:Int)<=n)=decide (1<=n):=decide_eq_decide.2 om;have e2:decide ((n:Int)<=6)=decide (n<=6):=decide_eq_decide.2 om;have e3:decide ((1:Int)<n)=!decide (n<=1):=by
  by_cases h:n<=1;.rw[decide_eq_true h,decide_eq_false om];rfl
  .rw[decide_eq_false h,decide_eq_true om];rfl
 refine iV 0 func214 ntmps214 results214 λc hc hb=>?_;refine zA ?_;simp[go_sem];refine zH (S:=Nat) [0,5,6,7] (λi=>[.sl .ro (l.map GItem.row),.sl .ro (l.map GItem.row),.int .i64 n,.int .i64 (i:Int)]) (λ_=>[]) (λi=>n-i) (λi=>i<=n/\((l.drop i).all (mayI n)&&(decide (1<=n)&&decide (n<=6)))=M) hc hb 0 ⟨A2 _,by rw[B8];exact hM⟩ ?_ ?_;.exact at_0 rfl (zL (by simp[go_sem,hn]) rfl)
 rintro i⟨hi,hinv⟩;by_cases q:i<n;rotate_left
 .rw[A9 om,C3,Ar]at hinv;refine zA ?_;simp[go_sem,q,hn,e1];refine zY (λw=>?_) (λw=>?_);.simp[go_sem,w,hn,e2];exact bret (by rw[<-hinv,w,Ar])
  .simp[go_sem,w];exact bret (by rw[<-hinv,w];rfl)
 have hq:i<l.length:=om;have ei:=zS q om;rw[zi1 _ _ _ hq]at hinv;obtain⟨x,ag⟩:=eX (l[i]);obtain⟨hk,hE⟩:=hx x (ag▸A8 hq);have ah:=yZ2 x.e (by have:=hE.wide.len;unfold maxLen;omega);have ae:=zB7 16 x.e dc hE.wide hE.good;rw[ag]at hinv;obtain⟨b,aa⟩:=eX (mayI n x);rw[aa]at hinv;unfold mayI at aa;have yes:b=true->((l.drop (i+1)).all (mayI n)&&(decide (1<=n)&&decide (n<=6)))=M:=λh=>by rw[h,Ar]at hinv;exact hinv
 have no:b=false->false=M:=λh=>by rw[h]at hinv;exact hinv
 clear hinv;generalize zm4 x.e=bl at ah aa;generalize mayE 16 x.e=me at ae aa;simp only[Cb]at ae;refine zA ?_;simp[go_sem,q,hq,ag];by_cases k1:x.kind=1
 .have ab:(x.kind==1)=true:=by simpa using k1
  rw[if_pos k1]at aa;simp[go_sem,ab,hn,e3];refine zY (λw=>?_) (λw=>?_)
  .have w2:decide (n<=1)=true:=by simpa using w
   rw[w2,Ar]at aa;simp[go_sem,w2];refine zJ ah cB (zL sg (by rw[GExpr.row_eq];rfl)) rfl ?_;simp[go_sem];refine(A4 bl).elim (λw=>?_) (λw=>?_);.simp[go_sem,w,ei];exact zG (i+1) ⟨om,⟨om,yes (by rw[<-aa,w])⟩,aO⟩
   .simp[go_sem,w];exact bret (no (by rw[<-aa,w]))
  .have w2:decide (n<=1)=false:=by simpa using w
   rw[w2,C7]at aa;simp[go_sem,w2];exact bret (no aa.symm)
 rw[if_neg k1]at aa;have ab:(x.kind==1)=false:=by simpa using k1
 by_cases k3:x.kind=3
 .have ad:(x.kind==3)=true:=by simpa using k3
  rw[if_pos k3]at aa;simp[go_sem,ab,ad];refine zJ ah cB (zL sg (by rw[GExpr.row_eq];rfl)) rfl ?_;simp[go_sem];refine(A4 bl).elim (λw=>?_) (λw=>?_);.simp[go_sem,w,ei];exact zG (i+1) ⟨om,⟨om,yes (by rw[<-aa,w])⟩,aO⟩
  .simp[go_sem,w];exact bret (no (by rw[<-aa,w]))
 rw[if_neg k3]at aa;have ad:(x.kind==3)=false:=by simpa using k3
 by_cases k2:x.kind=2
 .have af:(x.kind==2)=true:=by simpa using k2
  rw[if_pos (.inl k2)]at aa;simp[go_sem,ab,ad,af];refine zJ ae cB (zL sg (by rw[GExpr.row_eq];rfl)) rfl ?_;simp[go_sem];refine(A4 me).elim (λw=>?_) (λw=>?_);.simp[go_sem,w,ei];exact zG (i+1) ⟨om,⟨om,yes (by rw[<-aa,w])⟩,aO⟩
  .simp[go_sem,w];exact bret (no (by rw[<-aa,w]))
 have af:(x.kind==2)=false:=by simpa using k2
 by_cases k4:x.kind=4
 .have ai:(x.kind==4)=true:=by simpa using k4
  rw[if_pos (.inr k4)]at aa;simp[go_sem,ab,ad,af,ai];refine zJ ae cB (zL sg (by rw[GExpr.row_eq];rfl)) rfl ?_;simp[go_sem];refine(A4 me).elim (λw=>?_) (λw=>?_);.simp[go_sem,w,ei];exact zG (i+1) ⟨om,⟨om,yes (by rw[<-aa,w])⟩,aO⟩
  .simp[go_sem,w];exact bret (no (by rw[<-aa,w]))
 have ai:(x.kind==4)=false:=by simpa using k4
 rw[if_neg (λh=>h.elim k2 k4)]at aa;simp[go_sem,ab,ad,af,ai];exact bret (no aa.symm)
def zc1{α:Type}(p:α->Bool):List α->Nat->Int |[],_=>-1|x::l,i=>if p x=true then(i:Int)else zc1 p l (i+1)
theorem zB1{α:Type}(p:α->Bool):∀(l:List α)(i:Nat),decide (0<=zc1 p l i)=l.any p
 |[],i=>rfl|x::l,i=>by
  rw[zc1,D8];split;.rename_i h;rw[h];exact decide_eq_true om
  .rename_i h;have h:p x=false:=by simpa using h
   rw[h,C8,zB1 p l (i+1)]
theorem xT9(x:GExpr)(hE:EOk x):Pure prog 276 [.agg x.row] (.bool (!mayE 16 x)):=by have aa:=zB7 16 x dc hE.wide hE.good;generalize mayE 16 x=b at aa⊢;simp only[Cb]at aa;refine iW 0 func276 ntmps276 results276 λc hc hb=>zO ?_;simp[go_sem];refine zJ aa cB (zL sg (by rw[GExpr.row_eq];rfl)) rfl ?_;simp[go_sem];exact wR
theorem xT8(x:GAssign)(hn:x.name.length<=maxLen)(hE:EOk x.e):Pure prog 277 [.agg x.row] (.bool (!mayA x)):=by
 have aa:=zB7 16 x.e dc hE.wide hE.good;have hw:=zL5 x.name hn;generalize hM:(!mayA x)=M;unfold mayA at hM;generalize mayE 16 x.e=b at aa hM;generalize ze1 x.name=w at hw hM;simp only[Cb]at aa;refine iW 0 func277 ntmps277 results277 λc hc hb=>zO ?_;simp[go_sem];refine zJ hw cB (zL sg rfl) rfl ?_;refine(A4 w).elim (λp=>?_) (λp=>?_);.simp[go_sem,p];refine zJ aa cB (zL sg (by rw[GExpr.row_eq];rfl)) rfl ?_;simp[go_sem];exact bret (by rw[<-hM,p,Ar])
 .simp[go_sem,p];exact bret (by rw[<-hM,p];rfl)
theorem xV4(l:List GExpr)(hl:l.length<=12)(hx:∀x∈l,EOk x):Pure prog 341 [.sl .ro (l.map GExpr.row),.fn 276 []] (.int .i64 (zc1 (λx=>!mayE 16 x) l 0)):=by
 generalize hM:zc1 (λx=>!mayE 16 x) l 0=M;have ret:∀(r:Int)(σ:St),r=M->wret (some (.int .i64 r)) 0 (λr s=>r=.int .i64 M/\s=[]) σ:=λr σ h=>by subst h;exact wR
 refine iV 0 func341 ntmps341 results341 λc hc hb=>?_;refine zA ?_;simp[go_sem];refine zH (S:=Nat) [0,1,6,7,8] (λi=>[.sl .ro (l.map GExpr.row),.fn 276 [],.sl .ro (l.map GExpr.row),.int .i64 l.length,.int .i64 (i:Int)]) (λ_=>[]) (λi=>l.length-i) (λi=>i<=l.length/\zc1 (λx=>!mayE 16 x) (l.drop i) i=M) hc hb 0 ⟨A2 _,hM⟩ ?_ ?_;.exact aO
 rintro i⟨hi,hinv⟩;by_cases q:i<l.length;rotate_left;.rw[A9 om]at hinv;refine zA ?_;simp[go_sem,q];exact ret _ _ hinv
 have ei:=zS q om;obtain⟨x,ab⟩:=eX (l[i]);rw[A5 q,ab,zc1]at hinv;have aa:=xT9 x (hx x (ab▸A8 q));generalize(!mayE 16 x)=b at aa hinv;refine zA ?_;simp[go_sem,q,ab];refine zJ aa cB (zL sg (by rw[GExpr.row_eq];rfl)) rfl ?_;refine(A4 b).elim (λp=>?_) (λp=>?_);.rw[if_pos p]at hinv;simp[go_sem,p];exact ret _ _ hinv
 .rw[if_neg (by rw[p];decide)]at hinv;simp[go_sem,p,ei];exact zG (i+1) ⟨om,⟨om,hinv⟩,aO⟩
theorem xU9(l:List GExpr)(hl:l.length<=12)(hx:∀x∈l,EOk x):Pure prog 275 [.sl .ro (l.map GExpr.row),.fn 276 []] (.bool (!l.all (mayE 16))):=by
 have h:=xV4 l hl hx;have hg:=zB1 (λx=>!mayE 16 x) l 0;have ha:l.any (λx=>!mayE 16 x)=!l.all (mayE 16):=by rw[List.all_eq_not_any_not,Bool.not_not]
 rw[ha]at hg;rw[<-hg];generalize zc1 (λx=>!mayE 16 x) l 0=n at h⊢;refine iW 0 func275 ntmps275 results275 λc hc hb=>zO ?_;simp[go_sem];refine zJ h cB (zL sg rfl) rfl ?_;simp[go_sem];exact wR
theorem xV1(l:List GAssign)(hl:l.length<=12)(hx:∀x∈l,x.name.length<=1048576/\EOk x.e):Pure prog 278 [.sl .ro (l.map GAssign.row),.fn 277 []] (.int .i64 (zc1 (λx=>!mayA x) l 0)):=by
 generalize hM:zc1 (λx=>!mayA x) l 0=M;have ret:∀(r:Int)(σ:St),r=M->wret (some (.int .i64 r)) 0 (λr s=>r=.int .i64 M/\s=[]) σ:=λr σ h=>by subst h;exact wR
 refine iV 0 func278 ntmps278 results278 λc hc hb=>?_;refine zA ?_;simp[go_sem];refine zH (S:=Nat) [0,1,6,7,8] (λi=>[.sl .ro (l.map GAssign.row),.fn 277 [],.sl .ro (l.map GAssign.row),.int .i64 l.length,.int .i64 (i:Int)]) (λ_=>[]) (λi=>l.length-i) (λi=>i<=l.length/\zc1 (λx=>!mayA x) (l.drop i) i=M) hc hb 0 ⟨A2 _,hM⟩ ?_ ?_;.exact aO
 rintro i⟨hi,hinv⟩;by_cases q:i<l.length;rotate_left;.rw[A9 om]at hinv;refine zA ?_;simp[go_sem,q];exact ret _ _ hinv
 have ei:=zS q om;obtain⟨x,ab⟩:=eX (l[i]);rw[A5 q,ab,zc1]at hinv;obtain⟨ae,ad⟩:=hx x (ab▸A8 q);have aa:=xT8 x (by unfold maxLen;omega) ad;generalize(!mayA x)=b at aa hinv;refine zA ?_;simp[go_sem,q,ab];refine zJ aa cB (zL sg rfl) rfl ?_;refine(A4 b).elim (λp=>?_) (λp=>?_);.rw[if_pos p]at hinv;simp[go_sem,p];exact ret _ _ hinv
 .rw[if_neg (by rw[p];decide)]at hinv;simp[go_sem,p,ei];exact zG (i+1) ⟨om,⟨om,hinv⟩,aO⟩
theorem xU7(l:List GAssign)(hl:l.length<=12)(hx:∀x∈l,x.name.length<=1048576/\EOk x.e):Pure prog 218 [.sl .ro (l.map GAssign.row),.fn 277 []] (.bool (!l.all mayA)):=by
 have h:=xV1 l hl hx;have hg:=zB1 (λx=>!mayA x) l 0;have ha:l.any (λx=>!mayA x)=!l.all mayA:=by rw[List.all_eq_not_any_not,Bool.not_not]
 rw[ha]at hg;rw[<-hg];generalize zc1 (λx=>!mayA x) l 0=n at h⊢;refine iW 0 func218 ntmps218 results218 λc hc hb=>zO ?_;simp[go_sem];refine zJ h cB (zL sg rfl) rfl ?_;simp[go_sem];exact wR
theorem dec1(n:Nat):decide ((1:Int)<=n)=decide (1<=n):=decide_eq_decide.2 om
theorem xR2(n k:Nat):decide ((n:Int)<=k)=decide (n<=k):=decide_eq_decide.2 om
theorem xj5(l:List (List GExpr))(hl:l.length<=20)(hx:∀r∈l,r.length<=12/\∀e∈r,EOk e):Pure prog 215 [.sl .ro (l.map λr=>[V.sl .ro (r.map GExpr.row)])] (.bool (zR8 l)):=by
 obtain⟨n,hn⟩:=eX l.length;generalize hM:zR8 l=M;unfold zR8 at hM;rw[hn]at hM;have e1:=dec1 n;have e2:decide ((n:Int)<=16)=decide (n<=16):=xR2 n 16;refine iV 0 func215 ntmps215 results215 λc hc hb=>?_;refine zA ?_;simp[go_sem];refine zH (S:=Nat) [0,5,6,7] (λi=>[.sl .ro (l.map λr=>[V.sl .ro (r.map GExpr.row)]),.sl .ro (l.map λr=>[V.sl .ro (r.map GExpr.row)]),.int .i64 n,.int .i64 (i:Int)]) (λ_=>[]) (λi=>n-i) (λi=>i<=n/\((l.drop i).all mayR&&(decide (1<=n)&&decide (n<=16)))=M) hc hb 0 ⟨A2 _,by rw[B8];exact hM⟩ ?_ ?_;.exact at_0 rfl (zL (by simp[go_sem,hn]) rfl)
 rintro i⟨hi,hinv⟩;by_cases q:i<n;rotate_left
 .rw[A9 om,C3,Ar]at hinv;refine zA ?_;simp[go_sem,q,hn,e1];refine zY (λw=>?_) (λw=>?_);.simp[go_sem,w,hn,e2];exact bret (by rw[<-hinv,w,Ar])
  .simp[go_sem,w];exact bret (by rw[<-hinv,w];rfl)
 have hq:i<l.length:=om;have ei:=zS q om;rw[zi1 _ _ _ hq]at hinv;obtain⟨r,hr⟩:=eX (l[i]);obtain⟨af,ag⟩:=hx r (hr▸A8 hq);have ab:=xU9 r af ag;rw[hr]at hinv;obtain⟨b,aa⟩:=eX (mayR r);rw[aa]at hinv;unfold mayR at aa;have yes:b=true->((l.drop (i+1)).all mayR&&(decide (1<=n)&&decide (n<=16)))=M:=λh=>by rw[h,Ar]at hinv;exact hinv
 have no:b=false->false=M:=λh=>by rw[h]at hinv;exact hinv
 clear hinv;generalize r.all (mayE 16)=ra at ab aa;have ad:((r.length:Int)==0)=!decide (1<=r.length):=by cases r with |nil=>rfl|cons _ _=>rw[decide_eq_true sm];simp;omega
 have ae:decide ((6:Int)<r.length)=!decide (r.length<=6):=by
  by_cases h:r.length<=6;.rw[decide_eq_true h,decide_eq_false om];rfl
  .rw[decide_eq_false h,decide_eq_true om];rfl
 generalize decide (1<=r.length)=d1 at ad aa;generalize decide (r.length<=6)=d2 at ae aa;refine zA ?_;simp[go_sem,q,hq,hr,ad];refine(A4 d1).elim (λw=>?_) (λw=>?_);rotate_left;.simp[go_sem,w];exact bret (no (by rw[<-aa,w];rfl))
 simp[go_sem,w,ae];refine(A4 d2).elim (λw2=>?_) (λw2=>?_);rotate_left;.simp[go_sem,w2];exact bret (no (by rw[<-aa,w,w2];rfl))
 simp[go_sem,w2];refine zJ ab cB (zL sg rfl) rfl ?_;simp[go_sem];refine(A4 ra).elim (λw3=>?_) (λw3=>?_);.simp[go_sem,w3,ei];exact zG (i+1) ⟨om,⟨om,yes (by rw[<-aa,w,w2,w3];rfl)⟩,aO⟩
 .simp[go_sem,w3];exact bret (no (by rw[<-aa,w,w2,w3];rfl))
theorem xj6(l:List GAssign)(hl:l.length<=12)(hx:∀x∈l,x.name.length<=1048576/\EOk x.e):Pure prog 216 [.sl .ro (l.map GAssign.row)] (.bool (zR7 l)):=by
 have aa:=xU7 l hl hx;generalize hM:zR7 l=M;unfold zR7 at hM;generalize l.all mayA=a at aa hM;obtain⟨n,hn⟩:=eX l.length;rw[hn]at hM;have e1:=dec1 n;have e2:decide ((n:Int)<=6)=decide (n<=6):=xR2 n 6;refine iW 0 func216 ntmps216 results216 λc hc hb=>zO ?_;simp[go_sem,hn,e1];refine zY (λw=>?_) (λw=>?_);rotate_left;.simp[go_sem,w];exact bret (by rw[<-hM,w];rfl)
 simp[go_sem,w,hn,e2];refine zY (λw2=>?_) (λw2=>?_);rotate_left;.simp[go_sem,w2];exact bret (by rw[<-hM,w,w2];rfl)
 simp[go_sem,w2];refine zJ aa cB (zL sg rfl) rfl ?_;simp[go_sem];exact bret (by rw[<-hM,w,w2];rfl)
def yW0(st:GStmt):Bool:=!((!(st.kind==1)&&(!st.items.isEmpty||(!st.order.isEmpty||(st.down||!(st.limit==0)))))||((!(st.kind==2)&&!st.rows.isEmpty)||(!(st.kind==3)&&!st.sets.isEmpty)))
def xv5(st:GStmt):Bool:=ze1 st.table&&(if st.filtered=true then mayE 16 st.where_ else zm4 st.where_)
def yF2(st:GStmt):Bool:=if st.kind=1then zY9 st.items&&(((st.order.isEmpty&&!st.down)||ze1 st.order)&&decide (-1<=st.limit))else if st.kind=2then zR8 st.rows&&!st.filtered else if st.kind=3then zR7 st.sets else st.kind==4
def mayS(st:GStmt):Bool:=xv5 st&&(yW0 st&&yF2 st)
theorem zv0{α:Type}(l:List α):decide (0<l.length)=!l.isEmpty:=by cases l with |nil=>rfl|cons _ _=>exact decide_eq_true (by simp only[Ah];omega)
theorem xj7(st:GStmt)(hs:SOk st):Pure prog 140 [.agg st.row] (.bool (mayS st)):=by
 have ai:=zL5 st.table (by have:=hs.table;unfold maxLen;omega);have aj:=zL5 st.order (by have:=hs.order;unfold maxLen;omega);have af:=zB7 16 st.where_ dc hs.where_.wide hs.where_.good;have ak:=yZ2 st.where_ (by have:=hs.where_.wide.len;unfold maxLen;omega);have hit:=yT3 st.items hs.items.1 hs.items.2;have al:=xj5 st.rows hs.rows.1 hs.rows.2;have an:=xj6 st.sets hs.sets.1 hs.sets.2;simp only[Cb]at af;generalize hM:mayS st=M;unfold mayS xv5 yW0 yF2 at hM;obtain⟨k,hk⟩:=eX st.kind;obtain⟨f,hf⟩:=eX st.filtered;obtain⟨d,hd⟩:=eX st.down;rw[hk,hf,hd]at hM;generalize ze1 st.table=wt at ai hM;generalize ze1 st.order=wo at aj hM;generalize mayE 16 st.where_=me at af hM;generalize zm4 st.where_=bl at ak hM;generalize zY9 st.items=mi at hit hM;generalize zR8 st.rows=mr at al hM;generalize zR7 st.sets=ms at an hM;have ao:=zv0 st.items;have aq:=zv0 st.rows;have ar:=zv0 st.sets;have a1:(st.order !=[])=!st.order.isEmpty:=by cases st.order<;>rfl
 have ay:(st.order==[])=st.order.isEmpty:=by cases st.order<;>rfl
 generalize st.items.isEmpty=ie at ao hM;generalize st.rows.isEmpty=re at aq hM;generalize st.sets.isEmpty=se at ar hM;have hz:∀b:Bool,b=M->∀σ:St,wret (some (.bool b)) 0 (λr s=>r=.bool M/\s=[]) σ:=λb h σ=>bret h;have ag:((wt&&(if f=true then me else bl))=false->false=M)/\((wt&&(if f=true then me else bl))=true->(!((!(k==1)&&(!ie||(!st.order.isEmpty||(d||!(st.limit==0)))))||((!(k==2)&&!re)||(!(k==3)&&!se)))&&(if k=1then mi&&(((st.order.isEmpty&&!d)||wo)&&decide (-1<=st.limit))else if k=2then mr&&!f else if k=3then ms else k==4))=M):=by
  constructor;.intro h;rw[h]at hM;exact hM
  .intro h;rw[h,Ar]at hM;exact hM
 obtain⟨ab,ae⟩:=ag;clear hM;refine iV 0 func140 ntmps140 results140 λc hc hb=>?_;refine zR (zA ?_);simp[go_sem];refine xX (S:=Unit) [1] (λ_=>[.ptr 0 0]) (λ_=>[.box st.row]) (λ_=>(wt&&(if f=true then me else bl))=true) hc hb ?_ ?_
 .refine zA ?_;simp[go_sem];refine zJ ai cB (zL sg rfl) rfl ?_;refine(A4 wt).elim (λw=>?_) (λw=>?_);rotate_left;.simp[go_sem,w];exact bret (ab (by rw[w];rfl))
  simp[go_sem,w,hf];refine(A4 f).elim (λw2=>?_) (λw2=>?_)
  .simp[go_sem,w2];refine zJ af cB (zL sg (by rw[GExpr.row_eq];rfl)) rfl ?_;refine(A4 me).elim (λw3=>?_) (λw3=>?_);.simp[go_sem,w3,w2];exact zG () ⟨by rw[w,w2,w3];rfl,at_n 1 (by simp[go_sem,hk,hf,hd,w2]) rfl (by simp[ltOb,ltC,ltK]) (A2 _) (zC sg rfl)⟩
   .simp[go_sem,w3];exact bret (ab (by rw[w,w2,w3];rfl))
  .simp[go_sem,w2];refine zJ ak cB (zL sg (by rw[GExpr.row_eq];rfl)) rfl ?_;refine(A4 bl).elim (λw3=>?_) (λw3=>?_);.simp[go_sem,w3];exact zG () ⟨by rw[w,w2,w3];rfl,at_n 1 (by simp[go_sem,hk,hf,hd,w2]) rfl (by simp[ltOb,ltC,ltK]) (A2 _) (zC sg rfl)⟩
   .simp[go_sem,w3];exact bret (ab (by rw[w,w2,w3];rfl))
 .rintro _ h1;have hM:=ae h1;clear ab ae;generalize hB:(if k=1then mi&&(((st.order.isEmpty&&!d)||wo)&&decide (-1<=st.limit))else if k=2then mr&&!f else if k=3then ms else k==4)=B at hM;obtain⟨S,hS⟩:=eX (((!(k==1)&&(!ie||(!st.order.isEmpty||(d||!(st.limit==0)))))||((!(k==2)&&!re)||(!(k==3)&&!se))));rw[hS]at hM;have no:S=true->false=M:=λh=>by rw[h]at hM;exact hM
  have yes:S=false->B=M:=λh=>by rw[h]at hM;exact hM
  clear hM;have au:(st.limit !=0)=!(st.limit==0):=rfl;have av:(st.kind !=2)=!(k==2):=by rw[hk];rfl
  have aw:(st.kind !=3)=!(k==3):=by rw[hk];rfl
  have ax:(st.kind==1)=(k==1):=by rw[hk]
  refine zR (zA ?_);simp[go_sem];refine xX (S:=Unit) [1] (λ_=>[.ptr 0 0]) (λ_=>[.box st.row]) (λ_=>S=false) hc hb ?_ ?_
  .generalize(st.limit==0)=l0 at au hS;generalize(k==1)=k1 at ax hS;generalize(k==2)=k2 at av hS;generalize(k==3)=k3 at aw hS;clear yes hB;refine zA ?_;simp[go_sem,ax];repeat'(first |(refine zY (λw=>?_) (λw=>?_)<;>simp[go_sem,w,av,aw,au,ao,aq,ar,hd])|(refine zN (λw=>?_) (λw=>?_)<;>simp[go_sem,w]))
   all_goals first |exact bret (no (by rw[<-hS];simp_all))|exact zG () ⟨by rw[<-hS];simp_all,at_n 1 (by simp[go_sem,hd]<;>simp_all) rfl (by simp[ltOb,ltC,ltK]) (A2 _) (zC sg rfl)⟩
  .rintro _ az;have hM:=yes az;rw[<-hB]at hM;clear yes no hS hB;refine zA ?_;simp[go_sem,hk];by_cases k1:k=1
   .have aa:(k==1)=true:=by simpa using k1
    rw[if_pos k1]at hM;have a6:decide (-1<=st.limit)=decide (-1<=st.limit):=rfl;simp[go_sem,aa];refine zJ hit cB (zL sg rfl) rfl ?_;simp[go_sem];repeat'(first |(refine zY (λw=>?_) (λw=>?_)<;>simp[go_sem,w,ay,hd])|(refine zJ aj cB (zL sg rfl) rfl ?_;simp[go_sem]))
    all_goals exact bret (by rw[<-hM];simp_all)
   have aa:(k==1)=false:=by simpa using k1
   rw[if_neg k1]at hM;by_cases k2:k=2
   .have ad:(k==2)=true:=by simpa using k2
    rw[if_pos k2]at hM;simp[go_sem,aa,ad];refine zJ al cB (zL sg rfl) rfl ?_;simp[go_sem];refine(A4 mr).elim (λw=>?_) (λw=>?_);.simp[go_sem,w,hf];exact bret (by rw[<-hM,w];rfl)
    .simp[go_sem,w];exact bret (by rw[<-hM,w];rfl)
   have ad:(k==2)=false:=by simpa using k2
   rw[if_neg k2]at hM;by_cases k3:k=3
   .have ah:(k==3)=true:=by simpa using k3
    rw[if_pos k3]at hM;simp[go_sem,aa,ad,ah];refine zJ an cB (zL sg rfl) rfl ?_;simp[go_sem];exact bret hM
   have ah:(k==3)=false:=by simpa using k3
   rw[if_neg k3]at hM;simp[go_sem,aa,ad,ah];exact bret hM
def xv4(l:GLot):Bool:=(decide (0<=l.mode)&&(decide (l.mode<=2)&&(decide (0<=l.n)&&(!(l.mode==0&&!(l.n==0))))))&&(decide (1<=l.stmts.length)&&decide (l.stmts.length<=8))
def mayL(l:GLot):Bool:=xv4 l&&l.stmts.all mayS
theorem xn9(l:GLot)(hl:LOk l):Pure prog 84 [.agg l.row] (.bool (mayL l)):=by
 obtain⟨L,hL⟩:=eX l.stmts;obtain⟨m,hm⟩:=eX l.mode;obtain⟨n,hn⟩:=eX l.n;obtain⟨ag,ae⟩:=hl.stmts;rw[hL]at ag ae;generalize hM:mayL l=M;unfold mayL xv4 at hM;rw[hL,hm,hn]at hM;have no:∀h:Bool,(h&&L.all mayS)=M->h=false->false=M:=λh q w=>by rw[w]at q;exact q
 refine iV 0 func84 ntmps84 results84 λc hc hb=>?_;refine zR (zA ?_);simp[go_sem];refine xX (S:=Unit) [1] (λ_=>[.ptr 0 0]) (λ_=>[.box l.row]) (λ_=>L.all mayS=M) hc hb ?_ ?_
 .have d1:decide (m<0)=!decide (0<=m):=by
   by_cases h:0<=m;.rw[decide_eq_true h,decide_eq_false om];rfl
   .rw[decide_eq_false h,decide_eq_true om];rfl
  have d2:decide (2<m)=!decide (m<=2):=by
   by_cases h:m<=2;.rw[decide_eq_true h,decide_eq_false om];rfl
   .rw[decide_eq_false h,decide_eq_true om];rfl
  have d3:decide (n<0)=!decide (0<=n):=by
   by_cases h:0<=n;.rw[decide_eq_true h,decide_eq_false om];rfl
   .rw[decide_eq_false h,decide_eq_true om];rfl
  have d4:((L.length:Int)==0)=!decide (1<=L.length):=by
   by_cases h:1<=L.length;.rw[decide_eq_true h];simp;intro hh;rw[hh]at h;simp at h
   .rw[decide_eq_false h];have:L=[]:=B6 om;rw[this];rfl
  have d5:decide ((8:Int)<L.length)=!decide (L.length<=8):=by
   by_cases h:L.length<=8;.rw[decide_eq_true h,decide_eq_false om];rfl
   .rw[decide_eq_false h,decide_eq_true om];rfl
  have d6:(n !=0)=!(n==0):=rfl;generalize decide (0<=m)=b1 at d1 hM;generalize decide (m<=2)=b2 at d2 hM;generalize decide (0<=n)=b3 at d3 hM;generalize decide (1<=L.length)=b4 at d4 hM;generalize decide (L.length<=8)=b5 at d5 hM;generalize(n==0)=b6 at d6 hM;have af:=no _ hM;have ab:((b1&&(b2&&(b3&&(!(m==0&&!b6)))))&&(b4&&b5))=true->L.all mayS=M:=λh=>by rw[h,Ar]at hM;exact hM
  generalize ah:(m==0)=b7 at af ab;clear hM no;refine zA ?_;simp[go_sem,hm,hn,hL,d1];repeat'(first |(refine zY (λw=>?_) (λw=>?_)<;>simp[go_sem,w,ah,d2,d3,d4,d5,d6])|(refine zN (λw=>?_) (λw=>?_)<;>simp[go_sem,w]))
  all_goals first |exact bret (af (by simp_all))|exact zG () ⟨ab (by simp_all),at_n 1 (by simp[go_sem,hm,hn,hL]) rfl (by simp[ltOb,ltC,ltK]) (A2 _) (zC sg rfl)⟩
 .rintro _ hM;refine zA ?_;simp[go_sem,hL];refine zH (S:=Nat) [41,42,43] (λi=>[.sl .ro (L.map GStmt.row),.int .i64 L.length,.int .i64 (i:Int)]) (λ_=>[]) (λi=>L.length-i) (λi=>i<=L.length/\(L.drop i).all mayS=M) hc hb 0 ⟨A2 _,by rw[B8];exact hM⟩ ?_ ?_;.exact aO
  rintro i⟨hi,hinv⟩;by_cases q:i<L.length;rotate_left;.rw[A9 om]at hinv;refine zA ?_;simp[go_sem,q];exact bret hinv
  have ei:=zS q om;rw[zi1 _ _ _ q]at hinv;obtain⟨st,ad⟩:=eX (L[i]);have aa:=xj7 st (ae st (ad▸A8 q));rw[ad]at hinv;generalize mayS st=b at aa hinv;refine zA ?_;simp[go_sem,q,ad];refine zJ aa cB (zL sg rfl) rfl ?_;refine(A4 b).elim (λp=>?_) (λp=>?_);.rw[p,Ar]at hinv;simp[go_sem,p,ei];exact zG (i+1) ⟨om,⟨om,hinv⟩,aO⟩
  .rw[p,C7]at hinv;simp[go_sem,p];exact bret hinv
def zr7(T:GTable)(e:GExpr)(want:Int):Int:=if(xW T e).2≠0then(xW T e).2else if(xW T e).1≠want/\(xW T e).1≠0then 15 else 0
theorem iret{b M:Int}{σ:St}(h:b=M):wret (some (.int .i64 b)) 0 (λr s=>r=.int .i64 M/\s=[]) σ:=by subst h;exact wR
theorem yb7(T:GTable)(hT:T.cols.length<=maxLen)(e:GExpr)(he:EOk e)(want:Int):Pure prog 217 [.agg T.row,.agg e.row,.int .i64 want] (.int .i64 (zr7 T e want)):=by
 have h:=yv6 T hT e he;generalize hM:zr7 T e want=M;unfold zr7 at hM;generalize xW T e=k at h hM;refine iW 0 func217 ntmps217 results217 λc hc hb=>zO ?_;simp[go_sem];refine zJ h cB (zL sg (by rw[GExpr.row_eq];rfl)) rfl ?_;simp[go_sem,yL];by_cases q1:k.2=0;rotate_left
 .have aa:(k.2!=0)=true:=by simpa using q1
  rw[if_pos q1]at hM;simp[go_sem,aa];exact iret hM
 have aa:(k.2!=0)=false:=by simpa using q1
 rw[if_neg (λh=>h q1)]at hM;simp[go_sem,aa];by_cases q2:k.1=want
 .have ab:(k.1!=want)=false:=by simpa using q2
  rw[if_neg (λh=>h.1 q2)]at hM;simp[go_sem,ab];exact iret hM
 have ab:(k.1!=want)=true:=by simpa using q2
 simp[go_sem,ab];by_cases q3:k.1=0
 .have ad:(k.1!=0)=false:=by simpa using q3
  rw[if_neg (λh=>h.2 q3)]at hM;simp[go_sem,ad];exact iret hM
 .have ad:(k.1!=0)=true:=by simpa using q3
  rw[if_pos ⟨q2,q3⟩]at hM;simp[go_sem,ad];exact iret hM
def zm9(T:GTable)(st:GStmt):Int:=if st.filtered=true then zr7 T st.where_ 1 else 0
theorem yP9(T:GTable)(hT:T.cols.length<=maxLen)(st:GStmt)(hs:SOk st):Pure prog 144 [.agg T.row,.agg st.row] (.int .i64 (zm9 T st)):=by
 have h:=yb7 T hT st.where_ hs.where_ 1;generalize hM:zm9 T st=M;unfold zm9 at hM;generalize zr7 T st.where_ 1=k at h hM;refine iW 0 func144 ntmps144 results144 λc hc hb=>zO ?_;simp[go_sem];refine(A4 st.filtered).elim (λw=>?_) (λw=>?_);.rw[if_pos w]at hM;simp[go_sem,w];refine zJ h cB (zL sg (by rw[GExpr.row_eq];rfl)) rfl ?_;simp[go_sem];exact iret hM
 .rw[if_neg (by rw[w];decide)]at hM;simp[go_sem,w];exact iret hM
def zM8(T:GTable)(x:GItem):Int:=if x.kind=2then(xW T x.e).2else if x.kind=4then zr7 T x.e 2 else 0
def zc2(T:GTable):List GItem->Int|[]=>0|x::l=>if zM8 T x≠0then zM8 T x else zc2 T l
def zd1(l:List GItem):Bool:=l.any λx=>x.kind==2
def zc6(l:List GItem):Bool:=l.any λx=>x.kind==3||x.kind==4
def endC(T:GTable)(st:GStmt):Int:=if st.order.isEmpty=true then 0 else if colF T st.order<0then 14 else if zc6 st.items=true then 9 else 0
def zD5(T:GTable)(st:GStmt):Int:=if zc2 T st.items≠0then zc2 T st.items else if(zd1 st.items&&zc6 st.items)=true then 9 else if zm9 T st≠0then zm9 T st else endC T st
theorem xr5(T:GTable)(hT:T.cols.length<=maxLen)(st:GStmt)(hs:SOk st):Pure prog 141 [.agg T.row,.agg st.row] (.int .i64 (zD5 T st)):=by
 obtain⟨L,hL⟩:=eX st.items;obtain⟨an,ai⟩:=hs.items;rw[hL]at an ai;have ah:=yP9 T hT st hs;have af:=yo9 T st.order hT;rw[show wH (λc:GCol=>c.name==st.order) T.cols 0=colF T st.order from rfl]at af;generalize hM:zD5 T st=M;unfold zD5 endC at hM;rw[hL]at hM;refine iV 0 func141 ntmps141 results141 λc hc hb=>?_;refine zR (zA ?_);simp[go_sem];refine zR (zA ?_);simp[go_sem];refine xX (S:=Unit) [2,3,5,6] (λ_=>[.ptr 0 0,.ptr 1 0,.bool (zd1 L),.bool (zc6 L)]) (λ_=>[.box T.row,.box st.row]) (λ_=>zc2 T L=0) hc hb ?_ ?_
 .refine zR (zA ?_);simp[go_sem,hL];refine za2 ?_;refine zH (S:=Nat×Bool×Bool) [2,3,5,6,12,13,14] (λu=>[.ptr 0 0,.ptr 1 0,.bool u.2.1,.bool u.2.2,.sl .ro (L.map GItem.row),.int .i64 L.length,.int .i64 (u.1:Int)]) (λ_=>[.box T.row,.box st.row]) (λu=>L.length-u.1) (λu=>u.1<=L.length/\(u.2.1||zd1 (L.drop u.1))=zd1 L/\(u.2.2||zc6 (L.drop u.1))=zc6 L/\zc2 T (L.drop u.1)=zc2 T L) hc hb (0,false,false) ⟨A2 _,sm,sm,sm⟩ ?_ ?_;.exact at_n 2 (by simp[go_sem,hL]) rfl (by simp[ltOb,ltC,ltK,GTable.row,GStmt.row]) (A2 _) (zC sg rfl)
  rintro⟨i,pl,wh⟩⟨hi,hp,hw,hinv⟩;simp only at hi hp hw hinv;by_cases q:i<L.length;rotate_left
  .rw[A9 om]at hp hw hinv;have hp:pl=zd1 L:=by rw[<-hp];exact(E2 _).symm
   have hw:wh=zc6 L:=by rw[<-hw];exact(E2 _).symm
   refine zA ?_;simp[go_sem,q];exact zG () ⟨hinv.symm,aM 2 (by simp[ltOb,ltC,ltK]) (zC (by simp[go_sem,hp,hw]) rfl)⟩
  have ei:=zS q om;obtain⟨x,hx⟩:=eX (L[i]);have hE:=(ai x (hx▸A8 q)).2;rw[A5 q,hx]at hp hw hinv;unfold zd1 at hp;unfold zc6 at hw;rw[D8]at hp hw;rw[zc2]at hinv;have bad:zM8 T x≠0->zM8 T x=M:=λh=>by rw[if_pos h]at hinv;rw[<-hM,<-hinv,if_pos h]
  have good:zM8 T x=0->zc2 T (L.drop (i+1))=zc2 T L:=λh=>by rw[if_neg (λg=>g h)]at hinv;exact hinv
  clear hinv;unfold zM8 at bad good;have aj:=yv6 T hT x.e hE;have ak:=yb7 T hT x.e hE 2;generalize xW T x.e=ty at aj bad good;generalize zr7 T x.e 2=kc at ak bad good;have go:∀(a b:Bool)(e σ),(a||zd1 (L.drop (i+1)))=zd1 L->(b||zc6 (L.drop (i+1)))=zc6 L->zc2 T (L.drop (i+1))=zc2 T L->At 0 [2,3,5,6,12,13,14] [.ptr 0 0,.ptr 1 0,.bool a,.bool b,.sl .ro (L.map GItem.row),.int .i64 L.length,.int .i64 ((i+1:Nat):Int)] [.box T.row,.box st.row] e σ->Vx.Next (λs':Nat×Bool×Bool=>L.length-s'.1<L.length-i/\(s'.1<=L.length/\(s'.2.1||zd1 (L.drop s'.1))=zd1 L/\(s'.2.2||zc6 (L.drop s'.1))=zc6 L/\zc2 T (L.drop s'.1)=zc2 T L)/\At 0 [2,3,5,6,12,13,14] [.ptr 0 0,.ptr 1 0,.bool s'.2.1,.bool s'.2.2,.sl .ro (L.map GItem.row),.int .i64 L.length,.int .i64 (s'.1:Int)] [.box T.row,.box st.row] e σ) fx:=λa b e σ h1 h2 h3 h4=>zG (i+1,a,b) ⟨by simp only;omega,⟨by simp only;omega,h1,h2,h3⟩,h4⟩;refine zA ?_;simp[go_sem,q,hx];by_cases k2:x.kind=2
  .have ab:(x.kind==2)=true:=by simpa using k2
   rw[if_pos k2]at bad good;have ao:(x.kind==3||x.kind==4)=false:=by rw[k2];rfl
   simp only[ab,De,Eo]at hp;simp only[ao,C8]at hw;simp[go_sem,ab];refine zJ aj cB (zL sg (by rw[GExpr.row_eq];rfl)) rfl ?_;by_cases qe:ty.2=0
   .have aa:(ty.2!=0)=false:=by simpa using qe
    simp[go_sem,yL,aa,ei];exact go true wh _ _ (by rw[De];exact hp) hw (good qe) (aN 2 (by simp[ltOb,ltC,ltK,GTable.row,GStmt.row]))
   .have aa:(ty.2!=0)=true:=by simpa using qe
    simp[go_sem,yL,aa];exact iret (bad qe)
  rw[if_neg k2]at bad good;have ab:(x.kind==2)=false:=by simpa using k2
  simp only[ab,C8]at hp;by_cases k4:x.kind=4
  .have ae:(x.kind==4)=true:=by simpa using k4
   rw[if_pos k4]at bad good;simp only[ae,De,Eo]at hw;simp[go_sem,ab,ae];refine zJ ak cB (zL sg (by rw[GExpr.row_eq];rfl)) rfl ?_;by_cases qe:kc=0
   .have aa:(kc !=0)=false:=by simpa using qe
    simp[go_sem,aa,ei];exact go pl true _ _ hp (by rw[De];exact hw) (good qe) (aN 2 (by simp[ltOb,ltC,ltK,GTable.row,GStmt.row]))
   .have aa:(kc !=0)=true:=by simpa using qe
    simp[go_sem,aa];exact iret (bad qe)
  rw[if_neg k4]at bad good;have ae:(x.kind==4)=false:=by simpa using k4
  by_cases k3:x.kind=3
  .have ag:(x.kind==3)=true:=by simpa using k3
   simp only[ag,De,Eo]at hw;simp[go_sem,ab,ae,ag,ei];exact go pl true _ _ hp (by rw[De];exact hw) (good rfl) (aN 2 (by simp[ltOb,ltC,ltK,GTable.row,GStmt.row]))
  .have ag:(x.kind==3)=false:=by simpa using k3
   simp only[ag,ae,C8]at hw;simp[go_sem,ab,ae,ag,ei];exact go pl wh _ _ hp hw (good rfl) (aN 2 (by simp[ltOb,ltC,ltK,GTable.row,GStmt.row]))
 .rintro _ hI;rw[if_neg (λh=>h hI)]at hM;generalize zd1 L=pl at hM⊢;generalize zc6 L=wh at hM⊢;generalize zm9 T st=wc at ah hM;have al:(st.order==[])=st.order.isEmpty:=by cases st.order<;>rfl
  refine zA ?_;simp[go_sem];refine(A4 (pl&&wh)).elim (λw=>?_) (λw=>?_)
  .rw[if_pos w]at hM;have w1:pl=true:=by cases pl<;>simp_all
   have w2:wh=true:=by cases wh<;>simp_all
   simp[go_sem,w1,w2];exact iret hM
  rw[if_neg (by rw[w];decide)]at hM;refine zY (λw1=>?_) (λw1=>?_)
  .have w2:wh=false:=by cases wh<;>simp_all
   simp[go_sem,w1,w2];refine zJ ah cB (zL sg rfl) rfl ?_;by_cases qe:wc=0;rotate_left
   .have aa:(wc !=0)=true:=by simpa using qe
    rw[if_pos qe]at hM;simp[go_sem,aa];exact iret hM
   have aa:(wc !=0)=false:=by simpa using qe
   rw[if_neg (λh=>h qe)]at hM;simp[go_sem,aa,al];refine(A4 st.order.isEmpty).elim (λw3=>?_) (λw3=>?_);.rw[if_pos w3]at hM;simp[go_sem,w3];exact iret hM
   rw[if_neg (by rw[w3];decide)]at hM;simp[go_sem,w3];refine zJ af cB (zL sg rfl) rfl ?_;by_cases qc:colF T st.order<0;.have ad:decide (colF T st.order<0)=true:=decide_eq_true qc;rw[if_pos qc]at hM;simp[go_sem,ad];exact iret hM
   have ad:decide (colF T st.order<0)=false:=decide_eq_false qc;rw[if_neg qc]at hM;simp[go_sem,ad];rw[if_neg (by rw[w2];decide)]at hM;exact iret hM
  .have w1:pl=false:=by simpa using w1
   simp[go_sem,w1];refine zJ ah cB (zL sg rfl) rfl ?_;by_cases qe:wc=0;rotate_left
   .have aa:(wc !=0)=true:=by simpa using qe
    rw[if_pos qe]at hM;simp[go_sem,aa];exact iret hM
   have aa:(wc !=0)=false:=by simpa using qe
   rw[if_neg (λh=>h qe)]at hM;simp[go_sem,aa,al];refine(A4 st.order.isEmpty).elim (λw3=>?_) (λw3=>?_);.rw[if_pos w3]at hM;simp[go_sem,w3];exact iret hM
   rw[if_neg (by rw[w3];decide)]at hM;simp[go_sem,w3];refine zJ af cB (zL sg rfl) rfl ?_;by_cases qc:colF T st.order<0;.have ad:decide (colF T st.order<0)=true:=decide_eq_true qc;rw[if_pos qc]at hM;simp[go_sem,ad];exact iret hM
   have ad:decide (colF T st.order<0)=false:=decide_eq_false qc;rw[if_neg qc]at hM;simp[go_sem,ad];refine(A4 wh).elim (λw4=>?_) (λw4=>?_);.rw[if_pos w4]at hM;simp[go_sem,w4];exact iret hM
   .rw[if_neg (by rw[w4];decide)]at hM;simp[go_sem,w4];exact iret hM
theorem yG0(x:Int):Pure prog 188 [.int .i64 x] (.bool false):=by refine iW 0 func188 ntmps188 results188 λc hc hb=>zO ?_;simp[go_sem];exact wR
def cmpI(x y:Int):Int:=if x<y then-1 else if x>y then 1 else 0
theorem yF9(x y:Int):Pure prog 119 [.int .i64 x,.int .i64 y] (.int .i64 (cmpI x y)):=by
 generalize hM:cmpI x y=M;have ret:∀(r:Int)(σ:St),r=M->wret (some (.int .i64 r)) 0 (λr s=>r=.int .i64 M/\s=[]) σ:=λr σ h=>by subst h;exact wR
 unfold cmpI at hM;refine iW 0 func119 ntmps119 results119 λc hc hb=>zO ?_;simp[go_sem];refine pC (yG0 x) ?_;simp[go_sem];refine pC (yG0 y) ?_;simp[go_sem];repeat'(first|(refine zN (λq=>?_) (λq=>?_)<;>simp[go_sem,q]))
 all_goals exact ret _ _ (by rw[<-hM];simp only[decide_eq_true_eq,decide_eq_false_iff_not]at*;(repeat' split)<;>omega)
end Go.Proofs.YtefbicjgbaaieaaGreat
namespace Go.Proofs.YtefbicjgbaaieaaGreat
open Go Go.Vx Go.Proofs.Tryz
set_option maxRecDepth 100000
end Go.Proofs.YtefbicjgbaaieaaGreat
namespace Go.Proofs.YtefbicjgbaaieaaGreat
open Go Go.Vx Go.Proofs.Tryz
set_option maxRecDepth 100000
set_option maxHeartbeats 1000000
end Go.Proofs.YtefbicjgbaaieaaGreat
namespace Go.Proofs.YtefbicjgbaaieaaGreat
open Go Go.Vx R Go.Proofs.Tryz
set_option maxRecDepth 100000
section
variable{b:List V}{rows:List (List V)}{A:List Nat}{τ:St}
end
theorem zs6(id off s:Nat)(cells:List V){P:Program}{c:Ctx}{nt:Nat}{e:Env}{σ:St}{Q:QT}{y:Code}(h0:0<s)(hσ:σ[id]?=some (.box cells))(hc:cells[off]?=some (.sl .full [])) (hy:wVW P c nt y Q fx fx e (σ.set id (.box (cells.set off (.lsv σ.length s 0 0 0)))++[.lst [] s])):wVW P c nt y Q fx fx e σ:=by intro a w L β hs;obtain⟨x,h1,h2⟩:=xc7 hs.mem h0 hσ hc;exact hy a w L (β++[x]) ⟨h1,hs.size,hs.defs,λk=>(hs.env k).mono (Le.refl _ _) h2⟩
def ze0(name:List UInt8):Int:=wH (λT:GTable=>T.name==name) tabsS 0
theorem yw1:∀(n:Nat)(q l:List GExpr),(bfs n q l).length<=l.length+n
 |0,_,_=>A3 _|n+1,[],l=>by rw[bfs];omega|n+1,e::q,l=>by
  rw[bfs];split;.have:=yw1 n (q++e.args) l;omega
  .have:=yw1 n q (l++[e]);simp at this;omega
theorem yp7(st:GStmt):(zt4 st).length<=4096:=by
 unfold zt4;split;.have:=yw1 4096 [st.where_] [];simpa using this
 .simp
theorem zJ4(name:List UInt8):ze0 name=-1∨ze0 name=0∨ze0 name=1∨ze0 name=2:=by have h:=zr4 (λT:GTable=>T.name==name) tabsS 0;have hl:tabsS.length=3:=rfl;rw[hl]at h;unfold ze0;omega
theorem yA8(t:Int)(st:GStmt):(zc3 t st).length<=2:=by
 unfold zc3;split;.exact yG3 _ _
 .split;.simp
  .split<;>simp
def VOk(st:GStmt):Prop:=∀e∈zt4 st,∀name s v,ze9 e name=some (s,v)->v.ok
def tab00:GTable:=⟨[],[],0,0,0,⟨[],[],[],0,0,0⟩⟩
def zz7:List GCol->List GExpr->Int|c::cs,e::es=>if zr7 tab00 e c.kind≠0then zr7 tab00 e c.kind else zz7 cs es|_,_=>0
def zA0(T:GTable)(r:List GExpr):Int:=if r.length≠T.cols.length then 9 else zz7 T.cols r
def zN5(T:GTable):List (List GExpr)->Int |[]=>0|r::l=>if zA0 T r≠0then zA0 T r else zN5 T l
theorem xp8{ρ:Nat->Nat}{g1 g2 g3 g4:Tag}:argS ρ (.agg tab00.row) (.agg [.str [],.sl g1 [],.int .i64 0,.int .i64 0,.int .i64 0,.sl g2 [],.sl g3 [],.sl g4 [],.int .i64 0,.int .i64 0,.int .i64 0]):=zv4 ⟨zU rfl,yY,zU rfl,zU rfl,zU rfl,yY,yY,yY,zU rfl,zU rfl,zU rfl,tV⟩
theorem zH0{ρ:Nat->Nat}(e:GExpr):argS ρ (.agg e.row) (.agg [.int .i64 e.kind,.str e.s,.int .i64 e.v.kind,.int .i64 e.v.n,.str e.v.s,.sl .ro (e.args.map GExpr.row)]):=by rw[GExpr.row_eq];exact zD rfl
theorem st_T(T:GTable)(st:GStmt)(n:Nat):([.box T.row,.box st.row]:St).all (ltOb n)=true:=by simp[ltOb,ltC,ltK,GTable.row,GStmt.row]
theorem xi2(T:GTable)(_hT:T.cols.length<=1000)(st:GStmt)(hs:SOk st):Pure prog 142 [.agg T.row,.agg st.row] (.int .i64 (zN5 T st.rows)):=by
 obtain⟨R,hR⟩:=eX st.rows;obtain⟨ai,ag⟩:=hs.rows;rw[hR]at ai ag;rw[hR];generalize hM:zN5 T R=M;refine iV 0 func142 ntmps142 results142 λc hc hb=>?_;refine zA ?_;simp[go_sem,hR];refine zH (S:=Nat) [2,3,11,12,13] (λi=>[.ptr 0 0,.ptr 1 0,.sl .ro (R.map λr=>[V.sl .ro (r.map GExpr.row)]),.int .i64 R.length,.int .i64 (i:Int)]) (λ_=>[.box T.row,.box st.row]) (λi=>R.length-i) (λi=>i<=R.length/\zN5 T (R.drop i)=M) hc hb 0 ⟨A2 _,hM⟩ ?_ ?_;.exact at_n 2 (by simp[go_sem,hR]) rfl (st_T T st 2) (A2 _) (zC sg rfl)
 rintro i⟨hi,hinv⟩;by_cases q:i<R.length;rotate_left;.rw[A9 om]at hinv;refine zA ?_;simp[go_sem,q];exact iret hinv
 have ei:=zS q om;obtain⟨r,hr⟩:=eX (R[i]);obtain⟨ak,aj⟩:=ag r (hr▸A8 q);rw[A5 q,hr,zN5]at hinv;by_cases q2:r.length=T.cols.length;rotate_left
 .have ad:((r.length:Int)!=T.cols.length)=true:=by simp;omega
  have ae:zA0 T r=9:=by unfold zA0;rw[if_pos q2]
  rw[ae,if_pos dc]at hinv;refine zA ?_;simp[go_sem,q,hr,ad];exact iret hinv
 have ad:((r.length:Int)!=T.cols.length)=false:=by simp;omega
 have ae:zA0 T r=zz7 T.cols r:=by unfold zA0;rw[if_neg (λh=>h q2)]
 rw[ae]at hinv;obtain⟨C,hC⟩:=eX (zz7 T.cols r);rw[hC]at hinv;refine zA ?_;simp[go_sem,q,hr,ad];refine zH (S:=Nat) [2,3,11,12,13,23,24,25] (λk=>[.ptr 0 0,.ptr 1 0,.sl .ro (R.map λr=>[V.sl .ro (r.map GExpr.row)]),.int .i64 R.length,.int .i64 (i:Int),.sl .ro (r.map GExpr.row),.int .i64 r.length,.int .i64 (k:Int)]) (λ_=>[.box T.row,.box st.row]) (λk=>r.length-k) (λk=>k<=r.length/\zz7 (T.cols.drop k) (r.drop k)=C) hc hb 0 ⟨A2 _,hC⟩ ?_ ?_;.exact at_n 2 (by simp[go_sem,hR]) rfl (st_T T st 2) (A2 _) (zC sg rfl)
 rintro k⟨hk,aa⟩;by_cases qk:k<r.length;rotate_left;.rw[A9 om,A9 om]at aa;have aa:C=0:=aa.symm;rw[if_neg (λh=>h aa)]at hinv;refine zA ?_;simp[go_sem,qk,ei];exact zG (i+1) ⟨om,⟨om,hinv⟩,aN 2 (st_T T st 2)⟩
 have ek:=zS qk om;have qc:k<T.cols.length:=om;obtain⟨e,he⟩:=eX (r[k]);obtain⟨c1,ah⟩:=eX (T.cols[k]);have hE:=aj e (he▸A8 qk);rw[A5 qk,A5 qc,he,ah,zz7]at aa;have ab:=yb7 tab00 dc e hE c1.kind;generalize zr7 tab00 e c1.kind=kc at ab aa;refine zA ?_;simp[go_sem,qk,he];refine yR [(8,0)] 3 sm kR kR ?_;simp[go_sem,qc,ah];refine xE ab cB (λ_=>⟨xp8,zH0 e,zD rfl,tV⟩) rfl ?_;simp[go_sem];by_cases qe:kc=0
 .have af:(kc !=0)=false:=by simpa using qe
  rw[if_neg (λh=>h qe)]at aa;simp[go_sem,af,ek];exact zG (k+1) ⟨om,⟨om,aa⟩,aN 2 (st_T T st 2)⟩
 .have af:(kc !=0)=true:=by simpa using qe
  rw[if_pos qe]at aa;rw[if_pos (by rw[<-aa];exact qe)]at hinv;simp[go_sem,af];exact iret (aa.trans hinv)
def zf9(T:GTable):List GAssign->List GAssign->Int
 |_,[]=>0|p,x::l=>if colF T x.name<0then 14 else if colF T x.name=T.key∨(colF T x.name=0/\T.place=0)then 18 else if(p.any λy=>y.name==x.name)=true then 9 else if zr7 T x.e (colK T (colF T x.name))≠0then zr7 T x.e (colK T (colF T x.name))else zf9 T (p++[x]) l
theorem st_x(x:GAssign):ltOb 0 (.box x.row)=true:=by simp[ltOb,ltC,ltK,GAssign.row]
theorem yV6(x y:GAssign):VCalls prog 219 [.agg y.row,.ptr 0 0] [.box x.row] (λr σ=>r=.bool (y.name==x.name)/\σ=[.box x.row]):=by refine iW 1 func219 ntmps219 results219 λc hc hb=>zO ?_;simp[go_sem];exact xP 1 rfl rfl (by simp[ltOb,ltC,ltK]) (A3 _) (zD rfl) ⟨rfl,rfl⟩
theorem xV3(x:GAssign)(l:List GAssign)(hl:l.length<=12):VCalls prog 278 [.sl .ro (l.map GAssign.row),.fn 219 [.ptr 0 0]] [.box x.row] (λr σ=>r=.int .i64 (zc1 (λy=>y.name==x.name) l 0)/\σ=[.box x.row]):=by
 generalize hM:zc1 (λy:GAssign=>y.name==x.name) l 0=M;have ret:∀(r:Int)(σ:St),r=M->wret (some (.int .i64 r)) 1 (λr s=>r=.int .i64 M/\s=[.box x.row]) (.box x.row::σ):=λr σ h=>by subst h;exact xP 1 rfl rfl (by simp[ltOb,ltC,ltK,GAssign.row]) (A3 _) (zD rfl) ⟨rfl,rfl⟩
 refine iV 1 func278 ntmps278 results278 λc hc hb=>?_;refine zA ?_;simp[go_sem];refine zH (S:=Nat) [0,1,6,7,8] (λi=>[.sl .ro (l.map GAssign.row),.fn 219 [.ptr 0 0],.sl .ro (l.map GAssign.row),.int .i64 l.length,.int .i64 (i:Int)]) (λ_=>[.box x.row]) (λi=>l.length-i) (λi=>i<=l.length/\zc1 (λy=>y.name==x.name) (l.drop i) i=M) hc hb 0 ⟨A2 _,hM⟩ ?_ ?_;.exact aN 1 (by simp[ltOb,ltC,ltK,GAssign.row])
 rintro i⟨hi,hinv⟩;by_cases q:i<l.length;rotate_left;.rw[A9 om]at hinv;refine zA ?_;simp[go_sem,q];exact ret _ _ hinv
 have ei:=zS q om;obtain⟨y,hy⟩:=eX (l[i]);rw[A5 q,hy,zc1]at hinv;have aa:=yV6 x y;generalize(y.name==x.name)=b at aa hinv;refine zA ?_;simp[go_sem,q,hy];refine zk6 0 aa cB rfl (st_x x) ⟨zD rfl,.inl rfl,tV⟩ (λr σ h=>⟨_,h.2,st_x x⟩) ?_;rintro r o2⟨rfl,h2⟩;obtain rfl:o2=.box x.row:=by simpa using h2
 refine(A4 b).elim (λp=>?_) (λp=>?_);.rw[if_pos p]at hinv;simp[go_sem,p];exact ret _ _ hinv
 .rw[if_neg (by rw[p];decide)]at hinv;simp[go_sem,p,ei];exact zG (i+1) ⟨om,⟨om,hinv⟩,aN 1 (by simp[ltOb,ltC,ltK])⟩
theorem xU8(x:GAssign)(l:List GAssign)(hl:l.length<=12):VCalls prog 218 [.sl .ro (l.map GAssign.row),.fn 219 [.ptr 0 0]] [.box x.row] (λr σ=>r=.bool (l.any λy=>y.name==x.name)/\σ=[.box x.row]):=by
 have h:=xV3 x l hl;have hg:=zB1 (λy:GAssign=>y.name==x.name) l 0;rw[<-hg];generalize zc1 (λy:GAssign=>y.name==x.name) l 0=n at h⊢;refine iW 1 func218 ntmps218 results218 λc hc hb=>zO ?_;simp[go_sem];refine zk6 0 h cB rfl (st_x x) ⟨zD rfl,.inl (by simp[renS,renA,renC,renK,ren]),tV⟩ (λr σ h=>⟨_,h.2,st_x x⟩) ?_;rintro r o2⟨rfl,h2⟩;obtain rfl:o2=.box x.row:=by simpa using h2
 simp[go_sem];exact xP 1 rfl rfl (by simp[ltOb,ltC,ltK]) (A3 _) (zD rfl) ⟨rfl,rfl⟩
end Go.Proofs.YtefbicjgbaaieaaGreat
