/-
  Which lots have a text, by the document, over trees (the library Vx); used by the theorem at the end of the claim.
  Conditions: as each theorem states them.
-/
import Derived.Test.YtefbicjgbaaieaaGreatLAI
import Derived.Test.YtefbicjgbaaieaaGreatLAM
import Derived.Test.YtefbicjgbaaieaaGreatLAL
import Derived.Test.YtefbicjgbaaieaaGreatLAE
import Derived.Lib.Overlaps
import Derived.Lib.AppendZerosOnto
import Derived.Laws.Externs
import Derived.Laws.IdiomCopy
import Derived.Deep.RegionLaw
set_option maxHeartbeats 8000000
namespace Go.Proofs.YtefbicjgbaaieaaGreat
open Go Go.Vx Go.Proofs.Tryz
set_option maxRecDepth 100000
theorem S9(c:UInt8):Pure prog 268 [.int .u8 c.toNat] (.bool (jN c)):=by
 unfold jN;generalize c.toNat=n;generalize hM:decide (48<=n/\n<=57)=M;have ret:∀(r:Bool)(U:St),r=M->bW (some (.bool r)) 0 (λr s=>r=.bool M/\s=[]) U:=λr U h=>by subst h;exact zV (zD rfl) sm
 refine iW 0 func268 ntmps268 results268 λc hc hb=>zM ?_;simp[go_sem];refine yA (λq=>?_) (λq=>?_);.simp[go_sem,q];refine ret _ _ ?_;rw[<-hM];grind
 .simp[go_sem,q];refine ret _ _ ?_;grind
theorem xe2:∀n:Fin 256,mL (UInt8.ofNat n.1)=(((decide (97<=jX .or .u8 (n.1:Nat) 32)&&decide (jX .or .u8 (n.1:Nat) 32<=122))&&decide (65<=((n.1:Nat):Int)))||(((n.1:Nat):Int)==95)):=dc
theorem yS5(c:UInt8):Pure prog 338 [.int .u8 c.toNat] (.bool (mL c)):=by
 have h:=xe2 ⟨c.toNat,c.toNat_lt⟩;simp only[UInt8.ofNat_toNat]at h;rw[h];clear h;obtain⟨n,hn⟩:=eX c.toNat;simp only[hn];generalize hg:jX .or .u8 (n:Nat) 32=g;refine iW 0 func338 ntmps338 results338 λc hc hb=>zM ?_;simp[go_sem,hg];refine(A1 (decide (97<=g))).elim (λq1=>?_) (λq1=>?_)
 .refine(A1 (decide (g<=122))).elim (λq2=>?_) (λq2=>?_)
  .refine(A1 (decide (65<=(n:Int)))).elim (λq3=>?_) (λq3=>?_);.rw[q1,q2,q3];simp[go_sem,hg,q2,q3];exact zV (zD rfl) sm
   .rw[q1,q2,q3];simp[go_sem,hg,q2,q3];exact zV (zD rfl) sm
  .rw[q1,q2];simp[go_sem,hg,q2];exact zV (zD rfl) sm
 .rw[q1];simp[go_sem];exact zV (zD rfl) sm
def p7 (c:UInt8):Bool:=mL c||jN c
theorem xe4(c:UInt8):Pure prog 270 [.int .u8 c.toNat] (.bool (p7 c)):=by
 have h1:=yS5 c;have h2:=S9 c;unfold p7;generalize mL c=a at h1⊢;generalize jN c=b at h2⊢;refine iW 0 func270 ntmps270 results270 λc hc hb=>zM ?_;simp[go_sem];refine pC h1 ?_;simp[go_sem];refine(A1 a).elim (λq=>?_) (λq=>?_);.simp[go_sem,q];exact zV (zD rfl) sm
 .simp[go_sem,q];refine pC h2 ?_;simp[go_sem];exact zV (zD rfl) (by grind)
def mT(p:UInt8->Bool):aij->Nat|[]=>0|c::l=>if p c=true then mT p l+1 else 0
theorem xM4(s:aij)(hl:s.length<=maxLen):Pure prog 269 [.str s,.fn 270 []] (.int .i64 (mT p7 s:Nat)):=by
 generalize hM:mT p7 s=M;have ret:∀(r:Nat)(U:St),r=M->bW (some (.int .i64 r)) 0 (λr s=>r=.int .i64 (M:Nat)/\s=[]) U:=λr U h=>by subst h;exact zV (zD rfl) sm
 refine iV 0 func269 ntmps269 results269 λc hc hb=>?_;refine zA ?_;simp[go_sem];refine zG (S:=Nat) [0,1,5] (λi=>[.str s,.fn 270 [],.int .i64 i]) (λ_=>[]) (λi=>s.length-i) (λi=>i<=s.length/\i+mT p7 (s.drop i)=M) hc hb 0 (by grind) ?_ ?_;.exact fg rfl (zK (by rfl) rfl)
 rintro i⟨hi,hinv⟩;by_cases q:i<s.length;rotate_left;.rw[Bj om,mT,D6]at hinv;refine zA ?_;simp[go_sem,q];exact ret _ _ hinv
 have ei:=zR q (by unfold maxLen at hl;omega);obtain⟨x,hx⟩:=eX (s[i]);rw[A2 q,hx,mT]at hinv;have aa:=xe4 x;obtain⟨b,ab⟩:=eX (p7 x);rw[ab]at aa hinv;refine zA ?_;simp[go_sem,q,hx];refine pC aa ?_;simp[go_sem];refine(A1 b).elim (λw=>?_) (λw=>?_);.rw[ahP w]at hinv;simp[go_sem,w,ei];exact zH (i+1) ⟨om,om,fg rfl (zK (by rfl) rfl)⟩
 .rw[ahO (by grind)]at hinv;simp[go_sem,w];exact ret _ _ om
theorem Ta(p:UInt8->Bool):∀s:aij,decide (mT p s<s.length)=!(s.all p)
 |[]=>by rfl|c::l=>by have h:=Ta p l;unfold mT;grind
def Ge:aij->List aij |[]=>[]|c::l=>if c=32/\32∈l then l.takeWhile (·!=32)::Ge l else Ge l
theorem Tb:∀(s l:aij),(∀c∈s,c≠32)->((s++[32]).isPrefixOf l=true↔l.takeWhile (·!=32)=s/\32∈l)
 |[],[],_=>by simp|[],c::l,_=>by
  by_cases h:c=32;.simp_all
  .have h':(c !=32)=true:=by grind
   have h2:¬(32=c):=(by grind);simp_all|a::s,[],_=>by simp|a::s,c::l,hs=>by have ih:=Tb s l λx hx=>hs x (by simp[hx]);have ha:a≠32:=(by grind);rw[Bg,List.isPrefixOf,A8,ih];grind[List.takeWhile_cons_of_neg,D0]
theorem Tc(s:aij)(hs:∀c∈s,c≠32):∀T:aij,0<=Lib.index T (32::(s++[32]))↔s∈Ge T
 |[]=>by grind[Lib.index,Ge]|b::l=>by have ih:=Tc s hs l;have hg:=Lib.index_ge l (32::(s++[32]));have hp:=Tb s l hs;unfold Lib.index Ge;grind
def HT:aij:=[32,65,76,76,32,65,78,68,32,65,83,32,65,83,67,32,66,69,84,87,69,69,78,32,66,79,85,78,68,32,66,89,32,67,79,85,78,84,32,68,69,76,69,84,69,32,68,69,83,67,32,69,88,65,67,84,32,70,65,76,83,69,32,70,82,79,77,32,73,78,83,69,82,84,32,73,78,84,79,32,73,83,32,76,73,77,73,84,32,78,79,84,32,78,85,76,76,32,78,79,87,32,79,70,32,79,82,32,79,82,68,69,82,32,83,69,76,69,67,84,32,83,69,84,32,83,85,77,32,83,89,83,84,69,77,32,84,73,77,69,32,84,82,85,69,32,85,80,68,65,84,69,32,86,65,76,85,69,83,32,87,72,69,82,69,32]
theorem yW4:Ge HT=jq:=by rfl
theorem xR2(s:aij)(hs:∀c∈s,c≠32):Lib.contains HT (32::(s++[32]))=jq.contains s:=by have h:=Tc s hs HT;rw[yW4]at h;unfold Lib.contains;grind
theorem ys0(s sub:aij)(hs:s.length<4294967281):Pure prog 272 [.str s,.str sub] (.bool (Lib.contains s sub)):=by intro w L I aa hm ha;match aa,ha with |[a,b],⟨h1,h2,_⟩=>have e1:=lF h1;have e2:=lF h2;subst e1 e2;obtain⟨_,m,hc⟩:=hm.jl.num (sH.headD (0,.i64)) dc;refine(Tryz.strings_Contains _ _ m w (by simpa) hc).mono ?_;rintro e w'⟨rfl,rfl⟩;exact⟨_,.bool _,L,[],I,rfl,sm,om,hm,cy.bool _⟩
def lx:aij->Nat->aij |[],_=>[]|c::l,0=>c::l|c::l,i+1=>yT c::lx l i
theorem Td:∀(s:aij)(i:Nat),(lx s i).length=s.length |[],_=>rfl|_::_,0=>rfl|c::l,i+1=>by rw[lx,Af,Td l i,Af]
theorem N3:∀s:aij,lx s 0=s|[]=>rfl|_::_=>rfl
theorem Te:∀s:aij,lx s s.length=s.map yT |[]=>rfl|c::l=>by rw[Af,lx,Te l,Ad]
theorem Tf:∀(s:aij)(i:Nat),(lx s i)[i]?=s[i]? |[],_=>rfl|_::_,0=>rfl|c::l,i+1=>by rw[lx,Ch,Ch,Tf l i]
theorem Tg:∀(s:aij)(i:Nat)(h:i<s.length),(lx s i).set i (yT s[i])=lx s (i+1)
 |[],_,h=>(by rfl)|c::l,0,_=>by rw[lx,lx,N3];rfl|c::l,i+1,h=>by rw[lx,Bz,List.getElem_cons_succ,Tg l i (sU h),lx]
theorem Th:∀(s:aij)(i:Nat)(h:i<s.length),yT s[i]=s[i]->lx s i=lx s (i+1)
 |[],_,h,_=>(by rfl)|c::l,0,_,hg=>by grind[lx,N3]|c::l,i+1,h,hg=>by rw[lx,lx,Th l i (sU h) (sU hg)]
abbrev BE:UInt8->List V:=λc=>[V.int .u8 c.toNat]
theorem Ti (s:aij):zQ s=s.map BE:=rfl
theorem wl1(l:aij)(n:Nat):bO n (.cj (l.map BE) 1)=true:=by simp only[bO,Aj];intro r hr;obtain⟨x,_,rfl⟩:=Aa.1 hr;intro y hy;cases hy<;>trivial
theorem Kt(l:aij):([Ob.cj (l.map BE) 1]:St).all (bO 1)=true:=by grind[wl1]
theorem xF1(l:aij):xB (l.map BE)=true:=by simp only[xB,Aj];intro r hr;obtain⟨x,_,rfl⟩:=Aa.1 hr;intro y hy;cases hy<;>trivial
theorem xu4(l:aij)(n:Nat)(h:l.length=n):gE (l.map BE) 0 n=l.map BE:=by unfold gE;rw[Au,Ac (by grind),B8];rfl
theorem xe3(s:aij)(hl:s.length<=maxLen):Pure prog 271 [.str s] (.str (s.map yT)):=by
 obtain⟨n,hn⟩:=eX s.length;unfold maxLen at hl;refine iV 0 func271 ntmps271 results271 λc hc hb=>?_;refine qQ 7 dc ?_;refine zA ?_;simp[go_sem,Ti,hn];refine zG (S:=Nat) [3,8,9,10] (λi=>[.cL 0 1 n 0 n,.cL 0 1 n 0 n,.int .i64 n,.int .i64 i]) (λi=>[.cj ((lx s i).map BE) 1]) (λi=>n-i) (λi=>i<=n) hc hb 0 om ?_ ?_;.exact bT 1 (by grind[N3]) rfl (Kt _) om (zC (by rfl) rfl)
 intro i hi;by_cases q:i<n;rotate_left
 .have ai:i=n:=om;subst ai;rw[<-hn,Te,hn];have ae:=xu4 (s.map yT) i (by rw[Bq,hn]);have ab:=yx (s.map yT);have ad:=yY (s.map yT);rw[Ti]at ab ad;generalize hS:s.map yT=S at ae ab ad⊢;have aj:S.length=i:=by grind
  clear hS;refine sd 0 1 (S.map BE) rfl (xF1 _) ?_;refine zA ?_;simp[go_sem,aj,ae];refine zF ad ?_;simp[go_sem];rw[<-B8,ab];exact zV (zD rfl) sm
 have hq:i<s.length:=om;have ei:=zR q om;obtain⟨x,hx⟩:=eX (s[i]);obtain⟨cur,af⟩:∃c,lx s i=c:=⟨_,rfl⟩;obtain⟨ag,an⟩:∃c,lx s (i+1)=c:=⟨_,rfl⟩;have ah:cur.length=n:=by grind[Td]
 have aq:i<cur.length:=om;have ak:cur[i]=x:=by grind[Tf]
 have ao:cur.set i (yT x)=ag:=by grind[Tg]
 have aa:yT x=x->cur=ag:=(by grind[Th]);rw[af];have ar:0<=((x.toNat:Nat):Int)/\((x.toNat:Nat):Int)<=255:=by have:=x.toNat_lt;omega
 refine zA ?_;simp[go_sem,q,ak,ah];have small:¬(97<=x.toNat/\x.toNat<=122)->yT x=x:=(by simp_all[yT,ahO]);refine yA (λq1=>?_) (λq1=>?_)
 .simp[go_sem,q1];refine zO (λq2=>?_) (λq2=>?_)
  .have q1:97<=x.toNat:=by grind
   have q2:x.toNat<=122:=by grind
   have hg:IntKind.u8.wrap ((x.toNat:Int)-32)=((yT x).toNat:Int):=by rw[JX om om];simp_all[yT];omega
   simp[go_sem,hg,q,ah,ei];exact zH (i+1) ⟨om,om,bT 1 (by grind[E1]) rfl (Kt _) om (zC (by rfl) rfl)⟩
  .have q2:¬x.toNat<=122:=by grind
   have hs:=aa (small λh=>q2 h.2);simp[go_sem,ei];exact zH (i+1) ⟨om,om,bT 1 (by grind) rfl (Kt _) om (zC (by rfl) rfl)⟩
 .have q1:¬97<=x.toNat:=by grind
  have hs:=aa (small λh=>q1 h.1);have al:decide ((97:Int)<=x.toNat)=false:=by grind
  simp[go_sem,ei,al];exact zH (i+1) ⟨om,om,bT 1 (by grind) rfl (Kt _) om (zC (by rfl) rfl)⟩
theorem xv6(s:aij):(s.map yT==s)=s.all λc=>yT c==c:=by induction s<;>grind
theorem xW3(s:aij):jr s=(decide (1<=s.length/\s.length<=16)&&(!jN (s.headD 0)&&(s.all p7&&(s.all (λc=>yT c==c)&&!jq.contains s)))):=by
 have h:s.all uP=(s.all p7&&s.all (λc=>yT c==c)):=by induction s with|nil=>rfl|cons c l ih=>grind[uP,p7]
 grind[jr]
theorem xW5:p7 32=false:=dc
theorem Ku(s:aij)(hl:s.length<=maxLen):Pure prog 211 [.str s] (.bool (jr s)):=by
 have aa:=xM4 s hl;have ae:=Ta p7 s;have af:=xe3 s hl;have ag:=xv6 s;have ah:=S9 (s[0]?.getD 0);have ai:s.headD 0=s[0]?.getD 0:=by cases s<;>rfl
 have ab:(s.all p7)=true->Pure prog 272 [.str HT,.str (32::(s++[32]))] (.bool (jq.contains s)):=λh=>by have h1:∀c∈s,c≠32:=(by grind[xW5]);have h2:=ys0 HT (32::(s++[32])) dc;grind[xR2]
 generalize hM:jr s=M;rw[xW3,ai]at hM;generalize mT p7 s=r at aa ae;generalize s.map yT=u at af ag;generalize jN (s[0]?.getD 0)=d at ah hM;generalize(s.all λc=>yT c==c)=g at ag hM;generalize jq.contains s=k at ab hM;generalize s.all p7=w at ae ab hM;have ret:∀(b:Bool)(U:St),b=M->bW (some (.bool b)) 0 (λr s=>r=.bool M/\s=[]) U:=λr U h=>by subst h;exact zV (zD rfl) sm
 unfold maxLen at hl;refine iV 0 func211 ntmps211 results211 λc hc hb=>?_;refine zA ?_;simp[go_sem];by_cases h0:s=[]
 .subst h0;have hM:M=false:=by grind
  simp[go_sem];exact ret _ _ hM.symm
 have h1:1<=s.length:=by grind
 have aj:s.isEmpty=false:=by grind
 simp[go_sem,aj];by_cases h2:16<s.length
 .have ad:decide ((16:Int)<s.length)=true:=by grind
  have hM:M=false:=by grind
  simp[go_sem,ad];exact ret _ _ hM.symm
 have ad:decide ((16:Int)<s.length)=false:=by grind
 rw[ahR om,Ah]at hM;simp[go_sem,ad];refine zF om ?_;simp[go_sem];refine pC ah ?_;simp[go_sem];refine(A1 d).elim (λq=>?_) (λq=>?_)
 .have hM:M=false:=by grind
  simp[go_sem,q];exact ret _ _ hM.symm
 rw[q,Bool.not_false,Ah]at hM;simp[go_sem,q];refine pC aa ?_;simp[go_sem];refine(A1 w).elim (λq2=>?_) (λq2=>?_);rotate_left
 .have hM:M=false:=by grind
  have hr:decide (r<s.length)=true:=by grind
  simp[go_sem,hr];exact ret _ _ hM.symm
 have hr:decide (r<s.length)=false:=by grind
 rw[q2,Ah]at hM;simp[go_sem,hr];refine pC af ?_;simp[go_sem];refine(A1 g).elim (λq3=>?_) (λq3=>?_);rotate_left
 .have hM:M=false:=by grind
  have hu:(u==s)=false:=by grind
  simp[go_sem,hu];exact ret _ _ hM.symm
 have hu:(u==s)=true:=by grind
 rw[q3,Ah]at hM;simp[go_sem,hu];refine zF om ?_;simp[go_sem];refine zF om ?_;simp[go_sem];refine pC (ab q2) ?_;simp[go_sem];exact ret _ _ hM
end Go.Proofs.YtefbicjgbaaieaaGreat
namespace Go.Proofs.YtefbicjgbaaieaaGreat
open Go Go.Vx R Go.Proofs.Tryz
set_option maxRecDepth 100000
def HU(s:aij):Int:=if iM s=0then-1 else iM s
theorem xj4(s:aij):Pure prog 273 [.str s] (.int .i64 (HU s)):=by
 have hM:HU s=if jM.contains s=true then 1 else if iS.contains s=true then 2 else-1:=by
  unfold HU iM;by_cases h1:iS.contains s=true
  .have h2:jM.contains s=false:=by unfold iS at h1;simp only[Di,List.contains_nil,Dd,Ce,ahX]at h1;rcases h1 with rfl|rfl|rfl|rfl|rfl|rfl|rfl|rfl|rfl|rfl|rfl|rfl|rfl<;>decide
   grind
  grind
 generalize HU s=M at hM⊢;have ret:∀(r:Int)(U:St),r=M->bW (some (.int .i64 r)) 0 (λr s=>r=.int .i64 M/\s=[]) U:=λr U h=>by subst h;exact zV (zD rfl) sm
 unfold iS jM at hM;simp only[Di,List.contains_nil]at hM;refine iW 0 func273 ntmps273 results273 λc hc hb=>zM ?_;simp[go_sem];repeat'(first|(refine yA (λq=>?_) (λq=>?_)<;>simp[go_sem,q])|(refine zO (λq=>?_) (λq=>?_)<;>simp[go_sem,q]))
 all_goals exact ret _ _ (by simp_all)
def pA(e:bG):Bool:=e.kind==0&&(e.s.isEmpty&&(k5 e.v&&e.args.isEmpty))
theorem xI6(l:List bG)(hl:l.length<=maxLen):Pure prog 340 [.sl .ro (l.map bG.row),.sl .ro [],.fn 274 []] (.bool l.isEmpty):=by
 generalize hM:l.isEmpty=M;have ret:∀(r:Bool)(U:St),r=M->bW (some (.bool r)) 0 (λr s=>r=.bool M/\s=[]) U:=λr U h=>by subst h;exact zV (zD rfl) sm
 refine iW 0 func340 ntmps340 results340 λc hc hb=>zM ?_;cases l with
 |nil=>
  simp[go_sem];refine zG (S:=Unit) [15,16,17] (λ_=>[.sl .ro [],.int .i64 0,.int .i64 0]) (λ_=>[]) (λ_=>0) (λ_=>True) hc hb () trivial ?_ ?_;.exact fg rfl (zK (by rfl) rfl)
  rintro _ _;refine zA ?_;simp[go_sem];exact ret _ _ hM|cons x l=>
  have q:(((x::l).length:Int)!=0)=true:=by rfl
  simp only[Af,Int.natCast_add,Bn]at q;simp[go_sem,q];exact ret _ _ hM
theorem we5(e:bG)(hw:e.args.length<=maxLen):Pure prog 274 [.agg e.row,.agg dH.row] (.bool (pA e)):=by
 have heq:=xI6 e.args hw;generalize hM:pA e=M;unfold pA k5 at hM;generalize e.args.isEmpty=b at heq hM;have ret:∀(r:Bool)(U:St),r=M->bW (some (.bool r)) 0 (λr s=>r=.bool M/\s=[]) U:=λr U h=>by subst h;exact zV (zD rfl) sm
 have aa:(e.s==[])=e.s.isEmpty:=sm;have ab:(e.v.s==[])=e.v.s.isEmpty:=sm;have z1:dH.kind=0:=rfl;have z2:dH.s=[]:=rfl;have z3:dH.v=⟨0,0,[]⟩:=rfl;have z4:dH.args=[]:=rfl;refine iW 0 func274 ntmps274 results274 λc hc hb=>zM ?_;simp[go_sem,z1,z2,z3,z4];repeat'(first |(refine yA (λq=>?_) (λq=>?_)<;>simp[go_sem,q])|(refine zO (λq=>?_) (λq=>?_)<;>simp[go_sem,q])|(refine pC heq ?_;simp[go_sem]))
 all_goals exact ret _ _ (by rw[<-hM];simp_all)
theorem Tj(e:bG)(hw:e.args.length<=maxLen):Pure prog 213 [.agg e.row] (.bool (pA e)):=by
 have h:=we5 e hw;generalize pA e=b at h⊢;refine iW 0 func213 ntmps213 results213 λc hc hb=>zM ?_;simp[go_sem];refine zJ h cB ⟨?_,?_,tV⟩ rfl ?_;.rw[bG.bK];exact zD rfl
 .rw[bG.bK];exact uM ⟨zU rfl,zU rfl,zU rfl,zU rfl,zU rfl,yH,tV⟩
 simp[go_sem];exact zV (zD rfl) sm
theorem Tk(e:bG):Pure prog 172 [.agg e.row] (.bool (pA e)):=by
 generalize hM:pA e=M;unfold pA k5 at hM;have ret:∀(r:Bool)(U:St),r=M->bW (some (.bool r)) 0 (λr s=>r=.bool M/\s=[]) U:=λr U h=>by subst h;exact zV (zD rfl) sm
 have aa:(e.s==[])=e.s.isEmpty:=sm;have ab:(e.v.s==[])=e.v.s.isEmpty:=sm;have ha:((e.args.length:Int)==0)=e.args.isEmpty:=by cases e.args<;>simp;omega
 refine iW 0 func172 ntmps172 results172 λc hc hb=>zM ?_;simp[go_sem];repeat'(first |(refine yA (λq=>?_) (λq=>?_)<;>simp[go_sem,q])|(refine zO (λq=>?_) (λq=>?_)<;>simp[go_sem,q]))
 all_goals exact ret _ _ (by rw[<-hM];simp_all)
def dZ:Nat->bG->Bool
 |0,_=>false|n+1,e=>if e.kind=1then e.s.isEmpty&&(e.args.isEmpty&&(dw e.v&&decide (0<=e.v.n)))else if e.kind=2then k5 e.v&&(e.args.isEmpty&&jr e.s)else if¬e.kind=3\/k5 e.v=false\/iM e.s=0\/¬(e.args.length:Int)=iM e.s then false else e.args.all (dZ n)
theorem rG{J:Type}(p:J->Bool)(l:List J)(i:Nat)(h:i<l.length):(l.drop i).all p=(p l[i]&&(l.drop (i+1)).all p):=by grind[A2]
theorem HV:∀(n:Nat)(e:bG),n<=1000->eN e->Good e->Pure prog 212 [.agg e.row,.int .i64 n] (.bool (dZ n e))
 |n,e,hn,hw,hg=>by
  have hlen:=hw.len;have ak:=hw.sub;have an:=hg.sub;have ih:∀m,n=m+1->∀x∈e.args,Pure prog 212 [.agg x.row,.int .i64 m] (.bool (dZ m x)):=λm hm x hx=>HV m x om (ak x hx) (an x hx);have ag:=F3 e.v;have aa:=Ku e.s (by have:=hg.str;grind[maxLen]);have ao:=xj4 e.s;have hz:=HR e.v;obtain⟨M,hM⟩:=eX (dZ n e);rw[hM];have ret:∀(r:Bool)(U:St),r=M->bW (some (.bool r)) 0 (λr s=>r=.bool M/\s=[]) U:=λr U h=>by subst h;exact zV (zD rfl) sm
  have ha:((e.args.length:Int)==0)=e.args.isEmpty:=by cases e.args<;>simp;omega
  have ar:(e.s==[])=e.s.isEmpty:=sm;have au:(e.v.s==[])=e.v.s.isEmpty:=sm;refine iV 0 func212 ntmps212 results212 λc hc hb=>?_;by_cases h0:n=0;.subst h0;rw[dZ]at hM;refine zA ?_;simp[go_sem];exact ret _ _ hM
  obtain⟨m,rfl⟩:∃m,n=m+1:=(by simp;omega);have ih:=ih m rfl;rw[dZ]at hM;have al:(((m+1:Nat):Int)==0)=false:=by rfl
  have em:IntKind.i64.wrap (((m+1:Nat):Int)-1)=(m:Int):=by grind[bR]
  have aq:IntKind.i64.wrap (m:Int)=(m:Int):=(by grind);refine zA ?_;simp only[Int.natCast_add,Bn]at al em;simp[go_sem,al];by_cases q1:e.kind=1
  .have af:(e.kind==1)=true:=by grind
   rw[ahP q1]at hM;generalize dw e.v=b at ag hM;generalize e.args.isEmpty=ae at ha hM;simp[go_sem,af];repeat'(first |(refine yA (λq=>?_) (λq=>?_)<;>simp[go_sem,q,ha])|(refine zJ ag cB (zK sg rfl) rfl ?_;simp[go_sem]))
   all_goals exact ret _ _ (by rw[<-hM];simp_all)
  rw[ahO q1]at hM;have af:(e.kind==1)=false:=by grind
  by_cases q2:e.kind=2
  .have ah:(e.kind==2)=true:=by grind
   rw[ahP q2]at hM;unfold k5 at hM;generalize jr e.s=b at aa hM;generalize e.args.isEmpty=ae at ha hM;simp[go_sem,af,ah];repeat'(first |(refine yA (λq=>?_) (λq=>?_)<;>simp[go_sem,q,ha])|(refine zJ aa cB (zK sg rfl) rfl ?_;simp[go_sem]))
   all_goals exact ret _ _ (by rw[<-hM];simp_all)
  rw[ahO q2]at hM;have ah:(e.kind==2)=false:=by grind
  simp[go_sem,af,ah];refine zW [(15,0)] 1 sm (by rfl) kR ?_;simp[go_sem];by_cases q3:e.kind=3;rotate_left
  .have ai:(e.kind !=3)=true:=by grind
   rw[ahP (.inl q3)]at hM;simp[go_sem,ai];exact ret _ _ hM
  have ai:(e.kind !=3)=false:=by grind
  simp[go_sem,ai,hz];refine(A1 (k5 e.v)).elim (λw=>?_) (λw=>?_);rotate_left;.rw[ahP (.inr (.inl w))]at hM;simp[go_sem,w];exact ret _ _ hM
  simp[go_sem,w];refine yF ao cB (λ_=>zK (by rfl) rfl) rfl ?_;unfold HU;by_cases q4:iM e.s=0\/¬(e.args.length:Int)=iM e.s
  .have aj:((e.args.length:Int)!=(if iM e.s=0then-1 else iM e.s))=true:=by grind
   rw[ahP om]at hM;simp[go_sem,aj];exact ret _ _ hM
  have aj:((e.args.length:Int)!=(if iM e.s=0then-1 else iM e.s))=false:=by grind
  rw[ahO (by grind)]at hM;simp[go_sem,aj];obtain⟨args,ab⟩:=eX e.args;rw[ab]at hM hlen ih;simp[go_sem,ab];refine zG (S:=Nat) [1,73,74,75] (λi=>[.int .i64 ((m:Int)+1),.sl .ro (args.map bG.row),.int .i64 args.length,.int .i64 (i:Int)]) (λ_=>[]) (λi=>args.length-i) (λi=>i<=args.length/\(args.drop i).all (dZ m)=M) hc hb 0 (by grind) ?_ ?_;.exact fg rfl (zK (by rfl) rfl)
  rintro i⟨hi,hinv⟩;by_cases q:i<args.length;rotate_left;.rw[A4 om]at hinv;refine zA ?_;simp[go_sem,q];exact ret _ _ hinv
  have ei:=zR q om;rw[rG _ _ _ q]at hinv;obtain⟨x,hx⟩:=eX (args[i]);have ad:=ih x (hx▸A7 q);rw[hx]at hinv;generalize dZ m x=b at ad hinv;refine zA ?_;simp[go_sem,q,hx,aq];refine zJ ad cB (zK sg (by rw[bG.bK];rfl)) rfl ?_;refine(A1 b).elim (λp=>?_) (λp=>?_);.rw[p,Ah]at hinv;simp[go_sem,p,ei];exact zH (i+1) ⟨om,(by grind),fg rfl (zK (by rfl) rfl)⟩
  .rw[p,B2]at hinv;simp[go_sem,p];exact ret _ _ hinv
theorem Tl:∀(n:Nat)(e:bG),n<=1000->eN e->Good e->Pure prog 250 [.agg e.row,.int .i64 n] (.bool (dZ n e))
 |n,e,hn,hw,hg=>by
  have hlen:=hw.len;have al:=hw.sub;have aq:=hg.sub;have ih:∀m,n=m+1->∀x∈e.args,Pure prog 250 [.agg x.row,.int .i64 m] (.bool (dZ m x)):=λm hm x hx=>Tl m x om (al x hx) (aq x hx);have ag:=F4 e.v;have ab:=DW e.s (by have:=hg.str;grind[maxLen]);have an:=RD e.s;have hz:=HR e.v;obtain⟨M,hM⟩:=eX (dZ n e);rw[hM];have ret:∀(r:Bool)(U:St),r=M->bW (some (.bool r)) 0 (λr s=>r=.bool M/\s=[]) U:=λr U h=>by subst h;exact zV (zD rfl) sm
  have ha:((e.args.length:Int)==0)=e.args.isEmpty:=by cases e.args<;>simp;omega
  have au:(e.s==[])=e.s.isEmpty:=sm;have av:(e.v.s==[])=e.v.s.isEmpty:=sm;refine iV 0 func250 ntmps250 results250 λc hc hb=>?_;by_cases h0:n=0;.subst h0;rw[dZ]at hM;refine zA ?_;simp[go_sem];exact ret _ _ hM
  obtain⟨m,rfl⟩:∃m,n=m+1:=(by simp;omega);have ih:=ih m rfl;rw[dZ]at hM;have ao:(((m+1:Nat):Int)==0)=false:=by rfl
  have em:IntKind.i64.wrap (((m+1:Nat):Int)-1)=(m:Int):=by grind[bR]
  have ar:IntKind.i64.wrap (m:Int)=(m:Int):=(by grind);refine zA ?_;simp only[Int.natCast_add,Bn]at ao em;simp[go_sem,ao];by_cases q1:e.kind=1
  .have af:(e.kind==1)=true:=by grind
   rw[ahP q1]at hM;generalize dw e.v=b at ag hM;generalize e.args.isEmpty=ae at ha hM;simp[go_sem,af,ha];repeat'(first |(refine yA (λq=>?_) (λq=>?_)<;>simp[go_sem,q])|(refine zJ ag cB (zK sg rfl) rfl ?_;simp[go_sem]))
   all_goals exact ret _ _ (by rw[<-hM];simp_all)
  rw[ahO q1]at hM;have af:(e.kind==1)=false:=by grind
  by_cases q2:e.kind=2
  .have ah:(e.kind==2)=true:=by grind
   rw[ahP q2]at hM;unfold k5 at hM;generalize jr e.s=b at ab hM;generalize e.args.isEmpty=ae at ha hM;simp[go_sem,af,ah,ha];repeat'(first |(refine yA (λq=>?_) (λq=>?_)<;>simp[go_sem,q])|(refine zJ ab cB (zK sg rfl) rfl ?_;simp[go_sem]))
   all_goals exact ret _ _ (by rw[<-hM];simp_all)
  rw[ahO q2]at hM;have ah:(e.kind==2)=false:=by grind
  simp[go_sem,af,ah];by_cases q3:e.kind=3;rotate_left
  .have ai:(e.kind==3)=false:=by grind
   rw[ahP (.inl q3)]at hM;simp[go_sem,ai];exact ret _ _ hM
  have ai:(e.kind==3)=true:=by grind
  simp[go_sem,ai];refine zW [(7,0),(16,0)] 1 sm (by rfl) kR ?_;simp[go_sem,hz];refine(A1 (k5 e.v)).elim (λw=>?_) (λw=>?_);rotate_left;.rw[ahP (.inr (.inl w))]at hM;simp[go_sem,w];exact ret _ _ hM
  simp[go_sem,w];refine yF an cB (λ_=>zK (by rfl) rfl) rfl ?_;by_cases q4:iM e.s=0
  .have aj:(iM e.s==0)=true:=by grind
   rw[ahP om]at hM;simp[go_sem,aj];exact ret _ _ hM
  have aj:(iM e.s==0)=false:=by grind
  simp[go_sem,aj];refine yF an cB (λ_=>zK (by rfl) rfl) rfl ?_;by_cases q5:(e.args.length:Int)=iM e.s;rotate_left
  .have ak:((e.args.length:Int)!=iM e.s)=true:=by grind
   rw[ahP om]at hM;simp[go_sem,ak];exact ret _ _ hM
  have ak:((e.args.length:Int)!=iM e.s)=false:=by grind
  rw[ahO (by grind)]at hM;simp[go_sem,ak];obtain⟨args,aa⟩:=eX e.args;rw[aa]at hM hlen ih;refine zG (S:=Nat) [1,2,5] (λi=>[.int .i64 ((m:Int)+1),.ptr 0 0,.int .i64 (i:Int)]) (λ_=>[.box e.row]) (λi=>args.length-i) (λi=>i<=args.length/\(args.drop i).all (dZ m)=M) hc hb 0 (by grind) ?_ ?_;.exact bT 1 (by simp[go_sem,aa]) rfl (by simp[bO,cH,cF,bG.bK]) om (zC (by rfl) rfl)
  rintro i⟨hi,hinv⟩;by_cases q:i<args.length;rotate_left;.rw[A4 om]at hinv;refine zA ?_;simp[go_sem,q,aa];exact ret _ _ hinv
  have ei:=zR q om;rw[rG _ _ _ q]at hinv;obtain⟨x,hx⟩:=eX (args[i]);have ad:=ih x (hx▸A7 q);rw[hx]at hinv;generalize dZ m x=b at ad hinv;refine zA ?_;simp[go_sem,q,aa,hx,ar];refine zJ ad cB (zK sg (by rw[bG.bK];rfl)) rfl ?_;refine(A1 b).elim (λp=>?_) (λp=>?_);.rw[p,Ah]at hinv;simp[go_sem,p,ei];exact zH (i+1) ⟨om,(by grind),bT 1 (by simp[go_sem,aa]) rfl (by simp[bO,cH,cF,bG.bK]) om (zC (by rfl) rfl)⟩
  .rw[p,B2]at hinv;simp[go_sem,p];exact ret _ _ hinv
theorem Kv(e:bG)(hw:eN e)(hg:Good e):Pure prog 171 [.agg e.row] (.bool (dZ 16 e)):=by have h:=Tl 16 e dc hw hg;generalize dZ 16 e=b at h⊢;refine iW 0 func171 ntmps171 results171 λc hc hb=>zM ?_;simp[go_sem];refine zJ h cB (zK sg (by rw[bG.bK];rfl)) rfl ?_;simp[go_sem];exact zV (zD rfl) sm
def jy(n:Nat)(x:cJ):Bool:=if x.kind=1then decide (n<=1)&&pA x.e else if x.kind=3then pA x.e else if x.kind=2\/x.kind=4then dZ 16 x.e else false
def xj(l:List cJ):Bool:=l.all (jy l.length)&&(decide (1<=l.length)&&decide (l.length<=6))
def nW(r:List bG):Bool:=(decide (1<=r.length)&&decide (r.length<=6))&&r.all (dZ 16)
def xm(l:List (List bG)):Bool:=l.all nW&&(decide (1<=l.length)&&decide (l.length<=16))
def iJ(x:bX):Bool:=jr x.name&&dZ 16 x.e
def xn(l:List bX):Bool:=(decide (1<=l.length)&&decide (l.length<=6))&&l.all iJ
theorem dg{b M:Bool}{U:St}(h:b=M):bW (some (.bool b)) 0 (λr s=>r=.bool M/\s=[]) U:=by subst h;exact wR
theorem xe9(l:List cJ)(hl:l.length<=12)(hx:∀x∈l,dq x.kind/\jS x.e):Pure prog 214 [.sl .ro (l.map cJ.row)] (.bool (xj l)):=by
 obtain⟨n,hn⟩:=eX l.length;generalize hM:xj l=M;unfold xj at hM;rw[hn]at hM;have e1:decide ((1:Int)<=n)=decide (1<=n):=decide_eq_decide.2 om;have e2:decide ((n:Int)<=6)=decide (n<=6):=decide_eq_decide.2 om;have e3:decide ((1:Int)<n)=!decide (n<=1):=by
  by_cases h:n<=1;.rw[ahR h,ahQ om];rfl
  .rw[ahQ h,ahR om];rfl
 refine iV 0 func214 ntmps214 results214 λc hc hb=>?_;refine zA ?_;simp[go_sem];refine zG (S:=Nat) [0,5,6,7] (λi=>[.sl .ro (l.map cJ.row),.sl .ro (l.map cJ.row),.int .i64 n,.int .i64 (i:Int)]) (λ_=>[]) (λi=>n-i) (λi=>i<=n/\((l.drop i).all (jy n)&&(decide (1<=n)&&decide (n<=6)))=M) hc hb 0 ⟨A3 _,by rw[Au];exact hM⟩ ?_ ?_;.exact fg rfl (zK (by simp[go_sem,hn]) rfl)
 rintro i⟨hi,hinv⟩;by_cases q:i<n;rotate_left
 .rw[A4 om,Cs,Ah]at hinv;refine zA ?_;simp[go_sem,q,hn,e1];refine yA (λw=>?_) (λw=>?_);.simp[go_sem,w,hn,e2];exact dg (by rw[<-hinv,w,Ah])
  .simp[go_sem,w];exact dg (by rw[<-hinv,w];rfl)
 have hq:i<l.length:=om;have ei:=zR q om;rw[rG _ _ _ hq]at hinv;obtain⟨x,ag⟩:=eX (l[i]);obtain⟨hk,hE⟩:=hx x (ag▸A7 hq);have ah:=Tj x.e (by have:=hE.wide.len;unfold maxLen;omega);have ae:=HV 16 x.e dc hE.wide hE.cN;rw[ag]at hinv;obtain⟨b,aa⟩:=eX (jy n x);rw[aa]at hinv;unfold jy at aa;have yes:b=true->((l.drop (i+1)).all (jy n)&&(decide (1<=n)&&decide (n<=6)))=M:=λh=>by rw[h,Ah]at hinv;exact hinv
 have no:b=false->false=M:=λh=>by rw[h]at hinv;exact hinv
 clear hinv;generalize pA x.e=bl at ah aa;generalize dZ 16 x.e=me at ae aa;simp only[Bn]at ae;refine zA ?_;simp[go_sem,q,hq,ag];by_cases k1:x.kind=1
 .have ab:(x.kind==1)=true:=sU k1;rw[ahP k1]at aa;simp[go_sem,ab,hn,e3];refine yA (λw=>?_) (λw=>?_)
  .have w2:decide (n<=1)=true:=sU w;rw[w2,Ah]at aa;simp[go_sem,w2];refine zJ ah cB (zK sg (by rw[bG.bK];rfl)) rfl ?_;simp[go_sem];refine(A1 bl).elim (λw=>?_) (λw=>?_);.simp[go_sem,w,ei];exact zH (i+1) ⟨om,⟨om,yes (by rw[<-aa,w])⟩,aO⟩
   .simp[go_sem,w];exact dg (no (by rw[<-aa,w]))
  .have w2:decide (n<=1)=false:=sU w;rw[w2,B2]at aa;simp[go_sem,w2];exact dg (no aa.symm)
 rw[ahO k1]at aa;have ab:(x.kind==1)=false:=sU k1;by_cases k3:x.kind=3
 .have ad:(x.kind==3)=true:=sU k3;rw[ahP k3]at aa;simp[go_sem,ab,ad];refine zJ ah cB (zK sg (by rw[bG.bK];rfl)) rfl ?_;simp[go_sem];refine(A1 bl).elim (λw=>?_) (λw=>?_);.simp[go_sem,w,ei];exact zH (i+1) ⟨om,⟨om,yes (by rw[<-aa,w])⟩,aO⟩
  .simp[go_sem,w];exact dg (no (by rw[<-aa,w]))
 rw[ahO k3]at aa;have ad:(x.kind==3)=false:=sU k3;by_cases k2:x.kind=2
 .have af:(x.kind==2)=true:=sU k2;rw[ahP (.inl k2)]at aa;simp[go_sem,ab,ad,af];refine zJ ae cB (zK sg (by rw[bG.bK];rfl)) rfl ?_;simp[go_sem];refine(A1 me).elim (λw=>?_) (λw=>?_);.simp[go_sem,w,ei];exact zH (i+1) ⟨om,⟨om,yes (by rw[<-aa,w])⟩,aO⟩
  .simp[go_sem,w];exact dg (no (by rw[<-aa,w]))
 have af:(x.kind==2)=false:=sU k2;by_cases k4:x.kind=4
 .have ai:(x.kind==4)=true:=sU k4;rw[ahP (.inr k4)]at aa;simp[go_sem,ab,ad,af,ai];refine zJ ae cB (zK sg (by rw[bG.bK];rfl)) rfl ?_;simp[go_sem];refine(A1 me).elim (λw=>?_) (λw=>?_);.simp[go_sem,w,ei];exact zH (i+1) ⟨om,⟨om,yes (by rw[<-aa,w])⟩,aO⟩
  .simp[go_sem,w];exact dg (no (by rw[<-aa,w]))
 have ai:(x.kind==4)=false:=sU k4;rw[ahO (λh=>h.elim k2 k4)]at aa;simp[go_sem,ab,ad,af,ai];exact dg (no aa.symm)
def k6{J:Type}(p:J->Bool):List J->Nat->Int |[],_=>-1|x::l,i=>if p x=true then(i:Int)else k6 p l (i+1)
theorem HW{J:Type}(p:J->Bool):∀(l:List J)(i:Nat),decide (0<=k6 p l i)=l.any p
 |[],i=>rfl|x::l,i=>by
  rw[k6,Bx];split;.rename_i h;rw[h];exact ahR om
  .rename_i h;have h:p x=false:=sU h;rw[h,Bf,HW p l (i+1)]
theorem wl3(x:bG)(hE:jS x):Pure prog 276 [.agg x.row] (.bool (!dZ 16 x)):=by have aa:=HV 16 x dc hE.wide hE.cN;generalize dZ 16 x=b at aa⊢;simp only[Bn]at aa;refine iW 0 func276 ntmps276 results276 λc hc hb=>zM ?_;simp[go_sem];refine zJ aa cB (zK sg (by rw[bG.bK];rfl)) rfl ?_;simp[go_sem];exact wR
theorem wl2(x:bX)(hn:x.name.length<=maxLen)(hE:jS x.e):Pure prog 277 [.agg x.row] (.bool (!iJ x)):=by
 have aa:=HV 16 x.e dc hE.wide hE.cN;have hw:=Ku x.name hn;generalize hM:(!iJ x)=M;unfold iJ at hM;generalize dZ 16 x.e=b at aa hM;generalize jr x.name=w at hw hM;simp only[Bn]at aa;refine iW 0 func277 ntmps277 results277 λc hc hb=>zM ?_;simp[go_sem];refine zJ hw cB (zK sg rfl) rfl ?_;refine(A1 w).elim (λp=>?_) (λp=>?_);.simp[go_sem,p];refine zJ aa cB (zK sg (by rw[bG.bK];rfl)) rfl ?_;simp[go_sem];exact dg (by rw[<-hM,p,Ah])
 .simp[go_sem,p];exact dg (by rw[<-hM,p];rfl)
theorem wm9(l:List bG)(hl:l.length<=12)(hx:∀x∈l,jS x):Pure prog 341 [.sl .ro (l.map bG.row),.fn 276 []] (.int .i64 (k6 (λx=>!dZ 16 x) l 0)):=by
 generalize hM:k6 (λx=>!dZ 16 x) l 0=M;have ret:∀(r:Int)(U:St),r=M->bW (some (.int .i64 r)) 0 (λr s=>r=.int .i64 M/\s=[]) U:=λr U h=>by subst h;exact wR
 refine iV 0 func341 ntmps341 results341 λc hc hb=>?_;refine zA ?_;simp[go_sem];refine zG (S:=Nat) [0,1,6,7,8] (λi=>[.sl .ro (l.map bG.row),.fn 276 [],.sl .ro (l.map bG.row),.int .i64 l.length,.int .i64 (i:Int)]) (λ_=>[]) (λi=>l.length-i) (λi=>i<=l.length/\k6 (λx=>!dZ 16 x) (l.drop i) i=M) hc hb 0 ⟨A3 _,hM⟩ ?_ ?_;.exact aO
 rintro i⟨hi,hinv⟩;by_cases q:i<l.length;rotate_left;.rw[A4 om]at hinv;refine zA ?_;simp[go_sem,q];exact ret _ _ hinv
 have ei:=zR q om;obtain⟨x,ab⟩:=eX (l[i]);rw[A2 q,ab,k6]at hinv;have aa:=wl3 x (hx x (ab▸A7 q));generalize(!dZ 16 x)=b at aa hinv;refine zA ?_;simp[go_sem,q,ab];refine zJ aa cB (zK sg (by rw[bG.bK];rfl)) rfl ?_;refine(A1 b).elim (λp=>?_) (λp=>?_);.rw[ahP p]at hinv;simp[go_sem,p];exact ret _ _ hinv
 .rw[ahO (by rw[p];decide)]at hinv;simp[go_sem,p,ei];exact zH (i+1) ⟨om,⟨om,hinv⟩,aO⟩
theorem wm4(l:List bG)(hl:l.length<=12)(hx:∀x∈l,jS x):Pure prog 275 [.sl .ro (l.map bG.row),.fn 276 []] (.bool (!l.all (dZ 16))):=by
 have h:=wm9 l hl hx;have hg:=HW (λx=>!dZ 16 x) l 0;have ha:l.any (λx=>!dZ 16 x)=!l.all (dZ 16):=by rw[List.all_eq_not_any_not,Bool.not_not]
 rw[ha]at hg;rw[<-hg];generalize k6 (λx=>!dZ 16 x) l 0=n at h⊢;refine iW 0 func275 ntmps275 results275 λc hc hb=>zM ?_;simp[go_sem];refine zJ h cB (zK sg rfl) rfl ?_;simp[go_sem];exact wR
theorem wm6(l:List bX)(hl:l.length<=12)(hx:∀x∈l,x.name.length<=1048576/\jS x.e):Pure prog 278 [.sl .ro (l.map bX.row),.fn 277 []] (.int .i64 (k6 (λx=>!iJ x) l 0)):=by
 generalize hM:k6 (λx=>!iJ x) l 0=M;have ret:∀(r:Int)(U:St),r=M->bW (some (.int .i64 r)) 0 (λr s=>r=.int .i64 M/\s=[]) U:=λr U h=>by subst h;exact wR
 refine iV 0 func278 ntmps278 results278 λc hc hb=>?_;refine zA ?_;simp[go_sem];refine zG (S:=Nat) [0,1,6,7,8] (λi=>[.sl .ro (l.map bX.row),.fn 277 [],.sl .ro (l.map bX.row),.int .i64 l.length,.int .i64 (i:Int)]) (λ_=>[]) (λi=>l.length-i) (λi=>i<=l.length/\k6 (λx=>!iJ x) (l.drop i) i=M) hc hb 0 ⟨A3 _,hM⟩ ?_ ?_;.exact aO
 rintro i⟨hi,hinv⟩;by_cases q:i<l.length;rotate_left;.rw[A4 om]at hinv;refine zA ?_;simp[go_sem,q];exact ret _ _ hinv
 have ei:=zR q om;obtain⟨x,ab⟩:=eX (l[i]);rw[A2 q,ab,k6]at hinv;obtain⟨ae,ad⟩:=hx x (ab▸A7 q);have aa:=wl2 x (by unfold maxLen;omega) ad;generalize(!iJ x)=b at aa hinv;refine zA ?_;simp[go_sem,q,ab];refine zJ aa cB (zK sg rfl) rfl ?_;refine(A1 b).elim (λp=>?_) (λp=>?_);.rw[ahP p]at hinv;simp[go_sem,p];exact ret _ _ hinv
 .rw[ahO (by rw[p];decide)]at hinv;simp[go_sem,p,ei];exact zH (i+1) ⟨om,⟨om,hinv⟩,aO⟩
theorem wm2(l:List bX)(hl:l.length<=12)(hx:∀x∈l,x.name.length<=1048576/\jS x.e):Pure prog 218 [.sl .ro (l.map bX.row),.fn 277 []] (.bool (!l.all iJ)):=by
 have h:=wm6 l hl hx;have hg:=HW (λx=>!iJ x) l 0;have ha:l.any (λx=>!iJ x)=!l.all iJ:=by rw[List.all_eq_not_any_not,Bool.not_not]
 rw[ha]at hg;rw[<-hg];generalize k6 (λx=>!iJ x) l 0=n at h⊢;refine iW 0 func218 ntmps218 results218 λc hc hb=>zM ?_;simp[go_sem];refine zJ h cB (zK sg rfl) rfl ?_;simp[go_sem];exact wR
theorem HX(n:Nat):decide ((1:Int)<=n)=decide (1<=n):=(by grind)
theorem Tm(n k:Nat):decide ((n:Int)<=k)=decide (n<=k):=sm
theorem xx8(l:List (List bG))(hl:l.length<=20)(hx:∀r∈l,r.length<=12/\∀e∈r,jS e):Pure prog 215 [.sl .ro (l.map λr=>[V.sl .ro (r.map bG.row)])] (.bool (xm l)):=by
 obtain⟨n,hn⟩:=eX l.length;generalize hM:xm l=M;unfold xm at hM;rw[hn]at hM;have e1:=HX n;have e2:decide ((n:Int)<=16)=decide (n<=16):=Tm n 16;refine iV 0 func215 ntmps215 results215 λc hc hb=>?_;refine zA ?_;simp[go_sem];refine zG (S:=Nat) [0,5,6,7] (λi=>[.sl .ro (l.map λr=>[V.sl .ro (r.map bG.row)]),.sl .ro (l.map λr=>[V.sl .ro (r.map bG.row)]),.int .i64 n,.int .i64 (i:Int)]) (λ_=>[]) (λi=>n-i) (λi=>i<=n/\((l.drop i).all nW&&(decide (1<=n)&&decide (n<=16)))=M) hc hb 0 (by grind) ?_ ?_;.exact fg rfl (zK (by simp[go_sem,hn]) rfl)
 rintro i⟨hi,hinv⟩;by_cases q:i<n;rotate_left
 .rw[A4 om,Cs,Ah]at hinv;refine zA ?_;simp[go_sem,q,hn,e1];refine yA (λw=>?_) (λw=>?_);.simp[go_sem,w,hn,e2];exact dg (by grind)
  .simp[go_sem,w];exact dg (by grind)
 have hq:i<l.length:=om;have ei:=zR q om;rw[rG _ _ _ hq]at hinv;obtain⟨r,hr⟩:=eX (l[i]);obtain⟨af,ag⟩:=hx r (by grind);have aa:=wm4 r af ag;rw[hr]at hinv;obtain⟨b,ab⟩:=eX (nW r);rw[ab]at hinv;unfold nW at ab;have yes:b=true->((l.drop (i+1)).all nW&&(decide (1<=n)&&decide (n<=16)))=M:=(by grind);have no:b=false->false=M:=(by grind);clear hinv;generalize r.all (dZ 16)=ra at aa ab;have ad:((r.length:Int)==0)=!decide (1<=r.length):=by grind
 have ae:decide ((6:Int)<r.length)=!decide (r.length<=6):=by grind
 generalize decide (1<=r.length)=d1 at ad ab;generalize decide (r.length<=6)=d2 at ae ab;refine zA ?_;simp[go_sem,q,hq,hr,ad];refine(A1 d1).elim (λw=>?_) (λw=>?_);rotate_left;.simp[go_sem,w];exact dg (by grind)
 simp[go_sem,w,ae];refine(A1 d2).elim (λw2=>?_) (λw2=>?_);rotate_left;.simp[go_sem,w2];exact dg (by grind)
 simp[go_sem,w2];refine zJ aa cB (zK (by rfl) rfl) rfl ?_;simp[go_sem];refine(A1 ra).elim (λw3=>?_) (λw3=>?_);.simp[go_sem,w3,ei];exact zH (i+1) ⟨om,(by grind),fg rfl (zK (by rfl) rfl)⟩
 .simp[go_sem,w3];exact dg (by grind)
theorem xx9(l:List bX)(hl:l.length<=12)(hx:∀x∈l,x.name.length<=1048576/\jS x.e):Pure prog 216 [.sl .ro (l.map bX.row)] (.bool (xn l)):=by
 have aa:=wm2 l hl hx;generalize hM:xn l=M;unfold xn at hM;generalize l.all iJ=a at aa hM;obtain⟨n,hn⟩:=eX l.length;rw[hn]at hM;have e1:=HX n;have e2:decide ((n:Int)<=6)=decide (n<=6):=Tm n 6;refine iW 0 func216 ntmps216 results216 λc hc hb=>zM ?_;simp[go_sem,hn,e1];refine yA (λw=>?_) (λw=>?_);rotate_left;.simp[go_sem,w];exact dg (by grind)
 simp[go_sem,w,hn,e2];refine yA (λw2=>?_) (λw2=>?_);rotate_left;.simp[go_sem,w2];exact dg (by grind)
 simp[go_sem,w2];refine zJ aa cB (zK (by rfl) rfl) rfl ?_;simp[go_sem];exact dg (by grind)
def N4(st:bQ):Bool:=!((!(st.kind==1)&&(!st.items.isEmpty||(!st.order.isEmpty||(st.down||!(st.cG==0)))))||((!(st.kind==2)&&!st.rows.isEmpty)||(!(st.kind==3)&&!st.cp.isEmpty)))
def N5(st:bQ):Bool:=jr st.table&&(if st.cz=true then dZ 16 st.bU else pA st.bU)
def Ey(st:bQ):Bool:=if st.kind=1then xj st.items&&(((st.order.isEmpty&&!st.down)||jr st.order)&&decide (-1<=st.cG))else if st.kind=2then xm st.rows&&!st.cz else if st.kind=3then xn st.cp else st.kind==4
def fG(st:bQ):Bool:=N5 st&&(N4 st&&Ey st)
theorem Gf{J:Type}(l:List J):decide (0<l.length)=!l.isEmpty:=by grind
theorem xy0(st:bQ)(hs:gR st):Pure prog 140 [.agg st.row] (.bool (fG st)):=by
 have ah:=Ku st.table (by have:=hs.table;grind[maxLen]);have ai:=Ku st.order (by have:=hs.order;grind[maxLen]);have ae:=HV 16 st.bU dc hs.bU.wide hs.bU.cN;have aj:=Tj st.bU (by have:=hs.bU.wide.len;grind[maxLen]);have hit:=xe9 st.items hs.items.1 hs.items.2;have ak:=xx8 st.rows hs.rows.1 hs.rows.2;have al:=xx9 st.cp hs.cp.1 hs.cp.2;simp only[Bn]at ae;generalize hM:fG st=M;unfold fG N5 N4 Ey at hM;obtain⟨k,hk⟩:=eX st.kind;obtain⟨f,hf⟩:=eX st.cz;obtain⟨d,hd⟩:=eX st.down;rw[hk,hf,hd]at hM;generalize jr st.table=wt at ah hM;generalize jr st.order=wo at ai hM;generalize dZ 16 st.bU=me at ae hM;generalize pA st.bU=bl at aj hM;generalize xj st.items=mi at hit hM;generalize xm st.rows=mr at ak hM;generalize xn st.cp=ms at al hM;have an:=Gf st.items;have ao:=Gf st.rows;have aq:=Gf st.cp;have a1:(st.order !=[])=!st.order.isEmpty:=by grind
 have ax:(st.order==[])=st.order.isEmpty:=sm;generalize st.items.isEmpty=ie at an hM;generalize st.rows.isEmpty=re at ao hM;generalize st.cp.isEmpty=se at aq hM;have hz:∀b:Bool,b=M->∀U:St,bW (some (.bool b)) 0 (λr s=>r=.bool M/\s=[]) U:=λb h U=>dg h;have af:((wt&&(if f=true then me else bl))=false->false=M)/\((wt&&(if f=true then me else bl))=true->(!((!(k==1)&&(!ie||(!st.order.isEmpty||(d||!(st.cG==0)))))||((!(k==2)&&!re)||(!(k==3)&&!se)))&&(if k=1then mi&&(((st.order.isEmpty&&!d)||wo)&&decide (-1<=st.cG))else if k=2then mr&&!f else if k=3then ms else k==4))=M):=by grind
 obtain⟨ay,ad⟩:=af;clear hM;refine iV 0 func140 ntmps140 results140 λc hc hb=>?_;refine zN (zA ?_);simp[go_sem];refine wM (S:=Unit) [1] (λ_=>[.ptr 0 0]) (λ_=>[.box st.row]) (λ_=>(wt&&(if f=true then me else bl))=true) hc hb ?_ ?_
 .refine zA ?_;simp[go_sem];refine zJ ah cB (zK (by rfl) rfl) rfl ?_;refine(A1 wt).elim (λw=>?_) (λw=>?_);rotate_left;.simp[go_sem,w];exact dg (by grind)
  simp[go_sem,w,hf];refine(A1 f).elim (λw2=>?_) (λw2=>?_)
  .simp[go_sem,w2];refine zJ ae cB (zK sg (by rw[bG.bK];rfl)) rfl ?_;refine(A1 me).elim (λw3=>?_) (λw3=>?_);.simp[go_sem,w3,w2];exact zH () ⟨by grind,bT 1 (by grind) rfl (by rfl) om (zC (by rfl) rfl)⟩
   .simp[go_sem,w3];exact dg (by grind)
  .simp[go_sem,w2];refine zJ aj cB (zK sg (by rw[bG.bK];rfl)) rfl ?_;refine(A1 bl).elim (λw3=>?_) (λw3=>?_);.simp[go_sem,w3];exact zH () ⟨by grind,bT 1 (by grind) rfl (by rfl) om (zC (by rfl) rfl)⟩
   .simp[go_sem,w3];exact dg (by grind)
 .rintro _ h1;have hM:=ad h1;clear ay ad;generalize hB:(if k=1then mi&&(((st.order.isEmpty&&!d)||wo)&&decide (-1<=st.cG))else if k=2then mr&&!f else if k=3then ms else k==4)=B at hM;obtain⟨S,hS⟩:=eX (((!(k==1)&&(!ie||(!st.order.isEmpty||(d||!(st.cG==0)))))||((!(k==2)&&!re)||(!(k==3)&&!se))));rw[hS]at hM;have no:S=true->false=M:=(by grind);have yes:S=false->B=M:=(by grind);clear hM;have ar:(st.cG !=0)=!(st.cG==0):=rfl;have au:(st.kind !=2)=!(k==2):=by grind
  have av:(st.kind !=3)=!(k==3):=by grind
  have aw:(st.kind==1)=(k==1):=by rw[hk]
  refine zN (zA ?_);simp[go_sem];refine wM (S:=Unit) [1] (λ_=>[.ptr 0 0]) (λ_=>[.box st.row]) (λ_=>S=false) hc hb ?_ ?_
  .generalize(st.cG==0)=l0 at ar hS;generalize(k==1)=k1 at aw hS;generalize(k==2)=k2 at au hS;generalize(k==3)=k3 at av hS;clear yes hB;refine zA ?_;simp[go_sem,aw];repeat'(first |(refine yA (λw=>?_) (λw=>?_)<;>simp[go_sem,w,au,av,ar,an,ao,aq,hd])|(refine zO (λw=>?_) (λw=>?_)<;>simp[go_sem,w]))
   all_goals first |exact dg (by grind)|exact zH () ⟨by rw[<-hS];simp_all,bT 1 (by simp[go_sem,hd]<;>simp_all) rfl (by simp[bO,cH,cF]) om (zC sg rfl)⟩
  .rintro _ az;have hM:=yes az;rw[<-hB]at hM;clear yes no hS hB;refine zA ?_;simp[go_sem,hk];by_cases k1:k=1
   .have aa:(k==1)=true:=by grind
    rw[ahP k1]at hM;have a6:decide (-1<=st.cG)=decide (-1<=st.cG):=rfl;simp[go_sem,aa];refine zJ hit cB (zK (by rfl) rfl) rfl ?_;simp[go_sem];repeat'(first |(refine yA (λw=>?_) (λw=>?_)<;>simp[go_sem,w,ax,hd])|(refine zJ ai cB (zK sg rfl) rfl ?_;simp[go_sem]))
    all_goals exact dg (by rw[<-hM];simp_all)
   have aa:(k==1)=false:=by grind
   rw[ahO k1]at hM;by_cases k2:k=2
   .have ab:(k==2)=true:=by grind
    rw[ahP k2]at hM;simp[go_sem,aa,ab];refine zJ ak cB (zK (by rfl) rfl) rfl ?_;simp[go_sem];refine(A1 mr).elim (λw=>?_) (λw=>?_);.simp[go_sem,w,hf];exact dg (by grind)
    .simp[go_sem,w];exact dg (by grind)
   have ab:(k==2)=false:=by grind
   rw[ahO k2]at hM;by_cases k3:k=3
   .have ag:(k==3)=true:=by grind
    rw[ahP k3]at hM;simp[go_sem,aa,ab,ag];refine zJ al cB (zK (by rfl) rfl) rfl ?_;simp[go_sem];exact dg hM
   have ag:(k==3)=false:=by grind
   rw[ahO k3]at hM;simp[go_sem,aa,ab,ag];exact dg hM
def N6(l:dR):Bool:=(decide (0<=l.mode)&&(decide (l.mode<=2)&&(decide (0<=l.n)&&(!(l.mode==0&&!(l.n==0))))))&&(decide (1<=l.stmts.length)&&decide (l.stmts.length<=8))
def iZ(l:dR):Bool:=N6 l&&l.stmts.all fG
theorem xC7(l:dR)(hl:mO l):Pure prog 84 [.agg l.row] (.bool (iZ l)):=by
 obtain⟨L,hL⟩:=eX l.stmts;obtain⟨m,hm⟩:=eX l.mode;obtain⟨n,hn⟩:=eX l.n;obtain⟨af,ad⟩:=hl.stmts;rw[hL]at af ad;generalize hM:iZ l=M;unfold iZ N6 at hM;rw[hL,hm,hn]at hM;have no:∀h:Bool,(h&&L.all fG)=M->h=false->false=M:=sm;refine iV 0 func84 ntmps84 results84 λc hc hb=>?_;refine zN (zA ?_);simp[go_sem];refine wM (S:=Unit) [1] (λ_=>[.ptr 0 0]) (λ_=>[.box l.row]) (λ_=>L.all fG=M) hc hb ?_ ?_
 .have d1:decide (m<0)=!decide (0<=m):=by grind
  have d2:decide (2<m)=!decide (m<=2):=by grind
  have d3:decide (n<0)=!decide (0<=n):=by grind
  have d4:((L.length:Int)==0)=!decide (1<=L.length):=by grind
  have d5:decide ((8:Int)<L.length)=!decide (L.length<=8):=by grind
  have d6:(n !=0)=!(n==0):=rfl;generalize decide (0<=m)=b1 at d1 hM;generalize decide (m<=2)=b2 at d2 hM;generalize decide (0<=n)=b3 at d3 hM;generalize decide (1<=L.length)=b4 at d4 hM;generalize decide (L.length<=8)=b5 at d5 hM;generalize(n==0)=b6 at d6 hM;have ag:=no _ hM;have ae:((b1&&(b2&&(b3&&(!(m==0&&!b6)))))&&(b4&&b5))=true->L.all fG=M:=(by grind);generalize ah:(m==0)=b7 at ag ae;clear hM no;refine zA ?_;simp[go_sem,hm,hn,hL,d1];repeat'(first |(refine yA (λw=>?_) (λw=>?_)<;>simp[go_sem,w,ah,d2,d3,d4,d5,d6])|(refine zO (λw=>?_) (λw=>?_)<;>simp[go_sem,w]))
  all_goals first |exact dg (by grind)|exact zH () ⟨(by grind),bT 1 (by simp[go_sem,hm,hn,hL]) rfl (by simp[bO,cH,cF]) om (zC sg rfl)⟩
 .rintro _ hM;refine zA ?_;simp[go_sem,hL];refine zG (S:=Nat) [41,42,43] (λi=>[.sl .ro (L.map bQ.row),.int .i64 L.length,.int .i64 (i:Int)]) (λ_=>[]) (λi=>L.length-i) (λi=>i<=L.length/\(L.drop i).all fG=M) hc hb 0 (by grind) ?_ ?_;.exact fg rfl (zK (by rfl) rfl)
  rintro i⟨hi,hinv⟩;by_cases q:i<L.length;rotate_left;.rw[A4 om]at hinv;refine zA ?_;simp[go_sem,q];exact dg hinv
  have ei:=zR q om;rw[rG _ _ _ q]at hinv;obtain⟨st,ab⟩:=eX (L[i]);have aa:=xy0 st (ad st (ab▸A7 q));rw[ab]at hinv;generalize fG st=b at aa hinv;refine zA ?_;simp[go_sem,q,ab];refine zJ aa cB (zK (by rfl) rfl) rfl ?_;refine(A1 b).elim (λp=>?_) (λp=>?_);.rw[p,Ah]at hinv;simp[go_sem,p,ei];exact zH (i+1) ⟨om,(by grind),fg rfl (zK (by rfl) rfl)⟩
  .rw[p,B2]at hinv;simp[go_sem,p];exact dg hinv
def nX(T:bH)(e:bG)(want:Int):Int:=if(xO T e).2≠0then(xO T e).2else if(xO T e).1≠want/\(xO T e).1≠0then 15 else 0
theorem dm{b M:Int}{U:St}(h:b=M):bW (some (.int .i64 b)) 0 (λr s=>r=.int .i64 M/\s=[]) U:=by subst h;exact wR
theorem Kw(T:bH)(hT:T.bP.length<=maxLen)(e:bG)(he:jS e)(want:Int):Pure prog 217 [.agg T.row,.agg e.row,.int .i64 want] (.int .i64 (nX T e want)):=by
 have h:=Ks T hT e he;generalize hM:nX T e want=M;unfold nX at hM;generalize xO T e=k at h hM;refine iW 0 func217 ntmps217 results217 λc hc hb=>zM ?_;simp[go_sem];refine zJ h cB (zK sg (by rw[bG.bK];rfl)) rfl ?_;simp[go_sem,yN];by_cases q1:k.2=0;rotate_left;.have aa:(k.2!=0)=true:=sU q1;rw[ahP q1]at hM;simp[go_sem,aa];exact dm hM
 have aa:(k.2!=0)=false:=sU q1;rw[ahO (λh=>h q1)]at hM;simp[go_sem,aa];by_cases q2:k.1=want;.have ab:(k.1!=want)=false:=sU q2;rw[ahO (λh=>h.1 q2)]at hM;simp[go_sem,ab];exact dm hM
 have ab:(k.1!=want)=true:=sU q2;simp[go_sem,ab];by_cases q3:k.1=0;.have ad:(k.1!=0)=false:=sU q3;rw[ahO (λh=>h.2 q3)]at hM;simp[go_sem,ad];exact dm hM
 .have ad:(k.1!=0)=true:=sU q3;rw[ahP ⟨q2,q3⟩]at hM;simp[go_sem,ad];exact dm hM
def pB(T:bH)(st:bQ):Int:=if st.cz=true then nX T st.bU 1 else 0
theorem Tn(T:bH)(hT:T.bP.length<=maxLen)(st:bQ)(hs:gR st):Pure prog 144 [.agg T.row,.agg st.row] (.int .i64 (pB T st)):=by
 have h:=Kw T hT st.bU hs.bU 1;generalize hM:pB T st=M;unfold pB at hM;generalize nX T st.bU 1=k at h hM;refine iW 0 func144 ntmps144 results144 λc hc hb=>zM ?_;simp[go_sem];refine(A1 st.cz).elim (λw=>?_) (λw=>?_);.rw[ahP w]at hM;simp[go_sem,w];refine zJ h cB (zK sg (by rw[bG.bK];rfl)) rfl ?_;simp[go_sem];exact dm hM
 .rw[ahO (by rw[w];decide)]at hM;simp[go_sem,w];exact dm hM
def vb(T:bH)(x:cJ):Int:=if x.kind=2then(xO T x.e).2else if x.kind=4then nX T x.e 2 else 0
def kK(T:bH):List cJ->Int|[]=>0|x::l=>if vb T x≠0then vb T x else kK T l
def kL(l:List cJ):Bool:=l.any λx=>x.kind==2
def ky(l:List cJ):Bool:=l.any λx=>x.kind==3||x.kind==4
def tQ(T:bH)(st:bQ):Int:=if st.order.isEmpty=true then 0 else if cq T st.order<0then 14 else if ky st.items=true then 9 else 0
def xo(T:bH)(st:bQ):Int:=if kK T st.items≠0then kK T st.items else if(kL st.items&&ky st.items)=true then 9 else if pB T st≠0then pB T st else tQ T st
theorem xG5(T:bH)(hT:T.bP.length<=maxLen)(st:bQ)(hs:gR st):Pure prog 141 [.agg T.row,.agg st.row] (.int .i64 (xo T st)):=by
 obtain⟨L,hL⟩:=eX st.items;obtain⟨an,ai⟩:=hs.items;rw[hL]at an ai;have ah:=Tn T hT st hs;have af:=F9 T st.order hT;rw[show xE (λc:eG=>c.name==st.order) T.bP 0=cq T st.order from rfl]at af;generalize hM:xo T st=M;unfold xo tQ at hM;rw[hL]at hM;refine iV 0 func141 ntmps141 results141 λc hc hb=>?_;refine zN (zA ?_);simp[go_sem];refine zN (zA ?_);simp[go_sem];refine wM (S:=Unit) [2,3,5,6] (λ_=>[.ptr 0 0,.ptr 1 0,.bool (kL L),.bool (ky L)]) (λ_=>[.box T.row,.box st.row]) (λ_=>kK T L=0) hc hb ?_ ?_
 .refine zN (zA ?_);simp[go_sem,hL];refine pX ?_;refine zG (S:=Nat×Bool×Bool) [2,3,5,6,12,13,14] (λu=>[.ptr 0 0,.ptr 1 0,.bool u.2.1,.bool u.2.2,.sl .ro (L.map cJ.row),.int .i64 L.length,.int .i64 (u.1:Int)]) (λ_=>[.box T.row,.box st.row]) (λu=>L.length-u.1) (λu=>u.1<=L.length/\(u.2.1||kL (L.drop u.1))=kL L/\(u.2.2||ky (L.drop u.1))=ky L/\kK T (L.drop u.1)=kK T L) hc hb (0,false,false) ⟨A3 _,sm,sm,sm⟩ ?_ ?_;.exact bT 2 (by simp[go_sem,hL]) rfl (by simp[bO,cH,cF,bH.row,bQ.row]) (A3 _) (zC sg rfl)
  rintro⟨i,pl,wh⟩⟨hi,hp,hw,hinv⟩;simp only at hi hp hw hinv;by_cases q:i<L.length;rotate_left
  .rw[A4 om]at hp hw hinv;have hp:pl=kL L:=by rw[<-hp];exact(Dd _).symm
   have hw:wh=ky L:=by rw[<-hw];exact(Dd _).symm
   refine zA ?_;simp[go_sem,q];exact zH () ⟨hinv.symm,aM 2 (by simp[bO,cH,cF]) (zC (by simp[go_sem,hp,hw]) rfl)⟩
  have ei:=zR q om;obtain⟨x,hx⟩:=eX (L[i]);have hE:=(ai x (hx▸A7 q)).2;rw[A2 q,hx]at hp hw hinv;unfold kL at hp;unfold ky at hw;rw[Bx]at hp hw;rw[kK]at hinv;have bad:vb T x≠0->vb T x=M:=λh=>by rw[ahP h]at hinv;rw[<-hM,<-hinv,ahP h]
  have cN:vb T x=0->kK T (L.drop (i+1))=kK T L:=λh=>by rw[ahO (λg=>g h)]at hinv;exact hinv
  clear hinv;unfold vb at bad cN;have aj:=Ks T hT x.e hE;have ak:=Kw T hT x.e hE 2;generalize xO T x.e=ty at aj bad cN;generalize nX T x.e 2=kc at ak bad cN;have go:∀(a b:Bool)(e U),(a||kL (L.drop (i+1)))=kL L->(b||ky (L.drop (i+1)))=ky L->kK T (L.drop (i+1))=kK T L->At 0 [2,3,5,6,12,13,14] [.ptr 0 0,.ptr 1 0,.bool a,.bool b,.sl .ro (L.map cJ.row),.int .i64 L.length,.int .i64 ((i+1:Nat):Int)] [.box T.row,.box st.row] e U->Vx.Next (λs':Nat×Bool×Bool=>L.length-s'.1<L.length-i/\(s'.1<=L.length/\(s'.2.1||kL (L.drop s'.1))=kL L/\(s'.2.2||ky (L.drop s'.1))=ky L/\kK T (L.drop s'.1)=kK T L)/\At 0 [2,3,5,6,12,13,14] [.ptr 0 0,.ptr 1 0,.bool s'.2.1,.bool s'.2.2,.sl .ro (L.map cJ.row),.int .i64 L.length,.int .i64 (s'.1:Int)] [.box T.row,.box st.row] e U) fx:=λa b e U h1 h2 h3 h4=>zH (i+1,a,b) ⟨by simp only;omega,⟨by simp only;omega,h1,h2,h3⟩,h4⟩;refine zA ?_;simp[go_sem,q,hx];by_cases k2:x.kind=2
  .have ab:(x.kind==2)=true:=sU k2;rw[ahP k2]at bad cN;have ao:(x.kind==3||x.kind==4)=false:=by rw[k2];rfl
   simp only[ab,Cd,Dz]at hp;simp only[ao,Bf]at hw;simp[go_sem,ab];refine zJ aj cB (zK sg (by rw[bG.bK];rfl)) rfl ?_;by_cases qe:ty.2=0;.have aa:(ty.2!=0)=false:=sU qe;simp[go_sem,yN,aa,ei];exact go true wh _ _ (by rw[Cd];exact hp) hw (cN qe) (aN 2 (by simp[bO,cH,cF,bH.row,bQ.row]))
   .have aa:(ty.2!=0)=true:=sU qe;simp[go_sem,yN,aa];exact dm (bad qe)
  rw[ahO k2]at bad cN;have ab:(x.kind==2)=false:=sU k2;simp only[ab,Bf]at hp;by_cases k4:x.kind=4
  .have ae:(x.kind==4)=true:=sU k4;rw[ahP k4]at bad cN;simp only[ae,Cd,Dz]at hw;simp[go_sem,ab,ae];refine zJ ak cB (zK sg (by rw[bG.bK];rfl)) rfl ?_;by_cases qe:kc=0;.have aa:(kc !=0)=false:=sU qe;simp[go_sem,aa,ei];exact go pl true _ _ hp (by rw[Cd];exact hw) (cN qe) (aN 2 (by simp[bO,cH,cF,bH.row,bQ.row]))
   .have aa:(kc !=0)=true:=sU qe;simp[go_sem,aa];exact dm (bad qe)
  rw[ahO k4]at bad cN;have ae:(x.kind==4)=false:=sU k4;by_cases k3:x.kind=3;.have ag:(x.kind==3)=true:=sU k3;simp only[ag,Cd,Dz]at hw;simp[go_sem,ab,ae,ag,ei];exact go pl true _ _ hp (by rw[Cd];exact hw) (cN rfl) (aN 2 (by simp[bO,cH,cF,bH.row,bQ.row]))
  .have ag:(x.kind==3)=false:=sU k3;simp only[ag,ae,Bf]at hw;simp[go_sem,ab,ae,ag,ei];exact go pl wh _ _ hp hw (cN rfl) (aN 2 (by simp[bO,cH,cF,bH.row,bQ.row]))
 .rintro _ hI;rw[ahO (λh=>h hI)]at hM;generalize kL L=pl at hM⊢;generalize ky L=wh at hM⊢;generalize pB T st=wc at ah hM;have al:(st.order==[])=st.order.isEmpty:=by cases st.order<;>rfl
  refine zA ?_;simp[go_sem];refine(A1 (pl&&wh)).elim (λw=>?_) (λw=>?_)
  .rw[ahP w]at hM;have w1:pl:=by cases pl<;>simp_all
   have w2:wh:=by cases wh<;>simp_all
   simp[go_sem,w1,w2];exact dm hM
  rw[ahO (by rw[w];decide)]at hM;refine yA (λw1=>?_) (λw1=>?_)
  .have w2:wh=false:=by cases wh<;>simp_all
   simp[go_sem,w1,w2];refine zJ ah cB (zK sg rfl) rfl ?_;by_cases qe:wc=0;rotate_left;.have aa:(wc !=0)=true:=sU qe;rw[ahP qe]at hM;simp[go_sem,aa];exact dm hM
   have aa:(wc !=0)=false:=sU qe;rw[ahO (λh=>h qe)]at hM;simp[go_sem,aa,al];refine(A1 st.order.isEmpty).elim (λw3=>?_) (λw3=>?_);.rw[ahP w3]at hM;simp[go_sem,w3];exact dm hM
   rw[ahO (by rw[w3];decide)]at hM;simp[go_sem,w3];refine zJ af cB (zK sg rfl) rfl ?_;by_cases qc:cq T st.order<0;.have ad:decide (cq T st.order<0)=true:=ahR qc;rw[ahP qc]at hM;simp[go_sem,ad];exact dm hM
   have ad:decide (cq T st.order<0)=false:=ahQ qc;rw[ahO qc]at hM;simp[go_sem,ad];rw[ahO (by rw[w2];decide)]at hM;exact dm hM
  .have w1:pl=false:=sU w1;simp[go_sem,w1];refine zJ ah cB (zK sg rfl) rfl ?_;by_cases qe:wc=0;rotate_left;.have aa:(wc !=0)=true:=sU qe;rw[ahP qe]at hM;simp[go_sem,aa];exact dm hM
   have aa:(wc !=0)=false:=sU qe;rw[ahO (λh=>h qe)]at hM;simp[go_sem,aa,al];refine(A1 st.order.isEmpty).elim (λw3=>?_) (λw3=>?_);.rw[ahP w3]at hM;simp[go_sem,w3];exact dm hM
   rw[ahO (by rw[w3];decide)]at hM;simp[go_sem,w3];refine zJ af cB (zK sg rfl) rfl ?_;by_cases qc:cq T st.order<0;.have ad:decide (cq T st.order<0)=true:=ahR qc;rw[ahP qc]at hM;simp[go_sem,ad];exact dm hM
   have ad:decide (cq T st.order<0)=false:=ahQ qc;rw[ahO qc]at hM;simp[go_sem,ad];refine(A1 wh).elim (λw4=>?_) (λw4=>?_);.rw[ahP w4]at hM;simp[go_sem,w4];exact dm hM
   .rw[ahO (by rw[w4];decide)]at hM;simp[go_sem,w4];exact dm hM
theorem To(x:Int):Pure prog 188 [.int .i64 x] (.bool false):=by refine iW 0 func188 ntmps188 results188 λc hc hb=>zM ?_;simp[go_sem];exact wR
def fR(x y:Int):Int:=if x<y then-1 else if x>y then 1 else 0
theorem Tp(x y:Int):Pure prog 119 [.int .i64 x,.int .i64 y] (.int .i64 (fR x y)):=by
 generalize hM:fR x y=M;have ret:∀(r:Int)(U:St),r=M->bW (some (.int .i64 r)) 0 (λr s=>r=.int .i64 M/\s=[]) U:=λr U h=>by subst h;exact wR
 unfold fR at hM;refine iW 0 func119 ntmps119 results119 λc hc hb=>zM ?_;simp[go_sem];refine pC (To x) ?_;simp[go_sem];refine pC (To y) ?_;simp[go_sem];repeat'(first|(refine zO (λq=>?_) (λq=>?_)<;>simp[go_sem,q]))
 all_goals exact ret _ _ (by rw[<-hM];simp only[ahS,ahZ]at*;(repeat' split)<;>omega)
end Go.Proofs.YtefbicjgbaaieaaGreat
namespace Go.Proofs.YtefbicjgbaaieaaGreat
open Go Go.Vx Go.Proofs.Tryz
set_option maxRecDepth 100000
end Go.Proofs.YtefbicjgbaaieaaGreat
namespace Go.Proofs.YtefbicjgbaaieaaGreat
open Go Go.Vx Go.Proofs.Tryz
set_option maxRecDepth 100000
set_option maxHeartbeats 1000000
end Go.Proofs.YtefbicjgbaaieaaGreat
namespace Go.Proofs.YtefbicjgbaaieaaGreat
open Go Go.Vx R Go.Proofs.Tryz
set_option maxRecDepth 100000
section
variable{b:List V}{rows:List (List V)}{A:aik}{τ:St}
end
variable {j:Nat}
theorem BF(id off s:Nat)(cells:List V){P:Program}{c:Ctx}{nt:Nat}{e:Env}{U:St}{Q:QT}{y:Code}(h0:0<s)(cD:U[id]?=some (.box cells))(hc:cells[off]?=some (.sl .full [])) (hy:ga P c nt y Q fx fx e (U.set id (.box (cells.set off (.cL U.length s 0 0 0)))++[.cj [] s])):ga P c nt y Q fx fx e U:=by intro a w L I hs;obtain⟨x,h1,h2⟩:=Qj hs.mem h0 cD hc;exact hy a w L (I++[x]) ⟨h1,hs.size,hs.defs,λk=>(hs.env k).mono (Le.refl _ _) h2⟩
def ir(name:aij):Int:=xE (λT:bH=>T.name==name) bI 0
theorem N7:∀(n:Nat)(q l:List bG),(pv n q l).length<=l.length+n
 |0,_,_=>A6 _|n+1,[],l=>by grind[pv]|n+1,e::q,l=>by
  rw[pv];split;.have:=N7 n (q++e.args) l;omega
  .have:=N7 n q (l++[e]);simp at this;omega
theorem Tq(st:bQ):(lQ st).length<=4096:=by grind[lQ,N7]
theorem N8(name:aij):ir name=-1\/ir name=0\/ir name=1\/ir name=2:=by have h:=xh (λT:bH=>T.name==name) bI 0;have hl:bI.length=3:=rfl;grind[ir]
theorem Tr(t:Int)(st:bQ):(wE t st).length<=2:=by grind[wE,S1]
def N9(st:bQ):Prop:=∀e∈lQ st,∀name s v,lu e name=some (s,v)->v.ok
def k7:bH:=⟨[],[],0,0,0,⟨[],[],[],0,0,0⟩⟩
def vc:List eG->List bG->Int|c::cs,e::es=>if nX k7 e c.kind≠0then nX k7 e c.kind else vc cs es|_,_=>0
def vd(T:bH)(r:List bG):Int:=if r.length≠T.bP.length then 9 else vc T.bP r
def ve(T:bH):List (List bG)->Int |[]=>0|r::l=>if vd T r≠0then vd T r else ve T l
theorem Ts{ρ:Nat->Nat}{g1 g2 g3 g4:Tag}:cR ρ (.agg k7.row) (.agg [.str [],.sl g1 [],.int .i64 0,.int .i64 0,.int .i64 0,.sl g2 [],.sl g3 [],.sl g4 [],.int .i64 0,.int .i64 0,.int .i64 0]):=uM ⟨zU rfl,yH,zU rfl,zU rfl,zU rfl,yH,yH,yH,zU rfl,zU rfl,zU rfl,tV⟩
theorem oI{ρ:Nat->Nat}(e:bG):cR ρ (.agg e.row) (.agg [.int .i64 e.kind,.str e.s,.int .i64 e.v.kind,.int .i64 e.v.n,.str e.v.s,.sl .ro (e.args.map bG.row)]):=by rw[bG.bK];exact zD rfl
theorem iu(T:bH)(st:bQ)(n:Nat):([.box T.row,.box st.row]:St).all (bO n)=true:=by simp[bO,cH,cF,bH.row,bQ.row]
theorem xv9(T:bH)(_hT:T.bP.length<=1000)(st:bQ)(hs:gR st):Pure prog 142 [.agg T.row,.agg st.row] (.int .i64 (ve T st.rows)):=by
 obtain⟨R,hR⟩:=eX st.rows;obtain⟨ai,ag⟩:=hs.rows;rw[hR]at ai ag;rw[hR];generalize hM:ve T R=M;refine iV 0 func142 ntmps142 results142 λc hc hb=>?_;refine zA ?_;simp[go_sem,hR];refine zG (S:=Nat) [2,3,11,12,13] (λi=>[.ptr 0 0,.ptr 1 0,.sl .ro (R.map λr=>[V.sl .ro (r.map bG.row)]),.int .i64 R.length,.int .i64 (i:Int)]) (λ_=>[.box T.row,.box st.row]) (λi=>R.length-i) (λi=>i<=R.length/\ve T (R.drop i)=M) hc hb 0 ⟨A3 _,hM⟩ ?_ ?_;.exact bT 2 (by simp[go_sem,hR]) rfl (iu T st 2) (A3 _) (zC sg rfl)
 rintro i⟨hi,hinv⟩;by_cases q:i<R.length;rotate_left;.rw[A4 om]at hinv;refine zA ?_;simp[go_sem,q];exact dm hinv
 have ei:=zR q om;obtain⟨r,hr⟩:=eX (R[i]);obtain⟨ak,aj⟩:=ag r (hr▸A7 q);rw[A2 q,hr,ve]at hinv;by_cases q2:r.length=T.bP.length;rotate_left
 .have ad:((r.length:Int)!=T.bP.length)=true:=by simp;omega
  have ae:vd T r=9:=by unfold vd;rw[ahP q2]
  rw[ae,ahP dc]at hinv;refine zA ?_;simp[go_sem,q,hr,ad];exact dm hinv
 have ad:((r.length:Int)!=T.bP.length)=false:=by simp;omega
 have ae:vd T r=vc T.bP r:=by unfold vd;rw[ahO (λh=>h q2)]
 rw[ae]at hinv;obtain⟨C,hC⟩:=eX (vc T.bP r);rw[hC]at hinv;refine zA ?_;simp[go_sem,q,hr,ad];refine zG (S:=Nat) [2,3,11,12,13,23,24,25] (λk=>[.ptr 0 0,.ptr 1 0,.sl .ro (R.map λr=>[V.sl .ro (r.map bG.row)]),.int .i64 R.length,.int .i64 (i:Int),.sl .ro (r.map bG.row),.int .i64 r.length,.int .i64 (k:Int)]) (λ_=>[.box T.row,.box st.row]) (λk=>r.length-k) (λk=>k<=r.length/\vc (T.bP.drop k) (r.drop k)=C) hc hb 0 ⟨A3 _,hC⟩ ?_ ?_;.exact bT 2 (by simp[go_sem,hR]) rfl (iu T st 2) (A3 _) (zC sg rfl)
 rintro k⟨hk,aa⟩;by_cases qk:k<r.length;rotate_left;.rw[A4 om,A4 om]at aa;have aa:C=0:=aa.symm;rw[ahO (λh=>h aa)]at hinv;refine zA ?_;simp[go_sem,qk,ei];exact zH (i+1) ⟨om,⟨om,hinv⟩,aN 2 (iu T st 2)⟩
 have ek:=zR qk om;have qc:k<T.bP.length:=om;obtain⟨e,he⟩:=eX (r[k]);obtain⟨c1,ah⟩:=eX (T.bP[k]);have hE:=aj e (he▸A7 qk);rw[A2 qk,A2 qc,he,ah,vc]at aa;have ab:=Kw k7 dc e hE c1.kind;generalize nX k7 e c1.kind=kc at ab aa;refine zA ?_;simp[go_sem,qk,he];refine zW [(8,0)] 3 sm kR kR ?_;simp[go_sem,qc,ah];refine yF ab cB (λ_=>⟨Ts,oI e,zD rfl,tV⟩) rfl ?_;simp[go_sem];by_cases qe:kc=0;.have af:(kc !=0)=false:=sU qe;rw[ahO (λh=>h qe)]at aa;simp[go_sem,af,ek];exact zH (k+1) ⟨om,⟨om,aa⟩,aN 2 (iu T st 2)⟩
 .have af:(kc !=0)=true:=sU qe;rw[ahP qe]at aa;rw[ahP (by rw[<-aa];exact qe)]at hinv;simp[go_sem,af];exact dm (aa.trans hinv)
def kz(T:bH):List bX->List bX->Int
 |_,[]=>0|p,x::l=>if cq T x.name<0then 14 else if cq T x.name=T.key\/(cq T x.name=0/\T.place=0)then 18 else if(p.any λy=>y.name==x.name)=true then 9 else if nX T x.e (iY T (cq T x.name))≠0then nX T x.e (iY T (cq T x.name))else kz T (p++[x]) l
theorem nY(x:bX):bO 0 (.box x.row)=true:=by simp[bO,cH,cF,bX.row]
theorem xh5(x y:bX):bL prog 219 [.agg y.row,.ptr 0 0] [.box x.row] (λr U=>r=.bool (y.name==x.name)/\U=[.box x.row]):=by refine iW 1 func219 ntmps219 results219 λc hc hb=>zM ?_;simp[go_sem];exact wC 1 rfl rfl (by simp[bO,cH,cF]) (A6 _) (zD rfl) ⟨rfl,rfl⟩
theorem wm8(x:bX)(l:List bX)(hl:l.length<=12):bL prog 278 [.sl .ro (l.map bX.row),.fn 219 [.ptr 0 0]] [.box x.row] (λr U=>r=.int .i64 (k6 (λy=>y.name==x.name) l 0)/\U=[.box x.row]):=by
 generalize hM:k6 (λy:bX=>y.name==x.name) l 0=M;have ret:∀(r:Int)(U:St),r=M->bW (some (.int .i64 r)) 1 (λr s=>r=.int .i64 M/\s=[.box x.row]) (.box x.row::U):=λr U h=>by subst h;exact wC 1 rfl rfl (by simp[bO,cH,cF,bX.row]) (A6 _) (zD rfl) ⟨rfl,rfl⟩
 refine iV 1 func278 ntmps278 results278 λc hc hb=>?_;refine zA ?_;simp[go_sem];refine zG (S:=Nat) [0,1,6,7,8] (λi=>[.sl .ro (l.map bX.row),.fn 219 [.ptr 0 0],.sl .ro (l.map bX.row),.int .i64 l.length,.int .i64 (i:Int)]) (λ_=>[.box x.row]) (λi=>l.length-i) (λi=>i<=l.length/\k6 (λy=>y.name==x.name) (l.drop i) i=M) hc hb 0 ⟨A3 _,hM⟩ ?_ ?_;.exact aN 1 (by simp[bO,cH,cF,bX.row])
 rintro i⟨hi,hinv⟩;by_cases q:i<l.length;rotate_left;.rw[A4 om]at hinv;refine zA ?_;simp[go_sem,q];exact ret _ _ hinv
 have ei:=zR q om;obtain⟨y,hy⟩:=eX (l[i]);rw[A2 q,hy,k6]at hinv;have aa:=xh5 x y;generalize(y.name==x.name)=b at aa hinv;refine zA ?_;simp[go_sem,q,hy];refine pd 0 aa cB rfl (nY x) ⟨zD rfl,.inl rfl,tV⟩ (λr U h=>⟨_,h.2,nY x⟩) ?_;rintro r o2⟨rfl,h2⟩;obtain rfl:o2=.box x.row:=sU h2;refine(A1 b).elim (λp=>?_) (λp=>?_);.rw[ahP p]at hinv;simp[go_sem,p];exact ret _ _ hinv
 .rw[ahO (by rw[p];decide)]at hinv;simp[go_sem,p,ei];exact zH (i+1) ⟨om,⟨om,hinv⟩,aN 1 (by simp[bO,cH,cF])⟩
theorem wm3(x:bX)(l:List bX)(hl:l.length<=12):bL prog 218 [.sl .ro (l.map bX.row),.fn 219 [.ptr 0 0]] [.box x.row] (λr U=>r=.bool (l.any λy=>y.name==x.name)/\U=[.box x.row]):=by have h:=wm8 x l hl;have hg:=HW (λy:bX=>y.name==x.name) l 0;rw[<-hg];generalize k6 (λy:bX=>y.name==x.name) l 0=n at h⊢;refine iW 1 func218 ntmps218 results218 λc hc hb=>zM ?_;simp[go_sem];refine pd 0 h cB rfl (nY x) ⟨zD rfl,.inl (by simp[dG,dQ,dz,dE,cO]),tV⟩ (λr U h=>⟨_,h.2,nY x⟩) ?_;rintro r o2⟨rfl,h2⟩;obtain rfl:o2=.box x.row:=sU h2;simp[go_sem];exact wC 1 rfl rfl (by simp[bO,cH,cF]) (A6 _) (zD rfl) ⟨rfl,rfl⟩
theorem we7(T:bH)(hT:T.bP.length<=1000)(st:bQ)(hs:gR st):Pure prog 143 [.agg T.row,.agg st.row] (.int .i64 (kz T [] st.cp)):=by
 obtain⟨L,hL⟩:=eX st.cp;obtain⟨al,ak⟩:=hs.cp;rw[hL]at al ak;rw[hL];generalize hM:kz T [] L=M;refine iV 0 func143 ntmps143 results143 λc hc hb=>?_;refine zA ?_;simp[go_sem,hL];refine zG (S:=Nat) [2,3,10,11,12] (λi=>[.ptr 0 0,.ptr 1 0,.sl .ro (L.map bX.row),.int .i64 L.length,.int .i64 (i:Int)]) (λ_=>[.box T.row,.box st.row]) (λi=>L.length-i) (λi=>i<=L.length/\kz T (L.take i) (L.drop i)=M) hc hb 0 ⟨A3 _,hM⟩ ?_ ?_;.exact bT 2 (by simp[go_sem,hL]) rfl (iu T st 2) (A3 _) (zC sg rfl)
 rintro i⟨hi,hinv⟩;by_cases q:i<L.length;rotate_left;.rw[A4 om,kz]at hinv;refine zA ?_;simp[go_sem,q];exact dm hinv
 have ei:=zR q om;obtain⟨x,hx⟩:=eX (L[i]);obtain⟨aq,hE⟩:=ak x (hx▸A7 q);have aa:=F9 T x.name (by unfold maxLen;omega);rw[show xE (λc:eG=>c.name==x.name) T.bP 0=cq T x.name from rfl]at aa;have ag:=wm3 x (L.take i) (by simp;omega);have an:L.take (i+1)=L.take i++[x]:=by rw[Cn,A0 q,hx];rfl
 rw[A2 q,hx,kz,<-an]at hinv;generalize((L.take i).any λy=>y.name==x.name)=b at ag hinv;by_cases qc:cq T x.name<0;.have ae:decide (cq T x.name<0)=true:=ahR qc;rw[ahP qc]at hinv;refine zA ?_;simp[go_sem,q,hx];refine zJ aa cB (zK sg rfl) rfl ?_;simp[go_sem,ae];exact dm hinv
 have ae:decide (cq T x.name<0)=false:=ahQ qc;rw[ahO qc]at hinv;obtain⟨j,hj,ai⟩:=Ex T x.name qc;obtain⟨C,hC⟩:=eX (T.bP[j]);have ao:iY T (cq T x.name)=C.kind:=by unfold iY;rw[hj,Ai,A0 ai,hC];rfl
 rw[ao]at hinv;have ab:=Kw T (by unfold maxLen;omega) x.e hE C.kind;generalize nX T x.e C.kind=kc at ab hinv;rw[hj]at aa hinv ae;by_cases qk:(j:Int)=T.key\/((j:Int)=0/\T.place=0)
 .rw[ahP qk]at hinv;refine zA ?_;simp[go_sem,q,hx];refine zJ aa cB (zK sg rfl) rfl ?_;simp[go_sem,ae];by_cases k1:(j:Int)=T.key;.have af:((j:Int)==T.key)=true:=sU k1;simp[go_sem,af];exact dm hinv
  .have af:((j:Int)==T.key)=false:=sU k1;obtain⟨k2,k3⟩:=qk.resolve_left k1;have ah:((j:Int)==0)=true:=sU k2;have aj:(T.place==0)=true:=sU k3;simp[go_sem,af,ah,aj];exact dm hinv
 rw[ahO qk]at hinv;have af:((j:Int)==T.key)=false:=by simpa usingλh=>qk (.inl h)
 have key:((j:Int)==0)=false\/(((j:Int)==0)=true/\(T.place==0)=false):=by
  by_cases k2:(j:Int)=0;.exact .inr ⟨by simpa using k2,by simpa usingλh=>qk (.inr ⟨k2,h⟩)⟩
  .exact .inl (sU k2)
 refine key.elim (λah=>?_) (λ⟨ah,aj⟩=>?_)
 .refine zA ?_;simp[go_sem,q,hx];refine zJ aa cB (zK sg rfl) rfl ?_;simp[go_sem,ae,af,ah,hL];refine zF ⟨hi,vZ λ_=>rfl⟩ ?_;simp[go_sem,<-List.map_take];refine pd 2 ag cB rfl (nY x) ⟨zP,.inl (by simp[dG,dQ,dz,dE,cO]),tV⟩ (λr U h=>⟨_,h.2,nY x⟩) ?_;rintro r o2⟨rfl,h2⟩;obtain rfl:o2=.box x.row:=sU h2;refine(A1 b).elim (λp=>?_) (λp=>?_);.rw[ahP p]at hinv;simp[go_sem,p];exact dm hinv
  rw[ahO (by rw[p];decide)]at hinv;simp[go_sem,p];refine zW [(9,0)] 3 sm kR kR ?_;simp[go_sem,ai,hC];refine yF ab cB (λ_=>⟨zD rfl,oI x.e,zD rfl,tV⟩) rfl ?_;simp[go_sem];by_cases qe:kc=0;.have ad:(kc !=0)=false:=sU qe;rw[ahO (λh=>h qe)]at hinv;simp[go_sem,ad,ei];exact zH (i+1) ⟨om,⟨om,hinv⟩,bT 2 (by simp[go_sem,hL]) rfl (iu T st 2) (A3 _) (zC sg rfl)⟩
  .have ad:(kc !=0)=true:=sU qe;rw[ahP qe]at hinv;simp[go_sem,ad];exact dm hinv
 .refine zA ?_;simp[go_sem,q,hx];refine zJ aa cB (zK sg rfl) rfl ?_;simp[go_sem,ae,af,ah,aj,hL];refine zF ⟨hi,vZ λ_=>rfl⟩ ?_;simp[go_sem,<-List.map_take];refine pd 2 ag cB rfl (nY x) ⟨zP,.inl (by simp[dG,dQ,dz,dE,cO]),tV⟩ (λr U h=>⟨_,h.2,nY x⟩) ?_;rintro r o2⟨rfl,h2⟩;obtain rfl:o2=.box x.row:=sU h2;refine(A1 b).elim (λp=>?_) (λp=>?_);.rw[ahP p]at hinv;simp[go_sem,p];exact dm hinv
  rw[ahO (by rw[p];decide)]at hinv;simp[go_sem,p];refine zW [(9,0)] 3 sm kR kR ?_;simp[go_sem,ai,hC];refine yF ab cB (λ_=>⟨zD rfl,oI x.e,zD rfl,tV⟩) rfl ?_;simp[go_sem];by_cases qe:kc=0;.have ad:(kc !=0)=false:=sU qe;rw[ahO (λh=>h qe)]at hinv;simp[go_sem,ad,ei];exact zH (i+1) ⟨om,⟨om,hinv⟩,bT 2 (by simp[go_sem,hL]) rfl (iu T st 2) (A3 _) (zC sg rfl)⟩
  .have ad:(kc !=0)=true:=sU qe;rw[ahP qe]at hinv;simp[go_sem,ad];exact dm hinv
def oJ(st:bQ):Int:=match bI[(ir st.table).toNat]?with|none=>14|some T=>if ir st.table<0then 14 else if st.kind=1then xo T st else if st.kind=2then ve T st.rows else if st.kind=3then(if kz T [] st.cp≠0then kz T [] st.cp else pB T st)else pB T st
theorem xG2(st:bQ)(hs:gR st):Pure prog 85 [cA bI,.agg st.row] (.int .i64 (oJ st)):=by
 have ad:=S2 bI st.table dc;rw[show xE (λt:bH=>t.name==st.table) bI 0=ir st.table from rfl]at ad;generalize hM:oJ st=M;unfold oJ at hM;have al:=N8 st.table;generalize ir st.table=t at ad al hM;refine iW 0 func85 ntmps85 results85 λc hc hb=>zM ?_;simp[go_sem,cA];refine zJ ad cB (zK (by simp[go_sem,cA]) rfl) rfl ?_;simp[go_sem];by_cases ah:t=-1
 .have hM:14=M:=by rw[<-hM,ah];rfl
  subst ah;simp[go_sem];exact dm hM
 have ai:¬t<0:=om;have aj:decide (t<0)=false:=ahQ ai;obtain⟨j,rfl⟩:∃j:Nat,t=j:=⟨t.toNat,om⟩;have ae:j<bI.length:=by show j<3;omega
 obtain⟨T,hT⟩:=eX (bI[j]);have ak:T.bP.length<=1000:=by rw[<-hT];match j,ae with |0,_=>exact(by decide:kY.bP.length<=1000)|1,_=>exact(by decide:rE.bP.length<=1000)|2,_=>exact(by decide:rF.bP.length<=1000)
 simp only[Ai,A0 ae,hT]at hM;rw[ahO ai]at hM;have h1:=xG5 T (by unfold maxLen;omega) st hs;have h2:=xv9 T ak st hs;have h3:=we7 T ak st hs;have h4:=Tn T (by unfold maxLen;omega) st hs;simp[go_sem,aj,ae,hT];by_cases k1:st.kind=1;.have aa:(st.kind==1)=true:=sU k1;rw[ahP k1]at hM;simp[go_sem,aa];refine zJ h1 cB (zK sg rfl) rfl ?_;simp[go_sem];exact dm hM
 have aa:(st.kind==1)=false:=sU k1;rw[ahO k1]at hM;by_cases k2:st.kind=2;.have ab:(st.kind==2)=true:=sU k2;rw[ahP k2]at hM;simp[go_sem,aa,ab];refine zJ h2 cB (zK sg rfl) rfl ?_;simp[go_sem];exact dm hM
 have ab:(st.kind==2)=false:=sU k2;rw[ahO k2]at hM;by_cases k3:st.kind=3
 .have af:(st.kind==3)=true:=sU k3;rw[ahP k3]at hM;generalize kz T [] st.cp=sc at h3 hM;simp[go_sem,aa,ab,af];refine zJ h3 cB (zK sg rfl) rfl ?_;by_cases qe:sc=0;.have ag:(sc !=0)=false:=sU qe;rw[ahO (λh=>h qe)]at hM;simp[go_sem,ag];refine zJ h4 cB (zK sg rfl) rfl ?_;simp[go_sem];exact dm hM
  .have ag:(sc !=0)=true:=sU qe;rw[ahP qe]at hM;simp[go_sem,ag];exact dm hM
 have af:(st.kind==3)=false:=sU k3;rw[ahO k3]at hM;simp[go_sem,aa,ab,af];refine zJ h4 cB (zK sg rfl) rfl ?_;simp[go_sem];exact dm hM
def tR(mode:Int):List bQ->Nat->Int×Int |[],_=>(0,0)|x::l,i=>if mode≠0/\x.kind≠1then((i:Int),1)else if oJ x≠0then((i:Int),oJ x)else tR mode l (i+1)
def mh(l:dR):Int×Int:=if iZ l=true then tR l.mode l.stmts 0 else(0,9)
theorem yV1(l:dR)(hl:mO l):Pure prog 40 [cA bI,.agg l.row] (yN (mh l)):=by
 have ad:=xC7 l hl;obtain⟨L,hL⟩:=eX l.stmts;obtain⟨ag,af⟩:=hl.stmts;rw[hL]at ag af;obtain⟨m,hm⟩:=eX l.mode;generalize hM:mh l=M;unfold mh at hM;rw[hL,hm]at hM;generalize iZ l=b at ad hM;refine iV 0 func40 ntmps40 results40 λc hc hb=>?_;refine zA ?_;simp[go_sem,cA];refine zJ ad cB (zK sg rfl) rfl ?_;refine(A1 b).elim (λp=>?_) (λp=>?_);rotate_left;.rw[ahO (by rw[p];decide)]at hM;simp[go_sem,p];exact wT hM
 rw[ahP p]at hM;simp[go_sem,p,hL];refine zG (S:=Nat) [2,3,13,14,15] (λi=>[.ptr 0 0,.ptr 1 0,.sl .ro (L.map bQ.row),.int .i64 L.length,.int .i64 (i:Int)]) (λ_=>[.box [.sl .ro yL,.sl .ro (bI.map bH.row)],.box l.row]) (λi=>L.length-i) (λi=>i<=L.length/\tR m (L.drop i) i=M) hc hb 0 ⟨A3 _,hM⟩ ?_ ?_;.exact bT 2 (by simp[go_sem,hL]) rfl (by simp[bO,cH,cF,dR.row]) (A3 _) (zC sg rfl)
 rintro i⟨hi,hinv⟩;by_cases q:i<L.length;rotate_left;.rw[A4 om,tR]at hinv;refine zA ?_;simp[go_sem,q];exact wT hinv
 have ei:=zR q om;obtain⟨st,ae⟩:=eX (L[i]);have aa:=xG2 st (af st (ae▸A7 q));rw[A2 q,ae,tR]at hinv;generalize oJ st=ce at aa hinv;refine zA ?_;simp[go_sem,q,ae,hm];by_cases q1:m≠0/\st.kind≠1;.rw[ahP q1]at hinv;have ah:(m !=0)=true:=sU q1.1;have ai:(st.kind !=1)=true:=sU q1.2;simp[go_sem,ah,ai];exact wT hinv
 rw[ahO q1]at hinv;have key:(m !=0)=false\/((m !=0)=true/\(st.kind !=1)=false):=by
  by_cases h:m=0;.exact .inl (sU h)
  .refine .inr ⟨by simpa using h,?_⟩;simp only[bne_eq_false_iff_eq];exact Classical.byContradiction λg=>q1 ⟨h,g⟩
 refine key.elim (λa1=>?_) (λ⟨a1,a2⟩=>?_)
 .simp[go_sem,a1];refine zJ aa cB (zK (by simp[go_sem,cA]) rfl) rfl ?_;by_cases qe:ce=0;.have ab:(ce !=0)=false:=sU qe;rw[ahO (λh=>h qe)]at hinv;simp[go_sem,ab,ei];exact zH (i+1) ⟨om,⟨om,hinv⟩,bT 2 (by simp[go_sem,hL,hm]) rfl (by simp[bO,cH,cF]) (A3 _) (zC sg rfl)⟩
  .have ab:(ce !=0)=true:=sU qe;rw[ahP qe]at hinv;simp[go_sem,ab];exact wT hinv
 .simp[go_sem,a1,a2];refine zJ aa cB (zK (by simp[go_sem,cA]) rfl) rfl ?_;by_cases qe:ce=0;.have ab:(ce !=0)=false:=sU qe;rw[ahO (λh=>h qe)]at hinv;simp[go_sem,ab,ei];exact zH (i+1) ⟨om,⟨om,hinv⟩,bT 2 (by simp[go_sem,hL,hm]) rfl (by simp[bO,cH,cF]) (A3 _) (zC sg rfl)⟩
  .have ab:(ce !=0)=true:=sU qe;rw[ahP qe]at hinv;simp[go_sem,ab];exact wT hinv
def lR (k w:Int):Bool:=k==w||k==0
theorem Kx(T:bH)(e:bG)(w:Int):nX T e w=if(xO T e).2≠0then(xO T e).2else if lR (xO T e).1 w=true then 0 else 15:=by unfold nX lR;by_cases h1:(xO T e).1=w<;>by_cases h2:(xO T e).1=0<;>simp[h1,h2]
theorem Tt{X Y C:Int}(h:(if X≠0then X else Y)=C):(X≠0/\X=C)\/(X=0/\Y=C):=by
 by_cases q:X=0;.rw[ahO (λg=>g q)]at h;exact .inr ⟨q,h⟩
 .rw[ahP q]at h;exact .inl ⟨q,h⟩
theorem Oa(T:bH)(hT:T.bP.length<=maxLen)(st:bQ)(hs:gR st):Pure prog 56 [.agg T.row,.agg st.row] (.int .i64 (pB T st)):=by
 have h:=HS T hT st.bU hs.bU;generalize hM:pB T st=M;unfold pB at hM;rw[Kx]at hM;generalize xO T st.bU=k at h hM;have ho:Pure prog 102 [.int .i64 k.1,.int .i64 1] (.bool (lR k.1 1)):=JU k.1 1;generalize lR k.1 1=ob at ho hM;refine iW 0 func56 ntmps56 results56 λc hc hb=>zM ?_;simp[go_sem];refine(A1 st.cz).elim (λw=>?_) (λw=>?_);rotate_left;.rw[ahO (by rw[w];decide)]at hM;simp[go_sem,w];exact dm hM
 rw[ahP w]at hM;simp[go_sem,w];refine zJ h cB (zK sg (by rw[bG.bK];rfl)) rfl ?_;simp[go_sem,yN];by_cases q:k.2=0
 .have q':(k.2!=0)=false:=sU q;rw[ahO (λh=>h q)]at hM;simp[go_sem,q'];refine pC ho ?_;refine(A1 ob).elim (λp=>?_) (λp=>?_);.rw[ahP p]at hM;simp[go_sem,p];exact dm hM
  .rw[ahO (by rw[p];decide)]at hM;simp[go_sem,p];exact dm hM
 .have q':(k.2!=0)=true:=sU q;rw[ahP q]at hM;simp[go_sem,q'];exact dm hM
theorem yI5(T:bH)(_hT:T.bP.length<=1000)(st:bQ)(hs:gR st):Pure prog 54 [.agg T.row,.agg st.row] (.int .i64 (ve T st.rows)):=by
 obtain⟨R,hR⟩:=eX st.rows;obtain⟨ai,ag⟩:=hs.rows;rw[hR]at ai ag;rw[hR];generalize hM:ve T R=M;refine iV 0 func54 ntmps54 results54 λc hc hb=>?_;refine zA ?_;simp[go_sem,hR];refine zG (S:=Nat) [2,3,5] (λi=>[.ptr 0 0,.ptr 1 0,.int .i64 (i:Int)]) (λ_=>[.box T.row,.box st.row]) (λi=>R.length-i) (λi=>i<=R.length/\ve T (R.drop i)=M) hc hb 0 ⟨A3 _,hM⟩ ?_ ?_;.exact bT 2 (by simp[go_sem,hR]) rfl (iu T st 2) (A3 _) (zC sg rfl)
 rintro i⟨hi,hinv⟩;by_cases q:i<R.length;rotate_left;.rw[A4 om]at hinv;refine zA ?_;simp[go_sem,hR,q];exact dm hinv
 have ei:=zR q om;obtain⟨r,hr⟩:=eX (R[i]);obtain⟨ak,aj⟩:=ag r (hr▸A7 q);rw[A2 q,hr,ve]at hinv;by_cases q2:r.length=T.bP.length;rotate_left
 .have ad:((r.length:Int)!=T.bP.length)=true:=by simp;omega
  have ae:vd T r=9:=by unfold vd;rw[ahP q2]
  rw[ae,ahP dc]at hinv;refine zA ?_;simp[go_sem,hR,q];refine zW [] 2 sm kR kR ?_;simp[go_sem,q,hr,ad];exact dm hinv
 have ad:((r.length:Int)!=T.bP.length)=false:=by simp;omega
 have ae:vd T r=vc T.bP r:=by unfold vd;rw[ahO (λh=>h q2)]
 rw[ae]at hinv;obtain⟨C,hC⟩:=eX (vc T.bP r);rw[hC]at hinv;refine zA ?_;simp[go_sem,hR,q];refine zW [] 2 sm kR kR ?_;simp[go_sem,q,hr,ad];refine zG (S:=Nat) [2,3,5,6] (λk=>[.ptr 0 0,.ptr 1 0,.int .i64 (i:Int),.int .i64 (k:Int)]) (λ_=>[.box T.row,.box st.row]) (λk=>r.length-k) (λk=>k<=r.length/\vc (T.bP.drop k) (r.drop k)=C) hc hb 0 ⟨A3 _,hC⟩ ?_ ?_;.exact bT 2 (by simp[go_sem,hR]) rfl (iu T st 2) (A3 _) (zC sg rfl)
 rintro k⟨hk,aa⟩;by_cases qk:k<r.length;rotate_left;.rw[A4 om,A4 om]at aa;have aa:C=0:=aa.symm;rw[ahO (λh=>h aa)]at hinv;refine zA ?_;simp[go_sem,hR,q,hr,qk,ei];exact zH (i+1) ⟨om,⟨om,hinv⟩,bT 2 (by simp[go_sem,hR]) rfl (iu T st 2) (A3 _) (zC sg rfl)⟩
 have ek:=zR qk om;have qc:k<T.bP.length:=om;obtain⟨e,he⟩:=eX (r[k]);obtain⟨c1,ah⟩:=eX (T.bP[k]);have hE:=aj e (he▸A7 qk);rw[A2 qk,A2 qc,he,ah,vc,Kx]at aa;have ab:=HS k7 dc e hE;generalize xO k7 e=ty at ab aa;have aa:=Tt aa;have ho:Pure prog 102 [.int .i64 ty.1,.int .i64 c1.kind] (.bool (lR ty.1 c1.kind)):=JU ty.1 c1.kind;generalize lR ty.1 c1.kind=ob at ho aa;refine zA ?_;simp[go_sem,hR,q,hr,qk,he];refine zJ ab cB ⟨Ts,oI e,tV⟩ rfl ?_;simp[go_sem,yN];by_cases qe:ty.2=0;rotate_left;.have af:(ty.2!=0)=true:=sU qe;rw[ahP qe]at aa;have aa:ty.2=C:=aa.elim (·.2) (λh=>absurd h.1 qe);rw[ahP (by rw[<-aa];exact qe)]at hinv;simp[go_sem,af];exact dm (aa.trans hinv)
 have af:(ty.2!=0)=false:=sU qe;rw[ahO (λh=>h qe)]at aa;simp[go_sem,af,qc,ah];refine pC ho ?_;refine(A1 ob).elim (λp=>?_) (λp=>?_);.rw[ahP p]at aa;have aa:=aa.elim (λh=>absurd rfl h.1) (·.2);simp[go_sem,p,ek];exact zH (k+1) ⟨om,⟨om,aa⟩,bT 2 (by simp[go_sem,hR]) rfl (iu T st 2) (A3 _) (zC sg rfl)⟩
 .rw[ahO (by rw[p];decide)]at aa;have aa:15=C:=aa.elim (·.2) (λh=>by cases h.1);rw[<-aa,ahP dc]at hinv;simp[go_sem,p];exact dm hinv
def kA(T:bH)(p:List bX):List (List V):=(List.range T.bP.length).map λ(j:Nat)=>[.bool (p.any λy=>cq T y.name==(j:Int))]
theorem Ky(T:bH)(p:List bX):(kA T p).length=T.bP.length:=by simp[kA]
theorem xS5(T:bH):kA T []=List.replicate T.bP.length [.bool false]:=by unfold kA;rw[List.eq_replicate_iff];exact⟨sm,λr hr=>by obtain⟨j,_,rfl⟩:=Aa.1 hr;rfl⟩
theorem Oc(T:bH)(p:List bX)(h:j<T.bP.length):(kA T p)[j]?=some [.bool (p.any λy=>cq T y.name==(j:Int))]:=by unfold kA;rw[B1,Dr h];rfl
theorem xS4(T:bH)(p:List bX)(x:bX)(hj:cq T x.name=j)(h:j<T.bP.length):(kA T p).set j [.bool true]=kA T (p++[x]):=by
 apply Bs;intro i;by_cases hi:i<T.bP.length
 .rw[Oc T _ hi,List.any_append,Bx,aii,Dd,hj];by_cases e:i=j;.subst e;rw[Bc (by rw[Ky];exact h)];simp
  .rw[D9 (λq=>e q.symm),Oc T _ hi];have:((j:Int)==(i:Int))=false:=by simp;omega
   rw[this,Dd]
 .rw[Cq (by simp[Ky];omega),Cq (by rw[Ky];omega)]
theorem Tu{J:Type}(p:J->Bool):∀(l:List J)(i j:Nat),xE p l i=((i+j:Nat):Int)->∃x,l[j]?=some x/\p x=true
 |[],i,j,h=>by rw[xE]at h;omega|x::l,i,j,h=>by
  rw[xE]at h;split at h;.rename_i hp;have:j=0:=om;subst this;exact⟨x,rfl,hp⟩
  .have aa:=xh p l (i+1);cases j with|zero=>omega|succ j=>exact Tu p l (i+1) j (by rw[h];congr 1;omega)
theorem Tv{T:bH}{s:aij}(h:cq T s=j):(T.bP[j]?).map (·.name)=some s:=by obtain⟨x,hx,hp⟩:=Tu (λc:eG=>c.name==s) T.bP 0 j (by rw[Ab];exact h);rw[hx];have:x.name=s:=sU hp;rw[<-this];rfl
theorem xS6(T:bH)(p:List bX)(x:bX)(hj:cq T x.name=j):(p.any λy=>cq T y.name==(j:Int))=p.any λy=>y.name==x.name:=by induction p with|nil=>rfl|cons y p ih=>
  rw[Bx,Bx,ih];congr 1;by_cases e:y.name=x.name;.rw[e,hj];simp
  .have:¬cq T y.name=j:=λh=>by have a1:=Tv hj;have a2:=Tv h;rw[a1]at a2;exact e (by simpa using a2.symm)
   have n1:(cq T y.name==(j:Int))=false:=sU this;have n2:(y.name==x.name)=false:=sU e;rw[n1,n2]
theorem yJ0(T:bH)(hT:T.bP.length<=1000)(st:bQ)(hs:gR st):Pure prog 55 [.agg T.row,.agg st.row] (.int .i64 (if kz T [] st.cp≠0then kz T [] st.cp else pB T st)):=by
 have ao:=Oa T (by unfold maxLen;omega) st hs;obtain⟨L,hL⟩:=eX st.cp;obtain⟨av,aq⟩:=hs.cp;rw[hL]at av aq;rw[hL];generalize hM:(if kz T [] L≠0then kz T [] L else pB T st)=M;generalize pB T st=wh at ao hM;obtain⟨n,hn⟩:=eX T.bP.length;have ai:=xS5 T;rw[hn]at ai;refine iV 0 func55 ntmps55 results55 λc hc hb=>?_;refine qQ 13 dc ?_;refine zA ?_;simp[go_sem,hL,hn];refine zF om ?_;simp[go_sem,<-ai];refine zG (S:=Nat) [2,3,5,6] (λi=>[.ptr 0 0,.ptr 1 0,.cL 2 1 n 0 n,.int .i64 (i:Int)]) (λi=>[.box T.row,.box st.row,.cj (kA T (L.take i)) 1]) (λi=>L.length-i) (λi=>i<=L.length/\(if kz T (L.take i) (L.drop i)≠0then kz T (L.take i) (L.drop i)else wh)=M) hc hb 0 ⟨A3 _,hM⟩ ?_ ?_;.exact bT 3 (by simp[go_sem,hL]) rfl (by simp[bO,cH,cF,kA,bH.row,bQ.row]) (A3 _) (zC sg rfl)
 rintro i⟨hi,hinv⟩;have cK:∀p:List bX,([.box T.row,.box st.row,.cj (kA T p) 1]:St).all (bO 3)=true:=λp=>by simp[bO,cH,cF,kA,bH.row,bQ.row]
 by_cases q:i<L.length;rotate_left;.rw[A4 om,kz]at hinv;refine zA ?_;simp[go_sem,hL,q];refine zJ ao cB (zK (by rw[<-hL];rfl) rfl) rfl ?_;simp[go_sem];exact dm hinv
 have ei:=zR q om;obtain⟨x,hx⟩:=eX (L[i]);obtain⟨ay,hE⟩:=aq x (hx▸A7 q);have aa:=Ga T x.name (by unfold maxLen;omega);rw[show xE (λc:eG=>c.name==x.name) T.bP 0=cq T x.name from rfl]at aa;have ar:L.take (i+1)=L.take i++[x]:=by rw[Cn,A0 q,hx];rfl
 rw[A2 q,hx]at hinv;generalize hS:kz T (L.take i) (x::L.drop (i+1))=S at hinv;rw[kz,<-ar]at hS;have bad:S≠0->S=M:=λh=>by rw[ahP h]at hinv;exact hinv
 by_cases qc:cq T x.name<0;.have ad:decide (cq T x.name<0)=true:=ahR qc;rw[ahP qc]at hS;have hM:=bad (by rw[<-hS];decide);refine zA ?_;simp[go_sem,hL,q];refine zW [(7,0)] 2 sm kR kR ?_;simp[go_sem,q,hx];refine yF aa cB (λ_=>zK sg rfl) rfl ?_;simp[go_sem,ad];exact dm (hS.trans hM)
 have ad:decide (cq T x.name<0)=false:=ahQ qc;rw[ahO qc]at hS;obtain⟨j,hj,ab⟩:=Ex T x.name qc;obtain⟨C,hC⟩:=eX (T.bP[j]);have aw:iY T (cq T x.name)=C.kind:=by unfold iY;rw[hj,Ai,A0 ab,hC];rfl
 rw[aw,Kx]at hS;have au:=HS T (by unfold maxLen;omega) x.e hE;generalize xO T x.e=ty at au hS;have ho:Pure prog 102 [.int .i64 ty.1,.int .i64 C.kind] (.bool (lR ty.1 C.kind)):=JU ty.1 C.kind;generalize lR ty.1 C.kind=ob at ho hS;have ax:=xS6 T (L.take i) x hj;have ak:=Oc T (L.take i) ab;have aj:=xS4 T (L.take i) x hj ab;rw[<-ar]at aj;rw[ax]at ak;generalize((L.take i).any λy=>y.name==x.name)=b at ak hS;have ae:=(A5.1 ak).2;have ah:=Ky T (L.take i);rw[hn]at ab ah;rw[hj]at aa hS ad;by_cases qk:(j:Int)=T.key\/((j:Int)=0/\T.place=0)
 .rw[ahP qk]at hS;have hM:=bad (by rw[<-hS];decide);refine zA ?_;simp[go_sem,hL,q];refine zW [(7,0)] 2 sm kR kR ?_;simp[go_sem,q,hx];refine yF aa cB (λ_=>zK sg rfl) rfl ?_;simp[go_sem,ad];by_cases k1:(j:Int)=T.key;.have af:((j:Int)==T.key)=true:=sU k1;simp[go_sem,af];exact dm (hS.trans hM)
  .have af:((j:Int)==T.key)=false:=sU k1;obtain⟨k2,k3⟩:=qk.resolve_left k1;have ag:((j:Int)==0)=true:=sU k2;have al:(T.place==0)=true:=sU k3;simp[go_sem,af,ag,al];exact dm (hS.trans hM)
 rw[ahO qk]at hS;have af:((j:Int)==T.key)=false:=by simpa usingλh=>qk (.inl h)
 have key:((j:Int)==0)=false\/(((j:Int)==0)=true/\(T.place==0)=false):=by
  by_cases k2:(j:Int)=0;.exact .inr ⟨by simpa using k2,by simpa usingλh=>qk (.inr ⟨k2,h⟩)⟩
  .exact .inl (sU k2)
 refine zA ?_;simp[go_sem,hL,q];refine zW [(7,0)] 2 sm kR kR ?_;simp[go_sem,q,hx];refine yF aa cB (λ_=>zK sg rfl) rfl ?_;simp[go_sem,ad,af];rcases key with ag|⟨ag,al⟩;case' inl=>simp[go_sem,ag,ah,ab,ae]
 case' inr=>simp[go_sem,ag,al,ah,ab,ae]
 all_goals
  refine(A1 b).elim (λp=>?_) (λp=>?_);.rw[ahP p]at hS;simp[go_sem,p];exact dm (hS.trans (bad (by rw[<-hS];decide)))
  rw[ahO (by rw[p];decide)]at hS;have hS:=Tt hS;simp[go_sem,p,ah,ab];refine zW [(7,0)] 3 sm kR kR ?_;simp[go_sem,q,hx];refine yF au cB (λ_=>⟨zD rfl,oI x.e,tV⟩) rfl ?_;simp[go_sem,yN];by_cases qe:ty.2=0;rotate_left;.have an:(ty.2!=0)=true:=sU qe;rw[ahP qe]at hS;have hS:ty.2=S:=hS.elim (·.2) (λh=>absurd h.1 qe);simp[go_sem,an];exact dm (hS.trans (bad (by rw[<-hS];exact qe)))
  have an:(ty.2!=0)=false:=sU qe;rw[ahO (λh=>h qe)]at hS;simp[go_sem,an,hn,ab,hC];refine pC ho ?_;refine(A1 ob).elim (λp=>?_) (λp=>?_);.rw[ahP p]at hS;have hS:=hS.elim (λh=>absurd rfl h.1) (·.2);rw[<-hS]at hinv;simp[go_sem,p,ei];exact zH (i+1) ⟨om,⟨om,hinv⟩,bT 3 (by simp[go_sem,hL,ae,aj]) rfl (cK _) (A3 _) (zC sg rfl)⟩
  .rw[ahO (by rw[p];decide)]at hS;have hS:15=S:=hS.elim (·.2) (λh=>by cases h.1);simp[go_sem,p];exact dm (hS.trans (bad (by rw[<-hS];decide)))
theorem xa2(x:cJ)(l:List cJ):ky (x::l)=((x.kind==3||x.kind==4)||ky l):=by unfold ky;rw[Bx]
theorem yV0(x:cJ)(l:List cJ):kL (x::l)=((x.kind==2)||kL l):=by unfold kL;rw[Bx]
theorem yI8(T:bH)(hT:T.bP.length<=maxLen)(st:bQ)(hs:gR st)(hk:∀x∈st.items,x.kind=1\/x.kind=2\/x.kind=3\/x.kind=4):Pure prog 53 [.agg T.row,.agg st.row] (.int .i64 (xo T st)):=by
 obtain⟨L,hL⟩:=eX st.items;obtain⟨ak,af⟩:=hs.items;rw[hL]at ak af hk;have ag:=Oa T hT st hs;have ab:=Ga T st.order hT;rw[show xE (λc:eG=>c.name==st.order) T.bP 0=cq T st.order from rfl]at ab;generalize hM:xo T st=M;unfold xo tQ at hM;rw[hL]at hM;generalize pB T st=wh at ag hM;generalize cq T st.order=co at ab hM;refine iV 0 func53 ntmps53 results53 λc hc hb=>?_;refine zN (zA ?_);simp[go_sem];refine zN (zA ?_);simp[go_sem];refine wM (S:=Nat×Nat) [2,3,5,6] (λu=>[.ptr 0 0,.ptr 1 0,.int .i64 (u.1:Int),.int .i64 (u.2:Int)]) (λ_=>[.box T.row,.box st.row]) (λu=>decide (0<u.1)=ky L/\decide (0<u.2)=kL L/\kK T L=0) hc hb ?_ ?_
 .refine zN (zA ?_);simp[go_sem];refine pX ?_;refine zG (S:=Nat×Nat×Nat) [2,3,5,6,7] (λu=>[.ptr 0 0,.ptr 1 0,.int .i64 (u.2.1:Int),.int .i64 (u.2.2:Int),.int .i64 (u.1:Int)]) (λ_=>[.box T.row,.box st.row]) (λu=>L.length-u.1) (λu=>u.1<=L.length/\u.2.1<=u.1/\u.2.2<=u.1/\(decide (0<u.2.1)||ky (L.drop u.1))=ky L/\(decide (0<u.2.2)||kL (L.drop u.1))=kL L/\kK T (L.drop u.1)=kK T L) hc hb (0,0,0) ⟨A3 _,A6 _,A6 _,sm,sm,sm⟩ ?_ ?_;.exact bT 2 (by simp[go_sem,hL]) rfl (iu T st 2) (A3 _) (zC sg rfl)
  rintro⟨i,s,p⟩⟨hi,al,an,hw,hp,hinv⟩;simp only at hi al an hw hp hinv;by_cases q:i<L.length;rotate_left
  .rw[A4 om]at hw hp hinv;have hw:decide (0<s)=ky L:=by rw[<-hw];exact(Dd _).symm
   have hp:decide (0<p)=kL L:=by rw[<-hp];exact(Dd _).symm
   refine zA ?_;simp[go_sem,hL,q];exact zH (s,p) ⟨⟨hw,hp,hinv.symm⟩,bT 2 (by simp[go_sem,hL]) rfl (iu T st 2) (A3 _) (zC sg rfl)⟩
  have ei:=zR q om;have es:IntKind.i64.wrap ((s:Int)+1)=((s+1:Nat):Int):=by rw[bR om om];omega
  have ep:IntKind.i64.wrap ((p:Int)+1)=((p+1:Nat):Int):=by rw[bR om om];omega
  obtain⟨x,hx⟩:=eX (L[i]);have ah:x∈L:=hx▸A7 q;have hE:=(af x ah).2;have ao:=hk x ah;rw[A2 q,hx]at hp hw hinv;rw[yV0]at hp;rw[xa2]at hw;rw[kK]at hinv;have bad:vb T x≠0->vb T x=M:=λh=>by rw[ahP h]at hinv;rw[<-hM,<-hinv,ahP h]
  have cN:vb T x=0->kK T (L.drop (i+1))=kK T L:=λh=>by rw[ahO (λg=>g h)]at hinv;exact hinv
  clear hinv;unfold vb at bad cN;rw[Kx]at bad cN;have ad:=HS T hT x.e hE;generalize xO T x.e=ty at ad bad cN;have ho:Pure prog 102 [.int .i64 ty.1,.int .i64 2] (.bool (lR ty.1 2)):=JU ty.1 2;generalize lR ty.1 2=ob at ho bad cN;have go:∀(a b:Nat)(e U),a<=i+1->b<=i+1->(decide (0<a)||ky (L.drop (i+1)))=ky L->(decide (0<b)||kL (L.drop (i+1)))=kL L->kK T (L.drop (i+1))=kK T L->At 0 [2,3,5,6,7] [.ptr 0 0,.ptr 1 0,.int .i64 (a:Int),.int .i64 (b:Int),.int .i64 ((i+1:Nat):Int)] [.box T.row,.box st.row] e U->Vx.Next (λs':Nat×Nat×Nat=>L.length-s'.1<L.length-i/\(s'.1<=L.length/\s'.2.1<=s'.1/\s'.2.2<=s'.1/\(decide (0<s'.2.1)||ky (L.drop s'.1))=ky L/\(decide (0<s'.2.2)||kL (L.drop s'.1))=kL L/\kK T (L.drop s'.1)=kK T L)/\At 0 [2,3,5,6,7] [.ptr 0 0,.ptr 1 0,.int .i64 (s'.2.1:Int),.int .i64 (s'.2.2:Int),.int .i64 (s'.1:Int)] [.box T.row,.box st.row] e U) fx:=λa b e U h0 aq h1 h2 h3 h4=>zH (i+1,a,b) ⟨by simp only;omega,⟨by simp only;omega,h0,aq,h1,h2,h3⟩,h4⟩;refine zA ?_;simp[go_sem,hL,q,hx];rcases ao with k1|k2|k3|k4;.simp only[k1]at bad cN hw hp;simp[go_sem,k1,ei];exact go s p _ _ om om (sU hw) (sU hp) (cN rfl) (bT 2 (by simp[go_sem,hL]) rfl (iu T st 2) (A3 _) (zC sg rfl))
  .simp only[k2,ai0]at bad cN hw hp;simp[go_sem,k2];refine zJ ad cB (zK sg (by rw[bG.bK];rfl)) rfl ?_;simp[go_sem,yN];by_cases qe:ty.2=0;.have aa:(ty.2!=0)=false:=sU qe;simp[go_sem,aa,ei,ep];exact go s (p+1) _ _ om om (sU hw) (sU hp) (cN qe) (bT 2 (by simp[go_sem,hL]) rfl (iu T st 2) (A3 _) (zC sg rfl))
   .have aa:(ty.2!=0)=true:=sU qe;simp[go_sem,aa];exact dm (bad qe)
  .simp only[k3]at bad cN hw hp;simp[go_sem,k3,ei,es];exact go (s+1) p _ _ om om (sU hw) (sU hp) (cN rfl) (bT 2 (by simp[go_sem,hL]) rfl (iu T st 2) (A3 _) (zC sg rfl))
  .have n42:¬(4:Int)=2:=dc;simp only[k4,ahO n42,ai0]at bad cN hw hp;simp[go_sem,k4];refine zJ ad cB (zK sg (by rw[bG.bK];rfl)) rfl ?_;simp[go_sem,yN];by_cases qe:ty.2=0;rotate_left;.have aa:(ty.2!=0)=true:=sU qe;rw[ahP qe]at bad;simp[go_sem,aa];exact dm (bad qe)
   have aa:(ty.2!=0)=false:=sU qe;rw[ahO (λh=>h qe)]at bad cN;simp[go_sem,aa,es];refine pC ho ?_;refine(A1 ob).elim (λp1=>?_) (λp1=>?_);.rw[ahP p1]at cN;simp[go_sem,p1,ei];exact go (s+1) p _ _ om om (sU hw) (sU hp) (cN rfl) (bT 2 (by simp[go_sem,hL]) rfl (iu T st 2) (A3 _) (zC sg rfl))
   .rw[ahO (by rw[p1];decide)]at bad;simp[go_sem,p1];exact dm (bad dc)
 .rintro⟨s,p⟩⟨hw,hp,hI⟩;simp only at hw hp;rw[ahO (λh=>h hI),<-hp,<-hw]at hM;clear hw hp hI;have ar:(st.order==[])=st.order.isEmpty:=by cases st.order<;>rfl
  generalize ai:decide (0<s)=bs at hM;generalize aj:decide (0<p)=bp at hM;have key:(bs=true/\bp=true)\/(bs=true/\bp=false)\/bs=false:=by cases bs<;>cases bp<;>simp
  have tail:¬(bp&&bs)=true->(if wh≠0then wh else if st.order.isEmpty=true then 0 else if co<0then 14 else if bs=true then 9 else 0)=M:=λh=>by rw[ahO h]at hM;exact hM
  refine zA ?_;simp[go_sem,ai];rcases key with⟨w1,w2⟩|⟨w1,w2⟩|w1;.rw[w1,w2]at hM;simp[go_sem,aj,w1,w2];exact dm hM
  case' inr.inl=>have hT:=tail (by rw[w2,B2];decide);simp[go_sem,aj,w1,w2]
  case' inr.inr=>have hT:=tail (by rw[w1,Bool.and_false];decide);simp[go_sem,w1]
  all_goals
   refine zJ ag cB (zK sg rfl) rfl ?_;by_cases qe:wh=0;rotate_left;.have aa:(wh !=0)=true:=sU qe;rw[ahP qe]at hT;simp[go_sem,aa];exact dm hT
   have aa:(wh !=0)=false:=sU qe;rw[ahO (λh=>h qe)]at hT;simp[go_sem,aa,ar];refine(A1 st.order.isEmpty).elim (λw3=>?_) (λw3=>?_);.rw[ahP w3]at hT;simp[go_sem,w3];exact dm (qe.trans hT)
   rw[ahO (by rw[w3];decide)]at hT;simp[go_sem,w3];refine zJ ab cB (zK sg rfl) rfl ?_;by_cases w4:co<0;.have ae:decide (co<0)=true:=ahR w4;rw[ahP w4]at hT;simp[go_sem,ae];exact dm hT
   have ae:decide (co<0)=false:=ahQ w4;rw[ahO w4]at hT;simp[go_sem,ae,ai,w1];exact dm (by rw[<-hT,w1];rfl)
def tS(st:bQ):Bool:=xj st.items&&(((st.order.isEmpty&&!st.down)||jr st.order)&&decide (-1<=st.cG))
theorem xW4:jr []=false:=dc
theorem yo5(st:bQ)(hs:gR st):Pure prog 173 [.agg st.row] (.bool (tS st)):=by
 have ag:=DW st.order (by have:=hs.order;grind[maxLen]);obtain⟨L,hL⟩:=eX st.items;obtain⟨ah,ai⟩:=hs.items;rw[hL]at ah ai;obtain⟨d,hd⟩:=eX st.down;generalize hM:tS st=M;unfold tS xj at hM;rw[hL,hd]at hM;have ao:(st.order !=[])=!st.order.isEmpty:=by grind
 have aj:(st.order==[])=st.order.isEmpty:=sm;have ak:st.order.isEmpty=true->jr st.order=false:=(by grind[xW4]);have al:decide (st.cG< -1)=!decide (-1<=st.cG):=by grind
 have ad:decide ((L.length:Int)<1)=!decide (1<=L.length):=by grind
 have ae:decide (6<(L.length:Int))=!decide (L.length<=6):=by grind
 generalize st.order.isEmpty=oe at ao aj ak hM;generalize jr st.order=wo at ag ak hM;generalize decide (-1<=st.cG)=lm at al hM;refine iV 0 func173 ntmps173 results173 λc hc hb=>?_;refine zN (zA ?_);simp[go_sem];refine wM (S:=Unit) [1] (λ_=>[.ptr 0 0]) (λ_=>[.box st.row]) (λ_=>L.all (jy L.length)=M) hc hb ?_ ?_
 .generalize decide (1<=L.length)=n1 at ad hM;generalize decide (L.length<=6)=n6 at ae hM;generalize hA:L.all (jy L.length)=A at hM;refine zA ?_;simp[go_sem,hL,al];repeat'(first |(refine yA (λq=>?_) (λq=>?_)<;>simp[go_sem,q,hd,aj,ad,ae])|(refine zO (λq=>?_) (λq=>?_)<;>simp[go_sem,q])|(refine pC ag ?_;simp[go_sem]))
  all_goals first |exact dg (by rw[<-hM];simp_all)|exact zH () ⟨by rw[<-hM];simp_all,bT 1 (by simp[go_sem,hL,hd]<;>simp_all) rfl (by simp[bO,cH,cF]) om (zC sg rfl)⟩|skip
 .rintro _ af;obtain⟨n,hn⟩:=eX L.length;rw[hn]at af ah;clear hM ad ae;refine zA ?_;simp[go_sem];refine zG (S:=Nat) [1,3] (λi=>[.ptr 0 0,.int .i64 (i:Int)]) (λ_=>[.box st.row]) (λi=>n-i) (λi=>i<=n/\(L.drop i).all (jy n)=M) hc hb 0 (by grind) ?_ ?_;.exact bT 1 (by rfl) rfl (by rfl) om (zC (by rfl) rfl)
  rintro i⟨hi,hinv⟩;by_cases q:i<n;rotate_left;.rw[A4 om]at hinv;refine zA ?_;simp[go_sem,hL,hn,q];exact dg hinv
  have ei:=zR q om;have ql:i<L.length:=om;obtain⟨x,hx⟩:=eX (L[i]);have hE:=(ai x (hx▸A7 ql)).2;have hz:=Tk x.e;have hm:=Kv x.e hE.wide hE.cN;rw[rG _ _ _ ql,hx]at hinv;obtain⟨tl,aq⟩:=eX ((L.drop (i+1)).all (jy n));rw[aq]at hinv;unfold jy at hinv;generalize pA x.e=bl at hz hinv;generalize dZ 16 x.e=me at hm hinv;refine zA ?_;simp[go_sem,hL,hn,q,hx];have yes:∀e U,tl=M->At 0 [1,3] [.ptr 0 0,.int .i64 ((i+1:Nat):Int)] [.box st.row] e U->Vx.Next (λs':Nat=>n-s'<n-i/\(s'<=n/\(L.drop s').all (jy n)=M)/\At 0 [1,3] [.ptr 0 0,.int .i64 (s':Int)] [.box st.row] e U) fx:=λe U h1 h2=>zH (i+1) ⟨om,(by grind),h2⟩;by_cases k1:x.kind=1
  .rw[ahP k1]at hinv;have aa:(x.kind==1)=true:=by grind
   simp[go_sem,aa,hn];by_cases z:n<=1;rotate_left;.have z':decide (1<(n:Int))=true:=(by grind);rw[ahQ z,B2,B2]at hinv;simp[go_sem,z'];exact dg hinv
   have z':decide (1<(n:Int))=false:=(by grind);rw[ahR z,Ah]at hinv;simp[go_sem,z'];refine zJ hz cB (zK sg (by rw[bG.bK];rfl)) rfl ?_;refine(A1 bl).elim (λp=>?_) (λp=>?_);.rw[p,Ah]at hinv;simp[go_sem,p,ei];exact yes _ _ hinv (bT 1 (by simp[go_sem,hL]) rfl (by rfl) om (zC (by rfl) rfl))
   .rw[p,B2]at hinv;simp[go_sem,p];exact dg hinv
  rw[ahO k1]at hinv;have aa:(x.kind==1)=false:=by grind
  by_cases k3:x.kind=3
  .rw[ahP k3]at hinv;have ab:(x.kind==3)=true:=by grind
   simp[go_sem,aa,ab];refine zJ hz cB (zK sg (by rw[bG.bK];rfl)) rfl ?_;refine(A1 bl).elim (λp=>?_) (λp=>?_);.rw[p,Ah]at hinv;simp[go_sem,p,ei];exact yes _ _ hinv (bT 1 (by simp[go_sem,hL]) rfl (by rfl) om (zC (by rfl) rfl))
   .rw[p,B2]at hinv;simp[go_sem,p];exact dg hinv
  rw[ahO k3]at hinv;have ab:(x.kind==3)=false:=by grind
  by_cases an:x.kind=2\/x.kind=4
  .rw[ahP an]at hinv;have key:(x.kind==2)=true\/((x.kind==2)=false/\(x.kind==4)=true):=by grind
   rcases key with k2|⟨k2,k4⟩;case' inl=>simp[go_sem,aa,ab,k2]
   case' inr=>simp[go_sem,aa,ab,k2,k4]
   all_goals
    refine zJ hm cB (zK sg (by rw[bG.bK];rfl)) rfl ?_;refine(A1 me).elim (λp=>?_) (λp=>?_);.rw[p,Ah]at hinv;simp[go_sem,p,ei];exact yes _ _ hinv (bT 1 (by simp[go_sem,hL]) rfl (by simp[bO,cH,cF,bQ.row]) om (zC sg rfl))
    .rw[p,B2]at hinv;simp[go_sem,p];exact dg hinv
  .rw[ahO an,B2]at hinv;have k2:(x.kind==2)=false:=by grind
   have k4:(x.kind==4)=false:=by grind
   simp[go_sem,aa,ab,k2,k4];exact dg hinv
theorem xF5(st:bQ):Ey st=if st.kind=1then tS st else if st.kind=2then xm st.rows&&!st.cz else if st.kind=3then xn st.cp else st.kind==4:=rfl
theorem yI6(st:bQ)(hs:gR st):Pure prog 100 [.agg st.row] (.bool (fG st)):=by
 have aq:=DW st.table (by have:=hs.table;grind[maxLen]);have ar:=Kv st.bU hs.bU.wide hs.bU.cN;have au:=Tk st.bU;have av:=yo5 st hs;generalize hM:fG st=M;unfold fG N5 N4 at hM;rw[xF5]at hM;obtain⟨Rs,hR⟩:∃R,st.rows=R:=⟨_,rfl⟩;obtain⟨As,hA⟩:∃A,st.cp=A:=⟨_,rfl⟩;obtain⟨aw,ax⟩:=hs.rows;obtain⟨ay,az⟩:=hs.cp;obtain⟨k,hk⟩:=eX st.kind;obtain⟨f,hf⟩:=eX st.cz;obtain⟨d,hd⟩:=eX st.down;rw[hR]at aw ax;rw[hA]at ay az;have a1:=Gf Rs;have a6:=Gf As;rw[hk,hf,hd,hR,hA]at hM;generalize jr st.table=wt at aq hM;generalize dZ 16 st.bU=me at ar hM;generalize pA st.bU=bl at au hM;generalize tS st=ss at av hM;have a7:=Gf st.items;have aL:(st.order !=[])=!st.order.isEmpty:=by grind
 generalize st.items.isEmpty=ie at a7 hM;have al:((wt&&(if f=true then me else bl))=false->false=M)/\((wt&&(if f=true then me else bl))=true->(!((!(k==1)&&(!ie||(!st.order.isEmpty||(d||!(st.cG==0)))))||((!(k==2)&&!Rs.isEmpty)||(!(k==3)&&!As.isEmpty)))&&(if k=1then ss else if k=2then xm Rs&&!f else if k=3then xn As else k==4))=M):=by grind
 obtain⟨aG,ak⟩:=al;clear hM;refine iV 0 func100 ntmps100 results100 λc hc hb=>?_;refine zN (zA ?_);simp[go_sem];refine wM (S:=Unit) [1] (λ_=>[.ptr 0 0]) (λ_=>[.box st.row]) (λ_=>(wt&&(if f=true then me else bl))=true) hc hb ?_ ?_
 .refine zA ?_;simp[go_sem];refine zJ aq cB (zK (by rfl) rfl) rfl ?_;refine(A1 wt).elim (λw=>?_) (λw=>?_);rotate_left;.simp[go_sem,w];exact dg (by grind)
  simp[go_sem,w,hf];refine(A1 f).elim (λw2=>?_) (λw2=>?_)
  .simp[go_sem,w2];refine zJ ar cB (zK sg (by rw[bG.bK];rfl)) rfl ?_;refine(A1 me).elim (λw3=>?_) (λw3=>?_);.simp[go_sem,w3,w2];exact zH () ⟨by grind,bT 1 (by grind) rfl (by rfl) om (zC (by rfl) rfl)⟩
   .simp[go_sem,w3];exact dg (by grind)
  .simp[go_sem,w2];refine zJ au cB (zK sg (by rw[bG.bK];rfl)) rfl ?_;refine(A1 bl).elim (λw3=>?_) (λw3=>?_);.simp[go_sem,w3];exact zH () ⟨by grind,bT 1 (by grind) rfl (by rfl) om (zC (by rfl) rfl)⟩
   .simp[go_sem,w3];exact dg (by grind)
 .rintro _ h1;have hM:=ak h1;clear aG ak;generalize hB:(if k=1then ss else if k=2then xm Rs&&!f else if k=3then xn As else k==4)=B at hM;obtain⟨re,aH⟩:=eX Rs.isEmpty;obtain⟨se,a8⟩:∃se,As.isEmpty=se:=⟨_,rfl⟩;rw[aH]at a1 hM;rw[a8]at a6 hM;obtain⟨S,hS⟩:=eX (((!(k==1)&&(!ie||(!st.order.isEmpty||(d||!(st.cG==0)))))||((!(k==2)&&!re)||(!(k==3)&&!se))));rw[hS]at hM;have no:S=true->false=M:=(by grind);have yes:S=false->B=M:=(by grind);clear hM;have aA:(st.cG !=0)=!(st.cG==0):=rfl;have aB:(st.kind !=2)=!(k==2):=by grind
  have aC:(st.kind !=3)=!(k==3):=by grind
  have aD:(st.kind !=1)=!(k==1):=by grind
  refine wM (S:=Unit) [1] (λ_=>[.ptr 0 0]) (λ_=>[.box st.row]) (λ_=>S=false) hc hb ?_ ?_
  .generalize(st.cG==0)=l0 at aA hS;generalize(k==1)=k1 at aD hS;generalize(k==2)=k2 at aB hS;generalize(k==3)=k3 at aC hS;clear yes hB;refine zA ?_;simp[go_sem,aD,hR,hA];repeat'(first |(refine yA (λw=>?_) (λw=>?_)<;>simp[go_sem,w,aB,aC,aA,a7,a1,a6,hd])|(refine zO (λw=>?_) (λw=>?_)<;>simp[go_sem,w]))
   all_goals first |exact dg (by grind)|exact zH () ⟨by rw[<-hS];simp_all,bT 1 (by simp[go_sem,hd,hR,hA]<;>simp_all) rfl (by simp[bO,cH,cF]) om (zC sg rfl)⟩
  .rintro _ aI;have hM:=yes aI;rw[<-hB]at hM;clear yes no hS hB;refine zA ?_;simp[go_sem,hk];by_cases k1:k=1
   .have ae:(k==1)=true:=by grind
    rw[ahP k1]at hM;simp[go_sem,ae];refine zJ av cB (zK (by rw[<-hk];rfl) rfl) rfl ?_;simp[go_sem];exact dg hM
   have ae:(k==1)=false:=by grind
   rw[ahO k1]at hM;by_cases k2:k=2
   .have ah:(k==2)=true:=by grind
    rw[ahP k2]at hM;simp[go_sem,ae,ah];unfold xm at hM;obtain⟨nR,aa⟩:=eX Rs.length;rw[aa]at hM aw;have ad:decide (1<=(nR:Int))=decide (1<=nR):=by grind
    have ab:decide ((nR:Int)<=16)=decide (nR<=16):=by grind
    generalize decide (1<=nR)=n1 at ad hM;generalize decide (nR<=16)=n6 at ab hM;refine zG (S:=Nat) [1,3] (λi=>[.ptr 0 0,.int .i64 (i:Int)]) (λ_=>[.box st.row]) (λi=>nR-i) (λi=>i<=nR/\((Rs.drop i).all nW&&(n1&&n6)&&!f)=M) hc hb 0 (by grind) ?_ ?_;.exact bT 1 (by simp[go_sem,hk,hR]) rfl (by rfl) om (zC (by rfl) rfl)
    rintro i⟨hi,hinv⟩;by_cases q:i<nR;rotate_left
    .rw[A4 om,Cs,Ah]at hinv;refine zA ?_;simp[go_sem,hR,aa,q,hf];repeat'(first |(refine yA (λw=>?_) (λw=>?_)<;>simp[go_sem,w,aa,ad,ab])|(refine zO (λw=>?_) (λw=>?_)<;>simp[go_sem,w,hR,aa,ad,ab]))
     all_goals exact dg (by rw[<-hinv];simp_all)
    have ei:=zR q om;have ql:i<Rs.length:=om;obtain⟨r,hr⟩:=eX (Rs[i]);obtain⟨aJ,aK⟩:=ax r (by grind);obtain⟨m,hm⟩:=eX r.length;rw[rG _ _ _ ql,hr]at hinv;obtain⟨tl,af⟩:=eX ((Rs.drop (i+1)).all nW);rw[af]at hinv;unfold nW at hinv;rw[hm]at hinv aJ;refine zA ?_;simp[go_sem,hR,aa,q,hr,hm];by_cases z1:m<1;.have ai:decide ((m:Int)<1)=true:=(by grind);rw[show decide (1<=m)=false from(by grind)]at hinv;simp[go_sem,ai];exact dg (by grind)
    have ai:decide ((m:Int)<1)=false:=(by grind);by_cases z2:6<m;.have an:decide (6<(m:Int))=true:=(by grind);rw[show decide (m<=6)=false from(by grind)]at hinv;simp[go_sem,ai,ql,hr,hm,an];exact dg (by grind)
    have an:decide (6<(m:Int))=false:=(by grind);rw[show decide (1<=m)=true from(by grind),show decide (m<=6)=true from(by grind),Ah,Ah]at hinv;simp[go_sem,ai,ql,hr,hm,an];refine zG (S:=Nat) [1,3,4] (λj=>[.ptr 0 0,.int .i64 (i:Int),.int .i64 (j:Int)]) (λ_=>[.box st.row]) (λj=>m-j) (λj=>j<=m/\((r.drop j).all (dZ 16)&&tl&&(n1&&n6)&&!f)=M) hc hb 0 (by grind) ?_ ?_;.exact bT 1 (by simp[go_sem,hk,hR]) rfl (by rfl) om (zC (by rfl) rfl)
    rintro j⟨hj,aj⟩;by_cases qj:j<m;rotate_left;.rw[A4 om,Cs,Ah,<-af]at aj;refine zA ?_;simp[go_sem,hR,aa,q,hr,hm,qj,ei];exact zH (i+1) ⟨om,(by grind),bT 1 (by grind) rfl (by rfl) om (zC (by rfl) rfl)⟩
    have ej:=zR qj om;have aE:j<r.length:=om;obtain⟨x,hx⟩:=eX (r[j]);have hE:=aK x (hx▸A7 aE);have ag:=Kv x hE.wide hE.cN;rw[rG _ _ _ aE,hx]at aj;generalize dZ 16 x=me at ag aj;refine zA ?_;simp[go_sem,hR,aa,q,hr,hm,qj,hx];refine zJ ag cB (zK sg (by rw[bG.bK];rfl)) rfl ?_;refine(A1 me).elim (λp=>?_) (λp=>?_);.rw[p,Ah]at aj;simp[go_sem,p,ej];exact zH (j+1) ⟨om,(by grind),bT 1 (by grind) rfl (by rfl) om (zC (by rfl) rfl)⟩
    .simp[go_sem,p];exact dg (by grind)
   have ah:(k==2)=false:=by grind
   rw[ahO k2]at hM;by_cases k3:k=3
   .have ao:(k==3)=true:=by grind
    rw[ahP k3]at hM;simp[go_sem,ae,ah,ao];unfold xn at hM;obtain⟨nR,aa⟩:=eX As.length;rw[aa]at hM ay;have ad:decide (1<=(nR:Int))=decide (1<=nR):=by grind
    have ab:decide ((nR:Int)<=6)=decide (nR<=6):=by grind
    generalize decide (1<=nR)=n1 at ad hM;generalize decide (nR<=6)=n6 at ab hM;refine zG (S:=Nat) [1,5] (λi=>[.ptr 0 0,.int .i64 (i:Int)]) (λ_=>[.box st.row]) (λi=>nR-i) (λi=>i<=nR/\((n1&&n6)&&(As.drop i).all iJ)=M) hc hb 0 (by grind) ?_ ?_;.exact bT 1 (by simp[go_sem,hk,hA]) rfl (by rfl) om (zC (by rfl) rfl)
    rintro i⟨hi,hinv⟩;by_cases q:i<nR;rotate_left
    .rw[A4 om,Cs,D3]at hinv;refine zA ?_;simp[go_sem,hA,aa,q];repeat'(first |(refine yA (λw=>?_) (λw=>?_)<;>simp[go_sem,w,aa,ab])|(refine zO (λw=>?_) (λw=>?_)<;>simp[go_sem,w,hA,aa,ad,ab]))
     all_goals exact dg (by rw[<-hinv];simp_all)
    have ei:=zR q om;have ql:i<As.length:=om;obtain⟨x,hx⟩:=eX (As[i]);obtain⟨aP,hE⟩:=az x (by grind);have ag:=Kv x.e hE.wide hE.cN;have aF:=DW x.name (by unfold maxLen;omega);rw[rG _ _ _ ql,hx]at hinv;unfold iJ at hinv;obtain⟨tl,af⟩:=eX ((As.drop (i+1)).all (λx=>jr x.name&&dZ 16 x.e));rw[af]at hinv;generalize dZ 16 x.e=me at ag hinv;generalize jr x.name=wx at aF hinv;refine zA ?_;simp[go_sem,hA,aa,q,hx];refine zJ aF cB (zK (by rfl) rfl) rfl ?_;refine(A1 wx).elim (λp=>?_) (λp=>?_);rotate_left;.simp[go_sem,p];exact dg (by grind)
    rw[p,Ah]at hinv;simp[go_sem,p,aa,q,hx];refine zJ ag cB (zK sg (by rw[bG.bK];rfl)) rfl ?_;refine(A1 me).elim (λp=>?_) (λp=>?_);.rw[p,Ah,<-af]at hinv;simp[go_sem,p,ei];exact zH (i+1) ⟨om,(by trivial),bT 1 (by grind) rfl (by rfl) om (zC (by rfl) rfl)⟩
    .simp[go_sem,p];exact dg (by grind)
   have ao:(k==3)=false:=by grind
   rw[ahO k3]at hM;simp[go_sem,ae,ah,ao];exact dg hM
end Go.Proofs.YtefbicjgbaaieaaGreat
