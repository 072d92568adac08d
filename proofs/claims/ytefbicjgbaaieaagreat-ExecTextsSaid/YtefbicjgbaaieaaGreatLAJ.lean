/-
  Contracts of functions that the claimed statement reaches, each proved over trees (the library Vx); used by the theorem at the end of the claim.
  Conditions: as each theorem states them.
-/
import Derived.Test.YtefbicjgbaaieaaGreatLAI
import Derived.Test.YtefbicjgbaaieaaGreatLAE
set_option maxHeartbeats 8000000
namespace Go.Proofs.YtefbicjgbaaieaaGreat
open Go Go.Vx Go.Proofs.Tryz
set_option maxRecDepth 100000
variable {L:List bN}
variable {τ:St}{s':RS}{st:bQ}{e:Int}
def kq(L:List bN)(s:RS):Bool×bG:=if cV L Ei s=true then(true,(iT L (zS s)).1)else(false,dH)
theorem wr9(L:List bN)(s:RS)(a b:List V):∃g:Tag,Kc L s a b (.box (a++[.bool false,.int .i64 0,.str [],.int .i64 0,.int .i64 0,.str [],.sl .full []]++b))=.box (a++[.bool (kq L s).1,.int .i64 (kq L s).2.kind,.str (kq L s).2.s,.int .i64 (kq L s).2.v.kind,.int .i64 (kq L s).2.v.n,.str (kq L s).2.v.s,.sl g ((kq L s).2.args.map bG.row)]++b):=by
 unfold Kc kq;by_cases q:cV L Ei s=true;.exact⟨.ro,by rw[ahP q,ahP q];simp[iU]⟩
 .exact⟨.full,by rw[ahO q,ahO q];rfl⟩
theorem Np(L:List bN)(hL:eL L)(s:RS)(hs:cZ L s)(ho:s.bV=0)(τ:St)(j:Nat)(c0 c1 c2 c3 c4 aa ab ad:V)(hj:τ[j]?=some (.box [c0,c1,c2,c3,c4,.bool false,.int .i64 0,.str [],.int .i64 0,.int .i64 0,.str [],.sl .full [],aa,ab,ad])):∃g:Tag,bL prog 139 [.ptr 0 0,.ptr (j+1) 0] (rB L s::τ) (λr U=>r=.cm []/\U=rB L (pn L s)::τ.set j (.box [c0,c1,c2,c3,c4,.bool (kq L s).1,.int .i64 (kq L s).2.kind,.str (kq L s).2.s,.int .i64 (kq L s).2.v.kind,.int .i64 (kq L s).2.v.n,.str (kq L s).2.v.s,.sl g ((kq L s).2.args.map bG.row),aa,ab,ad])):=by obtain⟨g,hg⟩:=wr9 L s [c0,c1,c2,c3,c4] [aa,ab,ad];refine⟨g,?_⟩;have:=wh2 L hL s hs ho τ j c0 c1 c2 c3 c4 _ _ _ _ _ _ _ aa ab ad hj;simp only[Bg,C0]at hg;rw[hg]at this;exact this
def rj:aij:= [70,82,79,77]
def Nq:aij:= [79,82,68,69,82]
def rk:aij:= [66,89]
def Ej:aij:= [65,83,67]
def Nr:aij:= [68,69,83,67]
def xa:aij:= [76,73,77,73,84]
def AX(L:List bN)(s:RS):(aij×Bool)×RS:=if cV L Nq s=true then if cV L Ej (xI L (yE L rk (zS s))).2=true then(((xI L (yE L rk (zS s))).1,false),zS (xI L (yE L rk (zS s))).2)else if cV L Nr (xI L (yE L rk (zS s))).2=true then(((xI L (yE L rk (zS s))).1,true),zS (xI L (yE L rk (zS s))).2)else(((xI L (yE L rk (zS s))).1,false),(xI L (yE L rk (zS s))).2)else(([],false),s)
def AY(L:List bN)(s:RS):Int×RS:=if cV L xa s=true then gQ L (zS s)else(-1,s)
theorem Ns(hL:eL L){s:RS}(h:cZ L s):UI L s (AX L s).2:=by
 unfold AX;split
 .rename_i hi;have h1:=xF hL h hi;have h2:=h1.trans (yM hL rk h1.ct);have h3:=h2.trans (nM hL h2.ct);split;.exact h3.trans (xF hL h3.ct ‹_›)
  split;.exact h3.trans (xF hL h3.ct ‹_›)
  .exact h3
 .exact UI.refl h
theorem R5(hL:eL L){s:RS}(h:cZ L s):UI L s (AY L s).2:=by
 unfold AY;split;.rename_i hi;have h1:=xF hL h hi;exact h1.trans (Nk hL h1.ct)
 .exact UI.refl h
def uX(L:List bN)(s:RS):bQ×RS:=let x:=ri L s
 let n:=xI L (yE L rj x.2)
 let w:=kq L n.2
 let o:=AX L (pn L n.2)
 let l:=AY L o.2
 (⟨1,n.1,x.1,[],[],w.1,w.2,o.1.1,o.1.2,l.1⟩,l.2)
theorem R6(hL:eL L):∀(n:Nat)(l:List cJ)(s:RS),cZ L s->s.bV=0->UI L s (tL L n l s).2
 |0,_,_,h,_=>UI.refl h|n+1,l,s,h,ho=>by
  unfold tL;split
  .rename_i he;have h1:=Nn hL h ho;split;.have h2:=h1.trans (xF hL h1.ct ‹_›);exact h2.trans (R6 hL n _ _ h2.ct (h2.bV.trans ho))
   .exact h1
  .exact tK h
theorem Nt(hL:eL L){s:RS}(h:cZ L s)(ho:s.bV=0):UI L s (ri L s).2:=by
 unfold ri;split;.exact xF hL h ‹_›
 .exact R6 hL 7 [] s h ho
def RT(L:List bN)(x:bQ×RS):V->St->Prop:=λr U=>r=.agg x.1.row/\U=[rB L x.2]
theorem p6{g1 g2 g3 g4:Tag}{s:RS}{M:bQ×RS}(h:(st,s)=M):bW (some (.agg [.int .i64 st.kind,.str st.table,.sl g1 (st.items.map cJ.row),.sl g2 (st.rows.map λl=>[V.sl .ro (l.map bG.row)]),.sl g3 (st.cp.map bX.row),.bool st.cz,.int .i64 st.bU.kind,.str st.bU.s,.int .i64 st.bU.v.kind,.int .i64 st.bU.v.n,.str st.bU.v.s,.sl g4 (st.bU.args.map bG.row),.str st.order,.bool st.down,.int .i64 st.cG])) 1 (RT L M) (rB L s::τ):=by subst h;exact xR (L:=L) (r:=.agg st.row) (uM ⟨zU rfl,zU rfl,yH,yH,yH,zU rfl,zU rfl,zU rfl,zU rfl,zU rfl,zU rfl,yH,zU rfl,zU rfl,zU rfl,tV⟩) ⟨rfl,rfl⟩
theorem HG(st:bQ):iH (.agg st.row)=true:=rfl
theorem xB7(L:List bN)(hL:eL L)(s:RS)(hs:cZ L s)(ho:s.bV=0):bL prog 135 [.ptr 0 0] [rB L s] (RT L (uX L s)):=by
 generalize hM:uX L s=M;unfold uX at hM;have hx:=wb3 L hL s hs ho;have af:=Nt hL hs ho;generalize ri L s=x at hx af hM;obtain⟨xl,s1⟩:=x;simp only at hx af hM;have hm:=lM L hL s1 af.ct rj;have ag:=af.trans (yM hL rj af.ct);generalize yE L rj s1=s2 at hm ag hM;have hn:=DY L hL s2 ag.ct;have ad:=ag.trans (nM hL ag.ct);generalize xI L s2=n at hn ad hM;obtain⟨nm,s3⟩:=n;simp only at hn ad hM;obtain⟨gw,hw⟩:=Np L hL s3 ad.ct (ad.bV.trans ho) [.box [.int .i64 0,.str [],.sl .full [],.sl .full [],.sl .full [],.bool false,.int .i64 0,.str [],.int .i64 0,.int .i64 0,.str [],.sl .full [],.str [],.bool false,.int .i64 0],.box [.int .i64 1,.str nm,.sl .ro (xl.map cJ.row),.sl .full [],.sl .full [],.bool false,.int .i64 0,.str [],.int .i64 0,.int .i64 0,.str [],.sl .full [],.str [],.bool false,.int .i64 (-1)]] 1 _ _ _ _ _ _ _ _ rfl;have ae:=ad.trans (FW hL ad.ct (ad.bV.trans ho));generalize pn L s3=s4 at hw ae hM;generalize kq L s3=w at hw hM;obtain⟨wb,we⟩:=w;simp only[Bz,Cg]at hw hM;have ah:=Ns hL ae.ct;generalize hO:AX L s4=o at ah hM;obtain⟨⟨on,od⟩,s5⟩:=o;simp only at ah hM;have aa:=ae.trans ah;generalize hl:AY L s5=l at hM;obtain⟨ll,s6⟩:=l;simp only at hM;unfold AX at hO;unfold AY at hl;refine iW 1 func135 ntmps135 results135 λc hc hb=>zM ?_;simp[go_sem];refine pR hx ?_;simp[go_sem];refine pR hm ?_;simp[go_sem];refine pR hn ?_;simp[go_sem];refine He hw cB ?_;rintro r U⟨rfl,rfl⟩_;simp[go_sem];by_cases qO:cV L Nq s4=true;rotate_left
 .have qO:cV L Nq s4=false:=sU qO;rw[ahO (by rw[qO];decide)]at hO;obtain⟨⟨rfl,rfl⟩,rfl⟩:([]=on/\false=od)/\s4=s5:=sU hO;refine pR (jF L hL s4 ae.ct _ qO) ?_;simp[go_sem];by_cases qL:cV L xa s4=true;.rw[ahP qL]at hl;have ab:=FP L hL (zS s4) (aa.ct.next hL qL);rw[hl]at ab;refine pR (wA L hL s4 aa.ct _ qL) ?_;simp[go_sem];refine pR ab ?_;simp[go_sem];exact p6 (st:=⟨1,nm,xl,[],[],wb,we,_,_,ll⟩) hM
  .have qL:cV L xa s4=false:=sU qL;rw[ahO (by rw[qL];decide)]at hl;obtain⟨rfl,rfl⟩:-1=ll/\s4=s6:=sU hl;refine pR (jF L hL s4 aa.ct _ qL) ?_;simp[go_sem];exact p6 (st:=⟨1,nm,xl,[],[],wb,we,_,_,-1⟩) hM
 rw[ahP qO]at hO;have h1:=xF hL ae.ct qO;have ak:=lM L hL _ h1.ct rk;have h2:=yM hL rk h1.ct;generalize yE L rk (zS s4)=t1 at ak h2 hO;have ai:=DY L hL _ h2.ct;have h3:=nM hL h2.ct;generalize xI L t1=n2 at ai h3 hO;obtain⟨aj,t2⟩:=n2;simp only at ai h3 hO;refine pR (wA L hL s4 ae.ct _ qO) ?_;simp[go_sem];refine pR ak ?_;simp[go_sem];refine pR ai ?_;simp[go_sem];by_cases qA:cV L Ej t2=true
 .rw[ahP qA]at hO;obtain⟨⟨rfl,rfl⟩,rfl⟩:(aj=on/\false=od)/\zS t2=s5:=sU hO;refine pR (wA L hL t2 h3.ct _ qA) ?_;simp[go_sem];by_cases qL:cV L xa (zS t2)=true;.rw[ahP qL]at hl;have ab:=FP L hL (zS (zS t2)) (aa.ct.next hL qL);rw[hl]at ab;refine pR (wA L hL (zS t2) aa.ct _ qL) ?_;simp[go_sem];refine pR ab ?_;simp[go_sem];exact p6 (st:=⟨1,nm,xl,[],[],wb,we,_,_,ll⟩) hM
  .have qL:cV L xa (zS t2)=false:=sU qL;rw[ahO (by rw[qL];decide)]at hl;obtain⟨rfl,rfl⟩:-1=ll/\(zS t2)=s6:=sU hl;refine pR (jF L hL (zS t2) aa.ct _ qL) ?_;simp[go_sem];exact p6 (st:=⟨1,nm,xl,[],[],wb,we,_,_,-1⟩) hM
 have qA:cV L Ej t2=false:=sU qA;rw[ahO (by rw[qA];decide)]at hO;refine pR (jF L hL t2 h3.ct _ qA) ?_;simp[go_sem];by_cases qD:cV L Nr t2=true
 .rw[ahP qD]at hO;obtain⟨⟨rfl,rfl⟩,rfl⟩:(aj=on/\true=od)/\zS t2=s5:=sU hO;refine pR (wA L hL t2 h3.ct _ qD) ?_;simp[go_sem];by_cases qL:cV L xa (zS t2)=true;.rw[ahP qL]at hl;have ab:=FP L hL (zS (zS t2)) (aa.ct.next hL qL);rw[hl]at ab;refine pR (wA L hL (zS t2) aa.ct _ qL) ?_;simp[go_sem];refine pR ab ?_;simp[go_sem];exact p6 (st:=⟨1,nm,xl,[],[],wb,we,_,_,ll⟩) hM
  .have qL:cV L xa (zS t2)=false:=sU qL;rw[ahO (by rw[qL];decide)]at hl;obtain⟨rfl,rfl⟩:-1=ll/\(zS t2)=s6:=sU hl;refine pR (jF L hL (zS t2) aa.ct _ qL) ?_;simp[go_sem];exact p6 (st:=⟨1,nm,xl,[],[],wb,we,_,_,-1⟩) hM
 .have qD:cV L Nr t2=false:=sU qD;rw[ahO (by rw[qD];decide)]at hO;obtain⟨⟨rfl,rfl⟩,rfl⟩:(aj=on/\false=od)/\t2=s5:=sU hO;refine pR (jF L hL t2 h3.ct _ qD) ?_;simp[go_sem];by_cases qL:cV L xa t2=true;.rw[ahP qL]at hl;have ab:=FP L hL (zS t2) (aa.ct.next hL qL);rw[hl]at ab;refine pR (wA L hL t2 aa.ct _ qL) ?_;simp[go_sem];refine pR ab ?_;simp[go_sem];exact p6 (st:=⟨1,nm,xl,[],[],wb,we,_,_,ll⟩) hM
  .have qL:cV L xa t2=false:=sU qL;rw[ahO (by rw[qL];decide)]at hl;obtain⟨rfl,rfl⟩:-1=ll/\t2=s6:=sU hl;refine pR (jF L hL t2 aa.ct _ qL) ?_;simp[go_sem];exact p6 (st:=⟨1,nm,xl,[],[],wb,we,_,_,-1⟩) hM
variable {L:List bN}
def gG(L:List bN):Nat->List bG->RS->Bool×List bG×RS|0,l,s=>(false,l,s)|n+1,l,s=>if(kp L l.length 6 (jQ L false s) s).err=0then(if cV L [44] (iT L s).2=true then gG L n (l++[(iT L s).1]) (zS (iT L s).2)else(true,l++[(iT L s).1],(iT L s).2))else(false,l,kp L l.length 6 (jQ L false s) s)
def sv(L:List bN):Nat->List (List bG)->RS->List (List bG)×RS |0,R,s=>(R,s)|n+1,R,s=>if(kp L R.length 16 (cV L [40] s) s).err=0then(if(gG L 7 [] (yE L [40] s)).1=true then(if cV L [44] (yE L [41] (gG L 7 [] (yE L [40] s)).2.2)=true then sv L n (R++[(gG L 7 [] (yE L [40] s)).2.1]) (zS (yE L [41] (gG L 7 [] (yE L [40] s)).2.2))else(R++[(gG L 7 [] (yE L [40] s)).2.1],yE L [41] (gG L 7 [] (yE L [40] s)).2.2))else(R,(gG L 7 [] (yE L [40] s)).2.2))else(R,kp L R.length 16 (cV L [40] s) s)
def Ek:aij:= [73,78,84,79]
def FX:aij:= [86,65,76,85,69,83]
def uY(L:List bN)(s:RS):bQ×RS:=let n:=xI L (yE L Ek s)
 let r:=sv L 17 [] (yE L FX n.2)
 (⟨2,n.1,[],r.1,[],false,dH,[],false,0⟩,r.2)
theorem Nu(hL:eL L):∀(n:Nat)(l:List bG)(s:RS),cZ L s->s.bV=0->UI L s (gG L n l s).2.2
 |0,_,_,h,_=>UI.refl h|n+1,l,s,h,ho=>by
  unfold gG;split
  .have h1:=uW hL h ho;split;.have h2:=h1.trans (xF hL h1.ct ‹_›);exact h2.trans (Nu hL n _ _ h2.ct (h2.bV.trans ho))
   .exact h1
  .exact tK h
theorem R7(hL:eL L):∀(n:Nat)(R:List (List bG))(s:RS),cZ L s->s.bV=0->UI L s (sv L n R s).2
 |0,_,_,h,_=>UI.refl h|n+1,R,s,h,ho=>by
  unfold sv;split
  .have h1:=yM hL [40] h;have h2:=h1.trans (Nu hL 7 [] _ h1.ct (h1.bV.trans ho));split
   .have h3:=h2.trans (yM hL [41] h2.ct);split;.have h4:=h3.trans (xF hL h3.ct ‹_›);exact h4.trans (R7 hL n _ _ h4.ct (h4.bV.trans ho))
    .exact h3
   .exact h2
  .exact tK h
theorem xd7(hL:eL L){s:RS}(h:cZ L s)(ho:s.bV=0):UI L s (uY L s).2:=by unfold uY;have h1:=yM hL Ek h;have h2:=h1.trans (nM hL h1.ct);have h3:=h2.trans (yM hL FX h2.ct);exact h3.trans (R7 hL 17 [] _ h3.ct (h3.bV.trans ho))
def xc(nm:aij)(R:List (List bG)):Ob:=.box [.int .i64 2,.str nm,.sl .full [],.sl (.app 3) (R.map λl=>[V.sl .ro (l.map bG.row)]),.sl .full [],.bool false,.int .i64 0,.str [],.int .i64 0,.int .i64 0,.str [],.sl .full [],.str [],.bool false,.int .i64 0]
def sx:Ob:=.box [.int .i64 0,.str [],.sl .full [],.sl .full [],.sl .full [],.bool false,.int .i64 0,.str [],.int .i64 0,.int .i64 0,.str [],.sl .full [],.str [],.bool false,.int .i64 0]
theorem xw0(L:List bN)(hL:eL L)(s0:RS)(au:cZ L s0)(av:s0.bV=0):bL prog 136 [.ptr 0 0] [rB L s0] (RT L (uY L s0)):=by
 generalize hM:uY L s0=M;unfold uY at hM;have aw:=lM L hL s0 au Ek;have ak:=yM hL Ek au;generalize yE L Ek s0=s1 at aw ak hM;have hn:=DY L hL s1 ak.ct;have ag:=ak.trans (nM hL ak.ct);generalize xI L s1=n at hn ag hM;obtain⟨nm,s2⟩:=n;simp only at hn ag hM;have ax:=lM L hL s2 ag.ct FX;have ay:=ag.trans (yM hL FX ag.ct);generalize yE L FX s2=s3 at ax ay hM;obtain⟨X,hX⟩:=eX (sv L 17 [] s3);rw[hX]at hM;have ret:∀(R:List (List bG))(s:RS)(τ:St),(R,s)=X->bW (some (.agg [.int .i64 2,.str nm,.sl .full [],.sl (.app 3) (R.map λl=>[V.sl .ro (l.map bG.row)]),.sl .full [],.bool false,.int .i64 0,.str [],.int .i64 0,.int .i64 0,.str [],.sl .full [],.str [],.bool false,.int .i64 0])) 1 (RT L M) (rB L s::τ):=λR s τ h=>by subst h;exact p6 (st:=⟨2,nm,[],R,[],false,dH,[],false,0⟩) hM
 refine iV 1 func136 ntmps136 results136 λc hc hb=>?_;refine zA ?_;simp[go_sem];refine pR aw ?_;simp[go_sem];refine pR hn ?_;simp[go_sem];refine pR ax ?_;simp[go_sem];refine DK 2 3 1 _ dc rfl rfl ?_;simp only[Bz,Cg];refine zG (S:=List (List bG)×RS) [0,2,3] (λu=>[.ptr 0 0,.ptr 1 0,.ptr 2 0]) (λu=>[rB L u.2,sx,xc nm u.1,.app u.1.length 1]) (λu=>17-u.1.length) (λu=>u.1.length<=16/\UI L s0 u.2/\sv L (17-u.1.length) u.1 u.2=X) hc hb ([],s3) ⟨A3 _,ay,hX⟩ ?_ ?_;.exact bT 4 (by simp[go_sem];exact⟨rfl,rfl⟩) rfl (by simp[rB,sx,xc,bO,cH,cF]) dc (zC sg rfl)
 rintro⟨R,s⟩⟨hR,hu,hinv⟩;simp only at hR hu hinv;have hs:=hu.ct;have ho:=hu.bV.trans av;have ah:=js L hL s hs [40];have ad:=HF L hL s hs R.length 16 (cV L [40] s);have an:=uV (L:=L) (n:=R.length) (fQ:=16) (b:=cV L [40] s) (s:=s);rw[show 17-R.length=(16-R.length)+1by omega,sv]at hinv;generalize cV L [40] s=bg at ah ad an hinv;generalize kp L R.length 16 bg s=m at ad an hinv;by_cases q:m.err=0;rotate_left;.have q':(m.err==0)=false:=sU q;rw[ahO q]at hinv;rw[q']at ad;refine zA ?_;simp[go_sem];refine pY [(5,3),(6,3)] 1 4 sm kR kR ?_;simp[go_sem,xc];refine tH ah cB (wZ ⟨zD rfl,tV⟩) rfl ?_;simp[go_sem];refine tH ad cB (wZ ⟨zD rfl,zD rfl,zD rfl,tV⟩) rfl ?_;simp[go_sem];exact ret _ _ _ hinv
 have q':(m.err==0)=true:=sU q;obtain⟨he,aC,rfl⟩:=an q;rw[ahP q]at hinv;rw[q']at ad;have az:=lM L hL m hs [40];have a1:=hu.trans (yM hL [40] hs);generalize yE L [40] m=s4 at az a1 hinv;obtain⟨Y,hY⟩:=eX (gG L 7 [] s4);rw[hY]at hinv;refine zA ?_;simp[go_sem];refine pY [(5,3),(6,3)] 1 4 sm kR kR ?_;simp[go_sem,xc];refine tH ah cB (wZ ⟨zD rfl,tV⟩) rfl ?_;simp[go_sem];refine tH ad cB (wZ ⟨zD rfl,zD rfl,zD rfl,tV⟩) rfl ?_;simp[go_sem];refine pR az ?_;simp[go_sem];refine wL 4 6 dc sg ?_;refine zG (S:=List bG×RS) [0,2,3,4] (λu=>[.ptr 0 0,.ptr 1 0,.ptr 2 0,.sl (.app 4) (u.1.map bG.row)]) (λu=>[rB L u.2,sx,xc nm R,.app R.length 1,.app u.1.length 6]) (λu=>7-u.1.length) (λu=>u.1.length<=6/\UI L s0 u.2/\gG L (7-u.1.length) u.1 u.2=Y) hc hb ([],s4) ⟨A3 _,a1,hY⟩ ?_ ?_;.exact bT 5 (by simp[go_sem];rfl) rfl (by simp[rB,sx,xc,bO,cH,cF]) dc (zC sg rfl)
 rintro⟨l,t⟩⟨hl,al,aa⟩;simp only at hl al aa;have ht:=al.ct;have a6:=al.bV.trans av;have ae:=R4 L hL t ht false;have ab:=HF L hL t ht l.length 6 (jQ L false t);have ai:=uV (L:=L) (n:=l.length) (fQ:=6) (b:=jQ L false t) (s:=t);rw[show 7-l.length=(6-l.length)+1by omega,gG]at aa;generalize jQ L false t=a8 at ae ab ai aa;generalize kp L l.length 6 a8 t=m2 at ab ai aa;by_cases q2:m2.err=0;rotate_left
 .have ao:(m2.err==0)=false:=sU q2;rw[ahO q2]at aa;rw[ao]at ab;have aq:Y.1=false:=by rw[<-aa]
  have ar:Y.2.2=m2:=by rw[<-aa]
  rw[ahO (by rw[aq];decide),ar]at hinv;refine zA ?_;simp[go_sem];refine pR ae ?_;simp[go_sem];refine pR ab ?_;simp[go_sem,xc];exact ret _ _ _ hinv
 have ao:(m2.err==0)=true:=sU q2;obtain⟨aD,aB,rfl⟩:=ai q2;rw[ahP q2]at aa;rw[ao]at ab;have hx:=tJ L hL m2 ht a6;have af:=al.trans (uW hL ht a6);generalize iT L m2=x at hx af aa;by_cases q3:cV L [44] x.2=true;.rw[ahP q3]at aa;refine zA ?_;simp[go_sem];refine pR ae ?_;simp[go_sem];refine pR ab ?_;simp[go_sem];refine j5 hx cB fu ?_;simp[go_sem,bG.bK];refine zF ⟨om,zT rfl⟩ ?_;simp[go_sem];refine pR (wA L hL x.2 af.ct _ q3) ?_;simp[go_sem];refine zH (l++[x.1],zS x.2) ⟨by simp;omega,⟨by simp;omega,af.trans (xF hL af.ct q3),by simp only[Al,Bm,show 7-(l.length+1)=6-l.length by omega];exact aa⟩,?_⟩;exact aM 5 (by simp[rB,sx,xc,bO,cH,cF]) (zC (by simp[go_sem,bG.bK]) rfl)
 have q3:cV L [44] x.2=false:=sU q3;rw[ahO (by rw[q3];decide)]at aa;have aq:Y.1:=by rw[<-aa]
 have ar:Y.2.2=x.2:=by rw[<-aa]
 have aA:Y.2.1=l++[x.1]:=by rw[<-aa]
 rw[ahP aq,ar,aA]at hinv;have a7:=lM L hL x.2 af.ct [41];have aj:=af.trans (yM hL [41] af.ct);generalize yE L [41] x.2=s5 at a7 aj hinv;refine zA ?_;simp[go_sem];refine pR ae ?_;simp[go_sem];refine pR ab ?_;simp[go_sem];refine j5 hx cB fu ?_;simp[go_sem,bG.bK];refine zF ⟨om,zT rfl⟩ ?_;simp[go_sem];refine pR (jF L hL x.2 af.ct _ q3) ?_;simp[go_sem];refine pR a7 ?_;simp[go_sem,xc];refine zF ⟨om,zT rfl⟩ ?_;simp[go_sem];by_cases q5:cV L [44] s5=true;.rw[ahP q5]at hinv;refine pR (wA L hL s5 aj.ct _ q5) ?_;simp[go_sem];refine zH (R++[l++[x.1]],zS s5) ⟨by simp;omega,⟨by simp;omega,aj.trans (xF hL aj.ct q5),by simp only[Al,Bm,show 17-(R.length+1)=16-R.length by omega];exact hinv⟩,?_⟩;exact bT 4 (by simp[go_sem,bG.bK]) rfl (by simp[rB,sx,bO,cH,cF]) dc (zC sg rfl)
 .have q5:cV L [44] s5=false:=sU q5;rw[ahO (by rw[q5];decide)]at hinv;refine pR (jF L hL s5 aj.ct _ q5) ?_;simp[go_sem];have hr:=ret (R++[l++[x.1]]) s5;simp[bG.bK]at hr;exact hr _ hinv
variable {L:List bN}
def FY(L:List bN)(s:RS):Bool:=(cw L s).kind==1&&jr (cw L s).s
def pq:aij:= [83,69,84]
def rl(L:List bN):Nat->List bX->RS->Bool×List bX×RS |0,l,s=>(false,l,s)|n+1,l,s=>if(kp L l.length 6 (FY L s) s).err=0then(if cV L [44] (iT L (yE L [61] (xI L s).2)).2=true then rl L n (l++[⟨(xI L s).1,(iT L (yE L [61] (xI L s).2)).1⟩]) (zS (iT L (yE L [61] (xI L s).2)).2)else(true,l++[⟨(xI L s).1,(iT L (yE L [61] (xI L s).2)).1⟩],(iT L (yE L [61] (xI L s).2)).2))else(false,l,kp L l.length 6 (FY L s) s)
def uZ(L:List bN)(s:RS):bQ×RS:=let n:=xI L s
 let r:=rl L 7 [] (yE L pq n.2)
 if r.1=true then(⟨3,n.1,[],[],r.2.1,(kq L r.2.2).1,(kq L r.2.2).2,[],false,0⟩,pn L r.2.2)else(⟨3,n.1,[],[],r.2.1,false,dH,[],false,0⟩,r.2.2)
theorem Nv(hL:eL L):∀(n:Nat)(l:List bX)(s:RS),cZ L s->s.bV=0->UI L s (rl L n l s).2.2
 |0,_,_,h,_=>UI.refl h|n+1,l,s,h,ho=>by
  unfold rl;split
  .have h1:=nM hL h;have h2:=h1.trans (yM hL [61] h1.ct);have h3:=h2.trans (uW hL h2.ct (h2.bV.trans ho));split;.have h4:=h3.trans (xF hL h3.ct ‹_›);exact h4.trans (Nv hL n _ _ h4.ct (h4.bV.trans ho))
   .exact h3
  .exact tK h
theorem xj7(hL:eL L){s:RS}(h:cZ L s)(ho:s.bV=0):UI L s (uZ L s).2:=by
 unfold uZ;have h1:=nM hL h;have h2:=h1.trans (yM hL pq h1.ct);have h3:=h2.trans (Nv hL 7 [] _ h2.ct (h2.bV.trans ho));simp only;split;.exact h3.trans (FW hL h3.ct (h3.bV.trans ho))
 .exact h3
def HH(nm:aij)(l:List bX):Ob:=.box [.int .i64 3,.str nm,.sl .full [],.sl .full [],.sl (.app 3) (l.map bX.row),.bool false,.int .i64 0,.str [],.int .i64 0,.int .i64 0,.str [],.sl .full [],.str [],.bool false,.int .i64 0]
theorem xD0(L:List bN)(hL:eL L)(s0:RS)(av:cZ L s0)(al:s0.bV=0):bL prog 137 [.ptr 0 0] [rB L s0] (RT L (uZ L s0)):=by
 generalize hM:uZ L s0=M;unfold uZ at hM;have hn:=DY L hL s0 av;have ah:=nM hL av;generalize xI L s0=n at hn ah hM;obtain⟨nm,s2⟩:=n;simp only at hn ah hM;have aw:=lM L hL s2 ah.ct pq;have ax:=ah.trans (yM hL pq ah.ct);generalize yE L pq s2=s3 at aw ax hM;obtain⟨X,hX⟩:=eX (rl L 7 [] s3);rw[hX]at hM;refine iV 1 func137 ntmps137 results137 λc hc hb=>?_;refine zA ?_;simp[go_sem];refine pR hn ?_;simp[go_sem];refine pR aw ?_;simp[go_sem];refine DK 2 4 7 _ dc rfl rfl ?_;simp only[Bz,Cg];refine zG (S:=List bX×RS) [0,2,3] (λu=>[.ptr 0 0,.ptr 1 0,.ptr 2 0]) (λu=>[rB L u.2,sx,HH nm u.1,.app u.1.length 7]) (λu=>7-u.1.length) (λu=>u.1.length<=6/\UI L s0 u.2/\rl L (7-u.1.length) u.1 u.2=X) hc hb ([],s3) ⟨A3 _,ax,hX⟩ ?_ ?_;.exact bT 4 (by simp[go_sem];exact⟨rfl,rfl⟩) rfl (by simp[rB,sx,HH,bO,cH,cF]) dc (zC sg rfl)
 rintro⟨l,s⟩⟨hl,hu,hinv⟩;simp only at hl hu hinv;have hs:=hu.ct;have ho:=hu.bV.trans al;have ad:=nG L hL s hs;have ai:=DW (cw L s).s (hL.wu _ (FR hs));have aa:=HF L hL s hs l.length 6 (FY L s);have ao:=uV (L:=L) (n:=l.length) (fQ:=6) (b:=FY L s) (s:=s);rw[show 7-l.length=(6-l.length)+1by omega,rl]at hinv;generalize an:FY L s=bg at aa ao hinv;unfold FY at an;have ae:=DY L hL s hs;have aj:=hu.trans (nM hL hs);generalize cw L s=tk at ad ai an;generalize jr tk.s=wd at ai an;generalize kp L l.length 6 bg s=m at aa ao hinv;have key:((tk.kind==1)=true/\wd=bg)\/((tk.kind==1)=false/\false=bg):=by revert an;cases tk.kind==1<;>simp
 by_cases q:m.err=0;rotate_left
 .have q':(m.err==0)=false:=sU q;rw[ahO q]at hinv;rw[q']at aa;have aq:X.1=false:=by rw[<-hinv]
  have ar:X.2.1=l:=by rw[<-hinv]
  have au:X.2.2=m:=by rw[<-hinv]
  rw[ahO (by rw[aq];decide),ar,au]at hM;refine zA ?_;simp[go_sem];refine pR ad ?_;simp[go_sem,HH];refine pY [(10,0),(12,3)] 1 5 sm kR kR ?_;simp[go_sem];refine key.elim (λ⟨k1,k2⟩=>?_) (λ⟨k1,k2⟩=>?_);.simp[go_sem,k1];refine pD ai ?_;simp[go_sem,k2];refine tH aa cB (wZ ⟨zD rfl,zD rfl,zD rfl,tV⟩) rfl ?_;simp[go_sem];exact p6 (st:=⟨3,nm,[],[],l,false,dH,[],false,0⟩) hM
  .rw[<-k2]at aa;simp[go_sem,k1];refine tH aa cB (wZ ⟨zD rfl,zD rfl,zD rfl,tV⟩) rfl ?_;simp[go_sem];exact p6 (st:=⟨3,nm,[],[],l,false,dH,[],false,0⟩) hM
 have q':(m.err==0)=true:=sU q;obtain⟨he,ay,rfl⟩:=ao q;rw[ahP q]at hinv;rw[q']at aa;generalize xI L m=n1 at ae aj hinv;obtain⟨af,t1⟩:=n1;simp only at ae aj hinv;have ak:=lM L hL t1 aj.ct [61];have ag:=aj.trans (yM hL [61] aj.ct);generalize yE L [61] t1=t2 at ak ag hinv;have hx:=tJ L hL t2 ag.ct (ag.bV.trans al);have ab:=ag.trans (uW hL ag.ct (ag.bV.trans al));generalize iT L t2=x at hx ab hinv;obtain⟨e,t3⟩:=x;simp only at ab hinv;by_cases q3:cV L [44] t3=true
 .rw[ahP q3]at hinv;refine zA ?_;simp[go_sem];refine pR ad ?_;simp[go_sem,HH];refine pY [(10,0),(12,3)] 1 5 sm kR kR ?_;simp[go_sem];refine key.elim (λ⟨k1,k2⟩=>?_) (λ⟨k1,k2⟩=>?_);.simp[go_sem,k1];refine pD ai ?_;simp[go_sem,k2];refine tH aa cB (wZ ⟨zD rfl,zD rfl,zD rfl,tV⟩) rfl ?_;simp[go_sem];refine pR ae ?_;simp[go_sem];refine pR ak ?_;simp[go_sem];refine j5 hx cB fu ?_;simp[go_sem,bG.bK];refine zF ⟨om,zT rfl⟩ ?_;simp[go_sem];refine pR (wA L hL t3 ab.ct _ q3) ?_;simp[go_sem];refine zH (l++[⟨af,e⟩],zS t3) ⟨by simp;omega,⟨by simp;omega,ab.trans (xF hL ab.ct q3),by simp only[Al,Bm,show 7-(l.length+1)=6-l.length by omega];exact hinv⟩,?_⟩;exact aN 4 (by simp[rB,sx,bO,cH,cF])
  .rw[<-k2]at aa;simp[go_sem,k1];refine tH aa cB (wZ ⟨zD rfl,zD rfl,zD rfl,tV⟩) rfl ?_;simp[go_sem];refine pR ae ?_;simp[go_sem];refine pR ak ?_;simp[go_sem];refine j5 hx cB fu ?_;simp[go_sem,bG.bK];refine zF ⟨om,zT rfl⟩ ?_;simp[go_sem];refine pR (wA L hL t3 ab.ct _ q3) ?_;simp[go_sem];refine zH (l++[⟨af,e⟩],zS t3) ⟨by simp;omega,⟨by simp;omega,ab.trans (xF hL ab.ct q3),by simp only[Al,Bm,show 7-(l.length+1)=6-l.length by omega];exact hinv⟩,?_⟩;exact aN 4 (by simp[rB,sx,bO,cH,cF])
 have q3:cV L [44] t3=false:=sU q3;rw[ahO (by rw[q3];decide)]at hinv;have aq:X.1:=by rw[<-hinv]
 have ar:X.2.1=l++[⟨af,e⟩]:=by rw[<-hinv]
 have au:X.2.2=t3:=by rw[<-hinv]
 rw[ahP aq,ar,au]at hM;obtain⟨gw,hw⟩:=Np L hL t3 ab.ct (ab.bV.trans al) [sx,.box [.int .i64 3,.str nm,.sl .full [],.sl .full [],.sl (.app 3) (l.map bX.row++[[.str af,.int .i64 e.kind,.str e.s,.int .i64 e.v.kind,.int .i64 e.v.n,.str e.v.s,.sl .ro (e.args.map bG.row)]]),.bool false,.int .i64 0,.str [],.int .i64 0,.int .i64 0,.str [],.sl .full [],.str [],.bool false,.int .i64 0],.app (l.length+1) 7,.box [.int .i64 tk.kind,.int .i64 tk.place,.str tk.s,.int .i64 tk.n],.box [.str af,.int .i64 e.kind,.str e.s,.int .i64 e.v.kind,.int .i64 e.v.n,.str e.v.s,.sl .ro (e.args.map bG.row)]] 1 _ _ _ _ _ _ _ _ rfl;generalize pn L t3=s9 at hw hM;generalize kq L t3=w9 at hw hM;have hr:=λτ=>p6 (L:=L) (g1:=.full) (g2:=.full) (g3:=.app 3) (g4:=gw) (τ:=τ) (st:=⟨3,nm,[],[],l++[⟨af,e⟩],w9.1,w9.2,[],false,0⟩) hM;simp at hr;refine zA ?_;simp[go_sem];refine pR ad ?_;simp[go_sem,HH];refine pY [(10,0),(12,3)] 1 5 sm kR kR ?_;simp[go_sem];refine key.elim (λ⟨k1,k2⟩=>?_) (λ⟨k1,k2⟩=>?_);.simp[go_sem,k1];refine pD ai ?_;simp[go_sem,k2];refine tH aa cB (wZ ⟨zD rfl,zD rfl,zD rfl,tV⟩) rfl ?_;simp[go_sem];refine pR ae ?_;simp[go_sem];refine pR ak ?_;simp[go_sem];refine j5 hx cB fu ?_;simp[go_sem,bG.bK];refine zF ⟨om,zT rfl⟩ ?_;simp[go_sem];refine pR (jF L hL t3 ab.ct _ q3) ?_;simp[go_sem];refine He hw cB ?_;rintro r U⟨rfl,rfl⟩_;simp[go_sem];exact hr _
 .rw[<-k2]at aa;simp[go_sem,k1];refine tH aa cB (wZ ⟨zD rfl,zD rfl,zD rfl,tV⟩) rfl ?_;simp[go_sem];refine pR ae ?_;simp[go_sem];refine pR ak ?_;simp[go_sem];refine j5 hx cB fu ?_;simp[go_sem,bG.bK];refine zF ⟨om,zT rfl⟩ ?_;simp[go_sem];refine pR (jF L hL t3 ab.ct _ q3) ?_;simp[go_sem];refine He hw cB ?_;rintro r U⟨rfl,rfl⟩_;simp[go_sem];exact hr _
def El(c:UInt8):Bool:=decide (c.toNat=9)||(decide (c.toNat=10)||(decide (c.toNat=13)||decide (c.toNat=32)))
theorem Em(c:UInt8)(n:Nat):(((c.toNat:Nat):Int)==(n:Int))=decide (c.toNat=n):=by rw[Cp];simp only[ahX,ahS];omega
theorem xg3(c:UInt8):Pure prog 133 [.int .u8 c.toNat] (.bool (El c)):=by
 generalize hM:El c=M;unfold El at hM;have h9:=Em c 9;have aa:=Em c 10;have ab:=Em c 13;have ad:=Em c 32;simp only[Bn]at h9 aa ab ad;have ret:∀(r:Bool)(τ:St),r=M->bW (some (.bool r)) 0 (λr U=>r=.bool M/\U=[]) τ:=λr τ h=>by subst h;exact wR
 refine iW 0 func133 ntmps133 results133 λc hc hb=>zM ?_;simp[go_sem];repeat'(first |(refine yA (λq=>?_) (λq=>?_)<;>simp[go_sem,q])|(refine zO (λq=>?_) (λq=>?_)<;>simp[go_sem,q]))
 all_goals exact ret _ _ (by rw[<-hM];simp_all)
abbrev TR:=bN×Nat×Int
def u7(x:TR):V:=.cm [.agg x.1.row,.int .i64 x.2.1,.int .i64 x.2.2]
theorem Ke (x:TR):iH (u7 x)=true:=rfl
theorem nP{t:bN}{n:Nat}{M:TR}(h:(t,n,e)=M):bW (some (.cm [.agg [.int .i64 t.kind,.int .i64 t.place,.str t.s,.int .i64 t.n],.int .i64 n,.int .i64 e])) 0 (λr U=>r=u7 M/\U=[]) τ:=by subst h;exact wR
def nQ(v:Int):aij->Option Int|[]=>some v|c::l=>if jN c=true then(if(9223372036854775807-((c.toNat:Int)-48))/10<v then none else nQ (v*10+((c.toNat:Int)-48)) l)else some v
def rp(at_:Nat)(l:aij):TR:=match nQ 0 l with |none=>(mc,0,5)|some v=>if mL ((l.dropWhile jN).headD 0)=true then(mc,0,13)else(⟨2,0,[],v⟩,at_+(l.takeWhile jN).length,0)
theorem R8{c:UInt8}(h:jN c):48<=c.toNat/\c.toNat<=57:=by unfold jN at h;simpa using h
theorem yW0(s:aij)(hl:s.length<=maxLen)(a:Nat)(ha:a<=s.length):Pure prog 206 [.str s,.int .i64 a] (u7 (rp a (s.drop a))):=by
 generalize hM:rp a (s.drop a)=M;unfold rp at hM;unfold maxLen at hl;have ae:mL 0=false:=dc;refine iV 0 func206 ntmps206 results206 λc hc hb=>?_;refine zA ?_;simp[go_sem];refine zG (S:=Nat×Int) [0,1,4,7] (λu=>[.str s,.int .i64 u.1,.ptr 0 0,.int .i64 u.2]) (λ_=>[.box [.int .i64 0,.int .i64 0,.str [],.int .i64 0]]) (λu=>s.length-u.1) (λu=>u.1<=s.length/\0<=u.2/\u.2<=9223372036854775807/\(match nQ u.2 (s.drop u.1)with|none=>(mc,0,5)|some v=>if mL (((s.drop u.1).dropWhile jN).headD 0)=true then(mc,0,13)else((⟨2,0,[],v⟩,u.1+((s.drop u.1).takeWhile jN).length,0):TR))=M) hc hb (a,0) ⟨ha,Int.le_refl _,sm,hM⟩ ?_ ?_;.exact aN 1 (by rfl)
 rintro⟨i,v⟩⟨hi,af,ag,hinv⟩;simp only at hi af ag hinv;by_cases q:i<s.length;rotate_left
 .obtain rfl:i=s.length:=om;rw[B7]at hinv;have hinv:(⟨⟨2,0,[],v⟩,s.length,0⟩:TR)=M:=by rw[<-hinv];rfl
  refine zA ?_;simp[go_sem];exact nP (t:=⟨2,0,[],v⟩) hinv
 have ei:=zR q om;obtain⟨x,hx⟩:=eX (s[i]);rw[A2 q,hx]at hinv;have aa:=Hx x;have ab:=JY x;by_cases qd:jN x=true;rotate_left
 .have qd:jN x=false:=sU qd;rw[nQ,ahO (by rw[qd];decide),List.dropWhile_cons_of_neg (by rw[qd];decide),List.takeWhile_cons_of_neg (by rw[qd];decide)]at hinv;simp only[List.headD_cons,D8,D6]at hinv;rw[qd]at aa;by_cases ql:mL x=true;.simp only[ql,ai0]at hinv;rw[ql]at ab;refine zA ?_;simp[go_sem,q,hx];refine pC aa ?_;simp[go_sem,q,hx];refine pC ab ?_;simp[go_sem];exact nP (t:=mc) hinv
  .have ql:mL x=false:=sU ql;simp only[ql,Cf,ai3]at hinv;rw[ql]at ab;refine zA ?_;simp[go_sem,q,hx];refine pC aa ?_;simp[go_sem,q,hx];refine pC ab ?_;simp[go_sem];exact nP (t:=⟨2,0,[],v⟩) hinv
 have hr:=R8 qd;rw[nQ,ahP qd,List.dropWhile_cons_of_pos qd,D0 qd]at hinv;rw[qd]at aa;have e1:IntKind.u8.wrap ((x.toNat:Int)-48)=(x.toNat:Int)-48:=JX om om;have e2:IntKind.i64.wrap ((x.toNat:Int)-48)=(x.toNat:Int)-48:=bR om om;have e3:IntKind.i64.wrap (9223372036854775807-((x.toNat:Int)-48))=9223372036854775807-((x.toNat:Int)-48):=bR om om;obtain⟨d,hd⟩:∃d:Int,(x.toNat:Int)-48=d:=⟨_,rfl⟩;rw[hd]at hinv e1 e2 e3;have ah:0<=d/\d<=9:=om;have e4:IntKind.i64.wrap ((9223372036854775807-d).tdiv 10)=(9223372036854775807-d)/10:=by rw[D1 om,bR om om]
 refine zA ?_;simp[go_sem,q,hx];refine pC aa ?_;simp[go_sem,q,hx,e1,e2,e3,e4,hd];by_cases qg:(9223372036854775807-d)/10<v;.have ad:decide ((9223372036854775807-d)/10<v)=true:=ahR qg;simp only[qg,ai0]at hinv;simp[go_sem,ad];exact nP (t:=mc) hinv
 .have ad:decide ((9223372036854775807-d)/10<v)=false:=ahQ qg;simp only[qg,ai3]at hinv;have e5:IntKind.i64.wrap (v*10)=v*10:=bR om om;have e6:IntKind.i64.wrap (v*10+d)=v*10+d:=bR om om;simp[go_sem,ad,e5,e6,ei];refine zH (i+1,v*10+d) ⟨by simp only;omega,⟨by simp only;omega,by simp only;omega,by simp only;omega,?_⟩,?_⟩;.simp only[Af]at hinv;rw[<-hinv];simp only[Dt,Dx 1]
  .exact aN 1 (by rfl)
def FZ(i:Nat)(w:aij):TR:=if 64<w.length then(mc,0,3)else(⟨3,0,w,0⟩,i+1,0)
def lN:Nat->aij->aij->TR |_,_,[]=>(mc,0,13)|i,w,[c]=>if c.toNat=39then FZ i w else(mc,0,13)|i,w,c::c2::l=>if c.toNat=39then(if c2.toNat=39then lN (i+2) (w++[c2]) l else FZ i w)else lN (i+1) (w++[c]) (c2::l)
theorem xj3(i:Nat)(w:aij)(c:UInt8)(l:aij)(h:¬c.toNat=39):lN i w (c::l)=lN (i+1) (w++[c]) l:=by cases l<;>simp_all[lN]
theorem xx2(s:aij)(hl:s.length<=maxLen)(a:Nat)(ha:a<s.length):Pure prog 207 [.str s,.int .i64 a] (u7 (lN (a+1) [] (s.drop (a+1)))):=by
 generalize hM:lN (a+1) [] (s.drop (a+1))=M;unfold maxLen at hl;have ea:IntKind.i64.wrap ((a:Int)+1)=((a+1:Nat):Int):=(by grind[zR]);refine iV 0 func207 ntmps207 results207 λc hc hb=>?_;refine zA ?_;simp[go_sem,ea];refine zG (S:=Nat×aij) [0,4,7,8] (λu=>[.str s,.ptr 0 0,.str u.2,.int .i64 u.1]) (λ_=>[.box [.int .i64 0,.int .i64 0,.str [],.int .i64 0]]) (λu=>s.length-u.1) (λu=>u.1<=s.length/\u.2.length<=u.1/\lN u.1 u.2 (s.drop u.1)=M) hc hb (a+1,[]) (by grind) ?_ ?_;.exact bT 1 (by rfl) rfl (by rfl) om (zC (by rfl) rfl)
 rintro⟨i,w⟩⟨hi,hw,hinv⟩;simp only at hi hw hinv;by_cases q:i<s.length;rotate_left;.obtain rfl:i=s.length:=om;rw[B7]at hinv;refine zA ?_;simp[go_sem];exact nP (t:=mc) hinv
 have ei:=zR q om;obtain⟨x,hx⟩:=eX (s[i]);have aa:=Em x 39;simp only[Bn]at aa;rw[A2 q,hx]at hinv;by_cases ae:x.toNat=39;rotate_left
 .rw[ahQ ae]at aa;rw[xj3 _ _ _ _ ae]at hinv;have ah:(s.take (i+1)).drop i=[x]:=by rw[Cn,A0 q,hx,List.drop_append,A4 (by grind),Ct,Dj om];simp
  refine zA ?_;simp[go_sem,q,hx,aa,ei];refine zF om ?_;simp[go_sem,ah];refine zF om ?_;simp[go_sem,ei];refine zH (i+1,w++[x]) ⟨om,(by grind),?_⟩;exact bT 1 (by rfl) rfl (by rfl) om (zC (by rfl) rfl)
 rw[ahR ae]at aa;by_cases q2:i+1<s.length;rotate_left
 .have ak:s.drop (i+1)=[]:=(by grind);rw[ak,lN,ahP ae]at hinv;unfold FZ at hinv;have e1:((i:Int)+1==(s.length:Int))=true:=by grind
  refine zA ?_;simp[go_sem,q,hx,aa,ei,e1];by_cases af:64<w.length;.have ab:decide ((64:Int)<w.length)=true:=(by grind);rw[ahP af]at hinv;simp[go_sem,ab];exact nP (t:=mc) hinv
  .have ab:decide ((64:Int)<w.length)=false:=(by grind);rw[ahO af]at hinv;simp[go_sem,ab,ei];exact nP (t:=⟨3,0,w,0⟩) hinv
 have e1:((i:Int)+1==(s.length:Int))=false:=by grind
 have al:=zR q2 om;obtain⟨y,hy⟩:=eX (s[i+1]);have ag:=Em y 39;simp only[Bn]at ag;have ai:s[i+1]?.getD 0=y:=by grind
 have aj:IntKind.i64.wrap ((i:Int)+1+1)=(i:Int)+2:=by grind
 rw[A2 q2,hy,lN,ahP ae]at hinv;by_cases qy:y.toNat=39;rotate_left
 .rw[ahO qy]at hinv;unfold FZ at hinv;rw[ahQ qy]at ag;have ad:((y.toNat:Int)!=39)=true:=by grind
  refine zA ?_;simp[go_sem,q,hx,aa,ei,e1];refine zF om ?_;simp[go_sem,ai,ad];by_cases af:64<w.length;.have ab:decide ((64:Int)<w.length)=true:=(by grind);rw[ahP af]at hinv;simp[go_sem,ab];exact nP (t:=mc) hinv
  .have ab:decide ((64:Int)<w.length)=false:=(by grind);rw[ahO af]at hinv;simp[go_sem,ab,ei];exact nP (t:=⟨3,0,w,0⟩) hinv
 rw[ahP qy]at hinv;rw[ahR qy]at ag;have ad:((y.toNat:Int)!=39)=false:=by grind
 have ah:(s.take (i+2)).drop (i+1)=[y]:=by rw[Cn,A0 q2,hy,List.drop_append,A4 (by grind),Ct,Dj om];simp
 refine zA ?_;simp[go_sem,q,hx,aa,ei,e1];have et:((i:Int)+2).toNat=i+2:=om;have an:IntKind.i64.wrap ((i:Int)+1+1)=((i+2:Nat):Int):=om;refine zF om ?_;simp[go_sem,ai,ad,ei,aj,et];refine zF om ?_;simp[go_sem,ah];refine zF om ?_;simp[go_sem,aj];refine zH (i+2,w++[y]) ⟨om,(by grind),?_⟩;exact bT 1 (by rfl) rfl (by rfl) om (zC (by rfl) rfl)
def jt (c:UInt8):Bool:=mL c||jN c
def fi:aij:=[40,41,44,59,42,61,60,62,43,45,47,37]
def iI(s:aij)(a:Nat):TR:=if mL (s.getD a 0)=true then(⟨1,0,((s.drop a).takeWhile jt).map yT,0⟩,a+((s.drop a).takeWhile jt).length,0)else if jN (s.getD a 0)=true then rp a (s.drop a)else if(s.getD a 0).toNat=39then lN (a+1) [] (s.drop (a+1))else if a+1<s.length/\((s.drop a).take 2=[60,61]\/(s.drop a).take 2=[62,61]\/(s.drop a).take 2=[60,62])then(⟨4,0,(s.drop a).take 2,0⟩,a+2,0)else if fi.contains (s.getD a 0)=true then(⟨4,0,[s.getD a 0],0⟩,a+1,0)else(mc,0,13)
theorem xQ4(s:aij)(hl:s.length<=maxLen)(a:Nat)(ha:a<s.length):Pure prog 134 [.str s,.int .i64 a] (u7 (iI s a)):=by
 generalize hM:iI s a=M;have af:=yW0 s hl a om;have ag:=xx2 s hl a ha;unfold iI at hM;unfold maxLen at hl;have ay:s.getD a 0=s[a]:=by grind
 rw[ay]at hM;obtain⟨x,hx⟩:=eX (s[a]);rw[hx]at hM;have ab:=JY x;have ad:=Hx x;generalize rp a (s.drop a)=n at af hM;generalize lN (a+1) [] (s.drop (a+1))=t at ag hM;have ret:∀(y:TR)(τ:St),y=M->bW (some (.cm [.agg [.int .i64 y.1.kind,.int .i64 y.1.place,.str y.1.s,.int .i64 y.1.n],.int .i64 y.2.1,.int .i64 y.2.2])) 0 (λr U=>r=u7 M/\U=[]) τ:=λy τ h=>nP (t:=y.1) h;refine iV 0 func134 ntmps134 results134 λc hc hb=>?_;refine zA ?_;simp[go_sem,ha,hx];by_cases q1:mL x=true
 .rw[ahP q1]at hM;rw[q1]at ab;refine pC ab ?_;simp[go_sem];refine zG (S:=Nat×aij) [0,1,4,7] (λu=>[.str s,.int .i64 u.1,.ptr 0 0,.str u.2]) (λ_=>[.box [.int .i64 0,.int .i64 0,.str [],.int .i64 0]]) (λu=>s.length-u.1) (λu=>u.1<=s.length/\u.2.length<=u.1/\((⟨1,0,u.2++((s.drop u.1).takeWhile jt).map yT,0⟩,u.1+((s.drop u.1).takeWhile jt).length,0):TR)=M) hc hb (a,[]) (by grind) ?_ ?_;.exact bT 1 (by rfl) rfl (by rfl) om (zC (by rfl) rfl)
  rintro⟨i,w⟩⟨hi,hw,hinv⟩;simp only at hi hw hinv;by_cases q:i<s.length;rotate_left;.obtain rfl:i=s.length:=om;rw[B7]at hinv;simp only[List.takeWhile_nil,Bp,Ay,D8,D6]at hinv;refine zA ?_;simp[go_sem];exact nP (t:=⟨1,0,w,0⟩) hinv
  have ei:=zR q om;obtain⟨y,hy⟩:=eX (s[i]);rw[A2 q,hy]at hinv;have az:=JY y;have ae:=Hx y;have aq:=Nd y;have yes:jt y=true->((⟨1,0,(w++[yT y])++((s.drop (i+1)).takeWhile jt).map yT,0⟩,i+1+((s.drop (i+1)).takeWhile jt).length,0):TR)=M:=λh=>by rw[D0 h]at hinv;grind
  have no:jt y=false->((⟨1,0,w,0⟩,i,0):TR)=M:=(by grind[List.takeWhile_cons_of_neg]);have ar:GH [[V.int .u8 ((yT y).toNat:Int)]]:=yY [yT y];have au:pW [V.int .u8 ((yT y).toNat:Int)]=yT y:=(List.cons.inj (yx [yT y])).1;refine zA ?_;simp[go_sem,q,hy];refine pC az ?_;refine(A1 (mL y)).elim (λp1=>?_) (λp1=>?_);.have av:=yes (by unfold jt;grind);simp[go_sem,p1,q,hy];refine pC aq ?_;simp[go_sem];refine zF ar ?_;simp[go_sem,au];refine zF om ?_;simp[go_sem,ei];refine zH (i+1,w++[yT y]) ⟨om,(by grind),?_⟩;exact bT 1 (by rfl) rfl (by rfl) om (zC (by rfl) rfl)
  refine(A1 (jN y)).elim (λp2=>?_) (λp2=>?_);.have av:=yes (by unfold jt;grind);simp[go_sem,p1,q,hy];refine pC ae ?_;simp[go_sem,p2,q,hy];refine pC aq ?_;simp[go_sem];refine zF ar ?_;simp[go_sem,au];refine zF om ?_;simp[go_sem,ei];refine zH (i+1,w++[yT y]) ⟨om,(by grind),?_⟩;exact bT 1 (by rfl) rfl (by rfl) om (zC (by rfl) rfl)
  .have a1:=no (by unfold jt;grind);simp[go_sem,p1,q,hy];refine pC ae ?_;simp[go_sem,p2];exact nP (t:=⟨1,0,w,0⟩) a1
 have q1:mL x=false:=by grind
 rw[ahO om]at hM;rw[q1]at ab;refine pC ab ?_;simp[go_sem,ha,hx];by_cases q2:jN x=true;.rw[ahP q2]at hM;rw[q2]at ad;refine pC ad ?_;simp[go_sem];refine zJ af cB (yC rfl) (Ke _) ?_;simp[go_sem,u7];exact ret _ _ hM
 have q2:jN x=false:=by grind
 rw[ahO om]at hM;rw[q2]at ad;refine pC ad ?_;simp[go_sem,ha,hx];have aa:=Em x 39;simp only[Bn]at aa;by_cases q3:x.toNat=39;.rw[ahP q3]at hM;rw[ahR q3]at aa;simp[go_sem,aa];refine zJ ag cB (yC rfl) (Ke _) ?_;simp[go_sem,u7];exact ret _ _ hM
 rw[ahO q3]at hM;rw[ahQ q3]at aa;simp[go_sem,aa];have aw:∀(y:UInt8),((y.toNat:Int)==(x.toNat:Int))=(y==x):=λy=>by rw[Cp];simp only[ahX];exact⟨λh=>E3.1 om,(by grind)⟩
 have ea:IntKind.i64.wrap ((a:Int)+1)=((a+1:Nat):Int):=(by grind[zR]);have ah:(s.take (a+1)).drop a=[x]:=by rw[Cn,A0 ha,hx,List.drop_append,A4 (by grind),Ct,Dj om];simp
 by_cases qa:a+1<s.length;rotate_left
 .have ai:decide ((a:Int)+1<s.length)=false:=(by grind);rw[ahO om]at hM;simp[go_sem,ea,ai];refine zG (S:=Nat) [0,1,4,9] (λk=>[.str s,.int .i64 a,.ptr 0 0,.int .i64 (k:Int)]) (λ_=>[.box [.int .i64 0,.int .i64 0,.str [],.int .i64 0]]) (λk=>12-k) (λk=>k<=12/\(if(fi.drop k).contains x=true then(⟨4,0,[x],0⟩,a+1,0)else(mc,0,13):TR)=M) hc hb 0 ⟨om,hM⟩ ?_ ?_;.exact bT 1 (by rfl) rfl (by rfl) om (zC (by rfl) rfl)
  rintro k⟨hk,hinv⟩;by_cases qk:k<12;rotate_left;.obtain rfl:k=12:=om;refine zA ?_;simp[go_sem];exact nP (t:=mc) hinv
  have aj:k<fi.length:=qk;have ek:=zR qk dc;have ak:decide ((k:Int)<12)=true:=(by grind);obtain⟨y,hy⟩:=eX (fi[k]);rw[A2 aj,hy]at hinv;have al:[40,41,44,59,42,61,60,62,43,45,47,37][k]?.getD (0:UInt8)=y:=by
   have:fi[k]?.getD 0=y:=by grind
   exact this
  refine zA ?_;simp[go_sem,ak];refine yB [] 1 sm (by rfl) kR ?_;simp[go_sem];refine zF om ?_;simp[go_sem,ha,hx,al,aw];by_cases qe:(y==x)=true
  .have an:y=x:=by grind
   rw[ahP (by simp[an])]at hinv;simp[go_sem,qe,ea];refine zF om ?_;simp[go_sem,ah,ea];exact nP (t:=⟨4,0,[x],0⟩) hinv
  .have qe:(y==x)=false:=by grind
   have ao:(y::fi.drop (k+1)).contains x=(fi.drop (k+1)).contains x:=by rw[Di,show(x==y)=false by grind];rfl
   rw[ao]at hinv;simp[go_sem,qe,ek];exact zH (k+1) ⟨om,(by grind),bT 1 (by rfl) rfl (by rfl) om (zC (by rfl) rfl)⟩
 have ai:decide ((a:Int)+1<s.length)=true:=(by grind);have ax:IntKind.i64.wrap ((a:Int)+2)=(a:Int)+2:=by grind[bR]
 have et:((a:Int)+2).toNat=a+2:=om;have ae:(s.drop a).take 2=(s.take (a+2)).drop a:=by grind
 rw[ae]at hM;simp[go_sem,ea,ax,et,ai];refine zF om ?_;simp[go_sem];generalize(s.take (a+2)).drop a=two at hM;have yes:(two=[60,61]\/two=[62,61]\/two=[60,62])->((⟨4,0,two,0⟩,a+2,0):TR)=M:=(by grind);have no:¬(two=[60,61]\/two=[62,61]\/two=[60,62])->(if fi.contains x=true then(⟨4,0,[x],0⟩,a+1,0)else(mc,0,13):TR)=M:=(by grind);clear hM;by_cases qt:two=[60,61]\/two=[62,61]\/two=[60,62]
 .have hM:=yes qt;rcases qt with rfl|rfl|rfl;all_goals simp[go_sem,ax]
  all_goals exact nP (t:=⟨4,0,_,0⟩) hM
 .have hM:=no qt;have p1:(two==[60,61])=false:=by grind
  have p2:(two==[62,61])=false:=by grind
  have p3:(two==[60,62])=false:=by grind
  clear yes no qt;simp[go_sem,p1,p2,p3];refine zG (S:=Nat) [0,1,4,9] (λk=>[.str s,.int .i64 a,.ptr 0 0,.int .i64 (k:Int)]) (λ_=>[.box [.int .i64 0,.int .i64 0,.str [],.int .i64 0]]) (λk=>12-k) (λk=>k<=12/\(if(fi.drop k).contains x=true then(⟨4,0,[x],0⟩,a+1,0)else(mc,0,13):TR)=M) hc hb 0 (by grind) ?_ ?_;.exact bT 1 (by rfl) rfl (by rfl) om (zC (by rfl) rfl)
  rintro k⟨hk,hinv⟩;by_cases qk:k<12;rotate_left;.obtain rfl:k=12:=om;refine zA ?_;simp[go_sem];exact nP (t:=mc) hinv
  have aj:k<fi.length:=qk;have ek:=zR qk dc;have ak:decide ((k:Int)<12)=true:=(by grind);obtain⟨y,hy⟩:=eX (fi[k]);rw[A2 aj,hy]at hinv;have al:[40,41,44,59,42,61,60,62,43,45,47,37][k]?.getD (0:UInt8)=y:=by
   have:fi[k]?.getD 0=y:=by grind
   simpa
  refine zA ?_;simp[go_sem,ak];refine yB [] 1 sm kR kR ?_;simp[go_sem];refine zF om ?_;simp[go_sem,ha,hx,al,aw];by_cases qe:(y==x)=true
  .have an:y=x:=by grind
   rw[ahP (by simp[an])]at hinv;simp[go_sem,qe,ea];refine zF om ?_;simp[go_sem,ah,ea];exact nP (t:=⟨4,0,[x],0⟩) hinv
  .have qe:(y==x)=false:=by grind
   have ao:(y::fi.drop (k+1)).contains x=(fi.drop (k+1)).contains x:=by grind
   rw[ao]at hinv;simp[go_sem,qe,ek];exact zH (k+1) ⟨om,(by grind),bT 1 (by rfl) rfl (by rfl) om (zC (by rfl) rfl)⟩
def nS(s:aij):Nat->Nat->List bN->List bN×Int|0,_,_=>([],0)|n+1,a,l=>if a<s.length then(if El (s.getD a 0)=true then nS s n (a+1) l else if(iI s a).2.2=0then nS s n (iI s a).2.1 (l++[{(iI s a).1with place:=a}])else([],(iI s a).2.2))else(l++[⟨0,s.length,[],0⟩],0)
def jR(s:aij):List bN×Int:=if 2000<s.length then([],3)else nS s (s.length+1) 0 []
theorem R9:∀(l:aij)(v r:Int),0<=v->v<=9223372036854775807->nQ v l=some r->0<=r/\r<=9223372036854775807
 |[],v,r,h0,h1,h=>by rw[nQ]at h;cases h;exact⟨h0,h1⟩|c::l,v,r,h0,h1,h=>by
  rw[nQ]at h;split at h
  .rename_i hd;have hr:=R8 hd;split at h;.cases h
   .exact R9 l _ r om om h
  .cases h;exact⟨h0,h1⟩
theorem Nw:∀(k:Nat)(l:aij),l.length<=k->∀(i:Nat)(w:aij),(lN i w l).2.2=0->i<(lN i w l).2.1/\(lN i w l).2.1<=i+l.length/\(lN i w l).1.s.length<=64/\(lN i w l).1.n=0
 |0,l,hk,i,w,h=>by have:l=[]:=B4 om;subst this;simp[lN]at h|k+1,l,hk,i,w,h=>by match l,hk with
  |[],_=>simp[lN]at h|[c],_=>
   rw[lN]at h⊢;split at h
   .rename_i hc;rw[ahP hc];unfold FZ at h⊢;split at h;.simp at h
    .rename_i aa;rw[ahO aa];exact⟨sm,sm,by simp only;omega,rfl⟩
   .simp at h|c::c2::l,hk=>
   rw[lN]at h⊢;split at h
   .rename_i hc;rw[ahP hc];split at h;.rename_i ab;rw[ahP ab];have:=Nw k l (by simp at hk;omega) _ _ h;simp only[Af];omega
    .rename_i ab;rw[ahO ab];unfold FZ at h⊢;split at h;.simp at h
     .rename_i aa;rw[ahO aa];exact⟨sm,sm,by simp only;omega,rfl⟩
   .rename_i hc;rw[ahO hc];have:=Nw k (c2::l) (by simp at hk⊢;omega) _ _ h;simp only[Af]at this⊢;omega
theorem Nx{p:UInt8->Bool}:∀l:aij,(l.takeWhile p).length<=l.length
 |[]=>A6 _|c::l=>by rw[Cy];have:=Nx (p:=p) l;split<;>simp only[Af,D8]<;>omega
theorem Sa{s:aij}{a:Nat}(ha:a<s.length)(h:(iI s a).2.2=0):a<(iI s a).2.1/\(iI s a).2.1<=s.length/\(iI s a).1.s.length<=s.length+64/\0<=(iI s a).1.n/\(iI s a).1.n<=9223372036854775807:=by
 have aa:s.getD a 0=s[a]:=by rw[A9,A0 ha];rfl
 have ab:=A2 ha;unfold iI at h⊢;rw[aa,ab]at h⊢;obtain⟨x,hx⟩:=eX (s[a]);rw[hx]at h⊢;have hl:(s.drop (a+1)).length=s.length-(a+1):=List.length_drop;generalize s.drop (a+1)=l at h hl⊢;split at h
 .rename_i q1;rw[ahP q1];have hw:jt x:=by unfold jt;rw[q1];rfl
  have:=Nx (p:=jt) l;rw[D0 hw];simp only[Af,Bq];omega
 rename_i q1;rw[ahO q1];split at h
 .rename_i q2;rw[ahP q2];unfold rp at h⊢;split at h;.simp at h
  rename_i r hr;have ad:=R9 _ 0 r (Int.le_refl _) dc hr;split at h;.simp at h
  rename_i hle;rw[ahO hle,D0 q2];have:=Nx (p:=jN) l;simp only[Af,D8];omega
 rename_i q2;rw[ahO q2];split at h;.rename_i q3;rw[ahP q3];have:=Nw l.length l (A6 _) _ _ h;omega
 rename_i q3;rw[ahO q3];split at h;.rename_i q4;rw[ahP q4];simp only[Ct];omega
 rename_i q4;rw[ahO q4];split at h;.rename_i q5;rw[ahP q5];simp only[Bm];omega
 .simp at h
def Kf(t:bN):Prop:=t.s.length<=3000/\0<=t.n/\t.n<=9223372036854775807
theorem Ny{s:aij}(hs:s.length<=2000):∀(n a:Nat)(l:List bN),s.length<n+a->a<=s.length->l.length<=a->(∀t∈l,Kf t)->(nS s n a l).2=0->∃l',(nS s n a l).1=l'++[⟨0,s.length,[],0⟩]/\l'.length<=s.length/\∀t∈l',Kf t
 |0,a,l,hf,ha,_,_,_=>by omega|n+1,a,l,hf,ha,hl,ht,h=>by
  unfold nS at h⊢;by_cases q:a<s.length;rotate_left;.rw[ahO q];exact⟨l,rfl,om,ht⟩
  rw[ahP q]at h⊢;by_cases q2:El (s.getD a 0)=true;.rw[ahP q2]at h⊢;exact Ny hs n (a+1) l om om om ht h
  rw[ahO q2]at h⊢;by_cases q3:(iI s a).2.2=0
  .rw[ahP q3]at h⊢;have ho:=Sa q q3;refine Ny hs n _ _ om om (by simp;omega) (λt aa=>?_) h;rw[Ak]at aa;rcases aa with aa|aa;.exact ht t aa
   .simp only[Ag,Bh,ai5]at aa;subst aa;unfold Kf;simp only;omega
  .rw[ahO q3]at h;exact absurd h q3
theorem Sb{s:aij}(h:(jR s).2=0):s.length<=2000/\eL (jR s).1/\gz (jR s).1/\1<=(jR s).1.length/\(jR s).1.length<=2001:=by
 unfold jR at h⊢;split at h;.simp at h
 rename_i hl;rw[ahO hl];obtain⟨l',h1,h2,h3⟩:=Ny om _ _ _ om (A3 _) (A6 _) (λt ht=>by cases ht) h;have h4:∀t∈l'++[⟨0,s.length,[],0⟩],Kf t:=λt ht=>by
  rw[Ak]at ht;rcases ht with ht|ht;.exact h3 t ht
  .simp only[Ag,Bh,ai5]at ht;subst ht;exact⟨A3 _,Int.le_refl _,sm⟩
 rw[h1];refine⟨om,⟨by simp;omega,λi hi=>?_,λt ht=>?_⟩,⟨λt ht=>?_,λt ht=>(h4 t ht).2⟩,sm,by simp;omega⟩
 .have:i=l'.length:=by simp at hi;omega
  subst this;rw[A9,Bb (A6 _),Nat.sub_self];rfl
 .have:=(h4 t ht).1;unfold maxLen;omega
 .have:=(h4 t ht).1;omega
def xe(x:List bN×Int):V:=.cm [.sl .ro (x.1.map bN.row),.int .i64 x.2]
theorem Nz{g:Tag}{l:List bN}{M:List bN×Int}(h:(l,e)=M):bW (some (.cm [.sl g (l.map bN.row),.int .i64 e])) 0 (λr U=>r=xe M/\U=[]) τ:=by subst h;exact zV (r:=.cm [.sl .ro (l.map bN.row),.int .i64 e]) (yJ ⟨lJ,xJ rfl,tV⟩) ⟨rfl,rfl⟩
theorem ws4(s:aij)(hl:s.length<=maxLen):Pure prog 70 [.str s] (xe (jR s)):=by
 generalize hM:jR s=M;unfold jR at hM;unfold maxLen at hl;refine iV 0 func70 ntmps70 results70 λc hc hb=>?_;refine zA ?_;simp[go_sem];by_cases q0:2000<s.length;.rw[ahP q0]at hM;have ad:decide ((2000:Int)<s.length)=true:=ahR om;simp[go_sem,ad];exact Nz (l:=[]) hM
 rw[ahO q0]at hM;have ad:decide ((2000:Int)<s.length)=false:=ahQ om;simp[go_sem,ad];refine wL 4 4 dc sg ?_;refine zG (S:=Nat×List bN) [0,4,5] (λu=>[.str s,.sl (.app 0) (u.2.map bN.row),.int .i64 u.1]) (λu=>[.app u.2.length 4]) (λu=>s.length-u.1) (λu=>u.1<=s.length/\u.2.length<=u.1/\∃n,s.length<n+u.1/\nS s n u.1 u.2=M) hc hb (0,[]) ⟨A3 _,A6 _,s.length+1,by simp only;omega,hM⟩ ?_ ?_;.exact aN 1 (by rfl)
 rintro⟨a,l⟩⟨ha,af,n,hn,hinv⟩;simp only at ha af hn hinv;obtain⟨n,rfl⟩:∃m,n=m+1:=⟨n-1,om⟩;rw[nS]at hinv;by_cases q:a<s.length;rotate_left;.rw[ahO q]at hinv;refine zA ?_;simp[go_sem,q];refine zF ⟨om,zT rfl⟩ ?_;simp[go_sem];have hr:=λg τ=>Nz (g:=g) (τ:=τ) hinv;simp at hr;exact hr _ _
 rw[ahP q]at hinv;have ea:=zR q om;obtain⟨x,hx⟩:=eX (s[a]);have ag:s.getD a 0=x:=by rw[A9,A0 q,hx];rfl
 rw[ag]at hinv;have aa:=xg3 x;by_cases q2:El x=true;.rw[ahP q2]at hinv;rw[q2]at aa;refine zA ?_;simp[go_sem,q,hx];refine pC aa ?_;simp[go_sem,ea];exact zH (a+1,l) ⟨by simp only;omega,⟨by simp only;omega,by simp only;omega,n,by simp only;omega,hinv⟩,aN 1 (by rfl)⟩
 have q2:El x=false:=sU q2;rw[ahO (by rw[q2];decide)]at hinv;rw[q2]at aa;have ab:=xQ4 s (by unfold maxLen;omega) a q;have cK:=Sa q;generalize iI s a=o at ab cK hinv;by_cases q3:o.2.2=0;.rw[ahP q3]at hinv;have cK:=cK q3;have ae:(o.2.2!=0)=false:=sU q3;refine zA ?_;simp[go_sem,q,hx];refine pC aa ?_;simp[go_sem];refine zJ ab cB (yC rfl) (Ke _) ?_;simp[go_sem,u7,ae];refine zF ⟨om,zT rfl⟩ ?_;simp[go_sem];refine zH (o.2.1,l++[{o.1with place:=a}]) ⟨by simp only;omega,⟨by simp only;omega,by simp;omega,n,by simp only;omega,hinv⟩,?_⟩;exact aN 1 (by rfl)
 .rw[ahO q3]at hinv;have ae:(o.2.2!=0)=true:=sU q3;refine zA ?_;simp[go_sem,q,hx];refine pC aa ?_;simp[go_sem];refine zJ ab cB (yC rfl) (Ke _) ?_;simp[go_sem,u7,ae];exact Nz (l:=[]) hinv
variable {L:List bN}
def Kg:aij:= [83,69,76,69,67,84]
def Kh:aij:= [73,78,83,69,82,84]
def Ki:aij:= [85,80,68,65,84,69]
def En:aij:= [68,69,76,69,84,69]
def lO(L:List bN)(s:RS):bQ×RS:=if cV L Kg s=true then uX L (zS s)else if cV L Kh s=true then uY L (zS s)else if cV L Ki s=true then uZ L (zS s)else let n:=xI L (yE L rj (yE L En s))
  (⟨4,n.1,[],[],[],(kq L n.2).1,(kq L n.2).2,[],false,0⟩,pn L n.2)
theorem xh9(hL:eL L){s:RS}(h:cZ L s)(ho:s.bV=0):UI L s (uX L s).2:=by unfold uX;have h1:=Nt hL h ho;have h2:=h1.trans (yM hL rj h1.ct);have h3:=h2.trans (nM hL h2.ct);have h4:=h3.trans (FW hL h3.ct (h3.bV.trans ho));have h5:=h4.trans (Ns hL h4.ct);exact h5.trans (R5 hL h5.ct)
theorem NA(hL:eL L){s:RS}(h:cZ L s)(ho:s.bV=0):UI L s (lO L s).2:=by
 unfold lO;split;.have h1:=xF hL h ‹_›;exact h1.trans (xh9 hL h1.ct (h1.bV.trans ho))
 split;.have h1:=xF hL h ‹_›;exact h1.trans (xd7 hL h1.ct (h1.bV.trans ho))
 split;.have h1:=xF hL h ‹_›;exact h1.trans (xj7 hL h1.ct (h1.bV.trans ho))
 .have h1:=yM hL En h;have h2:=h1.trans (yM hL rj h1.ct);have h3:=h2.trans (nM hL h2.ct);exact h3.trans (FW hL h3.ct (h3.bV.trans ho))
theorem wq9(L:List bN)(hL:eL L)(s:RS)(hs:cZ L s)(ho:s.bV=0):bL prog 73 [.ptr 0 0] [rB L s] (RT L (lO L s)):=by
 generalize hM:lO L s=M;unfold lO at hM;have ret:∀(x:bQ×RS)(τ:St),x=M->bW (some (.agg x.1.row)) 1 (RT L M) (rB L x.2::τ):=λx τ h=>p6 (g1:=.ro) (g2:=.ro) (g3:=.ro) (g4:=.ro) (st:=x.1) h;refine iW 1 func73 ntmps73 results73 λc hc hb=>zM ?_;simp[go_sem];by_cases q1:cV L Kg s=true;.rw[ahP q1]at hM;have aa:=xB7 L hL (zS s) (hs.next hL q1) ho;generalize uX L (zS s)=x at aa hM;refine pR (wA L hL s hs _ q1) ?_;simp[go_sem];refine Hy aa cB fu (HG _) ?_;simp[go_sem];exact ret x _ hM
 have q1:cV L Kg s=false:=sU q1;rw[ahO (by rw[q1];decide)]at hM;refine pR (jF L hL s hs _ q1) ?_;simp[go_sem];by_cases q2:cV L Kh s=true;.rw[ahP q2]at hM;have aa:=xw0 L hL (zS s) (hs.next hL q2) ho;generalize uY L (zS s)=x at aa hM;refine pR (wA L hL s hs _ q2) ?_;simp[go_sem];refine Hy aa cB fu (HG _) ?_;simp[go_sem];exact ret x _ hM
 have q2:cV L Kh s=false:=sU q2;rw[ahO (by rw[q2];decide)]at hM;refine pR (jF L hL s hs _ q2) ?_;simp[go_sem];by_cases q3:cV L Ki s=true;.rw[ahP q3]at hM;have aa:=xD0 L hL (zS s) (hs.next hL q3) ho;generalize uZ L (zS s)=x at aa hM;refine pR (wA L hL s hs _ q3) ?_;simp[go_sem];refine Hy aa cB fu (HG _) ?_;simp[go_sem];exact ret x _ hM
 have q3:cV L Ki s=false:=sU q3;rw[ahO (by rw[q3];decide)]at hM;refine pR (jF L hL s hs _ q3) ?_;simp[go_sem];have af:=lM L hL s hs En;have ab:=yM hL En hs;generalize yE L En s=s1 at af ab hM;have ag:=lM L hL s1 ab.ct rj;have ad:=ab.trans (yM hL rj ab.ct);generalize yE L rj s1=s2 at ag ad hM;have hn:=DY L hL s2 ad.ct;have ae:=ad.trans (nM hL ad.ct);generalize xI L s2=n at hn ae hM;obtain⟨nm,s3⟩:=n;simp only at hn ae hM;obtain⟨gw,hw⟩:=Np L hL s3 ae.ct (ae.bV.trans ho) [sx,.box [.int .i64 4,.str nm,.sl .full [],.sl .full [],.sl .full [],.bool false,.int .i64 0,.str [],.int .i64 0,.int .i64 0,.str [],.sl .full [],.str [],.bool false,.int .i64 0]] 1 _ _ _ _ _ _ _ _ rfl;generalize pn L s3=s4 at hw hM;generalize kq L s3=w at hw hM;refine pR af ?_;simp[go_sem];refine pR ag ?_;simp[go_sem];refine pR hn ?_;simp[go_sem];refine He hw cB ?_;rintro r U⟨rfl,rfl⟩_;simp[go_sem];exact p6 (st:=⟨4,nm,[],[],[],w.1,w.2,[],false,0⟩) hM
theorem lr{P:Program}{c:Ctx}{f:FuncId}{bY args cc:List V}{o:Ob}{L:List bN}{s:RS}{v:V}{KV:V->St->Prop}(hc:bL P f cc [rB L s] (λr U=>r=v/\U=[rB L s']))(hb:wQ P f) (aa:bM (cR (cO [1] (τ.length+2))) cc (args++bY))(hn:iH v)(hk:KV v (o::rB L s'::τ)):jE P c (.fn f bY) args (o::rB L s::τ) KV fx:=by refine pd 1 hc hb rfl (J0 _ _ _) aa (λr U h=>⟨_,h.2,J0 _ _ _⟩) ?_;rintro r o2⟨rfl,h2⟩;obtain rfl:o2=rB L s':=sU h2;rw[DB hn];exact hk
theorem Sc{P:Program}{c:Ctx}{n:Nat}{f:FuncId}{bY args cc:List V}{o:Ob}{L:List bN}{s:RS}{v:V}{KV:V->St->Prop}(hc:bL P f cc [rB L s] (λr U=>r=v/\U=[rB L s']))(hb:wQ P f) (aa:bM (cR (cO [1] (τ.length+2))) cc (args++bY))(hn:iH v)(hk:KV v (o::rB L s'::τ)):qN P c ⟨2,n,[],none⟩ 3 (.fn f bY) args (o::rB L s::τ) KV fx:=by
 have ab:∀(N:Nat)(s:RS),yO (cO [1] N) (rB L s)=rB L s:=λN s=>mF (n:=0) (λ_ h=>absurd h (Nat.not_lt_zero _)) (J0 _ _ _);have e:wD [1] (o::rB L s::τ) [rB L s']=o::rB L s'::τ:=by simp only[wD,Bm,C3,Df,Cx,Au,Ad,Bp,gr,Ay,ab];rfl
 refine Mf hc hb [1] sm rfl (λi j q h1 h2=>?_) aa (.inr ?_) ?_;.match i with |0=>simp at h1 h2;subst h1;subst h2;rw[ab];rfl|i+1=>simp at h1
 .rw[e];exact Kp.iR (U:=o::rB L s::τ) (id:=1) (o:=rB L s') (.inl sm)
 .rw[e,DB hn];exact hk
theorem ni{N:Nat}{l l':List V}(h:bM (cR (cO [1] N)) l l'):bM (cR (cO [1] N)) (.ptr 0 0::l) (.ptr 1 0::l'):=⟨.inl rfl,h⟩
theorem Eo{N:Nat}:bM (cR (cO [1] N)) [.ptr 0 0] [.ptr 1 0]:=ni trivial
variable {L:List bN}
def Ep:aij:= [65,83]
def HI:aij:= [79,70]
def HJ:aij:= [83,89,83,84,69,77]
def HK:aij:= [84,73,77,69]
def NB:aij:= [66,79,85,78,68]
def NC:List aij:= [Kg,Kh,Ki,En]
def ru(L:List bN)(s:RS):Bool:=!(dV L s NC).isEmpty
def sy(L:List bN):Nat->List bQ->RS->List bQ×RS
 |0,l,s=>(l,s)|n+1,l,s=>if s.err=0then if(kp L l.length 8 (ru L s) s).err=0then if cV L [59] (lO L s).2=true then if cV L Ep (zS (lO L s).2)=true\/(cw L (zS (lO L s).2)).kind=0then(l++[(lO L s).1],zS (lO L s).2)else sy L n (l++[(lO L s).1]) (zS (lO L s).2)else(l++[(lO L s).1],(lO L s).2)else(l,kp L l.length 8 (ru L s) s)else(l,s)
def AZ(L:List bN)(s:RS):RS:=yE L HK (yE L HJ (yE L HI (zS s)))
def tM(L:List bN)(s:RS):(Int×Int)×RS:=if cV L Ep s=true then if cV L NB (AZ L s)=true then((2,(gQ L (zS (AZ L s))).1),(gQ L (zS (AZ L s))).2)else((1,(gQ L (AZ L s)).1),(gQ L (AZ L s)).2)else((0,0),s)
def pt(L:List bN)(s:RS):RS:=if s.err=0/\(cw L s).kind≠0then iC 13 (cw L s).place s else s
def BB:RS:=⟨0,0,0,0⟩
def tN:dR:=⟨0,0,[]⟩
def Kj(L:List bN):dR×Int×Int:=let x:=sy L 9 [] BB
 let a:=tM L x.2
 let e:=pt L a.2
 if e.err=0then(⟨a.1.1,a.1.2,x.1⟩,0,0)else(tN,e.place,e.err)
def oH(s:aij):dR×Int×Int:=if(jR s).2=0then Kj (jR s).1else(tN,0,(jR s).2)
theorem Sd(hL:eL L):∀(n:Nat)(l:List bQ)(s:RS),cZ L s->s.bV=0->UI L s (sy L n l s).2
 |0,_,_,h,_=>UI.refl h|n+1,l,s,h,ho=>by
  unfold sy;split
  .split
   .have h1:=NA hL h ho;split
    .have h2:=h1.trans (xF hL h1.ct ‹_›);split;.exact h2
     .exact h2.trans (Sd hL n _ _ h2.ct (h2.bV.trans ho))
    .exact h1
   .exact tK h
  .exact UI.refl h
theorem Se(hL:eL L){s:RS}(h:cZ L s)(hi:cV L Ep s):UI L s (AZ L s):=by unfold AZ;have h1:=xF hL h hi;have h2:=h1.trans (yM hL HI h1.ct);have h3:=h2.trans (yM hL HJ h2.ct);exact h3.trans (yM hL HK h3.ct)
theorem Sf(hL:eL L){s:RS}(h:cZ L s):UI L s (tM L s).2:=by
 unfold tM;split
 .rename_i hi;have h1:=Se hL h hi;split;.have h2:=h1.trans (xF hL h1.ct ‹_›);exact h2.trans (Nk hL h2.ct)
  .exact h1.trans (Nk hL h1.ct)
 grind[UI.refl]
def Er(x:dR×Int×Int):V:=.cm [.agg x.1.row,.int .i64 x.2.1,.int .i64 x.2.2]
theorem ND{g:Tag}{l:dR}{p:Int}{M:dR×Int×Int}(h:(l,p,e)=M):bW (some (.cm [.agg [.int .i64 l.mode,.int .i64 l.n,.sl g (l.stmts.map bQ.row)],.int .i64 p,.int .i64 e])) 0 (λr U=>r=Er M/\U=[]) τ:=by subst h;exact zV (r:=.cm [.agg [.int .i64 l.mode,.int .i64 l.n,.sl .ro (l.stmts.map bQ.row)],.int .i64 p,.int .i64 e]) (yJ ⟨xS ⟨zU rfl,zU rfl,yH,tV⟩,xJ rfl,xJ rfl,tV⟩) (by trivial)
def lP(m n:Int)(l:List bQ):Ob:=.box [.int .i64 m,.int .i64 n,.sl (.app 3) (l.map bQ.row)]
def rv:Ob:=.box [.int .i64 0,.int .i64 0,.sl .full []]
theorem xX9(s:aij)(hl:s.length<=maxLen):Pure prog 36 [.str s] (Er (oH s)):=by
 generalize hM:oH s=M;unfold oH at hM;have ag:=ws4 s hl;have cK:=Sb (s:=s);generalize jR s=x at ag cK hM;obtain⟨L,e⟩:=x;simp only at cK hM;refine iV 0 func36 ntmps36 results36 λc hc hb=>?_;by_cases qe:e=0;rotate_left
 .rw[ahO qe]at hM;have aq:(e !=0)=true:=by grind
  refine zA ?_;simp[go_sem];refine pC ag ?_;simp[go_sem,xe,aq];exact ND (l:=tN) hM
 obtain⟨_,hL,hG,aD,aE⟩:=cK qe;rw[ahP qe]at hM;have aq:(e !=0)=false:=by grind
 have h0:cZ L BB:=⟨by simpa,dc⟩;unfold Kj at hM;obtain⟨X,hX⟩:=eX (sy L 9 [] BB);rw[hX]at hM;refine zN (zA ?_);simp[go_sem];refine zN (zA ?_);simp[go_sem];refine pC ag ?_;simp[go_sem,xe];refine zN (zA ?_);simp[go_sem,aq];refine zN (zA ?_);simp[go_sem];refine zN (zA ?_);simp[go_sem];refine DK 2 2 15 _ dc rfl rfl ?_;simp only[Bz,Cg];refine wM (S:=List bQ×RS) [2,7,8] (λ_=>[.ptr 0 0,.ptr 1 0,.ptr 2 0]) (λu=>[rv,rB L u.2,lP 0 0 u.1,.app u.1.length 15]) (λu=>cZ L u.2/\u.2.bV=0/\u=X) hc hb ?_ ?_
 .refine pX ?_;refine zG (S:=List bQ×RS) [2,7,8] (λ_=>[.ptr 0 0,.ptr 1 0,.ptr 2 0]) (λu=>[rv,rB L u.2,lP 0 0 u.1,.app u.1.length 15]) (λu=>9-u.1.length) (λu=>u.1.length<=8/\cZ L u.2/\u.2.bV=0/\sy L (9-u.1.length) u.1 u.2=X) hc hb ([],BB) (by trivial) ?_ ?_;.exact bT 4 (by rfl) rfl (by rfl) dc (zC (by rfl) rfl)
  rintro⟨l,s1⟩⟨aA,hs,ho,hinv⟩;simp only at aA hs ho hinv;rw[show 9-l.length=(8-l.length)+1by omega,sy]at hinv;by_cases q1:s1.err=0;rotate_left
  .rw[ahO q1]at hinv;have ab:(s1.err==0)=false:=by grind
   refine zA ?_;simp[go_sem,rB,ab];exact zH (l,s1) ⟨(by grind),bT 4 (by rfl) rfl (by rfl) dc (zC (by rfl) rfl)⟩
  have ab:(s1.err==0)=true:=by grind
  rw[ahP q1]at hinv;have ae:=AV L hL s1 hs NC dc;have aa:=HF L hL s1 hs l.length 8 (ru L s1);have al:=uV (L:=L) (n:=l.length) (fQ:=8) (b:=ru L s1) (s:=s1);have ah:=tK (L:=L) (n:=l.length) (fQ:=8) (b:=ru L s1) hs;unfold ru at aa al ah hinv;generalize dV L s1 NC=an at ae aa al ah hinv;generalize kp L l.length 8 (!an.isEmpty) s1=m at aa al ah hinv;by_cases q2:m.err=0;rotate_left
  .rw[ahO q2]at hinv;have ad:(m.err==0)=false:=by grind
   rw[ad]at aa;refine zA ?_;simp[go_sem,rB,ab];refine lr ae cB (ni ⟨zP,tV⟩) rfl ?_;simp[go_sem,lP];refine lr aa cB (ni ⟨zD rfl,zD rfl,zD rfl,tV⟩) rfl ?_;simp[go_sem,rB];exact zH (l,m) ⟨⟨ah.ct,ah.bV.trans ho,hinv⟩,bT 4 (by rfl) rfl (by rfl) dc (zC (by rfl) rfl)⟩
  have ad:(m.err==0)=true:=by grind
  rw[ad]at aa;obtain⟨_,aF,rfl⟩:=al q2;rw[ahP q2]at hinv;have ar:=wq9 L hL m hs ho;have ao:=NA hL hs ho;generalize lO L m=x at ar ao hinv;obtain⟨st,s2⟩:=x;simp only at ao hinv;have ai:=ao.ct;have aB:=ao.bV.trans ho;by_cases q3:cV L [59] s2=true;rotate_left
  .have q3:cV L [59] s2=false:=by grind
   rw[ahO om]at hinv;refine zA ?_;simp[go_sem,rB,ab];refine lr ae cB (ni ⟨zP,tV⟩) rfl ?_;simp[go_sem,lP];refine lr aa cB (ni ⟨zD rfl,zD rfl,zD rfl,tV⟩) rfl ?_;simp[go_sem];refine pY [(3,3)] 2 4 sm (by rfl) kR ?_;simp[go_sem];refine Sc ar cB Eo (HG _) ?_;simp[go_sem];refine zF ⟨om,zT rfl⟩ ?_;simp[go_sem];refine lr (jF L hL s2 ai _ q3) cB (ni ⟨zD rfl,tV⟩) rfl ?_;simp[go_sem,rB];exact zH (l++[st],s2) ⟨(by grind),aM 4 (by rfl) (zC (by rfl) rfl)⟩
  rw[ahP q3]at hinv;have au:=ai.next hL q3;have az:=js L hL (zS s2) au Ep;have af:=nG L hL (zS s2) au;generalize cV L Ep (zS s2)=ba at az hinv;generalize cw L (zS s2)=tk at af hinv;refine zA ?_;simp[go_sem,rB,ab];refine lr ae cB (ni ⟨zP,tV⟩) rfl ?_;simp[go_sem,lP];refine lr aa cB (ni ⟨zD rfl,zD rfl,zD rfl,tV⟩) rfl ?_;simp[go_sem];refine pY [(3,3)] 2 4 sm (by rfl) kR ?_;simp[go_sem];refine Sc ar cB Eo (HG _) ?_;simp[go_sem];refine zF ⟨om,zT rfl⟩ ?_;simp[go_sem];refine lr (wA L hL s2 ai _ q3) cB (ni ⟨zD rfl,tV⟩) rfl ?_;simp[go_sem];refine lr az cB (ni ⟨zD rfl,tV⟩) rfl ?_;refine(A1 ba).elim (λq4=>?_) (λq4=>?_);.rw[ahP (.inl q4)]at hinv;simp[go_sem,q4,rB];exact zH (l++[st],zS s2) ⟨(by trivial),aM 4 (by rfl) (zC (by rfl) rfl)⟩
  simp[go_sem,q4];refine lr af cB Eo rfl ?_;by_cases q5:tk.kind=0
  .have av:(tk.kind==0)=true:=by grind
   rw[ahP (.inr q5)]at hinv;simp[go_sem,av,rB];exact zH (l++[st],zS s2) ⟨(by trivial),aM 4 (by rfl) (zC (by rfl) rfl)⟩
  .have av:(tk.kind==0)=false:=by grind
   rw[ahO (by grind)]at hinv;simp[go_sem,av,rB];refine zH (l++[st],zS s2) ⟨by grind,⟨by grind,au,aB,by grind⟩,aM 4 (by rfl) (zC (by rfl) rfl)⟩
 .rintro⟨l,s1⟩⟨hs,ho,aC⟩;simp only at hs ho;rw[<-aC]at hM;simp only at hM;have aw:=Sf hL hs;refine wM (S:=(Int×Int)×RS) [2,7,8] (λ_=>[.ptr 0 0,.ptr 1 0,.ptr 2 0]) (λu=>[rv,rB L u.2,lP u.1.1 u.1.2 l,.app l.length 15]) (λu=>u=tM L s1) hc hb ?_ ?_
  .obtain⟨A,hA⟩:=eX (tM L s1);rw[hA];unfold tM AZ at hA;by_cases q1:cV L Ep s1=true;rotate_left
   .have q1:cV L Ep s1=false:=by grind
    rw[ahO om]at hA;refine zA ?_;simp[go_sem];refine lr (jF L hL s1 hs _ q1) cB (ni ⟨zD rfl,tV⟩) rfl ?_;simp[go_sem];exact zH ((0,0),s1) ⟨hA,bT 4 (by rfl) rfl (by rfl) dc (zC (by rfl) rfl)⟩
   rw[ahP q1]at hA;have a1:=hs.next hL q1;have a6:=lM L hL _ a1 HI;have ax:=uQ hL (w:=HI) a1;generalize yE L HI (zS s1)=u1 at a6 ax hA;have a7:=lM L hL _ ax HJ;have ay:=uQ hL (w:=HJ) ax;generalize yE L HJ u1=u2 at a7 ay hA;have a8:=lM L hL _ ay HK;have aj:=uQ hL (w:=HK) ay;generalize yE L HK u2=u3 at a8 aj hA;refine zA ?_;simp[go_sem];refine lr (wA L hL s1 hs _ q1) cB (ni ⟨zD rfl,tV⟩) rfl ?_;simp[go_sem];refine lr a6 cB (ni ⟨zD rfl,tV⟩) rfl ?_;simp[go_sem];refine lr a7 cB (ni ⟨zD rfl,tV⟩) rfl ?_;simp[go_sem];refine lr a8 cB (ni ⟨zD rfl,tV⟩) rfl ?_;simp[go_sem,lP];by_cases q2:cV L NB u3=true;.rw[ahP q2]at hA;have ak:=FP L hL _ (aj.next hL q2);generalize gQ L (zS u3)=nn at ak hA;refine lr (wA L hL u3 aj _ q2) cB (ni ⟨zD rfl,tV⟩) rfl ?_;simp[go_sem];refine lr ak cB Eo rfl ?_;simp[go_sem];exact zH ((2,nn.1),nn.2) ⟨hA,bT 4 (by rfl) rfl (by rfl) dc (zC (by rfl) rfl)⟩
   .have q2:cV L NB u3=false:=by grind
    rw[ahO om]at hA;have ak:=FP L hL _ aj;generalize gQ L u3=nn at ak hA;refine lr (jF L hL u3 aj _ q2) cB (ni ⟨zD rfl,tV⟩) rfl ?_;simp[go_sem];refine lr ak cB Eo rfl ?_;simp[go_sem];exact zH ((1,nn.1),nn.2) ⟨hA,bT 4 (by rfl) rfl (by rfl) dc (zC (by rfl) rfl)⟩
  .rintro _ rfl;generalize tM L s1=A at aw hM;obtain⟨⟨m,n⟩,s2⟩:=A;simp only at aw hM;have ai:=aw.ct;refine wM (S:=RS) [2,7,8] (λ_=>[.ptr 0 0,.ptr 1 0,.ptr 2 0]) (λu=>[rv,rB L u,lP m n l,.app l.length 15]) (λu=>u=pt L s2) hc hb ?_ ?_
   .have af:=nG L hL s2 ai;have hf:=AU L s2 13 (cw L s2).place;obtain⟨E,hE⟩:=eX (pt L s2);rw[hE];unfold pt at hE;generalize cw L s2=tk at af hf hE;generalize iC 13 tk.place s2=f at hf hE;refine zA ?_;simp[go_sem,rB];by_cases q1:s2.err=0;rotate_left
    .have ab:(s2.err==0)=false:=by grind
     rw[ahO om]at hE;simp[go_sem,ab];exact zH s2 ⟨hE,bT 4 (by rfl) rfl (by rfl) dc (zC (by rfl) rfl)⟩
    have ab:(s2.err==0)=true:=by grind
    simp[go_sem,ab];refine lr af cB Eo rfl ?_;by_cases q2:tk.kind=0
    .have ad:(tk.kind !=0)=false:=by grind
     rw[ahO om]at hE;simp[go_sem,ad,rB];exact zH s2 ⟨hE,bT 4 (by rfl) rfl (by rfl) dc (zC (by rfl) rfl)⟩
    .have ad:(tk.kind !=0)=true:=by grind
     rw[ahP ⟨q1,q2⟩]at hE;simp[go_sem,ad];refine lr af cB Eo rfl ?_;simp[go_sem];refine lr hf cB (ni ⟨zD rfl,zD rfl,tV⟩) rfl ?_;simp[go_sem,rB];exact zH f ⟨hE,bT 4 (by rfl) rfl (by rfl) dc (zC (by rfl) rfl)⟩
   .rintro _ rfl;generalize pt L s2=E at hM;refine zA ?_;simp[go_sem,rB];by_cases q1:E.err=0
    .have ab:(E.err !=0)=false:=by grind
     rw[ahP q1]at hM;simp[go_sem,ab,rv,lP];exact ND (l:=⟨m,n,l⟩) hM
    .have ab:(E.err !=0)=true:=by grind
     rw[ahO q1]at hM;simp[go_sem,ab,rv,lP];refine pY [(9,3)] 1 4 sm (by rfl) kR ?_;simp[go_sem];exact ND (l:=tN) hM
theorem NF(s:aij)(hl:s.length<=maxLen):Pure prog 14 [.str s] (.agg (oH s).1.row):=by have h:=xX9 s hl;generalize oH s=x at h⊢;refine iW 0 func14 ntmps14 results14 λc hc hb=>zM ?_;simp[go_sem];refine pC h ?_;simp[go_sem,Er];exact zV (zD rfl) sm
variable {L:List bN}
structure jS(e:bG):Prop where
 cN:Good e
 wide:eN e
 size:jP e<=4000
structure gR(st:bQ):Prop where
 kind:dq st.kind
 table:st.table.length<=1048576items:st.items.length<=12/\∀x∈st.items,dq x.kind/\jS x.e
 rows:st.rows.length<=20/\∀r∈st.rows,r.length<=12/\∀e∈r,jS e
 cp:st.cp.length<=12/\∀x∈st.cp,x.name.length<=1048576/\jS x.e
 bU:jS st.bU
 order:st.order.length<=1048576cG:dq st.cG
structure mO(l:dR):Prop where
 mode:dq l.mode
 n:dq l.n
 stmts:l.stmts.length<=12/\∀st∈l.stmts,gR st
theorem Sg:mO tN:=⟨dc,dc,dc,λst aa=>by trivial⟩
structure ES(s:RS)(e:bG):Prop where
 cN:Good e
 wide:eN e
 size:s.err=0->jP e<=2001
theorem ES.mono{s:RS}{e:bG}(h:ES s e)(u:UI L s s'):ES s' e:=⟨h.cN,h.wide,λq=>h.size (u.err q)⟩
theorem ES.ok{s:RS}{e:bG}(h:ES s e)(hs:s.err=0):jS e:=⟨h.cN,h.wide,by have:=h.size hs;omega⟩
theorem HL(s:RS):ES s dH:=⟨RZ,RJ rfl,λ_=>dc⟩
theorem HM(hL:eL L)(hG:gz L)(h2:L.length<=2001){s:RS}(hs:cZ L s)(ho:s.bV=0):ES (iT L s).2 (iT L s).1:=by have h:=Ni hL hs ho;have k:=Nj hL hG hs ho;exact⟨k.cN,h.wide,λq=>by have:=k.size q;have:=h.ct.at_;omega⟩
theorem NG(hG:gz L){s:RS}(hs:cZ L s):dq (gQ L s).1:=by
 unfold gQ dq;split;.have:=hG.num _ (FR hs);omega
 .simp
structure SS(s:RS)(st:bQ):Prop where
 kind:dq st.kind
 table:st.table.length<=1048576items:st.items.length<=12/\∀x∈st.items,dq x.kind/\ES s x.e
 rows:st.rows.length<=20/\∀r∈st.rows,r.length<=12/\∀e∈r,ES s e
 cp:st.cp.length<=12/\∀x∈st.cp,x.name.length<=1048576/\ES s x.e
 bU:ES s st.bU
 order:st.order.length<=1048576cG:dq st.cG
theorem SS.mono{s:RS}(h:SS s st)(u:UI L s s'):SS s' st:=⟨h.kind,h.table,⟨h.items.1,λx hx=>⟨(h.items.2 x hx).1,(h.items.2 x hx).2.mono u⟩⟩,⟨h.rows.1,λr hr=>⟨(h.rows.2 r hr).1,λe he=>((h.rows.2 r hr).2 e he).mono u⟩⟩,⟨h.cp.1,λx hx=>⟨(h.cp.2 x hx).1,(h.cp.2 x hx).2.mono u⟩⟩,h.bU.mono u,h.order,h.cG⟩
theorem SS.ok{s:RS}(h:SS s st)(hs:s.err=0):gR st:=⟨h.kind,h.table,⟨h.items.1,λx hx=>⟨(h.items.2 x hx).1,(h.items.2 x hx).2.ok hs⟩⟩,⟨h.rows.1,λr hr=>⟨(h.rows.2 r hr).1,λe he=>((h.rows.2 r hr).2 e he).ok hs⟩⟩,⟨h.cp.1,λx hx=>⟨(h.cp.2 x hx).1,(h.cp.2 x hx).2.ok hs⟩⟩,h.bU.ok hs,h.order,h.cG⟩
theorem xZ7{s:RS}(h:(pt L s).err=0):s.err=0:=by grind[pt]
section
variable(hL:eL L)(hG:gz L)(h2:L.length<=2001)
include hL hG h2
theorem wb2{s:RS}(h:cZ L s)(ho:s.bV=0):dq (po L s).1.kind/\ES (po L s).2 (po L s).1.e:=by
 unfold po;split;.grind[dq,HL]
 split;.rename_i hi;have h1:=xF hL h hi;have h3:=h1.trans (yM hL [40] h1.ct);have hx:=HM hL hG h2 h3.ct (h3.bV.trans ho);exact⟨by grind[dq],hx.mono (yM hL [41] (h3.trans (uW hL h3.ct (h3.bV.trans ho))).ct)⟩
 grind[dq,HM]
theorem Sh:∀(n:Nat)(l:List cJ)(s:RS),cZ L s->s.bV=0->l.length<=6->(∀x∈l,dq x.kind/\ES s x.e)->(tL L n l s).1.length<=12/\∀x∈(tL L n l s).1,dq x.kind/\ES (tL L n l s).2 x.e
 |0,l,s,_,_,hl,hx=>(by grind[tL])|n+1,l,s,h,ho,hl,hx=>by
  unfold tL;split
  .rename_i he;obtain⟨_,h6,_⟩:=uV he;have hu:=Nn hL h ho;have hi:=wb2 hL hG h2 h ho;have ab:∀x∈l++[(po L s).1],dq x.kind/\ES (po L s).2 x.e:=λx aa=>by
    rw[Ak]at aa;rcases aa with aa|aa;.exact⟨(hx x aa).1,(hx x aa).2.mono hu⟩
    grind
   split;.have hn:=xF hL hu.ct ‹_›;exact Sh n _ _ hn.ct ((hu.trans hn).bV.trans ho) (by grind) (λx aa=>⟨(by grind),(ab x aa).2.mono hn⟩)
   grind
  .exact⟨by grind,λx aa=>⟨(hx x aa).1,(hx x aa).2.mono (tK h)⟩⟩
theorem xL4{s:RS}(h:cZ L s)(ho:s.bV=0):(ri L s).1.length<=12/\∀x∈(ri L s).1,dq x.kind/\ES (ri L s).2 x.e:=by
 unfold ri;split;.simp[dq,HL]
 grind[Sh]
theorem NH{s:RS}(h:cZ L s)(ho:s.bV=0):ES (pn L s) (kq L s).2:=by
 unfold pn kq;by_cases q:cV L Ei s=true;.rw[ahP q,ahP q];exact HM hL hG h2 (h.next hL q) ho
 simp_all[HL]
theorem Si:∀(n:Nat)(l:List bG)(s:RS),cZ L s->s.bV=0->l.length<=6->(∀e∈l,ES s e)->(gG L n l s).2.1.length<=12/\∀e∈(gG L n l s).2.1,ES (gG L n l s).2.2 e
 |0,l,s,_,_,hl,hx=>(by grind[gG])|n+1,l,s,h,ho,hl,hx=>by
  unfold gG;split
  .rename_i he;obtain⟨_,h6,_⟩:=uV he;have hu:=uW hL h ho;have hi:=HM hL hG h2 h ho;have ab:∀x∈l++[(iT L s).1],ES (iT L s).2 x:=λx aa=>by
    rw[Ak]at aa;rcases aa with aa|aa;.exact(hx x aa).mono hu
    grind
   split;.have hn:=xF hL hu.ct ‹_›;exact Si n _ _ hn.ct ((hu.trans hn).bV.trans ho) (by grind) (λx aa=>(ab x aa).mono hn)
   grind
  .exact⟨by grind,λx aa=>(hx x aa).mono (tK h)⟩
theorem Sj:∀(n:Nat)(R:List (List bG))(s:RS),cZ L s->s.bV=0->R.length<=16->(∀r∈R,r.length<=12/\∀e∈r,ES s e)->(sv L n R s).1.length<=20/\∀r∈(sv L n R s).1,r.length<=12/\∀e∈r,ES (sv L n R s).2 e
 |0,R,s,_,_,hl,hx=>(by grind[sv])|n+1,R,s,h,ho,hl,hx=>by
  unfold sv;split
  .rename_i he;obtain⟨_,h6,_⟩:=uV he;have aa:=yM hL [40] h;have hr:=Si hL hG h2 7 [] _ aa.ct (aa.bV.trans ho) sm sm;have ab:=aa.trans (Nu hL 7 [] _ aa.ct (aa.bV.trans ho));generalize gG L 7 [] (yE L [40] s)=r at hr ab;split
   .have ad:=yM hL [41] ab.ct;have ae:∀y∈R++[r.2.1],y.length<=12/\∀e∈y,ES (yE L [41] r.2.2) e:=λy hy=>by
     rw[Ak]at hy;rcases hy with hy|hy;.exact⟨(hx y hy).1,λe he=>((hx y hy).2 e he).mono (ab.trans ad)⟩
     .simp only[Ag,Bh,ai5]at hy;subst hy;exact⟨hr.1,λe he=>(hr.2 e he).mono ad⟩
    split;.have hn:=xF hL ad.ct ‹_›;exact Sj n _ _ hn.ct (((ab.trans ad).trans hn).bV.trans ho) (by grind) (λy hy=>⟨(ae y hy).1,λe he=>((ae y hy).2 e he).mono hn⟩)
    grind
   .exact⟨by grind,λy hy=>⟨(hx y hy).1,λe he=>((hx y hy).2 e he).mono ab⟩⟩
  .exact⟨by grind,λy hy=>⟨(hx y hy).1,λe he=>((hx y hy).2 e he).mono (tK h)⟩⟩
theorem Sk:∀(n:Nat)(l:List bX)(s:RS),cZ L s->s.bV=0->l.length<=6->(∀x∈l,x.name.length<=1048576/\ES s x.e)->(rl L n l s).2.1.length<=12/\∀x∈(rl L n l s).2.1,x.name.length<=1048576/\ES (rl L n l s).2.2 x.e
 |0,l,s,_,_,hl,hx=>(by grind[rl])|n+1,l,s,h,ho,hl,hx=>by
  unfold rl;split
  .rename_i he;obtain⟨_,h6,_⟩:=uV he;have af:=w7 hG h;have ab:=nM hL h;have aa:=ab.trans (yM hL [61] ab.ct);have hi:=HM hL hG h2 aa.ct (aa.bV.trans ho);have hu:=aa.trans (uW hL aa.ct (aa.bV.trans ho));generalize iT L (yE L [61] (xI L s).2)=x at hi hu;have ad:∀y∈l++[⟨(xI L s).1,x.1⟩],y.name.length<=1048576/\ES x.2 y.e:=λy hy=>by
    rw[Ak]at hy;rcases hy with hy|hy;.exact⟨(hx y hy).1,(hx y hy).2.mono hu⟩
    grind
   split;.have hn:=xF hL hu.ct ‹_›;exact Sk n _ _ hn.ct ((hu.trans hn).bV.trans ho) (by grind) (λy hy=>⟨(ad y hy).1,(ad y hy).2.mono hn⟩)
   grind
  .exact⟨by grind,λx ae=>⟨(hx x ae).1,(hx x ae).2.mono (tK h)⟩⟩
theorem xh8{s:RS}(h:cZ L s)(ho:s.bV=0):SS (uX L s).2 (uX L s).1:=by
 unfold uX;simp only;have hx:=xL4 hL hG h2 h ho;have h1:=Nt hL h ho;generalize ri L s=x at hx h1;have u2:=yM hL rj h1.ct;have aa:=w7 hG (h1.trans u2).ct;have u3:=nM hL (h1.trans u2).ct;generalize xI L (yE L rj x.2)=n at aa u3;have hw:=NH hL hG h2 u3.ct ((h1.trans (u2.trans u3)).bV.trans ho);have u4:=FW hL u3.ct ((h1.trans (u2.trans u3)).bV.trans ho);have u5:=Ns hL u4.ct;have ab:(AX L (pn L n.2)).1.1.length<=1048576:=by
  unfold AX;split
  .rename_i hi;have v1:=xF hL u4.ct hi;have v2:=v1.trans (yM hL rk v1.ct);split;.exact w7 hG v2.ct
   split;.exact w7 hG v2.ct
   .exact w7 hG v2.ct
  simp
 generalize AX L (pn L n.2)=o at u5 ab;have u6:=R5 hL u5.ct;have ad:dq (AY L o.2).1:=by
  unfold AY;split;.exact NG hG (u5.ct.next hL ‹_›)
  grind[dq]
 generalize AY L o.2=l at u6 ad;have u:=u2.trans (u3.trans (u4.trans (u5.trans u6)));exact⟨by grind[dq],aa,⟨hx.1,λx ae=>⟨(by grind),(hx.2 x ae).2.mono u⟩⟩,sm,sm,hw.mono (u5.trans u6),ab,ad⟩
theorem xd6{s:RS}(h:cZ L s)(ho:s.bV=0):SS (uY L s).2 (uY L s).1:=by unfold uY;have u1:=yM hL Ek h;have aa:=w7 hG u1.ct;have u2:=u1.trans (nM hL u1.ct);generalize xI L (yE L Ek s)=n at aa u2;have u3:=u2.trans (yM hL FX u2.ct);have hr:=Sj hL hG h2 17 [] _ u3.ct (u3.bV.trans ho) sm sm;exact⟨by grind[dq],aa,sm,hr,sm,HL _,sm,by grind[dq]⟩
theorem xj6{s:RS}(h:cZ L s)(ho:s.bV=0):SS (uZ L s).2 (uZ L s).1:=by
 unfold uZ;have aa:=w7 hG h;have u2:=nM hL h;generalize xI L s=n at aa u2;have u3:=u2.trans (yM hL pq u2.ct);have hr:=Sk hL hG h2 7 [] _ u3.ct (u3.bV.trans ho) sm sm;have u4:=u3.trans (Nv hL 7 [] _ u3.ct (u3.bV.trans ho));simp only;generalize rl L 7 [] (yE L pq n.2)=r at hr u4;split;.have hw:=NH hL hG h2 u4.ct (u4.bV.trans ho);have u5:=FW hL u4.ct (u4.bV.trans ho);exact⟨by grind[dq],aa,sm,sm,⟨hr.1,λx hx=>⟨(by grind),(hr.2 x hx).2.mono u5⟩⟩,hw,sm,by grind[dq]⟩
 .exact⟨by grind[dq],aa,sm,sm,hr,HL _,sm,by grind[dq]⟩
theorem wf4{s:RS}(h:cZ L s)(ho:s.bV=0):SS (lO L s).2 (lO L s).1:=by
 unfold lO;split;.exact xh8 hL hG h2 (h.next hL ‹_›) ho
 split;.exact xd6 hL hG h2 (h.next hL ‹_›) ho
 split;.exact xj6 hL hG h2 (h.next hL ‹_›) ho
 .have u1:=yM hL En h;have u2:=u1.trans (yM hL rj u1.ct);have aa:=w7 hG u2.ct;have u3:=u2.trans (nM hL u2.ct);exact⟨by grind[dq],aa,sm,sm,sm,NH hL hG h2 u3.ct (u3.bV.trans ho),sm,by grind[dq]⟩
theorem Sl:∀(n:Nat)(l:List bQ)(s:RS),cZ L s->s.bV=0->l.length<=8->(∀x∈l,SS s x)->(sy L n l s).1.length<=8/\∀x∈(sy L n l s).1,SS (sy L n l s).2 x
 |0,l,s,_,_,hl,hx=>⟨hl,hx⟩|n+1,l,s,h,ho,hl,hx=>by
  unfold sy;split
  .split
   .rename_i he;obtain⟨_,h8,_⟩:=uV he;have hu:=NA hL h ho;have hi:=wf4 hL hG h2 h ho;have ad:∀x∈l++[(lO L s).1],SS (lO L s).2 x:=λx aa=>by
     rw[Ak]at aa;rcases aa with aa|aa;.exact(hx x aa).mono hu
     .simp only[Ag,Bh,ai5]at aa;subst aa;exact hi
    have ab:(l++[(lO L s).1]).length<=8:=by simp;omega
    split
    .have hn:=xF hL hu.ct ‹_›;have ae:=λx aa=>(ad x aa).mono hn;split;.exact⟨ab,ae⟩
     .exact Sl n _ _ hn.ct ((hu.trans hn).bV.trans ho) ab ae
    .exact⟨ab,ad⟩
   .exact⟨hl,λx aa=>(hx x aa).mono (tK h)⟩
  grind
theorem wd9(h1:1<=L.length):mO (Kj L).1:=by
 have h0:cZ L BB:=⟨by simpa,dc⟩;unfold Kj;simp only;have hs:=Sl hL hG h2 9 [] BB h0 rfl sm sm;have hu:=Sd hL 9 [] BB h0 rfl;generalize sy L 9 [] BB=x at hs hu;have ha:=Sf hL hu.ct;have hm:dq (tM L x.2).1.1/\dq (tM L x.2).1.2:=by
  unfold tM;split
  .rename_i hi;have v1:=Se hL hu.ct hi;split;.exact⟨by grind[dq],NG hG (v1.ct.next hL ‹_›)⟩
   .exact⟨by grind[dq],NG hG v1.ct⟩
  grind[dq]
 generalize tM L x.2=a at ha hm;split;.rename_i he;have h3:=ha.err (xZ7 he);exact⟨hm.1,hm.2,by grind,λst aa=>(hs.2 st aa).ok h3⟩
 grind[Sg]
end
theorem NI(s:aij):mO (oH s).1:=by unfold oH;split;all_goals simp_all[Sb,wd9,Sg]
theorem Sn(l:List bG)(i:Nat)(h:i<l.length):j6 (l.drop i)=jP l[i]+j6 (l.drop (i+1)):=by rw[A2 h,j6]
theorem Sp(l:List bG)(i:Nat)(h:i<l.length):xZ (l.drop i)=max (xG l[i]) (xZ (l.drop (i+1))):=by rw[A2 h,xZ]
theorem F0(e:bG):1<=jP e:=by rw[wy];omega
theorem u9(e:bG):1<=xG e:=by rw[nH];omega
def tO(e:bG)(deep left:Int):Int×Bool:=if(xG e:Int)+deep<=65then(left-jP e,false)else(0,true)
def rA(p:Int×Bool):V:=.cm [.int .i64 p.1,.bool p.2]
theorem NJ{a:Int}{b:Bool}{M:Int×Bool}{U:St}(h:(a,b)=M):bW (some (.cm [.int .i64 a,.bool b])) 0 (λr s=>r=rA M/\s=[]) U:=by subst h;exact wR
theorem Sq:∀(n:Nat)(e:bG)(deep left:Int),xG e<=n->eN e->(jP e:Int)<=left->left<=1000000->0<=deep->deep<=1000000->Pure prog 174 [.agg e.row,.int .i64 deep,.int .i64 left] (rA (tO e deep left))
 |0,e,_,_,h,_,_,_,_,_=>by have:=u9 e;omega|n+1,e,deep,left,h,hw,hs,hl,aq,ar=>by
  have ih:=Sq n;have aj:=nH e;have ak:=wy e;obtain⟨M,hM⟩:=eX (tO e deep left);rw[hM];unfold tO at hM;obtain⟨args,aa⟩:=eX e.args;have hlen:=hw.len;have ad:=hw.sub;rw[aa]at aj ak hlen ad;have e1:IntKind.i64.wrap (left-1)=left-1:=bR om om;have e2:IntKind.i64.wrap (deep+1)=deep+1:=bR om om;refine iV 0 func174 ntmps174 results174 λc hc hb=>?_;refine zA ?_;simp[go_sem];by_cases q1:64<deep;.have ae:decide (64<deep)=true:=ahR q1;rw[ahO om]at hM;simp[go_sem,ae];exact NJ hM
  have ae:decide (64<deep)=false:=ahQ q1;have al:decide (left<=0)=false:=ahQ om;simp[go_sem,ae,al,e1];refine zG (S:=Nat×Int) [1,2,3,8] (λu=>[.int .i64 deep,.int .i64 u.2,.ptr 0 0,.int .i64 (u.1:Int)]) (λ_=>[.box e.row]) (λu=>args.length-u.1) (λu=>u.1<=args.length/\(j6 (args.drop u.1):Int)<=u.2/\u.2<=1000000/\(if(xZ (args.drop u.1):Int)+(deep+1)<=65then(u.2-j6 (args.drop u.1),false)else(0,true))=M) hc hb (0,left-1) ⟨A3 _,by simp only[Au];omega,by simp only;omega,by
    rw[<-hM,Au];by_cases q:(xZ args:Int)+(deep+1)<=65;.rw[ahP q,ahP om];congr 1;simp only;omega
    .rw[ahO q,ahO om]⟩ ?_ ?_;.exact aN 1 (by simp[bO,cH,cF,bG.bK])
  rintro⟨i,lf⟩⟨hi,af,an,hinv⟩;simp only at hi af an hinv;by_cases q:i<args.length;rotate_left
  .rw[A4 om]at hinv;have hinv:(lf,false)=M:=by rw[<-hinv,xZ,j6,ahP om];simp
   refine zA ?_;simp[go_sem,q,aa];exact NJ hinv
  have ei:=zR q om;have ag:=Sn args i q;have ah:=Sp args i q;obtain⟨x,hx⟩:=eX (args[i]);have ai:x∈args:=hx▸A7 q;have au:=wF args x ai;rw[hx]at ag ah;have ao:=af;rw[ag]at af;have ab:=ih x (deep+1) lf om (ad x ai) om om om om;have av:=F0 x;unfold tO at ab;rw[ag,ah]at hinv;by_cases q3:(xG x:Int)+(deep+1)<=65
  .rw[ahP q3]at ab;refine zA ?_;simp[go_sem,q,aa,hx,e2];refine zJ ab cB (zK sg (by rw[bG.bK];rfl)) rfl ?_;simp[go_sem,rA,ei];refine zH (i+1,lf-jP x) ⟨by simp only;omega,⟨by simp only;omega,by simp only;omega,by simp only;omega,?_⟩,?_⟩
   .rw[<-hinv];by_cases q4:(xZ (args.drop (i+1)):Int)+(deep+1)<=65;.rw[ahP q4,ahP om];congr 1;simp only;omega
    .rw[ahO q4,ahO om]
   .exact bT 1 (by simp[go_sem,aa]) rfl (by simp[bO,cH,cF,bG.bK]) (A3 _) (zC sg rfl)
  .rw[ahO q3]at ab;rw[ahO om]at hinv;refine zA ?_;simp[go_sem,q,aa,hx,e2];refine zJ ab cB (zK sg (by rw[bG.bK];rfl)) rfl ?_;simp[go_sem,rA];exact NJ hinv
def Sr(e:bG)(deep n:Int)(r:V)(U:St):Prop:=r=.bool (decide ((xG e:Int)+deep<=65))/\∃m:Int,U=[.box [.int .i64 m]]/\n<=m/\m<=n+jP e
theorem Ss:∀(k:Nat)(e:bG)(deep n:Int),xG e<=k->eN e->0<=n->n+jP e<=4096->0<=deep->deep<=1000000->bL prog 252 [.agg e.row,.int .i64 deep,.ptr 0 0] [.box [.int .i64 n]] (Sr e deep n)
 |0,e,_,_,h,_,_,_,_,_=>by have:=u9 e;omega|k+1,e,deep,n,h,hw,ar,al,au,av=>by
  have ih:=Ss k;have an:=nH e;have ag:=wy e;obtain⟨M,hM⟩:=eX (decide ((xG e:Int)+deep<=65));unfold Sr;rw[hM];obtain⟨args,aa⟩:=eX e.args;have hlen:=hw.len;have ae:=hw.sub;rw[aa]at an ag hlen ae;have e1:IntKind.i64.wrap (n+1)=n+1:=bR om om;have e2:IntKind.i64.wrap (deep+1)=deep+1:=bR om om;obtain⟨sz,ao⟩:=eX (jP e);rw[ao]at ag al⊢;have ret:∀(b:Bool)(m:Int)(τ:St),b=M->n<=m->m<=n+sz->bW (some (.bool b)) 1 (λr U=>r=.bool M/\∃m:Int,U=[.box [.int .i64 m]]/\n<=m/\m<=n+sz) (.box [.int .i64 m]::τ):=λb m τ h1 h2 h3=>by subst h1;exact wC 1 rfl rfl (by rfl) (A6 _) (zD rfl) ⟨rfl,m,rfl,h2,h3⟩
  refine iV 1 func252 ntmps252 results252 λc hc hb=>?_;refine zA ?_;simp[go_sem,e1];by_cases q1:64<deep
  .have af:decide (64<deep)=true:=ahR q1;have hM:false=M:=by rw[<-hM];exact(ahQ om).symm
   simp[go_sem,af];exact ret _ _ _ hM om om
  have af:decide (64<deep)=false:=ahQ q1;have aq:decide (4096<n+1)=false:=ahQ om;simp[go_sem,af,aq,aa];refine zG (S:=Nat×Int) [1,2,23,24,25] (λu=>[.int .i64 deep,.ptr 0 0,.sl .ro (args.map bG.row),.int .i64 args.length,.int .i64 (u.1:Int)]) (λu=>[.box [.int .i64 u.2]]) (λu=>args.length-u.1) (λu=>u.1<=args.length/\n<=u.2/\u.2+j6 (args.drop u.1)<=n+sz/\decide ((xZ (args.drop u.1):Int)+(deep+1)<=65)=M) hc hb (0,n+1) ⟨A3 _,by simp only;omega,by simp only[Au];omega,by rw[<-hM,Au];exact decide_eq_decide.2 om⟩ ?_ ?_;.exact aN 1 (by rfl)
  rintro⟨i,m⟩⟨hi,ah,ad,hinv⟩;simp only at hi ah ad hinv;by_cases q:i<args.length;rotate_left
  .rw[A4 om]at hinv ad;have hinv:true=M:=by rw[<-hinv,xZ];exact(ahR om).symm
   refine zA ?_;simp[go_sem,q];exact ret _ _ _ hinv ah (by rw[j6]at ad;omega)
  have ei:=zR q om;have ai:=Sn args i q;have aj:=Sp args i q;obtain⟨x,hx⟩:=eX (args[i]);have ak:x∈args:=hx▸A7 q;have aw:=wF args x ak;rw[hx]at ai aj;rw[ai]at ad;rw[aj]at hinv;have ab:=ih x (deep+1) m om (ae x ak) om om om om;by_cases q3:(xG x:Int)+(deep+1)<=65
  .refine zA ?_;simp[go_sem,q,hx,e2];refine pd 0 ab cB rfl (by rfl) ⟨.inl (by simp[go_sem,dG,dQ,dz,dE]),zD rfl,.inl rfl,tV⟩ (λr U h=>by obtain⟨_,m2,rfl,_⟩:=h;exact⟨_,rfl,rfl⟩) ?_;rintro r o2⟨rfl,m2,h1,h2,h3⟩;obtain rfl:o2=.box [.int .i64 m2]:=sU h1;rw[ahR q3];simp[go_sem,ei];refine zH (i+1,m2) ⟨by simp only;omega,⟨by simp only;omega,by simp only;omega,by simp only;omega,?_⟩,?_⟩;.rw[<-hinv];show decide ((xZ (args.drop (i+1)):Int)+(deep+1)<=65)=_;exact decide_eq_decide.2 om
   .exact aN 1 (by rfl)
  .have hinv:false=M:=by rw[<-hinv];exact(ahQ om).symm
   refine zA ?_;simp[go_sem,q,hx,e2];refine pd 0 ab cB rfl (by rfl) ⟨.inl (by simp[go_sem,dG,dQ,dz,dE]),zD rfl,.inl rfl,tV⟩ (λr U h=>by obtain⟨_,m2,rfl,_⟩:=h;exact⟨_,rfl,rfl⟩) ?_;rintro r o2⟨rfl,m2,h1,h2,h3⟩;obtain rfl:o2=.box [.int .i64 m2]:=sU h1;rw[ahQ q3];simp[go_sem];exact ret _ _ _ hinv om om
def nj(e:bG):Bool:=e.kind==3&&e.s==[65,78,68]&&e.args.length==2
def pv:Nat->List bG->List bG->List bG|0,_,l=>l|_+1,[],l=>l|n+1,e::q,l=>if nj e=true then pv n (q++e.args) l else pv n q (l++[e])
def lQ(st:bQ):List bG:=if st.cz=true then pv 4096 [st.bU] []else[]
theorem Su(l:List bG):eM 6 (l.map bG.row):=vZ λe=>by rw[bG.bK];rfl
theorem Sv(st:bQ):Pure prog 109 [.agg st.row] (.sl .ro ((lQ st).map bG.row)):=by
 generalize hM:lQ st=M;have ret:∀(r:List bG)(g:Tag)(U:St),r=M->bW (some (.sl g (r.map bG.row))) 0 (λr s=>r=.sl .ro (M.map bG.row)/\s=[]) U:=λr g U h=>by subst h;exact zV zP ⟨rfl,rfl⟩
 unfold lQ at hM;refine iV 0 func109 ntmps109 results109 λc hc hb=>?_;refine qQ 26 dc ?_;refine zA ?_;simp[go_sem];by_cases hf:st.cz=true;rotate_left;.have ad:st.cz=false:=sU hf;rw[ahO hf]at hM;simp[go_sem,ad];exact ret [] _ _ hM
 rw[ahP hf]at hM;simp[go_sem,hf];refine YF 4 6 [st.bU.row] dc (Su [st.bU]) sg ?_;refine wL 3 6 dc sg ?_;refine zG (S:=Nat×List bG×List bG) [3,4,5,100026] (λu=>[.sl (.app 1) (u.2.2.map bG.row),.sl (.app 0) (u.2.1.map bG.row),.int .i64 u.1,.cm []]) (λu=>[.app u.2.1.length 6,.app u.2.2.length 6]) (λu=>4096-u.1) (λu=>u.1<=4096/\u.2.1.length<=1+u.1/\u.2.2.length<=u.1/\pv (4096-u.1) u.2.1 u.2.2=M) hc hb (0,[st.bU],[]) ⟨A3 _,sm,sm,hM⟩ ?_ ?_;.exact AL [1,2] dc rfl ⟨by simp[go_sem,yO],by simp[go_sem,yO],tV⟩ ⟨.inl (by simp[go_sem,dG,dQ,dz,dE,cO]),.inl (by simp[go_sem,dG,dQ,dz,dE,cO]),zD rfl,zD rfl,tV⟩
 rintro⟨n,q,l⟩⟨hn,ab,ae,hinv⟩;simp only at hn ab ae hinv;cases q with
 |nil=>
  have hl:l=M:=by rw[<-hinv];cases h:4096-n<;>rfl
  refine zA ?_;simp[go_sem];exact ret l _ _ hl|cons e q=>
 by_cases af:n<4096;rotate_left
 .have hl:l=M:=by rw[<-hinv,show 4096-n=0 by omega];rfl
  have hd:decide ((n:Int)<4096)=false:=ahQ om;refine zA ?_;simp[go_sem,hd];exact ret l _ _ hl
 have hd:decide ((n:Int)<4096)=true:=ahR om;rw[show 4096-n=(4096-(n+1))+1by omega,pv]at hinv;have ei:IntKind.i64.wrap ((n:Int)+1)=((n+1:Nat):Int):=by rw[bR om om];omega
 refine zA ?_;simp[go_sem,hd];refine zF om ?_;simp[go_sem];by_cases hA:nj e=true;.rw[ahP hA]at hinv;have aa:=hA;unfold nj at aa;simp only[A8,ahX]at aa;obtain⟨⟨q1,q2⟩,q3⟩:=aa;simp[go_sem,q1,q2,q3];refine zF ⟨by simp at ab;omega,Su _⟩ ?_;simp[go_sem,ei];refine zH (n+1,q++e.args,l) ⟨by simp only;omega,⟨by simp only;omega,by simp at ab⊢;omega,by simp only;omega,hinv⟩,?_⟩;exact AL [3,1] dc rfl ⟨by simp[go_sem,yO,q3],by simp[go_sem,yO],tV⟩ ⟨.inl (by simp[go_sem,dG,dQ,dz,dE,cO]),.inl (by simp[go_sem,dG,dQ,dz,dE,cO]),zD rfl,zD rfl,tV⟩
 .have aa:(e.kind==3&&e.s==[65,78,68]&&e.args.length==2)=false:=by simpa[nj]using hA
  rw[ahO hA]at hinv;have key:(e.kind==3)=false\/((e.kind==3)=true/\(e.s==[65,78,68])=false)\/((e.kind==3)=true/\(e.s==[65,78,68])=true/\((e.args.length:Int)==2)=false):=by
   revert aa;have e3:((e.args.length:Int)==2)=(e.args.length==2):=by rw[Cp];simp;omega
   rw[e3];cases e.kind==3<;>cases e.s==[65,78,68]<;>cases e.args.length==2<;>simp
  refine key.elim (λq1=>?_) λkey=>key.elim (λq1=>?_) λq1=>?_;all_goals simp[go_sem,q1]
  all_goals refine zF ⟨om,zT rfl⟩ ?_
  all_goals simp[go_sem,ei]
  all_goals refine zH (n+1,q,l++[e]) ⟨by simp only;omega,⟨by simp only;omega,by simp at ab⊢;omega,by simp;omega,hinv⟩,?_⟩
  all_goals exact AL [3,1] dc rfl ⟨by simp[go_sem,yO],by simp[go_sem,yO],tV⟩ ⟨.inl (by simp[go_sem,dG,dQ,dz,dE,cO]),.inl (by simp[go_sem,dG,dQ,dz,dE,cO]),zD rfl,zD rfl,tV⟩
def Kl:V:=.cm [.str [],.agg [.int .i64 0,.int .i64 0,.str []],.bool false]
def lu(e:bG)(name:aij):Option (aij×bF):=match e.kind==3,e.args with |true,[a,b]=>if b.kind=2then(if b.s=name/\a.kind=1/\a.v.kind≠0then some (uN e.s,a.v)else none)else if a.kind=2/\a.s=name/\b.kind=1/\b.v.kind≠0then some (e.s,b.v)else none|_,_=>none
def nT:Option (aij×bF)->V |none=>Kl|some (s,v)=>.cm [.str s,.agg v.row,.bool true]
theorem Sw(e:bG)(name:aij):Pure prog 110 [.agg e.row,.str name] (nT (lu e name)):=by
 generalize hM:lu e name=M;have no:∀(U:St),none=M->bW (some Kl) 0 (λr s=>r=nT M/\s=[]) U:=λU h=>by subst h;exact wR
 have yes:∀(s:aij)(v:bF)(U:St),some (s,v)=M->bW (some (.cm [.str s,.agg v.row,.bool true])) 0 (λr s=>r=nT M/\s=[]) U:=λs v U h=>by subst h;exact wR
 unfold lu at hM;refine iW 0 func110 ntmps110 results110 λc hc hb=>zM ?_;simp[go_sem];by_cases q1:e.kind=3;rotate_left;.have ab:(e.kind !=3)=true:=sU q1;have aa:(e.kind==3)=false:=sU q1;simp only[aa]at hM;simp[go_sem,ab];exact no _ hM
 have ab:(e.kind !=3)=false:=sU q1;have aa:(e.kind==3)=true:=sU q1;simp only[aa]at hM;obtain⟨k,hk⟩:=eX e.kind;simp[go_sem,ab];by_cases q2:e.args.length=2;rotate_left
 .have ad:((e.args.length:Int)!=2)=true:=by simpa using(show¬(e.args.length:Int)=2by omega)
  simp[go_sem,ad];refine no _ ?_;rw[<-hM];split;.rename_i h;rw[h]at q2;exact absurd rfl q2
  .rfl
 have ad:((e.args.length:Int)!=2)=false:=by simpa using(show(e.args.length:Int)=2by omega)
 simp[go_sem,ad];obtain⟨a,b,af⟩:∃a b,e.args=[a,b]:=by match e.args,q2 with|[a,b],_=>exact⟨a,b,rfl⟩
 simp only[af]at hM;refine MG [(12,3),(13,3)] 1 10 sm kR (by rw[hc];exact A3 _) hb kR rfl (by repeat'(first|exact mI.kO|refine mI.fe ?_ (by simp[jZ,l8,cH,cF]))) (by simp only[C3,Df];exact rfl) (by simp only[Cx,Au];exact rfl) ?_;simp[go_sem,af];refine⟨by repeat'(first|exact mI.kO|refine mI.fe ?_ (by simp[jZ,l8,cH,cF])),?_⟩;by_cases q3:b.kind=2
 .have ae:(b.kind==2)=true:=sU q3;rw[ahP q3]at hM;simp[go_sem,ae];refine zW [(0,2),(1,2),(3,0),(4,3),(5,3)] 2 sm kR kR ?_;simp[go_sem];refine pD (ZQ e.s) ?_;have q4:(b.kind !=2)=false:=sU q3;simp[go_sem,q4];repeat'(first |(refine yA (λq=>?_) (λq=>?_)<;>simp[go_sem,q])|(refine zO (λq=>?_) (λq=>?_)<;>simp[go_sem,q])|(refine zW [(2,2),(4,3)] 1 sm kR kR ?_;simp[go_sem]))
  all_goals first|exact no _ (by rw[<-hM];simp_all)|exact yes _ _ _ (by rw[<-hM];simp_all)
 .have ae:(b.kind==2)=false:=sU q3;rw[ahO q3]at hM;simp[go_sem,ae];repeat'(first |(refine yA (λq=>?_) (λq=>?_)<;>simp[go_sem,q])|(refine zO (λq=>?_) (λq=>?_)<;>simp[go_sem,q])|(refine zW [(2,2),(4,3)] 1 sm kR kR ?_;simp[go_sem]))
  all_goals first|exact no _ (by rw[<-hM];simp_all)|exact yes _ _ _ (by rw[<-hM];simp_all)
end Go.Proofs.YtefbicjgbaaieaaGreat
namespace Go.Proofs.YtefbicjgbaaieaaGreat.R
open Go Go.Vx Go.Proofs.Tryz
set_option maxRecDepth 100000
def dO (l:aij):V:= .sl .ro (zQ l)
theorem zL(l:aij):(zQ l).length=l.length:=by simp[zQ]
theorem xN(l:aij):eM 1 (zQ l):=λr hr=>by obtain⟨x,_,rfl⟩:=Aa.1 hr;rfl
def mP (l:aij):V:= .sl (.app 0) (zQ l)
def mQ (l:aij):St:= [.app l.length 1]
abbrev cu:Nat:=1000000000
theorem NK(b:aij)(n:Nat)(hb:b.length<=cu)(hn:n<=cu):bL prog 279 [dO b,.int .i64 n] [] λr s=>r=mP b/\s=mQ b:=by
 refine iW 0 func279 ntmps279 results279 λc hc hb=>zM ?_;simp[go_sem,dO,zL];have e1:IntKind.i64.wrap ((b.length:Int)+n)=((b.length+n:Nat):Int):=by rw[bR (by unfold cu at*;omega) (by unfold cu at*;omega)];omega
 simp[go_sem,e1];refine zF ⟨om,by unfold cu at*;omega⟩ ?_;simp[go_sem,zL];refine zF ⟨by unfold cu at*;omega,xN b⟩ ?_;simp[go_sem];exact qI 1 rfl rfl om (o7 rfl) ⟨rfl,rfl⟩
def eJ(v:Nat):aij:=if v<128then[UInt8.ofNat v]else UInt8.ofNat (v%128+128)::eJ (v/128)termination_by v
decreasing_by omega
theorem F1{v:Nat}(h:v<128):eJ v=[UInt8.ofNat v]:=by rw[eJ,ahP h]
theorem HN{v:Nat}(h:¬v<128):eJ v=UInt8.ofNat (v%128+128)::eJ (v/128):=by rw[eJ,ahO h]
theorem Sx:∀(k v:Nat),v<128^(k+1)->(eJ v).length<=k+1
 |0,v,h=>by rw[F1 om];simp|k+1,v,h=>by
  by_cases hv:v<128;.rw[F1 hv];simp
  .rw[HN hv,Af];have:=Sx k (v/128) (by rw[C4 om];rwa[E0]at h);omega
theorem Es{v:Nat}(h:v<18446744073709551616):(eJ v).length<=10:=Sx 9 v om
structure HO where
 out:aij
 v:Nat
theorem cC{n:Int}(h:0<=n)(h2:n<=18446744073709551615):IntKind.u64.wrap n=n:=by unfold IntKind.wrap;simp[IntKind.bits,IntKind.signed];omega
theorem rC(n:Nat):IntKind.u8.wrap (n:Int)=((UInt8.ofNat n).toNat:Int):=by unfold IntKind.wrap;simp[IntKind.bits,IntKind.signed]
theorem wg2(v:Nat):IntKind.u8.wrap (IntKind.u8.wrap ((v:Int).tmod 128)+128)=((UInt8.ofNat (v%128+128)).toNat:Int):=by
 have e:(v:Int).tmod 128=((v%128:Nat):Int):=by rw[D2 om];omega
 have e2:IntKind.u8.wrap (((v%128:Nat):Int))=((v%128:Nat):Int):=by rw[rC];simp;omega
 rw[e,e2,show(((v%128:Nat):Int)+128)=((v%128+128:Nat):Int)by omega,rC]
theorem NL(b:aij)(v0:Nat)(ad:b.length<=cu)(hv:v0<18446744073709551616):bL prog 201 [dO b,.int .u64 v0] [] λr s=>r=mP (b++eJ v0)/\s=mQ (b++eJ v0):=by
 refine iV 0 func201 ntmps201 results201 λc hc hb=>?_;refine zA ?_;simp[go_sem,dO,zL];refine zF ⟨by unfold cu at*;omega,by simp[eM],xN b⟩ ?_;simp[go_sem];refine zG (S:=HO) [1,5] (λs=>[.int .u64 s.v,mP s.out]) (λs=>mQ s.out) (λs=>s.v) (λs=>s.v<18446744073709551616/\s.out++eJ s.v=b++eJ v0) hc hb ⟨b,v0⟩ ⟨hv,rfl⟩ ?_ ?_;.exact bT 1 (by simp[mQ]) rfl rfl (A3 _) (zC (by simp[go_sem,mP]) rfl)
 rintro⟨out,v⟩⟨aa,hs⟩;simp only at aa hs;have hlen:out.length<=cu+10:=by have:=ahU List.length hs;have ae:=Es hv;simp only[Al]at this;omega
 refine zA ?_;simp[go_sem,mP,mQ];refine zO (λh=>?_) (λh=>?_)
 .have h:¬v<128:=by have:=ahV h;omega
  simp[go_sem,wg2];refine zF ⟨zL out,by rw[zL];unfold cu at*;omega,zT rfl⟩ ?_;have e4:IntKind.u64.wrap ((v:Int).tdiv 128)=((v/128:Nat):Int):=by
   have:(v:Int).tdiv 128=((v/128:Nat):Int):=by rw[D1 om];omega
   rw[this,cC om om]
  have e5:IntKind.u64.wrap ((v:Int)/128)=(v:Int)/128:=cC om om;simp[go_sem];rw[HN h]at hs;refine zH ⟨out++[UInt8.ofNat (v%128+128)],v/128⟩ ⟨by simp only;omega,⟨by simp only;omega,by simpa using hs⟩,bT 1 sm rfl rfl (A3 _) (zC (by simp[go_sem,zQ,e5]) rfl)⟩
 .have h:v<128:=by have:=ahW h;omega
  simp[go_sem,zL,rC];refine zF ⟨by unfold cu at*;omega,zT rfl⟩ ?_;simp[go_sem];rw[F1 h]at hs;have ab:b.length+(eJ v0).length=out.length+1:=by have:=ahU List.length hs;simpa using this.symm
  rw[<-hs];exact qI 1 rfl rfl om (o7 rfl) ⟨by simp[zQ],by simp[ab]⟩
theorem wp2:((List.range 256).all λm=>jX .or .u8 (m:Int) 128==((m%128+128:Nat):Int))=true:=by rfl
theorem wv8(v:Nat):jX .or .u8 (IntKind.u8.wrap (v:Int)) 128=((UInt8.ofNat (v%128+128)).toNat:Int):=by have h:=Aj.1 wp2 (v%256) (by grind);simp_all[rC];omega
theorem NM(b:aij)(v0:Nat)(aa:b.length<=cu)(hv:v0<18446744073709551616):bL prog 223 [dO b,.int .u64 v0] [] λr s=>r=mP (b++eJ v0)/\s=mQ (b++eJ v0):=by
 refine iV 0 func223 ntmps223 results223 λc hc hb=>?_;refine zA ?_;simp[go_sem];refine FG (NK b 10 aa dc) cB (yC rfl) ?_;rintro r s⟨rfl,rfl⟩;simp[go_sem];refine zG (S:=HO) [1,5] (λs=>[.int .u64 s.v,mP s.out]) (λs=>mQ s.out) (λs=>s.v) (λs=>s.v<18446744073709551616/\s.out++eJ s.v=b++eJ v0) hc hb ⟨b,v0⟩ (by grind) ?_ ?_;.exact bT 1 rfl rfl rfl om (zC (by rfl) rfl)
 rintro⟨out,v⟩⟨ab,hs⟩;simp only at ab hs;have hlen:out.length<=cu+10:=by have:=ahU List.length hs;grind[Es]
 refine zA ?_;simp[go_sem,mP,mQ];refine zO (λh=>?_) (λh=>?_)
 .have h:¬v<128:=by grind
  have u1:=wv8 v;simp[go_sem,u1];refine zF ⟨zL out,by simp_all[zL,cu];omega,zT rfl⟩ ?_;have e5:(v:Int).fdiv 128=(v:Int)/128:=(by grind);simp[go_sem,e5];rw[HN h]at hs;refine zH ⟨out++[UInt8.ofNat (v%128+128)],v/128⟩ ⟨by grind,(by grind),bT 1 sm rfl rfl om (zC (by simp[go_sem,zQ]) rfl)⟩
 .have h:v<128:=by grind
  simp[go_sem,zL,rC];refine zF ⟨by grind,zT rfl⟩ ?_;simp[go_sem];rw[F1 h]at hs;have ad:b.length+(eJ v0).length=out.length+1:=by have:=ahU List.length hs;grind
  rw[<-hs];exact qI 1 rfl rfl om (o7 rfl) (by simp[zQ];omega)
theorem wk9(b t:aij)(aa:b.length<=cu)(ht:t.length<=cu):bL prog 281 [dO b,dO t] [] λr s=>r=mP (b++eJ t.length++t)/\s=mQ (b++eJ t.length++t):=by refine iW 0 func281 ntmps281 results281 λc hc hb=>zM ?_;have e1:IntKind.u64.wrap (t.length:Int)=(t.length:Int):=cC om (by grind);simp[go_sem,dO,zL,e1];refine FG (NM b t.length aa (by grind)) cB (yC rfl) ?_;rintro r s⟨rfl,rfl⟩;have ab:=Es (v:=t.length) (by grind);simp[go_sem,mP,mQ,zL];refine zF (by simp_all[cu,xN];omega) ?_;simp[go_sem];exact qI 1 rfl rfl om (o7 rfl) (by grind[zQ])
theorem xB1(b t:aij)(aa:b.length<=cu)(ht:t.length<=cu):bL prog 266 [dO b,dO t] [] λr s=>r=mP (b++eJ t.length++t)/\s=mQ (b++eJ t.length++t):=by refine iW 0 func266 ntmps266 results266 λc hc hb=>zM ?_;have e1:IntKind.u64.wrap (t.length:Int)=(t.length:Int):=cC om (by grind);simp[go_sem,dO,zL,e1];refine FG (NL b t.length aa (by grind)) cB (yC rfl) ?_;rintro r s⟨rfl,rfl⟩;have ab:=Es (v:=t.length) (by grind);simp[go_sem,mP,mQ,zL];refine zF (by simp_all[cu,xN];omega) ?_;simp[go_sem];exact qI 1 rfl rfl om (o7 rfl) (by grind[zQ])
def gA(n:Int):Nat:=if 0<=n then(2*n).toNat else(-2*n-1).toNat
theorem NN{n:Int}(h:dq n):gA n<18446744073709551616:=by grind[gA,dq]
theorem xR0(n:Int)(hn:dq n):Pure prog 265 [.int .i64 n] (.int .u64 (gA n)):=by
 refine iW 0 func265 ntmps265 results265 λc hc hb=>zM ?_;unfold dq at hn;simp[go_sem];refine zO (λh=>?_) (λh=>?_)
 .have h:0<=n:=(by grind);have e1:IntKind.u64.wrap n=n:=(by grind[cC]);have e2:IntKind.u64.wrap (2*n)=((gA n:Nat):Int):=by rw[cC om om,gA,ahP h];omega
  simp[go_sem,e1,e2];exact zV (zD rfl) sm
 .have h:¬0<=n:=(by grind);obtain⟨m,rfl⟩:∃m:Nat,n=-(m:Int)-1:=⟨(-n-1).toNat,om⟩;have e1:IntKind.i64.wrap (-(m:Int))=-(m:Int):=(by grind[bR]);have e2:IntKind.i64.wrap (m:Int)=(m:Int):=(by grind[bR]);have e3:IntKind.u64.wrap (m:Int)=(m:Int):=(by grind[cC]);have e4:IntKind.u64.wrap (2*(m:Int))=2*(m:Int):=(by grind[cC]);have e5:IntKind.u64.wrap (2*(m:Int)+1)=((gA (-(m:Int)-1):Nat):Int):=by rw[cC om om,gA,ahO h];omega
  simp[go_sem,e1,e2,e3,e4,e5];exact zV (zD rfl) sm
theorem Sy(ek:Nat)(es:Option (List Pk))(a b:Int):oA .shr ek es (.int .i64 a) (.int .u64 b)=.eF (0<=b) (.int .i64 (a.fdiv (2^(min b.toNat 64)))):=rfl
theorem ww2{x:Int}(h:0<=x)(h2:x<=18446744073709551615):jX .xor .u64 x 0=x:=by obtain⟨m,rfl⟩:=Ds h;show IntKind.u64.wrap ((BitVec.ofInt 64 (m:Int)^^^BitVec.ofInt 64 0).toNat:Int)=m;have e:BitVec.ofInt 64 (0:Int)=0#64:=rfl;grind[cC]
theorem ww3{x:Int}(h:0<=x)(h2:x<=18446744073709551615):jX .xor .u64 x 18446744073709551615=18446744073709551615-x:=by
 obtain⟨m,rfl⟩:=Ds h;show IntKind.u64.wrap ((BitVec.ofInt 64 (m:Int)^^^BitVec.ofInt 64 18446744073709551615).toNat:Int)=_;have e:BitVec.ofInt 64 (18446744073709551615:Int)=BitVec.allOnes 64:=by rfl
 rw[e,BitVec.xor_allOnes,ai2,BitVec.toNat_not,ai4,Cr om];grind[cC]
theorem wt0(n:Int)(hn:dq n):Pure prog 280 [.int .i64 n] (.int .u64 (gA n)):=by
 refine iW 0 func280 ntmps280 results280 λc hc hb=>zM ?_;unfold dq at hn;rcases Int.lt_or_le n 0with h|h
 .have e1:IntKind.u64.wrap n=n+18446744073709551616:=by grind[IntKind.wrap_u64]
  have e2:IntKind.u64.wrap ((n+18446744073709551616)*2)=2*n+18446744073709551616:=by grind[IntKind.wrap_u64]
  have e3:n.fdiv 9223372036854775808=-1:=by grind
  have e4:IntKind.u64.wrap (-1)=18446744073709551615:=by rfl
  have e5:jX .xor .u64 (2*n+18446744073709551616) 18446744073709551615=((gA n:Nat):Int):=by rw[ww3 om om,gA,ahO om];omega
  simp[go_sem,e1,e2,Sy,e3,e4,e5];exact zV (zD rfl) sm
 .have e1:IntKind.u64.wrap n=n:=(by grind[cC]);have e2:IntKind.u64.wrap (n*2)=2*n:=by grind[cC]
  have e3:n.fdiv 9223372036854775808=0:=by grind
  have e4:IntKind.u64.wrap 0=0:=(by rfl);have e5:jX .xor .u64 (2*n) 0=((gA n:Nat):Int):=by rw[ww2 om om,gA,ahP h];omega
  simp[go_sem,e1,e2,Sy,e3,e4,e5];exact zV (zD rfl) sm
end Go.Proofs.YtefbicjgbaaieaaGreat.R
