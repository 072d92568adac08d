/-
  Contracts of functions that the claimed statement reaches, each proved over trees (the library Vx); used by the theorem at the end of the claim.
  Conditions: as each theorem states them.
-/
import Derived.Test.YtegbonbgofjlcaaGreatMAI
import Derived.Test.YtegbonbgofjlcaaGreatMAE
set_option maxHeartbeats 8000000
namespace Go.Proofs.YtegbonbgofjlcaaGreat
open Go Go.Vx Go.Proofs.Tryz
set_option maxRecDepth 100000
variable {L:List bR}
variable {τ:St}{s':RS}{st:bZ}{e:Int}
def kP(L:List bR)(s:RS):Bool×bJ:=if dH L FI s=true then(true,(js L (zV s)).1)else(false,dw)
theorem wC5(L:List bR)(s:RS)(a b:List V):∃g:Tag,Mf L s a b (.box (a++[.bool false,.int .i64 0,.str [],.int .i64 0,.int .i64 0,.str [],.sl .full []]++b))=.box (a++[.bool (kP L s).1,.int .i64 (kP L s).2.kind,.str (kP L s).2.s,.int .i64 (kP L s).2.v.kind,.int .i64 (kP L s).2.v.n,.str (kP L s).2.v.s,.sl g ((kP L s).2.args.map bJ.row)]++b):=by
 unfold Mf kP;by_cases q:dH L FI s=true;.exact⟨.ro,by rw[alq q,alq q];simp[kj]⟩
 .exact⟨.full,by rw[alp q,alp q];rfl⟩
theorem PD(L:List bR)(hL:fk L)(s:RS)(hs:dI L s)(ho:s.cp=0)(τ:St)(j:Nat)(c0 c1 c2 c3 c4 aa ab ad:V)(hj:τ[j]?=some (.box [c0,c1,c2,c3,c4,.bool false,.int .i64 0,.str [],.int .i64 0,.int .i64 0,.str [],.sl .full [],aa,ab,ad])):∃g:Tag,bN prog 155 [.ptr 0 0,.ptr (j+1) 0] (rB L s::τ) (λr I=>r=.cC []/\I=rB L (pX L s)::τ.set j (.box [c0,c1,c2,c3,c4,.bool (kP L s).1,.int .i64 (kP L s).2.kind,.str (kP L s).2.s,.int .i64 (kP L s).2.v.kind,.int .i64 (kP L s).2.v.n,.str (kP L s).2.v.s,.sl g ((kP L s).2.args.map bJ.row),aa,ab,ad])):=by obtain⟨g,hg⟩:=wC5 L s [c0,c1,c2,c3,c4] [aa,ab,ad];refine⟨g,?_⟩;have:=wr4 L hL s hs ho τ j c0 c1 c2 c3 c4 _ _ _ _ _ _ _ aa ab ad hj;simp only[Bk,Cc]at hg;rw[hg]at this;exact this
def sa:alW:= [70,82,79,77]
def PE:alW:= [79,82,68,69,82]
def sb:alW:= [66,89]
def FJ:alW:= [65,83,67]
def PF:alW:= [68,69,83,67]
def zc:alW:= [76,73,77,73,84]
def DK(L:List bR)(s:RS):(alW×Bool)×RS:=if dH L PE s=true then if dH L FJ (xH L (yJ L sb (zV s))).2=true then(((xH L (yJ L sb (zV s))).1,false),zV (xH L (yJ L sb (zV s))).2)else if dH L PF (xH L (yJ L sb (zV s))).2=true then(((xH L (yJ L sb (zV s))).1,true),zV (xH L (yJ L sb (zV s))).2)else(((xH L (yJ L sb (zV s))).1,false),(xH L (yJ L sb (zV s))).2)else(([],false),s)
def DL(L:List bR)(s:RS):Int×RS:=if dH L zc s=true then iB L (zV s)else(-1,s)
theorem PG(hL:fk L){s:RS}(h:dI L s):UI L s (DK L s).2:=by
 unfold DK;split
 .rename_i hi;have h1:=xC hL h hi;have h2:=h1.trans (yN hL sb h1.cG);have h3:=h2.trans (ou hL h2.cG);split;.exact h3.trans (xC hL h3.cG ‹_›)
  split;.exact h3.trans (xC hL h3.cG ‹_›)
  .exact h3
 .exact UI.refl h
theorem Uu(hL:fk L){s:RS}(h:dI L s):UI L s (DL L s).2:=by
 unfold DL;split;.rename_i hi;have h1:=xC hL h hi;exact h1.trans (PA hL h1.cG)
 .exact UI.refl h
def wj(L:List bR)(s:RS):bZ×RS:=let x:=rZ L s
 let n:=xH L (yJ L sa x.2)
 let w:=kP L n.2
 let o:=DK L (pX L n.2)
 let l:=DL L o.2
 (⟨1,n.1,x.1,[],[],w.1,w.2,o.1.1,o.1.2,l.1⟩,l.2)
theorem Uv(hL:fk L):∀(n:Nat)(l:List de)(s:RS),dI L s->s.cp=0->UI L s (uM L n l s).2
 |0,_,_,h,_=>UI.refl h|n+1,l,s,h,ho=>by
  unfold uM;split
  .rename_i he;have h1:=PC hL h ho;split;.have h2:=h1.trans (xC hL h1.cG ‹_›);exact h2.trans (Uv hL n _ _ h2.cG (h2.cp.trans ho))
   .exact h1
  .exact uL h
theorem PH(hL:fk L){s:RS}(h:dI L s)(ho:s.cp=0):UI L s (rZ L s).2:=by
 unfold rZ;split;.exact xC hL h ‹_›
 .exact Uv hL 7 [] s h ho
def RT(L:List bR)(x:bZ×RS):V->St->Prop:=λr I=>r=.agg x.1.row/\I=[rB L x.2]
theorem qV{g1 g2 g3 g4:Tag}{s:RS}{M:bZ×RS}(h:(st,s)=M):cz (some (.agg [.int .i64 st.kind,.str st.table,.sl g1 (st.items.map de.row),.sl g2 (st.rows.map λl=>[V.sl .ro (l.map bJ.row)]),.sl g3 (st.cJ.map cy.row),.bool st.ef,.int .i64 st.cH.kind,.str st.cH.s,.int .i64 st.cH.v.kind,.int .i64 st.cH.v.n,.str st.cH.v.s,.sl g4 (st.cH.args.map bJ.row),.str st.order,.bool st.down,.int .i64 st.bV])) 1 (RT L M) (rB L s::τ):=by subst h;exact xS (L:=L) (r:=.agg st.row) (xM ⟨zF rfl,zF rfl,zY,zY,zY,zF rfl,zF rfl,zF rfl,zF rfl,zF rfl,zF rfl,zY,zF rfl,zF rfl,zF rfl,tV⟩) ⟨rfl,rfl⟩
theorem Jn(st:bZ):gY (.agg st.row)=true:=rfl
theorem xI8(L:List bR)(hL:fk L)(s:RS)(hs:dI L s)(ho:s.cp=0):bN prog 151 [.ptr 0 0] [rB L s] (RT L (wj L s)):=by
 generalize hM:wj L s=M;unfold wj at hM;have hx:=wk2 L hL s hs ho;have af:=PH hL hs ho;generalize rZ L s=x at hx af hM;obtain⟨xl,s1⟩:=x;simp only at hx af hM;have hm:=ma L hL s1 af.cG sa;have ah:=af.trans (yN hL sa af.cG);generalize yJ L sa s1=s2 at hm ah hM;have hn:=Fw L hL s2 ah.cG;have ad:=ah.trans (ou hL ah.cG);generalize xH L s2=n at hn ad hM;obtain⟨nm,s3⟩:=n;simp only at hn ad hM;obtain⟨gw,hw⟩:=PD L hL s3 ad.cG (ad.cp.trans ho) [.box [.int .i64 0,.str [],.sl .full [],.sl .full [],.sl .full [],.bool false,.int .i64 0,.str [],.int .i64 0,.int .i64 0,.str [],.sl .full [],.str [],.bool false,.int .i64 0],.box [.int .i64 1,.str nm,.sl .ro (xl.map de.row),.sl .full [],.sl .full [],.bool false,.int .i64 0,.str [],.int .i64 0,.int .i64 0,.str [],.sl .full [],.str [],.bool false,.int .i64 (-1)]] 1 _ _ _ _ _ _ _ _ rfl;have ae:=ad.trans (Hs hL ad.cG (ad.cp.trans ho));generalize pX L s3=s4 at hw ae hM;generalize kP L s3=w at hw hM;obtain⟨wb,we⟩:=w;simp only[C4,Cj]at hw hM;have ai:=PG hL ae.cG;generalize hO:DK L s4=o at ai hM;obtain⟨⟨on,od⟩,s5⟩:=o;simp only at ai hM;have aa:=ae.trans ai;generalize hl:DL L s5=l at hM;obtain⟨ll,s6⟩:=l;simp only at hM;unfold DK at hO;unfold DL at hl;refine iW 1 func151 ntmps151 results151 λc hc hb=>zM ?_;simp[go_sem];refine pR hx ?_;simp[go_sem];refine pR hm ?_;simp[go_sem];refine pR hn ?_;simp[go_sem];refine Hb hw cB ?_;rintro r I⟨rfl,rfl⟩_;simp[go_sem];by_cases qO:dH L PE s4=true;rotate_left
 .have qO:dH L PE s4=false:=sU qO;rw[alp (by rw[qO];decide)]at hO;obtain⟨⟨rfl,rfl⟩,rfl⟩:([]=on/\false=od)/\s4=s5:=sU hO;refine pR (jZ L hL s4 ae.cG _ qO) ?_;simp[go_sem];by_cases qL:dH L zc s4=true;.rw[alq qL]at hl;have ab:=Hl L hL (zV s4) (aa.cG.next hL qL);rw[hl]at ab;refine pR (xY L hL s4 aa.cG _ qL) ?_;simp[go_sem];refine pR ab ?_;simp[go_sem];exact qV (st:=⟨1,nm,xl,[],[],wb,we,_,_,ll⟩) hM
  .have qL:dH L zc s4=false:=sU qL;rw[alp (by rw[qL];decide)]at hl;obtain⟨rfl,rfl⟩:-1=ll/\s4=s6:=sU hl;refine pR (jZ L hL s4 aa.cG _ qL) ?_;simp[go_sem];exact qV (st:=⟨1,nm,xl,[],[],wb,we,_,_,-1⟩) hM
 rw[alq qO]at hO;have h1:=xC hL ae.cG qO;have al:=ma L hL _ h1.cG sb;have h2:=yN hL sb h1.cG;generalize yJ L sb (zV s4)=t1 at al h2 hO;have aj:=Fw L hL _ h2.cG;have h3:=ou hL h2.cG;generalize xH L t1=n2 at aj h3 hO;obtain⟨ak,t2⟩:=n2;simp only at aj h3 hO;refine pR (xY L hL s4 ae.cG _ qO) ?_;simp[go_sem];refine pR al ?_;simp[go_sem];refine pR aj ?_;simp[go_sem];by_cases qA:dH L FJ t2=true
 .rw[alq qA]at hO;obtain⟨⟨rfl,rfl⟩,rfl⟩:(ak=on/\false=od)/\zV t2=s5:=sU hO;refine pR (xY L hL t2 h3.cG _ qA) ?_;simp[go_sem];by_cases qL:dH L zc (zV t2)=true;.rw[alq qL]at hl;have ab:=Hl L hL (zV (zV t2)) (aa.cG.next hL qL);rw[hl]at ab;refine pR (xY L hL (zV t2) aa.cG _ qL) ?_;simp[go_sem];refine pR ab ?_;simp[go_sem];exact qV (st:=⟨1,nm,xl,[],[],wb,we,_,_,ll⟩) hM
  .have qL:dH L zc (zV t2)=false:=sU qL;rw[alp (by rw[qL];decide)]at hl;obtain⟨rfl,rfl⟩:-1=ll/\(zV t2)=s6:=sU hl;refine pR (jZ L hL (zV t2) aa.cG _ qL) ?_;simp[go_sem];exact qV (st:=⟨1,nm,xl,[],[],wb,we,_,_,-1⟩) hM
 have qA:dH L FJ t2=false:=sU qA;rw[alp (by rw[qA];decide)]at hO;refine pR (jZ L hL t2 h3.cG _ qA) ?_;simp[go_sem];by_cases qD:dH L PF t2=true
 .rw[alq qD]at hO;obtain⟨⟨rfl,rfl⟩,rfl⟩:(ak=on/\true=od)/\zV t2=s5:=sU hO;refine pR (xY L hL t2 h3.cG _ qD) ?_;simp[go_sem];by_cases qL:dH L zc (zV t2)=true;.rw[alq qL]at hl;have ab:=Hl L hL (zV (zV t2)) (aa.cG.next hL qL);rw[hl]at ab;refine pR (xY L hL (zV t2) aa.cG _ qL) ?_;simp[go_sem];refine pR ab ?_;simp[go_sem];exact qV (st:=⟨1,nm,xl,[],[],wb,we,_,_,ll⟩) hM
  .have qL:dH L zc (zV t2)=false:=sU qL;rw[alp (by rw[qL];decide)]at hl;obtain⟨rfl,rfl⟩:-1=ll/\(zV t2)=s6:=sU hl;refine pR (jZ L hL (zV t2) aa.cG _ qL) ?_;simp[go_sem];exact qV (st:=⟨1,nm,xl,[],[],wb,we,_,_,-1⟩) hM
 .have qD:dH L PF t2=false:=sU qD;rw[alp (by rw[qD];decide)]at hO;obtain⟨⟨rfl,rfl⟩,rfl⟩:(ak=on/\false=od)/\t2=s5:=sU hO;refine pR (jZ L hL t2 h3.cG _ qD) ?_;simp[go_sem];by_cases qL:dH L zc t2=true;.rw[alq qL]at hl;have ab:=Hl L hL (zV t2) (aa.cG.next hL qL);rw[hl]at ab;refine pR (xY L hL t2 aa.cG _ qL) ?_;simp[go_sem];refine pR ab ?_;simp[go_sem];exact qV (st:=⟨1,nm,xl,[],[],wb,we,_,_,ll⟩) hM
  .have qL:dH L zc t2=false:=sU qL;rw[alp (by rw[qL];decide)]at hl;obtain⟨rfl,rfl⟩:-1=ll/\t2=s6:=sU hl;refine pR (jZ L hL t2 aa.cG _ qL) ?_;simp[go_sem];exact qV (st:=⟨1,nm,xl,[],[],wb,we,_,_,-1⟩) hM
variable {L:List bR}
def gD(L:List bR):Nat->List bJ->RS->Bool×List bJ×RS|0,l,s=>(false,l,s)|n+1,l,s=>if(kO L l.length 6 (ki L false s) s).err=0then(if dH L [44] (js L s).2=true then gD L n (l++[(js L s).1]) (zV (js L s).2)else(true,l++[(js L s).1],(js L s).2))else(false,l,kO L l.length 6 (ki L false s) s)
def tw(L:List bR):Nat->List (List bJ)->RS->List (List bJ)×RS |0,R,s=>(R,s)|n+1,R,s=>if(kO L R.length 16 (dH L [40] s) s).err=0then(if(gD L 7 [] (yJ L [40] s)).1=true then(if dH L [44] (yJ L [41] (gD L 7 [] (yJ L [40] s)).2.2)=true then tw L n (R++[(gD L 7 [] (yJ L [40] s)).2.1]) (zV (yJ L [41] (gD L 7 [] (yJ L [40] s)).2.2))else(R++[(gD L 7 [] (yJ L [40] s)).2.1],yJ L [41] (gD L 7 [] (yJ L [40] s)).2.2))else(R,(gD L 7 [] (yJ L [40] s)).2.2))else(R,kO L R.length 16 (dH L [40] s) s)
def FK:alW:= [73,78,84,79]
def Ht:alW:= [86,65,76,85,69,83]
def wk(L:List bR)(s:RS):bZ×RS:=let n:=xH L (yJ L FK s)
 let r:=tw L 17 [] (yJ L Ht n.2)
 (⟨2,n.1,[],r.1,[],false,dw,[],false,0⟩,r.2)
theorem PL(hL:fk L):∀(n:Nat)(l:List bJ)(s:RS),dI L s->s.cp=0->UI L s (gD L n l s).2.2
 |0,_,_,h,_=>UI.refl h|n+1,l,s,h,ho=>by
  unfold gD;split
  .have h1:=wi hL h ho;split;.have h2:=h1.trans (xC hL h1.cG ‹_›);exact h2.trans (PL hL n _ _ h2.cG (h2.cp.trans ho))
   .exact h1
  .exact uL h
theorem Uw(hL:fk L):∀(n:Nat)(R:List (List bJ))(s:RS),dI L s->s.cp=0->UI L s (tw L n R s).2
 |0,_,_,h,_=>UI.refl h|n+1,R,s,h,ho=>by
  unfold tw;split
  .have h1:=yN hL [40] h;have h2:=h1.trans (PL hL 7 [] _ h1.cG (h1.cp.trans ho));split
   .have h3:=h2.trans (yN hL [41] h2.cG);split;.have h4:=h3.trans (xC hL h3.cG ‹_›);exact h4.trans (Uw hL n _ _ h4.cG (h4.cp.trans ho))
    .exact h3
   .exact h2
  .exact uL h
theorem xi0(hL:fk L){s:RS}(h:dI L s)(ho:s.cp=0):UI L s (wk L s).2:=by unfold wk;have h1:=yN hL FK h;have h2:=h1.trans (ou hL h1.cG);have h3:=h2.trans (yN hL Ht h2.cG);exact h3.trans (Uw hL 17 [] _ h3.cG (h3.cp.trans ho))
def zd(nm:alW)(R:List (List bJ)):Ob:=.box [.int .i64 2,.str nm,.sl .full [],.sl (.app 3) (R.map λl=>[V.sl .ro (l.map bJ.row)]),.sl .full [],.bool false,.int .i64 0,.str [],.int .i64 0,.int .i64 0,.str [],.sl .full [],.str [],.bool false,.int .i64 0]
def tz:Ob:=.box [.int .i64 0,.str [],.sl .full [],.sl .full [],.sl .full [],.bool false,.int .i64 0,.str [],.int .i64 0,.int .i64 0,.str [],.sl .full [],.str [],.bool false,.int .i64 0]
theorem xD5(L:List bR)(hL:fk L)(s0:RS)(av:dI L s0)(aw:s0.cp=0):bN prog 152 [.ptr 0 0] [rB L s0] (RT L (wk L s0)):=by
 generalize hM:wk L s0=M;unfold wk at hM;have ax:=ma L hL s0 av FK;have al:=yN hL FK av;generalize yJ L FK s0=s1 at ax al hM;have hn:=Fw L hL s1 al.cG;have ah:=al.trans (ou hL al.cG);generalize xH L s1=n at hn ah hM;obtain⟨nm,s2⟩:=n;simp only at hn ah hM;have ay:=ma L hL s2 ah.cG Ht;have az:=ah.trans (yN hL Ht ah.cG);generalize yJ L Ht s2=s3 at ay az hM;obtain⟨X,hX⟩:=eX (tw L 17 [] s3);rw[hX]at hM;have ret:∀(R:List (List bJ))(s:RS)(τ:St),(R,s)=X->cz (some (.agg [.int .i64 2,.str nm,.sl .full [],.sl (.app 3) (R.map λl=>[V.sl .ro (l.map bJ.row)]),.sl .full [],.bool false,.int .i64 0,.str [],.int .i64 0,.int .i64 0,.str [],.sl .full [],.str [],.bool false,.int .i64 0])) 1 (RT L M) (rB L s::τ):=λR s τ h=>by subst h;exact qV (st:=⟨2,nm,[],R,[],false,dw,[],false,0⟩) hM
 refine iV 1 func152 ntmps152 results152 λc hc hb=>?_;refine zA ?_;simp[go_sem];refine pR ax ?_;simp[go_sem];refine pR hn ?_;simp[go_sem];refine pR ay ?_;simp[go_sem];refine Fg 2 3 1 _ dC rfl rfl ?_;simp only[C4,Cj];refine zG (S:=List (List bJ)×RS) [0,2,3] (λu=>[.ptr 0 0,.ptr 1 0,.ptr 2 0]) (λu=>[rB L u.2,tz,zd nm u.1,.app u.1.length 1]) (λu=>17-u.1.length) (λu=>u.1.length<=16/\UI L s0 u.2/\tw L (17-u.1.length) u.1 u.2=X) hc hb ([],s3) ⟨A5 _,az,hX⟩ ?_ ?_;.exact bU 4 (by simp[go_sem];exact⟨rfl,rfl⟩) rfl (by simp[rB,tz,zd,bS,cV,cR]) dC (zD sg rfl)
 rintro⟨R,s⟩⟨hR,hu,hinv⟩;simp only at hR hu hinv;have hs:=hu.cG;have ho:=hu.cp.trans aw;have ai:=jM L hL s hs [40];have ad:=Jm L hL s hs R.length 16 (dH L [40] s);have ao:=wg (L:=L) (n:=R.length) (eE:=16) (b:=dH L [40] s) (s:=s);rw[show 17-R.length=(16-R.length)+1by omega,tw]at hinv;generalize dH L [40] s=bg at ai ad ao hinv;generalize kO L R.length 16 bg s=m at ad ao hinv;by_cases q:m.err=0;rotate_left;.have q':(m.err==0)=false:=sU q;rw[alp q]at hinv;rw[q']at ad;refine zA ?_;simp[go_sem];refine wP [(5,3),(6,3)] 1 4 sM kR kR ?_;simp[go_sem,zd];refine uG ai cB (wT ⟨zC rfl,tV⟩) rfl ?_;simp[go_sem];refine uG ad cB (wT ⟨zC rfl,zC rfl,zC rfl,tV⟩) rfl ?_;simp[go_sem];exact ret _ _ _ hinv
 have q':(m.err==0)=true:=sU q;obtain⟨he,aD,rfl⟩:=ao q;rw[alq q]at hinv;rw[q']at ad;have a1:=ma L hL m hs [40];have a6:=hu.trans (yN hL [40] hs);generalize yJ L [40] m=s4 at a1 a6 hinv;obtain⟨Y,hY⟩:=eX (gD L 7 [] s4);rw[hY]at hinv;refine zA ?_;simp[go_sem];refine wP [(5,3),(6,3)] 1 4 sM kR kR ?_;simp[go_sem,zd];refine uG ai cB (wT ⟨zC rfl,tV⟩) rfl ?_;simp[go_sem];refine uG ad cB (wT ⟨zC rfl,zC rfl,zC rfl,tV⟩) rfl ?_;simp[go_sem];refine pR a1 ?_;simp[go_sem];refine wQ 4 6 dC sg ?_;refine zG (S:=List bJ×RS) [0,2,3,4] (λu=>[.ptr 0 0,.ptr 1 0,.ptr 2 0,.sl (.app 4) (u.1.map bJ.row)]) (λu=>[rB L u.2,tz,zd nm R,.app R.length 1,.app u.1.length 6]) (λu=>7-u.1.length) (λu=>u.1.length<=6/\UI L s0 u.2/\gD L (7-u.1.length) u.1 u.2=Y) hc hb ([],s4) ⟨A5 _,a6,hY⟩ ?_ ?_;.exact bU 5 (by simp[go_sem];rfl) rfl (by simp[rB,tz,zd,bS,cV,cR]) dC (zD sg rfl)
 rintro⟨l,t⟩⟨hl,an,aa⟩;simp only at hl an aa;have ht:=an.cG;have a7:=an.cp.trans aw;have ae:=Ut L hL t ht false;have ab:=Jm L hL t ht l.length 6 (ki L false t);have aj:=wg (L:=L) (n:=l.length) (eE:=6) (b:=ki L false t) (s:=t);rw[show 7-l.length=(6-l.length)+1by omega,gD]at aa;generalize ki L false t=aA at ae ab aj aa;generalize kO L l.length 6 aA t=m2 at ab aj aa;by_cases q2:m2.err=0;rotate_left
 .have aq:(m2.err==0)=false:=sU q2;rw[alp q2]at aa;rw[aq]at ab;have ar:Y.1=false:=by rw[<-aa]
  have au:Y.2.2=m2:=by rw[<-aa]
  rw[alp (by rw[ar];decide),au]at hinv;refine zA ?_;simp[go_sem];refine pR ae ?_;simp[go_sem];refine pR ab ?_;simp[go_sem,zd];exact ret _ _ _ hinv
 have aq:(m2.err==0)=true:=sU q2;obtain⟨aE,aC,rfl⟩:=aj q2;rw[alq q2]at aa;rw[aq]at ab;have hx:=uK L hL m2 ht a7;have af:=an.trans (wi hL ht a7);generalize js L m2=x at hx af aa;by_cases q3:dH L [44] x.2=true;.rw[alq q3]at aa;refine zA ?_;simp[go_sem];refine pR ae ?_;simp[go_sem];refine pR ab ?_;simp[go_sem];refine kC hx cB gj ?_;simp[go_sem,bJ.bQ];refine zJ ⟨om,zZ rfl⟩ ?_;simp[go_sem];refine pR (xY L hL x.2 af.cG _ q3) ?_;simp[go_sem];refine zH (l++[x.1],zV x.2) ⟨by simp;omega,⟨by simp;omega,af.trans (xC hL af.cG q3),by simp only[Al,Bh,show 7-(l.length+1)=6-l.length by omega];exact aa⟩,?_⟩;exact aM 5 (by simp[rB,tz,zd,bS,cV,cR]) (zD (by simp[go_sem,bJ.bQ]) rfl)
 have q3:dH L [44] x.2=false:=sU q3;rw[alp (by rw[q3];decide)]at aa;have ar:Y.1:=by rw[<-aa]
 have au:Y.2.2=x.2:=by rw[<-aa]
 have aB:Y.2.1=l++[x.1]:=by rw[<-aa]
 rw[alq ar,au,aB]at hinv;have a8:=ma L hL x.2 af.cG [41];have ak:=af.trans (yN hL [41] af.cG);generalize yJ L [41] x.2=s5 at a8 ak hinv;refine zA ?_;simp[go_sem];refine pR ae ?_;simp[go_sem];refine pR ab ?_;simp[go_sem];refine kC hx cB gj ?_;simp[go_sem,bJ.bQ];refine zJ ⟨om,zZ rfl⟩ ?_;simp[go_sem];refine pR (jZ L hL x.2 af.cG _ q3) ?_;simp[go_sem];refine pR a8 ?_;simp[go_sem,zd];refine zJ ⟨om,zZ rfl⟩ ?_;simp[go_sem];by_cases q5:dH L [44] s5=true;.rw[alq q5]at hinv;refine pR (xY L hL s5 ak.cG _ q5) ?_;simp[go_sem];refine zH (R++[l++[x.1]],zV s5) ⟨by simp;omega,⟨by simp;omega,ak.trans (xC hL ak.cG q5),by simp only[Al,Bh,show 17-(R.length+1)=16-R.length by omega];exact hinv⟩,?_⟩;exact bU 4 (by simp[go_sem,bJ.bQ]) rfl (by simp[rB,tz,bS,cV,cR]) dC (zD sg rfl)
 .have q5:dH L [44] s5=false:=sU q5;rw[alp (by rw[q5];decide)]at hinv;refine pR (jZ L hL s5 ak.cG _ q5) ?_;simp[go_sem];have hr:=ret (R++[l++[x.1]]) s5;simp[bJ.bQ]at hr;exact hr _ hinv
variable {L:List bR}
def Hu(L:List bR)(s:RS):Bool:=(cK L s).kind==1&&l9 (cK L s).s
def pZ:alW:= [83,69,84]
def sd(L:List bR):Nat->List cy->RS->Bool×List cy×RS |0,l,s=>(false,l,s)|n+1,l,s=>if(kO L l.length 6 (Hu L s) s).err=0then(if dH L [44] (js L (yJ L [61] (xH L s).2)).2=true then sd L n (l++[⟨(xH L s).1,(js L (yJ L [61] (xH L s).2)).1⟩]) (zV (js L (yJ L [61] (xH L s).2)).2)else(true,l++[⟨(xH L s).1,(js L (yJ L [61] (xH L s).2)).1⟩],(js L (yJ L [61] (xH L s).2)).2))else(false,l,kO L l.length 6 (Hu L s) s)
def wm(L:List bR)(s:RS):bZ×RS:=let n:=xH L s
 let r:=sd L 7 [] (yJ L pZ n.2)
 if r.1=true then(⟨3,n.1,[],[],r.2.1,(kP L r.2.2).1,(kP L r.2.2).2,[],false,0⟩,pX L r.2.2)else(⟨3,n.1,[],[],r.2.1,false,dw,[],false,0⟩,r.2.2)
theorem PM(hL:fk L):∀(n:Nat)(l:List cy)(s:RS),dI L s->s.cp=0->UI L s (sd L n l s).2.2
 |0,_,_,h,_=>UI.refl h|n+1,l,s,h,ho=>by
  unfold sd;split
  .have h1:=ou hL h;have h2:=h1.trans (yN hL [61] h1.cG);have h3:=h2.trans (wi hL h2.cG (h2.cp.trans ho));split;.have h4:=h3.trans (xC hL h3.cG ‹_›);exact h4.trans (PM hL n _ _ h4.cG (h4.cp.trans ho))
   .exact h3
  .exact uL h
theorem xo6(hL:fk L){s:RS}(h:dI L s)(ho:s.cp=0):UI L s (wm L s).2:=by
 unfold wm;have h1:=ou hL h;have h2:=h1.trans (yN hL pZ h1.cG);have h3:=h2.trans (PM hL 7 [] _ h2.cG (h2.cp.trans ho));simp only;split;.exact h3.trans (Hs hL h3.cG (h3.cp.trans ho))
 .exact h3
def Jo(nm:alW)(l:List cy):Ob:=.box [.int .i64 3,.str nm,.sl .full [],.sl .full [],.sl (.app 3) (l.map cy.row),.bool false,.int .i64 0,.str [],.int .i64 0,.int .i64 0,.str [],.sl .full [],.str [],.bool false,.int .i64 0]
theorem xK8(L:List bR)(hL:fk L)(s0:RS)(aw:dI L s0)(an:s0.cp=0):bN prog 153 [.ptr 0 0] [rB L s0] (RT L (wm L s0)):=by
 generalize hM:wm L s0=M;unfold wm at hM;have hn:=Fw L hL s0 aw;have ai:=ou hL aw;generalize xH L s0=n at hn ai hM;obtain⟨nm,s2⟩:=n;simp only at hn ai hM;have ax:=ma L hL s2 ai.cG pZ;have ay:=ai.trans (yN hL pZ ai.cG);generalize yJ L pZ s2=s3 at ax ay hM;obtain⟨X,hX⟩:=eX (sd L 7 [] s3);rw[hX]at hM;refine iV 1 func153 ntmps153 results153 λc hc hb=>?_;refine zA ?_;simp[go_sem];refine pR hn ?_;simp[go_sem];refine pR ax ?_;simp[go_sem];refine Fg 2 4 7 _ dC rfl rfl ?_;simp only[C4,Cj];refine zG (S:=List cy×RS) [0,2,3] (λu=>[.ptr 0 0,.ptr 1 0,.ptr 2 0]) (λu=>[rB L u.2,tz,Jo nm u.1,.app u.1.length 7]) (λu=>7-u.1.length) (λu=>u.1.length<=6/\UI L s0 u.2/\sd L (7-u.1.length) u.1 u.2=X) hc hb ([],s3) ⟨A5 _,ay,hX⟩ ?_ ?_;.exact bU 4 (by simp[go_sem];exact⟨rfl,rfl⟩) rfl (by simp[rB,tz,Jo,bS,cV,cR]) dC (zD sg rfl)
 rintro⟨l,s⟩⟨hl,hu,hinv⟩;simp only at hl hu hinv;have hs:=hu.cG;have ho:=hu.cp.trans an;have ad:=oi L hL s hs;have aj:=Pt (cK L s).s (hL.y8 _ (Ho hs));have aa:=Jm L hL s hs l.length 6 (Hu L s);have aq:=wg (L:=L) (n:=l.length) (eE:=6) (b:=Hu L s) (s:=s);rw[show 7-l.length=(6-l.length)+1by omega,sd]at hinv;generalize ao:Hu L s=bg at aa aq hinv;unfold Hu at ao;have ae:=Fw L hL s hs;have ak:=hu.trans (ou hL hs);generalize cK L s=tk at ad aj ao;generalize l9 tk.s=wd at aj ao;generalize kO L l.length 6 bg s=m at aa aq hinv;have key:((tk.kind==1)=true/\wd=bg)\/((tk.kind==1)=false/\false=bg):=by revert ao;cases tk.kind==1<;>simp
 by_cases q:m.err=0;rotate_left
 .have q':(m.err==0)=false:=sU q;rw[alp q]at hinv;rw[q']at aa;have ar:X.1=false:=by rw[<-hinv]
  have au:X.2.1=l:=by rw[<-hinv]
  have av:X.2.2=m:=by rw[<-hinv]
  rw[alp (by rw[ar];decide),au,av]at hM;refine zA ?_;simp[go_sem];refine pR ad ?_;simp[go_sem,Jo];refine wP [(10,0),(12,3)] 1 5 sM kR kR ?_;simp[go_sem];refine key.elim (λ⟨k1,k2⟩=>?_) (λ⟨k1,k2⟩=>?_);.simp[go_sem,k1];refine pD aj ?_;simp[go_sem,k2];refine uG aa cB (wT ⟨zC rfl,zC rfl,zC rfl,tV⟩) rfl ?_;simp[go_sem];exact qV (st:=⟨3,nm,[],[],l,false,dw,[],false,0⟩) hM
  .rw[<-k2]at aa;simp[go_sem,k1];refine uG aa cB (wT ⟨zC rfl,zC rfl,zC rfl,tV⟩) rfl ?_;simp[go_sem];exact qV (st:=⟨3,nm,[],[],l,false,dw,[],false,0⟩) hM
 have q':(m.err==0)=true:=sU q;obtain⟨he,az,rfl⟩:=aq q;rw[alq q]at hinv;rw[q']at aa;generalize xH L m=n1 at ae ak hinv;obtain⟨af,t1⟩:=n1;simp only at ae ak hinv;have al:=ma L hL t1 ak.cG [61];have ah:=ak.trans (yN hL [61] ak.cG);generalize yJ L [61] t1=t2 at al ah hinv;have hx:=uK L hL t2 ah.cG (ah.cp.trans an);have ab:=ah.trans (wi hL ah.cG (ah.cp.trans an));generalize js L t2=x at hx ab hinv;obtain⟨e,t3⟩:=x;simp only at ab hinv;by_cases q3:dH L [44] t3=true
 .rw[alq q3]at hinv;refine zA ?_;simp[go_sem];refine pR ad ?_;simp[go_sem,Jo];refine wP [(10,0),(12,3)] 1 5 sM kR kR ?_;simp[go_sem];refine key.elim (λ⟨k1,k2⟩=>?_) (λ⟨k1,k2⟩=>?_);.simp[go_sem,k1];refine pD aj ?_;simp[go_sem,k2];refine uG aa cB (wT ⟨zC rfl,zC rfl,zC rfl,tV⟩) rfl ?_;simp[go_sem];refine pR ae ?_;simp[go_sem];refine pR al ?_;simp[go_sem];refine kC hx cB gj ?_;simp[go_sem,bJ.bQ];refine zJ ⟨om,zZ rfl⟩ ?_;simp[go_sem];refine pR (xY L hL t3 ab.cG _ q3) ?_;simp[go_sem];refine zH (l++[⟨af,e⟩],zV t3) ⟨by simp;omega,⟨by simp;omega,ab.trans (xC hL ab.cG q3),by simp only[Al,Bh,show 7-(l.length+1)=6-l.length by omega];exact hinv⟩,?_⟩;exact aN 4 (by simp[rB,tz,bS,cV,cR])
  .rw[<-k2]at aa;simp[go_sem,k1];refine uG aa cB (wT ⟨zC rfl,zC rfl,zC rfl,tV⟩) rfl ?_;simp[go_sem];refine pR ae ?_;simp[go_sem];refine pR al ?_;simp[go_sem];refine kC hx cB gj ?_;simp[go_sem,bJ.bQ];refine zJ ⟨om,zZ rfl⟩ ?_;simp[go_sem];refine pR (xY L hL t3 ab.cG _ q3) ?_;simp[go_sem];refine zH (l++[⟨af,e⟩],zV t3) ⟨by simp;omega,⟨by simp;omega,ab.trans (xC hL ab.cG q3),by simp only[Al,Bh,show 7-(l.length+1)=6-l.length by omega];exact hinv⟩,?_⟩;exact aN 4 (by simp[rB,tz,bS,cV,cR])
 have q3:dH L [44] t3=false:=sU q3;rw[alp (by rw[q3];decide)]at hinv;have ar:X.1:=by rw[<-hinv]
 have au:X.2.1=l++[⟨af,e⟩]:=by rw[<-hinv]
 have av:X.2.2=t3:=by rw[<-hinv]
 rw[alq ar,au,av]at hM;obtain⟨gw,hw⟩:=PD L hL t3 ab.cG (ab.cp.trans an) [tz,.box [.int .i64 3,.str nm,.sl .full [],.sl .full [],.sl (.app 3) (l.map cy.row++[[.str af,.int .i64 e.kind,.str e.s,.int .i64 e.v.kind,.int .i64 e.v.n,.str e.v.s,.sl .ro (e.args.map bJ.row)]]),.bool false,.int .i64 0,.str [],.int .i64 0,.int .i64 0,.str [],.sl .full [],.str [],.bool false,.int .i64 0],.app (l.length+1) 7,.box [.int .i64 tk.kind,.int .i64 tk.place,.str tk.s,.int .i64 tk.n],.box [.str af,.int .i64 e.kind,.str e.s,.int .i64 e.v.kind,.int .i64 e.v.n,.str e.v.s,.sl .ro (e.args.map bJ.row)]] 1 _ _ _ _ _ _ _ _ rfl;generalize pX L t3=s9 at hw hM;generalize kP L t3=w9 at hw hM;have hr:=λτ=>qV (L:=L) (g1:=.full) (g2:=.full) (g3:=.app 3) (g4:=gw) (τ:=τ) (st:=⟨3,nm,[],[],l++[⟨af,e⟩],w9.1,w9.2,[],false,0⟩) hM;simp at hr;refine zA ?_;simp[go_sem];refine pR ad ?_;simp[go_sem,Jo];refine wP [(10,0),(12,3)] 1 5 sM kR kR ?_;simp[go_sem];refine key.elim (λ⟨k1,k2⟩=>?_) (λ⟨k1,k2⟩=>?_);.simp[go_sem,k1];refine pD aj ?_;simp[go_sem,k2];refine uG aa cB (wT ⟨zC rfl,zC rfl,zC rfl,tV⟩) rfl ?_;simp[go_sem];refine pR ae ?_;simp[go_sem];refine pR al ?_;simp[go_sem];refine kC hx cB gj ?_;simp[go_sem,bJ.bQ];refine zJ ⟨om,zZ rfl⟩ ?_;simp[go_sem];refine pR (jZ L hL t3 ab.cG _ q3) ?_;simp[go_sem];refine Hb hw cB ?_;rintro r I⟨rfl,rfl⟩_;simp[go_sem];exact hr _
 .rw[<-k2]at aa;simp[go_sem,k1];refine uG aa cB (wT ⟨zC rfl,zC rfl,zC rfl,tV⟩) rfl ?_;simp[go_sem];refine pR ae ?_;simp[go_sem];refine pR al ?_;simp[go_sem];refine kC hx cB gj ?_;simp[go_sem,bJ.bQ];refine zJ ⟨om,zZ rfl⟩ ?_;simp[go_sem];refine pR (jZ L hL t3 ab.cG _ q3) ?_;simp[go_sem];refine Hb hw cB ?_;rintro r I⟨rfl,rfl⟩_;simp[go_sem];exact hr _
def FL(c:UInt8):Bool:=decide (c.toNat=9)||(decide (c.toNat=10)||(decide (c.toNat=13)||decide (c.toNat=32)))
theorem FM(c:UInt8)(n:Nat):(((c.toNat:Nat):Int)==(n:Int))=decide (c.toNat=n):=by rw[Df];simp only[alx,alw];omega
theorem xl0(c:UInt8):Pure prog 149 [.int .u8 c.toNat] (.bool (FL c)):=by
 generalize hM:FL c=M;unfold FL at hM;have h9:=FM c 9;have aa:=FM c 10;have ab:=FM c 13;have ad:=FM c 32;simp only[C5]at h9 aa ab ad;have ret:∀(r:Bool)(τ:St),r=M->cz (some (.bool r)) 0 (λr I=>r=.bool M/\I=[]) τ:=λr τ h=>by subst h;exact wR
 refine iW 0 func149 ntmps149 results149 λc hc hb=>zM ?_;simp[go_sem];repeat'(first |(refine xG (λq=>?_) (λq=>?_)<;>simp[go_sem,q])|(refine zX (λq=>?_) (λq=>?_)<;>simp[go_sem,q]))
 all_goals exact ret _ _ (by rw[<-hM];simp_all)
abbrev TR:=bR×Nat×Int
def wq(x:TR):V:=.cC [.agg x.1.row,.int .i64 x.2.1,.int .i64 x.2.2]
theorem Mg (x:TR):gY (wq x)=true:=rfl
theorem ov{t:bR}{n:Nat}{M:TR}(h:(t,n,e)=M):cz (some (.cC [.agg [.int .i64 t.kind,.int .i64 t.place,.str t.s,.int .i64 t.n],.int .i64 n,.int .i64 e])) 0 (λr I=>r=wq M/\I=[]) τ:=by subst h;exact wR
def ow(v:Int):alW->Option Int|[]=>some v|c::l=>if kg c=true then(if(9223372036854775807-((c.toNat:Int)-48))/10<v then none else ow (v*10+((c.toNat:Int)-48)) l)else some v
def sf(at_:Nat)(l:alW):TR:=match ow 0 l with |none=>(mH,0,5)|some v=>if nh ((l.dropWhile kg).headD 0)=true then(mH,0,13)else(⟨2,0,[],v⟩,at_+(l.takeWhile kg).length,0)
theorem Ux{c:UInt8}(h:kg c):48<=c.toNat/\c.toNat<=57:=by unfold kg at h;simpa using h
theorem yY9(s:alW)(hl:s.length<=maxLen)(a:Nat)(ha:a<=s.length):Pure prog 223 [.str s,.int .i64 a] (wq (sf a (s.drop a))):=by
 generalize hM:sf a (s.drop a)=M;unfold sf at hM;unfold maxLen at hl;have ae:nh 0=false:=dC;refine iV 0 func223 ntmps223 results223 λc hc hb=>?_;refine zA ?_;simp[go_sem];refine zG (S:=Nat×Int) [0,1,4,7] (λu=>[.str s,.int .i64 u.1,.ptr 0 0,.int .i64 u.2]) (λ_=>[.box [.int .i64 0,.int .i64 0,.str [],.int .i64 0]]) (λu=>s.length-u.1) (λu=>u.1<=s.length/\0<=u.2/\u.2<=9223372036854775807/\(match ow u.2 (s.drop u.1)with|none=>(mH,0,5)|some v=>if nh (((s.drop u.1).dropWhile kg).headD 0)=true then(mH,0,13)else((⟨2,0,[],v⟩,u.1+((s.drop u.1).takeWhile kg).length,0):TR))=M) hc hb (a,0) ⟨ha,Int.le_refl _,sM,hM⟩ ?_ ?_;.exact aN 1 (by rfl)
 rintro⟨i,v⟩⟨hi,af,ah,hinv⟩;simp only at hi af ah hinv;by_cases q:i<s.length;rotate_left
 .obtain rfl:i=s.length:=om;rw[Cn]at hinv;have hinv:(⟨⟨2,0,[],v⟩,s.length,0⟩:TR)=M:=by rw[<-hinv];rfl
  refine zA ?_;simp[go_sem];exact ov (t:=⟨2,0,[],v⟩) hinv
 have ei:=zO q om;obtain⟨x,hx⟩:=eX (s[i]);rw[A4 q,hx]at hinv;have aa:=Je x;have ab:=LY x;by_cases qd:kg x=true;rotate_left
 .have qd:kg x=false:=sU qd;rw[ow,alp (by rw[qd];decide),List.dropWhile_cons_of_neg (by rw[qd];decide),List.takeWhile_cons_of_neg (by rw[qd];decide)]at hinv;simp only[List.headD_cons,Cy,D7]at hinv;rw[qd]at aa;by_cases ql:nh x=true;.simp only[ql,alB]at hinv;rw[ql]at ab;refine zA ?_;simp[go_sem,q,hx];refine pC aa ?_;simp[go_sem,q,hx];refine pC ab ?_;simp[go_sem];exact ov (t:=mH) hinv
  .have ql:nh x=false:=sU ql;simp only[ql,Ci,alH]at hinv;rw[ql]at ab;refine zA ?_;simp[go_sem,q,hx];refine pC aa ?_;simp[go_sem,q,hx];refine pC ab ?_;simp[go_sem];exact ov (t:=⟨2,0,[],v⟩) hinv
 have hr:=Ux qd;rw[ow,alq qd,List.dropWhile_cons_of_pos qd,D8 qd]at hinv;rw[qd]at aa;have e1:IntKind.u8.wrap ((x.toNat:Int)-48)=(x.toNat:Int)-48:=LX om om;have e2:IntKind.i64.wrap ((x.toNat:Int)-48)=(x.toNat:Int)-48:=bX om om;have e3:IntKind.i64.wrap (9223372036854775807-((x.toNat:Int)-48))=9223372036854775807-((x.toNat:Int)-48):=bX om om;obtain⟨d,hd⟩:∃d:Int,(x.toNat:Int)-48=d:=⟨_,rfl⟩;rw[hd]at hinv e1 e2 e3;have ai:0<=d/\d<=9:=om;have e4:IntKind.i64.wrap ((9223372036854775807-d).tdiv 10)=(9223372036854775807-d)/10:=by rw[Ds om,bX om om]
 refine zA ?_;simp[go_sem,q,hx];refine pC aa ?_;simp[go_sem,q,hx,e1,e2,e3,e4,hd];by_cases qg:(9223372036854775807-d)/10<v;.have ad:decide ((9223372036854775807-d)/10<v)=true:=als qg;simp only[qg,alB]at hinv;simp[go_sem,ad];exact ov (t:=mH) hinv
 .have ad:decide ((9223372036854775807-d)/10<v)=false:=alr qg;simp only[qg,alH]at hinv;have e5:IntKind.i64.wrap (v*10)=v*10:=bX om om;have e6:IntKind.i64.wrap (v*10+d)=v*10+d:=bX om om;simp[go_sem,ad,e5,e6,ei];refine zH (i+1,v*10+d) ⟨by simp only;omega,⟨by simp only;omega,by simp only;omega,by simp only;omega,?_⟩,?_⟩;.simp only[Ah]at hinv;rw[<-hinv];simp only[E1,E6 1]
  .exact aN 1 (by rfl)
def Hv(i:Nat)(w:alW):TR:=if 64<w.length then(mH,0,3)else(⟨3,0,w,0⟩,i+1,0)
def mb:Nat->alW->alW->TR |_,_,[]=>(mH,0,13)|i,w,[c]=>if c.toNat=39then Hv i w else(mH,0,13)|i,w,c::c2::l=>if c.toNat=39then(if c2.toNat=39then mb (i+2) (w++[c2]) l else Hv i w)else mb (i+1) (w++[c]) (c2::l)
theorem xn8(i:Nat)(w:alW)(c:UInt8)(l:alW)(h:¬c.toNat=39):mb i w (c::l)=mb (i+1) (w++[c]) l:=by cases l<;>simp_all[mb]
theorem xE6(s:alW)(hl:s.length<=maxLen)(a:Nat)(ha:a<s.length):Pure prog 224 [.str s,.int .i64 a] (wq (mb (a+1) [] (s.drop (a+1)))):=by
 generalize hM:mb (a+1) [] (s.drop (a+1))=M;unfold maxLen at hl;have ea:IntKind.i64.wrap ((a:Int)+1)=((a+1:Nat):Int):=(by grind[zO]);refine iV 0 func224 ntmps224 results224 λc hc hb=>?_;refine zA ?_;simp[go_sem,ea];refine zG (S:=Nat×alW) [0,4,7,8] (λu=>[.str s,.ptr 0 0,.str u.2,.int .i64 u.1]) (λ_=>[.box [.int .i64 0,.int .i64 0,.str [],.int .i64 0]]) (λu=>s.length-u.1) (λu=>u.1<=s.length/\u.2.length<=u.1/\mb u.1 u.2 (s.drop u.1)=M) hc hb (a+1,[]) (by grind) ?_ ?_;.exact bU 1 (by rfl) rfl (by rfl) om (zD (by rfl) rfl)
 rintro⟨i,w⟩⟨hi,hw,hinv⟩;simp only at hi hw hinv;by_cases q:i<s.length;rotate_left;.obtain rfl:i=s.length:=om;rw[Cn]at hinv;refine zA ?_;simp[go_sem];exact ov (t:=mH) hinv
 have ei:=zO q om;obtain⟨x,hx⟩:=eX (s[i]);have aa:=FM x 39;simp only[C5]at aa;rw[A4 q,hx]at hinv;by_cases ae:x.toNat=39;rotate_left
 .rw[alr ae]at aa;rw[xn8 _ _ _ _ ae]at hinv;have ai:(s.take (i+1)).drop i=[x]:=by rw[Cu,A0 q,hx,List.drop_append,A8 (by grind),Cf,C1 om];simp
  refine zA ?_;simp[go_sem,q,hx,aa,ei];refine zJ om ?_;simp[go_sem,ai];refine zJ om ?_;simp[go_sem,ei];refine zH (i+1,w++[x]) ⟨om,(by grind),?_⟩;exact bU 1 (by rfl) rfl (by rfl) om (zD (by rfl) rfl)
 rw[als ae]at aa;by_cases q2:i+1<s.length;rotate_left
 .have al:s.drop (i+1)=[]:=(by grind);rw[al,mb,alq ae]at hinv;unfold Hv at hinv;have e1:((i:Int)+1==(s.length:Int))=true:=by grind
  refine zA ?_;simp[go_sem,q,hx,aa,ei,e1];by_cases af:64<w.length;.have ab:decide ((64:Int)<w.length)=true:=(by grind);rw[alq af]at hinv;simp[go_sem,ab];exact ov (t:=mH) hinv
  .have ab:decide ((64:Int)<w.length)=false:=(by grind);rw[alp af]at hinv;simp[go_sem,ab,ei];exact ov (t:=⟨3,0,w,0⟩) hinv
 have e1:((i:Int)+1==(s.length:Int))=false:=by grind
 have an:=zO q2 om;obtain⟨y,hy⟩:=eX (s[i+1]);have ah:=FM y 39;simp only[C5]at ah;have aj:s[i+1]?.getD 0=y:=by grind
 have ak:IntKind.i64.wrap ((i:Int)+1+1)=(i:Int)+2:=by grind
 rw[A4 q2,hy,mb,alq ae]at hinv;by_cases qy:y.toNat=39;rotate_left
 .rw[alp qy]at hinv;unfold Hv at hinv;rw[alr qy]at ah;have ad:((y.toNat:Int)!=39)=true:=by grind
  refine zA ?_;simp[go_sem,q,hx,aa,ei,e1];refine zJ om ?_;simp[go_sem,aj,ad];by_cases af:64<w.length;.have ab:decide ((64:Int)<w.length)=true:=(by grind);rw[alq af]at hinv;simp[go_sem,ab];exact ov (t:=mH) hinv
  .have ab:decide ((64:Int)<w.length)=false:=(by grind);rw[alp af]at hinv;simp[go_sem,ab,ei];exact ov (t:=⟨3,0,w,0⟩) hinv
 rw[alq qy]at hinv;rw[als qy]at ah;have ad:((y.toNat:Int)!=39)=false:=by grind
 have ai:(s.take (i+2)).drop (i+1)=[y]:=by rw[Cu,A0 q2,hy,List.drop_append,A8 (by grind),Cf,C1 om];simp
 refine zA ?_;simp[go_sem,q,hx,aa,ei,e1];have et:((i:Int)+2).toNat=i+2:=om;have ao:IntKind.i64.wrap ((i:Int)+1+1)=((i+2:Nat):Int):=om;refine zJ om ?_;simp[go_sem,aj,ad,ei,ak,et];refine zJ om ?_;simp[go_sem,ai];refine zJ om ?_;simp[go_sem,ak];refine zH (i+2,w++[y]) ⟨om,(by grind),?_⟩;exact bU 1 (by rfl) rfl (by rfl) om (zD (by rfl) rfl)
def jO (c:UInt8):Bool:=nh c||kg c
def fU:alW:=[40,41,44,59,42,61,60,62,43,45,47,37]
def je(s:alW)(a:Nat):TR:=if nh (s.getD a 0)=true then(⟨1,0,((s.drop a).takeWhile jO).map yR,0⟩,a+((s.drop a).takeWhile jO).length,0)else if kg (s.getD a 0)=true then sf a (s.drop a)else if(s.getD a 0).toNat=39then mb (a+1) [] (s.drop (a+1))else if a+1<s.length/\((s.drop a).take 2=[60,61]\/(s.drop a).take 2=[62,61]\/(s.drop a).take 2=[60,62])then(⟨4,0,(s.drop a).take 2,0⟩,a+2,0)else if fU.contains (s.getD a 0)=true then(⟨4,0,[s.getD a 0],0⟩,a+1,0)else(mH,0,13)
theorem xZ1(s:alW)(hl:s.length<=maxLen)(a:Nat)(ha:a<s.length):Pure prog 150 [.str s,.int .i64 a] (wq (je s a)):=by
 generalize hM:je s a=M;have af:=yY9 s hl a om;have ah:=xE6 s hl a ha;unfold je at hM;unfold maxLen at hl;have az:s.getD a 0=s[a]:=by grind
 rw[az]at hM;obtain⟨x,hx⟩:=eX (s[a]);rw[hx]at hM;have ab:=LY x;have ad:=Je x;generalize sf a (s.drop a)=n at af hM;generalize mb (a+1) [] (s.drop (a+1))=t at ah hM;have ret:∀(y:TR)(τ:St),y=M->cz (some (.cC [.agg [.int .i64 y.1.kind,.int .i64 y.1.place,.str y.1.s,.int .i64 y.1.n],.int .i64 y.2.1,.int .i64 y.2.2])) 0 (λr I=>r=wq M/\I=[]) τ:=λy τ h=>ov (t:=y.1) h;refine iV 0 func150 ntmps150 results150 λc hc hb=>?_;refine zA ?_;simp[go_sem,ha,hx];by_cases q1:nh x=true
 .rw[alq q1]at hM;rw[q1]at ab;refine pC ab ?_;simp[go_sem];refine zG (S:=Nat×alW) [0,1,4,7] (λu=>[.str s,.int .i64 u.1,.ptr 0 0,.str u.2]) (λ_=>[.box [.int .i64 0,.int .i64 0,.str [],.int .i64 0]]) (λu=>s.length-u.1) (λu=>u.1<=s.length/\u.2.length<=u.1/\((⟨1,0,u.2++((s.drop u.1).takeWhile jO).map yR,0⟩,u.1+((s.drop u.1).takeWhile jO).length,0):TR)=M) hc hb (a,[]) (by grind) ?_ ?_;.exact bU 1 (by rfl) rfl (by rfl) om (zD (by rfl) rfl)
  rintro⟨i,w⟩⟨hi,hw,hinv⟩;simp only at hi hw hinv;by_cases q:i<s.length;rotate_left;.obtain rfl:i=s.length:=om;rw[Cn]at hinv;simp only[List.takeWhile_nil,Bq,Aw,Cy,D7]at hinv;refine zA ?_;simp[go_sem];exact ov (t:=⟨1,0,w,0⟩) hinv
  have ei:=zO q om;obtain⟨y,hy⟩:=eX (s[i]);rw[A4 q,hy]at hinv;have a1:=LY y;have ae:=Je y;have ar:=Pr y;have yes:jO y=true->((⟨1,0,(w++[yR y])++((s.drop (i+1)).takeWhile jO).map yR,0⟩,i+1+((s.drop (i+1)).takeWhile jO).length,0):TR)=M:=λh=>by rw[D8 h]at hinv;grind
  have no:jO y=false->((⟨1,0,w,0⟩,i,0):TR)=M:=(by grind[List.takeWhile_cons_of_neg]);have au:Ie [[V.int .u8 ((yR y).toNat:Int)]]:=xX [yR y];have av:vL [V.int .u8 ((yR y).toNat:Int)]=yR y:=(alJ (Gk [yR y])).1;refine zA ?_;simp[go_sem,q,hy];refine pC a1 ?_;refine(A6 (nh y)).elim (λp1=>?_) (λp1=>?_);.have aw:=yes (by unfold jO;grind);simp[go_sem,p1,q,hy];refine pC ar ?_;simp[go_sem];refine zJ au ?_;simp[go_sem,av];refine zJ om ?_;simp[go_sem,ei];refine zH (i+1,w++[yR y]) ⟨om,(by grind),?_⟩;exact bU 1 (by rfl) rfl (by rfl) om (zD (by rfl) rfl)
  refine(A6 (kg y)).elim (λp2=>?_) (λp2=>?_);.have aw:=yes (by unfold jO;grind);simp[go_sem,p1,q,hy];refine pC ae ?_;simp[go_sem,p2,q,hy];refine pC ar ?_;simp[go_sem];refine zJ au ?_;simp[go_sem,av];refine zJ om ?_;simp[go_sem,ei];refine zH (i+1,w++[yR y]) ⟨om,(by grind),?_⟩;exact bU 1 (by rfl) rfl (by rfl) om (zD (by rfl) rfl)
  .have a6:=no (by unfold jO;grind);simp[go_sem,p1,q,hy];refine pC ae ?_;simp[go_sem,p2];exact ov (t:=⟨1,0,w,0⟩) a6
 have q1:nh x=false:=by grind
 rw[alp om]at hM;rw[q1]at ab;refine pC ab ?_;simp[go_sem,ha,hx];by_cases q2:kg x=true;.rw[alq q2]at hM;rw[q2]at ad;refine pC ad ?_;simp[go_sem];refine zL af cB (yD rfl) (Mg _) ?_;simp[go_sem,wq];exact ret _ _ hM
 have q2:kg x=false:=by grind
 rw[alp om]at hM;rw[q2]at ad;refine pC ad ?_;simp[go_sem,ha,hx];have aa:=FM x 39;simp only[C5]at aa;by_cases q3:x.toNat=39;.rw[alq q3]at hM;rw[als q3]at aa;simp[go_sem,aa];refine zL ah cB (yD rfl) (Mg _) ?_;simp[go_sem,wq];exact ret _ _ hM
 rw[alp q3]at hM;rw[alr q3]at aa;simp[go_sem,aa];have ax:∀(y:UInt8),((y.toNat:Int)==(x.toNat:Int))=(y==x):=λy=>by rw[Df];simp only[alx];exact⟨λh=>E5.1 om,(by grind)⟩
 have ea:IntKind.i64.wrap ((a:Int)+1)=((a+1:Nat):Int):=(by grind[zO]);have ai:(s.take (a+1)).drop a=[x]:=by rw[Cu,A0 ha,hx,List.drop_append,A8 (by grind),Cf,C1 om];simp
 by_cases qa:a+1<s.length;rotate_left
 .have aj:decide ((a:Int)+1<s.length)=false:=(by grind);rw[alp om]at hM;simp[go_sem,ea,aj];refine zG (S:=Nat) [0,1,4,9] (λk=>[.str s,.int .i64 a,.ptr 0 0,.int .i64 (k:Int)]) (λ_=>[.box [.int .i64 0,.int .i64 0,.str [],.int .i64 0]]) (λk=>12-k) (λk=>k<=12/\(if(fU.drop k).contains x=true then(⟨4,0,[x],0⟩,a+1,0)else(mH,0,13):TR)=M) hc hb 0 ⟨om,hM⟩ ?_ ?_;.exact bU 1 (by rfl) rfl (by rfl) om (zD (by rfl) rfl)
  rintro k⟨hk,hinv⟩;by_cases qk:k<12;rotate_left;.obtain rfl:k=12:=om;refine zA ?_;simp[go_sem];exact ov (t:=mH) hinv
  have ak:k<fU.length:=qk;have ek:=zO qk dC;have al:decide ((k:Int)<12)=true:=(by grind);obtain⟨y,hy⟩:=eX (fU[k]);rw[A4 ak,hy]at hinv;have an:[40,41,44,59,42,61,60,62,43,45,47,37][k]?.getD (0:UInt8)=y:=by
   have:fU[k]?.getD 0=y:=by grind
   exact this
  refine zA ?_;simp[go_sem,al];refine yA [] 1 sM (by rfl) kR ?_;simp[go_sem];refine zJ om ?_;simp[go_sem,ha,hx,an,ax];by_cases qe:(y==x)=true
  .have ao:y=x:=by grind
   rw[alq (by simp[ao])]at hinv;simp[go_sem,qe,ea];refine zJ om ?_;simp[go_sem,ai,ea];exact ov (t:=⟨4,0,[x],0⟩) hinv
  .have qe:(y==x)=false:=by grind
   have aq:(y::fU.drop (k+1)).contains x=(fU.drop (k+1)).contains x:=by rw[Dl,show(x==y)=false by grind];rfl
   rw[aq]at hinv;simp[go_sem,qe,ek];exact zH (k+1) ⟨om,(by grind),bU 1 (by rfl) rfl (by rfl) om (zD (by rfl) rfl)⟩
 have aj:decide ((a:Int)+1<s.length)=true:=(by grind);have ay:IntKind.i64.wrap ((a:Int)+2)=(a:Int)+2:=by grind[bX]
 have et:((a:Int)+2).toNat=a+2:=om;have ae:(s.drop a).take 2=(s.take (a+2)).drop a:=by grind
 rw[ae]at hM;simp[go_sem,ea,ay,et,aj];refine zJ om ?_;simp[go_sem];generalize(s.take (a+2)).drop a=two at hM;have yes:(two=[60,61]\/two=[62,61]\/two=[60,62])->((⟨4,0,two,0⟩,a+2,0):TR)=M:=(by grind);have no:¬(two=[60,61]\/two=[62,61]\/two=[60,62])->(if fU.contains x=true then(⟨4,0,[x],0⟩,a+1,0)else(mH,0,13):TR)=M:=(by grind);clear hM;by_cases qt:two=[60,61]\/two=[62,61]\/two=[60,62]
 .have hM:=yes qt;rcases qt with rfl|rfl|rfl;all_goals simp[go_sem,ay]
  all_goals exact ov (t:=⟨4,0,_,0⟩) hM
 .have hM:=no qt;have p1:(two==[60,61])=false:=by grind
  have p2:(two==[62,61])=false:=by grind
  have p3:(two==[60,62])=false:=by grind
  clear yes no qt;simp[go_sem,p1,p2,p3];refine zG (S:=Nat) [0,1,4,9] (λk=>[.str s,.int .i64 a,.ptr 0 0,.int .i64 (k:Int)]) (λ_=>[.box [.int .i64 0,.int .i64 0,.str [],.int .i64 0]]) (λk=>12-k) (λk=>k<=12/\(if(fU.drop k).contains x=true then(⟨4,0,[x],0⟩,a+1,0)else(mH,0,13):TR)=M) hc hb 0 (by grind) ?_ ?_;.exact bU 1 (by rfl) rfl (by rfl) om (zD (by rfl) rfl)
  rintro k⟨hk,hinv⟩;by_cases qk:k<12;rotate_left;.obtain rfl:k=12:=om;refine zA ?_;simp[go_sem];exact ov (t:=mH) hinv
  have ak:k<fU.length:=qk;have ek:=zO qk dC;have al:decide ((k:Int)<12)=true:=(by grind);obtain⟨y,hy⟩:=eX (fU[k]);rw[A4 ak,hy]at hinv;have an:[40,41,44,59,42,61,60,62,43,45,47,37][k]?.getD (0:UInt8)=y:=by
   have:fU[k]?.getD 0=y:=by grind
   simpa
  refine zA ?_;simp[go_sem,al];refine yA [] 1 sM kR kR ?_;simp[go_sem];refine zJ om ?_;simp[go_sem,ha,hx,an,ax];by_cases qe:(y==x)=true
  .have ao:y=x:=by grind
   rw[alq (by simp[ao])]at hinv;simp[go_sem,qe,ea];refine zJ om ?_;simp[go_sem,ai,ea];exact ov (t:=⟨4,0,[x],0⟩) hinv
  .have qe:(y==x)=false:=by grind
   have aq:(y::fU.drop (k+1)).contains x=(fU.drop (k+1)).contains x:=by grind
   rw[aq]at hinv;simp[go_sem,qe,ek];exact zH (k+1) ⟨om,(by grind),bU 1 (by rfl) rfl (by rfl) om (zD (by rfl) rfl)⟩
def ox(s:alW):Nat->Nat->List bR->List bR×Int|0,_,_=>([],0)|n+1,a,l=>if a<s.length then(if FL (s.getD a 0)=true then ox s n (a+1) l else if(je s a).2.2=0then ox s n (je s a).2.1 (l++[{(je s a).1with place:=a}])else([],(je s a).2.2))else(l++[⟨0,s.length,[],0⟩],0)
def km(s:alW):List bR×Int:=if 2000<s.length then([],3)else ox s (s.length+1) 0 []
theorem Uy:∀(l:alW)(v r:Int),0<=v->v<=9223372036854775807->ow v l=some r->0<=r/\r<=9223372036854775807
 |[],v,r,h0,h1,h=>by rw[ow]at h;cases h;exact⟨h0,h1⟩|c::l,v,r,h0,h1,h=>by
  rw[ow]at h;split at h
  .rename_i hd;have hr:=Ux hd;split at h;.cases h
   .exact Uy l _ r om om h
  .cases h;exact⟨h0,h1⟩
theorem PN:∀(k:Nat)(l:alW),l.length<=k->∀(i:Nat)(w:alW),(mb i w l).2.2=0->i<(mb i w l).2.1/\(mb i w l).2.1<=i+l.length/\(mb i w l).1.s.length<=64/\(mb i w l).1.n=0
 |0,l,hk,i,w,h=>by have:l=[]:=B3 om;subst this;simp[mb]at h|k+1,l,hk,i,w,h=>by match l,hk with
  |[],_=>simp[mb]at h|[c],_=>
   rw[mb]at h⊢;split at h
   .rename_i hc;rw[alq hc];unfold Hv at h⊢;split at h;.simp at h
    .rename_i aa;rw[alp aa];exact⟨sM,sM,by simp only;omega,rfl⟩
   .simp at h|c::c2::l,hk=>
   rw[mb]at h⊢;split at h
   .rename_i hc;rw[alq hc];split at h;.rename_i ab;rw[alq ab];have:=PN k l (by simp at hk;omega) _ _ h;simp only[Ah];omega
    .rename_i ab;rw[alp ab];unfold Hv at h⊢;split at h;.simp at h
     .rename_i aa;rw[alp aa];exact⟨sM,sM,by simp only;omega,rfl⟩
   .rename_i hc;rw[alp hc];have:=PN k (c2::l) (by simp at hk⊢;omega) _ _ h;simp only[Ah]at this⊢;omega
theorem PO{p:UInt8->Bool}:∀l:alW,(l.takeWhile p).length<=l.length
 |[]=>A7 _|c::l=>by rw[List.takeWhile_cons];have:=PO (p:=p) l;split<;>simp only[Ah,Cy]<;>omega
theorem Uz{s:alW}{a:Nat}(ha:a<s.length)(h:(je s a).2.2=0):a<(je s a).2.1/\(je s a).2.1<=s.length/\(je s a).1.s.length<=s.length+64/\0<=(je s a).1.n/\(je s a).1.n<=9223372036854775807:=by
 have aa:s.getD a 0=s[a]:=by rw[Aj,A0 ha];rfl
 have ab:=A4 ha;unfold je at h⊢;rw[aa,ab]at h⊢;obtain⟨x,hx⟩:=eX (s[a]);rw[hx]at h⊢;have hl:(s.drop (a+1)).length=s.length-(a+1):=D9;generalize s.drop (a+1)=l at h hl⊢;split at h
 .rename_i q1;rw[alq q1];have hw:jO x:=by unfold jO;rw[q1];rfl
  have:=PO (p:=jO) l;rw[D8 hw];simp only[Ah,Au];omega
 rename_i q1;rw[alp q1];split at h
 .rename_i q2;rw[alq q2];unfold sf at h⊢;split at h;.simp at h
  rename_i r hr;have ad:=Uy _ 0 r (Int.le_refl _) dC hr;split at h;.simp at h
  rename_i hle;rw[alp hle,D8 q2];have:=PO (p:=kg) l;simp only[Ah,Cy];omega
 rename_i q2;rw[alp q2];split at h;.rename_i q3;rw[alq q3];have:=PN l.length l (A7 _) _ _ h;omega
 rename_i q3;rw[alp q3];split at h;.rename_i q4;rw[alq q4];simp only[Cf];omega
 rename_i q4;rw[alp q4];split at h;.rename_i q5;rw[alq q5];simp only[Bh];omega
 .simp at h
def Mh(t:bR):Prop:=t.s.length<=3000/\0<=t.n/\t.n<=9223372036854775807
theorem PQ{s:alW}(hs:s.length<=2000):∀(n a:Nat)(l:List bR),s.length<n+a->a<=s.length->l.length<=a->(∀t∈l,Mh t)->(ox s n a l).2=0->∃l',(ox s n a l).1=l'++[⟨0,s.length,[],0⟩]/\l'.length<=s.length/\∀t∈l',Mh t
 |0,a,l,hf,ha,_,_,_=>by omega|n+1,a,l,hf,ha,hl,ht,h=>by
  unfold ox at h⊢;by_cases q:a<s.length;rotate_left;.rw[alp q];exact⟨l,rfl,om,ht⟩
  rw[alq q]at h⊢;by_cases q2:FL (s.getD a 0)=true;.rw[alq q2]at h⊢;exact PQ hs n (a+1) l om om om ht h
  rw[alp q2]at h⊢;by_cases q3:(je s a).2.2=0
  .rw[alq q3]at h⊢;have ho:=Uz q q3;refine PQ hs n _ _ om om (by simp;omega) (λt aa=>?_) h;rw[Ai]at aa;rcases aa with aa|aa;.exact ht t aa
   .simp only[Af,Bs,alG]at aa;subst aa;unfold Mh;simp only;omega
  .rw[alp q3]at h;exact absurd h q3
theorem UA{s:alW}(h:(km s).2=0):s.length<=2000/\fk (km s).1/\ia (km s).1/\1<=(km s).1.length/\(km s).1.length<=2001:=by
 unfold km at h⊢;split at h;.simp at h
 rename_i hl;rw[alp hl];obtain⟨l',h1,h2,h3⟩:=PQ om _ _ _ om (A5 _) (A7 _) (λt ht=>by cases ht) h;have h4:∀t∈l'++[⟨0,s.length,[],0⟩],Mh t:=λt ht=>by
  rw[Ai]at ht;rcases ht with ht|ht;.exact h3 t ht
  .simp only[Af,Bs,alG]at ht;subst ht;exact⟨A5 _,Int.le_refl _,sM⟩
 rw[h1];refine⟨om,⟨by simp;omega,λi hi=>?_,λt ht=>?_⟩,⟨λt ht=>?_,λt ht=>(h4 t ht).2⟩,sM,by simp;omega⟩
 .have:i=l'.length:=by simp at hi;omega
  subst this;rw[Aj,Ar (A7 _),Nat.sub_self];rfl
 .have:=(h4 t ht).1;unfold maxLen;omega
 .have:=(h4 t ht).1;omega
def ze(x:List bR×Int):V:=.cC [.sl .ro (x.1.map bR.row),.int .i64 x.2]
theorem PS{g:Tag}{l:List bR}{M:List bR×Int}(h:(l,e)=M):cz (some (.cC [.sl g (l.map bR.row),.int .i64 e])) 0 (λr I=>r=ze M/\I=[]) τ:=by subst h;exact zQ (r:=.cC [.sl .ro (l.map bR.row),.int .i64 e]) (yO ⟨rP,xD rfl,tV⟩) ⟨rfl,rfl⟩
theorem wD1(s:alW)(hl:s.length<=maxLen):Pure prog 72 [.str s] (ze (km s)):=by
 generalize hM:km s=M;unfold km at hM;unfold maxLen at hl;refine iV 0 func72 ntmps72 results72 λc hc hb=>?_;refine zA ?_;simp[go_sem];by_cases q0:2000<s.length;.rw[alq q0]at hM;have ad:decide ((2000:Int)<s.length)=true:=als om;simp[go_sem,ad];exact PS (l:=[]) hM
 rw[alp q0]at hM;have ad:decide ((2000:Int)<s.length)=false:=alr om;simp[go_sem,ad];refine wQ 4 4 dC sg ?_;refine zG (S:=Nat×List bR) [0,4,5] (λu=>[.str s,.sl (.app 0) (u.2.map bR.row),.int .i64 u.1]) (λu=>[.app u.2.length 4]) (λu=>s.length-u.1) (λu=>u.1<=s.length/\u.2.length<=u.1/\∃n,s.length<n+u.1/\ox s n u.1 u.2=M) hc hb (0,[]) ⟨A5 _,A7 _,s.length+1,by simp only;omega,hM⟩ ?_ ?_;.exact aN 1 (by rfl)
 rintro⟨a,l⟩⟨ha,af,n,hn,hinv⟩;simp only at ha af hn hinv;obtain⟨n,rfl⟩:∃m,n=m+1:=⟨n-1,om⟩;rw[ox]at hinv;by_cases q:a<s.length;rotate_left;.rw[alp q]at hinv;refine zA ?_;simp[go_sem,q];refine zJ ⟨om,zZ rfl⟩ ?_;simp[go_sem];have hr:=λg τ=>PS (g:=g) (τ:=τ) hinv;simp at hr;exact hr _ _
 rw[alq q]at hinv;have ea:=zO q om;obtain⟨x,hx⟩:=eX (s[a]);have ah:s.getD a 0=x:=by rw[Aj,A0 q,hx];rfl
 rw[ah]at hinv;have aa:=xl0 x;by_cases q2:FL x=true;.rw[alq q2]at hinv;rw[q2]at aa;refine zA ?_;simp[go_sem,q,hx];refine pC aa ?_;simp[go_sem,ea];exact zH (a+1,l) ⟨by simp only;omega,⟨by simp only;omega,by simp only;omega,n,by simp only;omega,hinv⟩,aN 1 (by rfl)⟩
 have q2:FL x=false:=sU q2;rw[alp (by rw[q2];decide)]at hinv;rw[q2]at aa;have ab:=xZ1 s (by unfold maxLen;omega) a q;have cZ:=Uz q;generalize je s a=o at ab cZ hinv;by_cases q3:o.2.2=0;.rw[alq q3]at hinv;have cZ:=cZ q3;have ae:(o.2.2!=0)=false:=sU q3;refine zA ?_;simp[go_sem,q,hx];refine pC aa ?_;simp[go_sem];refine zL ab cB (yD rfl) (Mg _) ?_;simp[go_sem,wq,ae];refine zJ ⟨om,zZ rfl⟩ ?_;simp[go_sem];refine zH (o.2.1,l++[{o.1with place:=a}]) ⟨by simp only;omega,⟨by simp only;omega,by simp;omega,n,by simp only;omega,hinv⟩,?_⟩;exact aN 1 (by rfl)
 .rw[alp q3]at hinv;have ae:(o.2.2!=0)=true:=sU q3;refine zA ?_;simp[go_sem,q,hx];refine pC aa ?_;simp[go_sem];refine zL ab cB (yD rfl) (Mg _) ?_;simp[go_sem,wq,ae];exact PS (l:=[]) hinv
variable {L:List bR}
def Mi:alW:= [83,69,76,69,67,84]
def Mj:alW:= [73,78,83,69,82,84]
def Mk:alW:= [85,80,68,65,84,69]
def FN:alW:= [68,69,76,69,84,69]
def mc(L:List bR)(s:RS):bZ×RS:=if dH L Mi s=true then wj L (zV s)else if dH L Mj s=true then wk L (zV s)else if dH L Mk s=true then wm L (zV s)else let n:=xH L (yJ L sa (yJ L FN s))
  (⟨4,n.1,[],[],[],(kP L n.2).1,(kP L n.2).2,[],false,0⟩,pX L n.2)
theorem xm7(hL:fk L){s:RS}(h:dI L s)(ho:s.cp=0):UI L s (wj L s).2:=by unfold wj;have h1:=PH hL h ho;have h2:=h1.trans (yN hL sa h1.cG);have h3:=h2.trans (ou hL h2.cG);have h4:=h3.trans (Hs hL h3.cG (h3.cp.trans ho));have h5:=h4.trans (PG hL h4.cG);exact h5.trans (Uu hL h5.cG)
theorem PT(hL:fk L){s:RS}(h:dI L s)(ho:s.cp=0):UI L s (mc L s).2:=by
 unfold mc;split;.have h1:=xC hL h ‹_›;exact h1.trans (xm7 hL h1.cG (h1.cp.trans ho))
 split;.have h1:=xC hL h ‹_›;exact h1.trans (xi0 hL h1.cG (h1.cp.trans ho))
 split;.have h1:=xC hL h ‹_›;exact h1.trans (xo6 hL h1.cG (h1.cp.trans ho))
 .have h1:=yN hL FN h;have h2:=h1.trans (yN hL sa h1.cG);have h3:=h2.trans (ou hL h2.cG);exact h3.trans (Hs hL h3.cG (h3.cp.trans ho))
theorem wB5(L:List bR)(hL:fk L)(s:RS)(hs:dI L s)(ho:s.cp=0):bN prog 75 [.ptr 0 0] [rB L s] (RT L (mc L s)):=by
 generalize hM:mc L s=M;unfold mc at hM;have ret:∀(x:bZ×RS)(τ:St),x=M->cz (some (.agg x.1.row)) 1 (RT L M) (rB L x.2::τ):=λx τ h=>qV (g1:=.ro) (g2:=.ro) (g3:=.ro) (g4:=.ro) (st:=x.1) h;refine iW 1 func75 ntmps75 results75 λc hc hb=>zM ?_;simp[go_sem];by_cases q1:dH L Mi s=true;.rw[alq q1]at hM;have aa:=xI8 L hL (zV s) (hs.next hL q1) ho;generalize wj L (zV s)=x at aa hM;refine pR (xY L hL s hs _ q1) ?_;simp[go_sem];refine Jf aa cB gj (Jn _) ?_;simp[go_sem];exact ret x _ hM
 have q1:dH L Mi s=false:=sU q1;rw[alp (by rw[q1];decide)]at hM;refine pR (jZ L hL s hs _ q1) ?_;simp[go_sem];by_cases q2:dH L Mj s=true;.rw[alq q2]at hM;have aa:=xD5 L hL (zV s) (hs.next hL q2) ho;generalize wk L (zV s)=x at aa hM;refine pR (xY L hL s hs _ q2) ?_;simp[go_sem];refine Jf aa cB gj (Jn _) ?_;simp[go_sem];exact ret x _ hM
 have q2:dH L Mj s=false:=sU q2;rw[alp (by rw[q2];decide)]at hM;refine pR (jZ L hL s hs _ q2) ?_;simp[go_sem];by_cases q3:dH L Mk s=true;.rw[alq q3]at hM;have aa:=xK8 L hL (zV s) (hs.next hL q3) ho;generalize wm L (zV s)=x at aa hM;refine pR (xY L hL s hs _ q3) ?_;simp[go_sem];refine Jf aa cB gj (Jn _) ?_;simp[go_sem];exact ret x _ hM
 have q3:dH L Mk s=false:=sU q3;rw[alp (by rw[q3];decide)]at hM;refine pR (jZ L hL s hs _ q3) ?_;simp[go_sem];have af:=ma L hL s hs FN;have ab:=yN hL FN hs;generalize yJ L FN s=s1 at af ab hM;have ah:=ma L hL s1 ab.cG sa;have ad:=ab.trans (yN hL sa ab.cG);generalize yJ L sa s1=s2 at ah ad hM;have hn:=Fw L hL s2 ad.cG;have ae:=ad.trans (ou hL ad.cG);generalize xH L s2=n at hn ae hM;obtain⟨nm,s3⟩:=n;simp only at hn ae hM;obtain⟨gw,hw⟩:=PD L hL s3 ae.cG (ae.cp.trans ho) [tz,.box [.int .i64 4,.str nm,.sl .full [],.sl .full [],.sl .full [],.bool false,.int .i64 0,.str [],.int .i64 0,.int .i64 0,.str [],.sl .full [],.str [],.bool false,.int .i64 0]] 1 _ _ _ _ _ _ _ _ rfl;generalize pX L s3=s4 at hw hM;generalize kP L s3=w at hw hM;refine pR af ?_;simp[go_sem];refine pR ah ?_;simp[go_sem];refine pR hn ?_;simp[go_sem];refine Hb hw cB ?_;rintro r I⟨rfl,rfl⟩_;simp[go_sem];exact qV (st:=⟨4,nm,[],[],[],w.1,w.2,[],false,0⟩) hM
theorem lM{P:Program}{c:Ctx}{f:FuncId}{cd args ct:List V}{o:Ob}{L:List bR}{s:RS}{v:V}{KV:V->St->Prop}(hc:bN P f ct [rB L s] (λr I=>r=v/\I=[rB L s']))(hb:xI P f) (aa:bP (cW (cO [1] (τ.length+2))) ct (args++cd))(hn:gY v)(hk:KV v (o::rB L s'::τ)):jn P c (.fn f cd) args (o::rB L s::τ) KV fx:=by refine mY 1 hc hb rfl (L4 _ _ _) aa (λr I h=>⟨_,h.2,L4 _ _ _⟩) ?_;rintro r o2⟨rfl,h2⟩;obtain rfl:o2=rB L s':=sU h2;rw[CI hn];exact hk
theorem UB{P:Program}{c:Ctx}{n:Nat}{f:FuncId}{cd args ct:List V}{o:Ob}{L:List bR}{s:RS}{v:V}{KV:V->St->Prop}(hc:bN P f ct [rB L s] (λr I=>r=v/\I=[rB L s']))(hb:xI P f) (aa:bP (cW (cO [1] (τ.length+2))) ct (args++cd))(hn:gY v)(hk:KV v (o::rB L s'::τ)):qS P c ⟨2,n,[],none⟩ 3 (.fn f cd) args (o::rB L s::τ) KV fx:=by
 have ab:∀(N:Nat)(s:RS),yC (cO [1] N) (rB L s)=rB L s:=λN s=>yV (n:=0) (λ_ h=>absurd h (Nat.not_lt_zero _)) (L4 _ _ _);have e:yY [1] (o::rB L s::τ) [rB L s']=o::rB L s'::τ:=by simp only[yY,Bh,Bx,D2,C7,B1,Ag,Bq,fW,Aw,ab];rfl
 refine G7 hc hb [1] sM rfl (λi j q h1 h2=>?_) aa (.inr ?_) ?_;.match i with |0=>simp at h1 h2;subst h1;subst h2;rw[ab];rfl|i+1=>simp at h1
 .rw[e];exact Kp.jq (I:=o::rB L s::τ) (id:=1) (o:=rB L s') (.inl sM)
 .rw[e,CI hn];exact hk
theorem nP{N:Nat}{l l':List V}(h:bP (cW (cO [1] N)) l l'):bP (cW (cO [1] N)) (.ptr 0 0::l) (.ptr 1 0::l'):=⟨.inl rfl,h⟩
theorem FO{N:Nat}:bP (cW (cO [1] N)) [.ptr 0 0] [.ptr 1 0]:=nP trivial
variable {L:List bR}
def FP:alW:= [65,83]
def Jp:alW:= [79,70]
def Jq:alW:= [83,89,83,84,69,77]
def Jr:alW:= [84,73,77,69]
def PU:alW:= [66,79,85,78,68]
def PV:List alW:= [Mi,Mj,Mk,FN]
def si(L:List bR)(s:RS):Bool:=!(eL L s PV).isEmpty
def tC(L:List bR):Nat->List bZ->RS->List bZ×RS
 |0,l,s=>(l,s)|n+1,l,s=>if s.err=0then if(kO L l.length 8 (si L s) s).err=0then if dH L [59] (mc L s).2=true then if dH L FP (zV (mc L s).2)=true\/(cK L (zV (mc L s).2)).kind=0then(l++[(mc L s).1],zV (mc L s).2)else tC L n (l++[(mc L s).1]) (zV (mc L s).2)else(l++[(mc L s).1],(mc L s).2)else(l,kO L l.length 8 (si L s) s)else(l,s)
def DM(L:List bR)(s:RS):RS:=yJ L Jr (yJ L Jq (yJ L Jp (zV s)))
def uN(L:List bR)(s:RS):(Int×Int)×RS:=if dH L FP s=true then if dH L PU (DM L s)=true then((2,(iB L (zV (DM L s))).1),(iB L (zV (DM L s))).2)else((1,(iB L (DM L s)).1),(iB L (DM L s)).2)else((0,0),s)
def p0(L:List bR)(s:RS):RS:=if s.err=0/\(cK L s).kind≠0then iZ 13 (cK L s).place s else s
def DN:RS:=⟨0,0,0,0⟩
def uO:eF:=⟨0,0,[]⟩
def Ml(L:List bR):eF×Int×Int:=let x:=tC L 9 [] DN
 let a:=uN L x.2
 let e:=p0 L a.2
 if e.err=0then(⟨a.1.1,a.1.2,x.1⟩,0,0)else(uO,e.place,e.err)
def tD(s:alW):eF×Int×Int:=if(km s).2=0then Ml (km s).1else(uO,0,(km s).2)
theorem UC(hL:fk L):∀(n:Nat)(l:List bZ)(s:RS),dI L s->s.cp=0->UI L s (tC L n l s).2
 |0,_,_,h,_=>UI.refl h|n+1,l,s,h,ho=>by
  unfold tC;split
  .split
   .have h1:=PT hL h ho;split
    .have h2:=h1.trans (xC hL h1.cG ‹_›);split;.exact h2
     .exact h2.trans (UC hL n _ _ h2.cG (h2.cp.trans ho))
    .exact h1
   .exact uL h
  .exact UI.refl h
theorem UD(hL:fk L){s:RS}(h:dI L s)(hi:dH L FP s):UI L s (DM L s):=by unfold DM;have h1:=xC hL h hi;have h2:=h1.trans (yN hL Jp h1.cG);have h3:=h2.trans (yN hL Jq h2.cG);exact h3.trans (yN hL Jr h3.cG)
theorem UE(hL:fk L){s:RS}(h:dI L s):UI L s (uN L s).2:=by
 unfold uN;split
 .rename_i hi;have h1:=UD hL h hi;split;.have h2:=h1.trans (xC hL h1.cG ‹_›);exact h2.trans (PA hL h2.cG)
  .exact h1.trans (PA hL h1.cG)
 grind[UI.refl]
def FQ(x:eF×Int×Int):V:=.cC [.agg x.1.row,.int .i64 x.2.1,.int .i64 x.2.2]
theorem PX{g:Tag}{l:eF}{p:Int}{M:eF×Int×Int}(h:(l,p,e)=M):cz (some (.cC [.agg [.int .i64 l.mode,.int .i64 l.n,.sl g (l.stmts.map bZ.row)],.int .i64 p,.int .i64 e])) 0 (λr I=>r=FQ M/\I=[]) τ:=by subst h;exact zQ (r:=.cC [.agg [.int .i64 l.mode,.int .i64 l.n,.sl .ro (l.stmts.map bZ.row)],.int .i64 p,.int .i64 e]) (yO ⟨wH ⟨zF rfl,zF rfl,zY,tV⟩,xD rfl,xD rfl,tV⟩) (by trivial)
def mf(m n:Int)(l:List bZ):Ob:=.box [.int .i64 m,.int .i64 n,.sl (.app 3) (l.map bZ.row)]
def sj:Ob:=.box [.int .i64 0,.int .i64 0,.sl .full []]
theorem wg4(s:alW)(hl:s.length<=maxLen):Pure prog 30 [.str s] (FQ (tD s)):=by
 generalize hM:tD s=M;unfold tD at hM;have ah:=wD1 s hl;have cZ:=UA (s:=s);generalize km s=x at ah cZ hM;obtain⟨L,e⟩:=x;simp only at cZ hM;refine iV 0 func30 ntmps30 results30 λc hc hb=>?_;by_cases qe:e=0;rotate_left
 .rw[alp qe]at hM;have ar:(e !=0)=true:=by grind
  refine zA ?_;simp[go_sem];refine pC ah ?_;simp[go_sem,ze,ar];exact PX (l:=uO) hM
 obtain⟨_,hL,hG,aE,aF⟩:=cZ qe;rw[alq qe]at hM;have ar:(e !=0)=false:=by grind
 have h0:dI L DN:=⟨by simpa,dC⟩;unfold Ml at hM;obtain⟨X,hX⟩:=eX (tC L 9 [] DN);rw[hX]at hM;refine zN (zA ?_);simp[go_sem];refine zN (zA ?_);simp[go_sem];refine pC ah ?_;simp[go_sem,ze];refine zN (zA ?_);simp[go_sem,ar];refine zN (zA ?_);simp[go_sem];refine zN (zA ?_);simp[go_sem];refine Fg 2 2 15 _ dC rfl rfl ?_;simp only[C4,Cj];refine nK (S:=List bZ×RS) [2,7,8] (λ_=>[.ptr 0 0,.ptr 1 0,.ptr 2 0]) (λu=>[sj,rB L u.2,mf 0 0 u.1,.app u.1.length 15]) (λu=>dI L u.2/\u.2.cp=0/\u=X) hc hb ?_ ?_
 .refine yt ?_;refine zG (S:=List bZ×RS) [2,7,8] (λ_=>[.ptr 0 0,.ptr 1 0,.ptr 2 0]) (λu=>[sj,rB L u.2,mf 0 0 u.1,.app u.1.length 15]) (λu=>9-u.1.length) (λu=>u.1.length<=8/\dI L u.2/\u.2.cp=0/\tC L (9-u.1.length) u.1 u.2=X) hc hb ([],DN) (by trivial) ?_ ?_;.exact bU 4 (by rfl) rfl (by rfl) dC (zD (by rfl) rfl)
  rintro⟨l,s1⟩⟨aB,hs,ho,hinv⟩;simp only at aB hs ho hinv;rw[show 9-l.length=(8-l.length)+1by omega,tC]at hinv;by_cases q1:s1.err=0;rotate_left
  .rw[alp q1]at hinv;have ab:(s1.err==0)=false:=by grind
   refine zA ?_;simp[go_sem,rB,ab];exact zH (l,s1) ⟨(by grind),bU 4 (by rfl) rfl (by rfl) dC (zD (by rfl) rfl)⟩
  have ab:(s1.err==0)=true:=by grind
  rw[alq q1]at hinv;have ae:=DI L hL s1 hs PV dC;have aa:=Jm L hL s1 hs l.length 8 (si L s1);have ao:=wg (L:=L) (n:=l.length) (eE:=8) (b:=si L s1) (s:=s1);have ai:=uL (L:=L) (n:=l.length) (eE:=8) (b:=si L s1) hs;unfold si at aa ao ai hinv;generalize eL L s1 PV=an at ae aa ao ai hinv;generalize kO L l.length 8 (!an.isEmpty) s1=m at aa ao ai hinv;by_cases q2:m.err=0;rotate_left
  .rw[alp q2]at hinv;have ad:(m.err==0)=false:=by grind
   rw[ad]at aa;refine zA ?_;simp[go_sem,rB,ab];refine lM ae cB (nP ⟨zK,tV⟩) rfl ?_;simp[go_sem,mf];refine lM aa cB (nP ⟨zC rfl,zC rfl,zC rfl,tV⟩) rfl ?_;simp[go_sem,rB];exact zH (l,m) ⟨⟨ai.cG,ai.cp.trans ho,hinv⟩,bU 4 (by rfl) rfl (by rfl) dC (zD (by rfl) rfl)⟩
  have ad:(m.err==0)=true:=by grind
  rw[ad]at aa;obtain⟨_,aG,rfl⟩:=ao q2;rw[alq q2]at hinv;have au:=wB5 L hL m hs ho;have aq:=PT hL hs ho;generalize mc L m=x at au aq hinv;obtain⟨st,s2⟩:=x;simp only at aq hinv;have aj:=aq.cG;have aC:=aq.cp.trans ho;by_cases q3:dH L [59] s2=true;rotate_left
  .have q3:dH L [59] s2=false:=by grind
   rw[alp om]at hinv;refine zA ?_;simp[go_sem,rB,ab];refine lM ae cB (nP ⟨zK,tV⟩) rfl ?_;simp[go_sem,mf];refine lM aa cB (nP ⟨zC rfl,zC rfl,zC rfl,tV⟩) rfl ?_;simp[go_sem];refine wP [(3,3)] 2 4 sM (by rfl) kR ?_;simp[go_sem];refine UB au cB FO (Jn _) ?_;simp[go_sem];refine zJ ⟨om,zZ rfl⟩ ?_;simp[go_sem];refine lM (jZ L hL s2 aj _ q3) cB (nP ⟨zC rfl,tV⟩) rfl ?_;simp[go_sem,rB];exact zH (l++[st],s2) ⟨(by grind),aM 4 (by rfl) (zD (by rfl) rfl)⟩
  rw[alq q3]at hinv;have av:=aj.next hL q3;have a1:=jM L hL (zV s2) av FP;have af:=oi L hL (zV s2) av;generalize dH L FP (zV s2)=ba at a1 hinv;generalize cK L (zV s2)=tk at af hinv;refine zA ?_;simp[go_sem,rB,ab];refine lM ae cB (nP ⟨zK,tV⟩) rfl ?_;simp[go_sem,mf];refine lM aa cB (nP ⟨zC rfl,zC rfl,zC rfl,tV⟩) rfl ?_;simp[go_sem];refine wP [(3,3)] 2 4 sM (by rfl) kR ?_;simp[go_sem];refine UB au cB FO (Jn _) ?_;simp[go_sem];refine zJ ⟨om,zZ rfl⟩ ?_;simp[go_sem];refine lM (xY L hL s2 aj _ q3) cB (nP ⟨zC rfl,tV⟩) rfl ?_;simp[go_sem];refine lM a1 cB (nP ⟨zC rfl,tV⟩) rfl ?_;refine(A6 ba).elim (λq4=>?_) (λq4=>?_);.rw[alq (.inl q4)]at hinv;simp[go_sem,q4,rB];exact zH (l++[st],zV s2) ⟨(by trivial),aM 4 (by rfl) (zD (by rfl) rfl)⟩
  simp[go_sem,q4];refine lM af cB FO rfl ?_;by_cases q5:tk.kind=0
  .have aw:(tk.kind==0)=true:=by grind
   rw[alq (.inr q5)]at hinv;simp[go_sem,aw,rB];exact zH (l++[st],zV s2) ⟨(by trivial),aM 4 (by rfl) (zD (by rfl) rfl)⟩
  .have aw:(tk.kind==0)=false:=by grind
   rw[alp (by grind)]at hinv;simp[go_sem,aw,rB];refine zH (l++[st],zV s2) ⟨by grind,⟨by grind,av,aC,by grind⟩,aM 4 (by rfl) (zD (by rfl) rfl)⟩
 .rintro⟨l,s1⟩⟨hs,ho,aD⟩;simp only at hs ho;rw[<-aD]at hM;simp only at hM;have ax:=UE hL hs;refine nK (S:=(Int×Int)×RS) [2,7,8] (λ_=>[.ptr 0 0,.ptr 1 0,.ptr 2 0]) (λu=>[sj,rB L u.2,mf u.1.1 u.1.2 l,.app l.length 15]) (λu=>u=uN L s1) hc hb ?_ ?_
  .obtain⟨A,hA⟩:=eX (uN L s1);rw[hA];unfold uN DM at hA;by_cases q1:dH L FP s1=true;rotate_left
   .have q1:dH L FP s1=false:=by grind
    rw[alp om]at hA;refine zA ?_;simp[go_sem];refine lM (jZ L hL s1 hs _ q1) cB (nP ⟨zC rfl,tV⟩) rfl ?_;simp[go_sem];exact zH ((0,0),s1) ⟨hA,bU 4 (by rfl) rfl (by rfl) dC (zD (by rfl) rfl)⟩
   rw[alq q1]at hA;have a6:=hs.next hL q1;have a7:=ma L hL _ a6 Jp;have ay:=vZ hL (w:=Jp) a6;generalize yJ L Jp (zV s1)=u1 at a7 ay hA;have a8:=ma L hL _ ay Jq;have az:=vZ hL (w:=Jq) ay;generalize yJ L Jq u1=u2 at a8 az hA;have aA:=ma L hL _ az Jr;have ak:=vZ hL (w:=Jr) az;generalize yJ L Jr u2=u3 at aA ak hA;refine zA ?_;simp[go_sem];refine lM (xY L hL s1 hs _ q1) cB (nP ⟨zC rfl,tV⟩) rfl ?_;simp[go_sem];refine lM a7 cB (nP ⟨zC rfl,tV⟩) rfl ?_;simp[go_sem];refine lM a8 cB (nP ⟨zC rfl,tV⟩) rfl ?_;simp[go_sem];refine lM aA cB (nP ⟨zC rfl,tV⟩) rfl ?_;simp[go_sem,mf];by_cases q2:dH L PU u3=true;.rw[alq q2]at hA;have al:=Hl L hL _ (ak.next hL q2);generalize iB L (zV u3)=nn at al hA;refine lM (xY L hL u3 ak _ q2) cB (nP ⟨zC rfl,tV⟩) rfl ?_;simp[go_sem];refine lM al cB FO rfl ?_;simp[go_sem];exact zH ((2,nn.1),nn.2) ⟨hA,bU 4 (by rfl) rfl (by rfl) dC (zD (by rfl) rfl)⟩
   .have q2:dH L PU u3=false:=by grind
    rw[alp om]at hA;have al:=Hl L hL _ ak;generalize iB L u3=nn at al hA;refine lM (jZ L hL u3 ak _ q2) cB (nP ⟨zC rfl,tV⟩) rfl ?_;simp[go_sem];refine lM al cB FO rfl ?_;simp[go_sem];exact zH ((1,nn.1),nn.2) ⟨hA,bU 4 (by rfl) rfl (by rfl) dC (zD (by rfl) rfl)⟩
  .rintro _ rfl;generalize uN L s1=A at ax hM;obtain⟨⟨m,n⟩,s2⟩:=A;simp only at ax hM;have aj:=ax.cG;refine nK (S:=RS) [2,7,8] (λ_=>[.ptr 0 0,.ptr 1 0,.ptr 2 0]) (λu=>[sj,rB L u,mf m n l,.app l.length 15]) (λu=>u=p0 L s2) hc hb ?_ ?_
   .have af:=oi L hL s2 aj;have hf:=DH L s2 13 (cK L s2).place;obtain⟨E,hE⟩:=eX (p0 L s2);rw[hE];unfold p0 at hE;generalize cK L s2=tk at af hf hE;generalize iZ 13 tk.place s2=f at hf hE;refine zA ?_;simp[go_sem,rB];by_cases q1:s2.err=0;rotate_left
    .have ab:(s2.err==0)=false:=by grind
     rw[alp om]at hE;simp[go_sem,ab];exact zH s2 ⟨hE,bU 4 (by rfl) rfl (by rfl) dC (zD (by rfl) rfl)⟩
    have ab:(s2.err==0)=true:=by grind
    simp[go_sem,ab];refine lM af cB FO rfl ?_;by_cases q2:tk.kind=0
    .have ad:(tk.kind !=0)=false:=by grind
     rw[alp om]at hE;simp[go_sem,ad,rB];exact zH s2 ⟨hE,bU 4 (by rfl) rfl (by rfl) dC (zD (by rfl) rfl)⟩
    .have ad:(tk.kind !=0)=true:=by grind
     rw[alq ⟨q1,q2⟩]at hE;simp[go_sem,ad];refine lM af cB FO rfl ?_;simp[go_sem];refine lM hf cB (nP ⟨zC rfl,zC rfl,tV⟩) rfl ?_;simp[go_sem,rB];exact zH f ⟨hE,bU 4 (by rfl) rfl (by rfl) dC (zD (by rfl) rfl)⟩
   .rintro _ rfl;generalize p0 L s2=E at hM;refine zA ?_;simp[go_sem,rB];by_cases q1:E.err=0
    .have ab:(E.err !=0)=false:=by grind
     rw[alq q1]at hM;simp[go_sem,ab,sj,mf];exact PX (l:=⟨m,n,l⟩) hM
    .have ab:(E.err !=0)=true:=by grind
     rw[alp q1]at hM;simp[go_sem,ab,sj,mf];refine wP [(9,3)] 1 4 sM (by rfl) kR ?_;simp[go_sem];exact PX (l:=uO) hM
theorem UF(s:alW)(hl:s.length<=maxLen):Pure prog 10 [.str s] (.agg (tD s).1.row):=by have h:=wg4 s hl;generalize tD s=x at h⊢;refine iW 0 func10 ntmps10 results10 λc hc hb=>zM ?_;simp[go_sem];refine pC h ?_;simp[go_sem,FQ];exact zQ (zC rfl) sM
variable {L:List bR}
structure jt(e:bJ):Prop where
 eD:Good e
 wide:fP e
structure lq(st:bZ):Prop where
 kind:cL st.kind
 table:st.table.length<=1048576items:st.items.length<=12/\∀x∈st.items,cL x.kind/\jt x.e
 rows:st.rows.length<=20/\∀r∈st.rows,r.length<=12/\∀e∈r,jt e
 cJ:st.cJ.length<=12/\∀x∈st.cJ,x.name.length<=1048576/\jt x.e
 cH:jt st.cH
 order:st.order.length<=1048576bV:cL st.bV
structure lr(l:eF):Prop where
 mode:cL l.mode
 n:cL l.n
 stmts:l.stmts.length<=12/\∀st∈l.stmts,lq st
theorem UG:lr uO:=⟨dC,dC,dC,λst aa=>by trivial⟩
structure ES(s:RS)(e:bJ):Prop where
 eD:Good e
 wide:fP e
 size:s.err=0->jN e<=2001
theorem ES.mono{s:RS}{e:bJ}(h:ES s e)(u:UI L s s'):ES s' e:=⟨h.eD,h.wide,λq=>h.size (u.err q)⟩
theorem ES.ok{s:RS}{e:bJ}(h:ES s e)(_hs:s.err=0):jt e:=⟨h.eD,h.wide⟩
theorem Js(s:RS):ES s dw:=⟨Uo,Uc rfl,λ_=>dC⟩
theorem Jt(hL:fk L)(hG:ia L)(h2:L.length<=2001){s:RS}(hs:dI L s)(ho:s.cp=0):ES (js L s).2 (js L s).1:=by have h:=Px hL hs ho;have k:=Pz hL hG hs ho;exact⟨k.eD,h.wide,λq=>by have:=k.size q;have:=h.cG.at_;omega⟩
theorem PY(hG:ia L){s:RS}(hs:dI L s):cL (iB L s).1:=by
 unfold iB cL;split;.have:=hG.num _ (Ho hs);omega
 .simp
structure SS(s:RS)(st:bZ):Prop where
 kind:cL st.kind
 table:st.table.length<=1048576items:st.items.length<=12/\∀x∈st.items,cL x.kind/\ES s x.e
 rows:st.rows.length<=20/\∀r∈st.rows,r.length<=12/\∀e∈r,ES s e
 cJ:st.cJ.length<=12/\∀x∈st.cJ,x.name.length<=1048576/\ES s x.e
 cH:ES s st.cH
 order:st.order.length<=1048576bV:cL st.bV
theorem SS.mono{s:RS}(h:SS s st)(u:UI L s s'):SS s' st:=⟨h.kind,h.table,⟨h.items.1,λx hx=>⟨(h.items.2 x hx).1,(h.items.2 x hx).2.mono u⟩⟩,⟨h.rows.1,λr hr=>⟨(h.rows.2 r hr).1,λe he=>((h.rows.2 r hr).2 e he).mono u⟩⟩,⟨h.cJ.1,λx hx=>⟨(h.cJ.2 x hx).1,(h.cJ.2 x hx).2.mono u⟩⟩,h.cH.mono u,h.order,h.bV⟩
theorem SS.ok{s:RS}(h:SS s st)(hs:s.err=0):lq st:=⟨h.kind,h.table,⟨h.items.1,λx hx=>⟨(h.items.2 x hx).1,(h.items.2 x hx).2.ok hs⟩⟩,⟨h.rows.1,λr hr=>⟨(h.rows.2 r hr).1,λe he=>((h.rows.2 r hr).2 e he).ok hs⟩⟩,⟨h.cJ.1,λx hx=>⟨(h.cJ.2 x hx).1,(h.cJ.2 x hx).2.ok hs⟩⟩,h.cH.ok hs,h.order,h.bV⟩
theorem wi5{s:RS}(h:(p0 L s).err=0):s.err=0:=by grind[p0]
section
variable(hL:fk L)(hG:ia L)(h2:L.length<=2001)
include hL hG h2
theorem wk1{s:RS}(h:dI L s)(ho:s.cp=0):cL (pY L s).1.kind/\ES (pY L s).2 (pY L s).1.e:=by
 unfold pY;split;.grind[cL,Js]
 split;.rename_i hi;have h1:=xC hL h hi;have h3:=h1.trans (yN hL [40] h1.cG);have hx:=Jt hL hG h2 h3.cG (h3.cp.trans ho);exact⟨by grind[cL],hx.mono (yN hL [41] (h3.trans (wi hL h3.cG (h3.cp.trans ho))).cG)⟩
 grind[cL,Jt]
theorem UH:∀(n:Nat)(l:List de)(s:RS),dI L s->s.cp=0->l.length<=6->(∀x∈l,cL x.kind/\ES s x.e)->(uM L n l s).1.length<=12/\∀x∈(uM L n l s).1,cL x.kind/\ES (uM L n l s).2 x.e
 |0,l,s,_,_,hl,hx=>(by grind[uM])|n+1,l,s,h,ho,hl,hx=>by
  unfold uM;split
  .rename_i he;obtain⟨_,h6,_⟩:=wg he;have hu:=PC hL h ho;have hi:=wk1 hL hG h2 h ho;have ab:∀x∈l++[(pY L s).1],cL x.kind/\ES (pY L s).2 x.e:=λx aa=>by
    rw[Ai]at aa;rcases aa with aa|aa;.exact⟨(hx x aa).1,(hx x aa).2.mono hu⟩
    grind
   split;.have hn:=xC hL hu.cG ‹_›;exact UH n _ _ hn.cG ((hu.trans hn).cp.trans ho) (by grind) (λx aa=>⟨(by grind),(ab x aa).2.mono hn⟩)
   grind
  .exact⟨by grind,λx aa=>⟨(hx x aa).1,(hx x aa).2.mono (uL h)⟩⟩
theorem xT9{s:RS}(h:dI L s)(ho:s.cp=0):(rZ L s).1.length<=12/\∀x∈(rZ L s).1,cL x.kind/\ES (rZ L s).2 x.e:=by
 unfold rZ;split;.simp[cL,Js]
 grind[UH]
theorem PZ{s:RS}(h:dI L s)(ho:s.cp=0):ES (pX L s) (kP L s).2:=by
 unfold pX kP;by_cases q:dH L FI s=true;.rw[alq q,alq q];exact Jt hL hG h2 (h.next hL q) ho
 simp_all[Js]
theorem UJ:∀(n:Nat)(l:List bJ)(s:RS),dI L s->s.cp=0->l.length<=6->(∀e∈l,ES s e)->(gD L n l s).2.1.length<=12/\∀e∈(gD L n l s).2.1,ES (gD L n l s).2.2 e
 |0,l,s,_,_,hl,hx=>(by grind[gD])|n+1,l,s,h,ho,hl,hx=>by
  unfold gD;split
  .rename_i he;obtain⟨_,h6,_⟩:=wg he;have hu:=wi hL h ho;have hi:=Jt hL hG h2 h ho;have ab:∀x∈l++[(js L s).1],ES (js L s).2 x:=λx aa=>by
    rw[Ai]at aa;rcases aa with aa|aa;.exact(hx x aa).mono hu
    grind
   split;.have hn:=xC hL hu.cG ‹_›;exact UJ n _ _ hn.cG ((hu.trans hn).cp.trans ho) (by grind) (λx aa=>(ab x aa).mono hn)
   grind
  .exact⟨by grind,λx aa=>(hx x aa).mono (uL h)⟩
theorem UK:∀(n:Nat)(R:List (List bJ))(s:RS),dI L s->s.cp=0->R.length<=16->(∀r∈R,r.length<=12/\∀e∈r,ES s e)->(tw L n R s).1.length<=20/\∀r∈(tw L n R s).1,r.length<=12/\∀e∈r,ES (tw L n R s).2 e
 |0,R,s,_,_,hl,hx=>(by grind[tw])|n+1,R,s,h,ho,hl,hx=>by
  unfold tw;split
  .rename_i he;obtain⟨_,h6,_⟩:=wg he;have aa:=yN hL [40] h;have hr:=UJ hL hG h2 7 [] _ aa.cG (aa.cp.trans ho) sM sM;have ab:=aa.trans (PL hL 7 [] _ aa.cG (aa.cp.trans ho));generalize gD L 7 [] (yJ L [40] s)=r at hr ab;split
   .have ad:=yN hL [41] ab.cG;have ae:∀y∈R++[r.2.1],y.length<=12/\∀e∈y,ES (yJ L [41] r.2.2) e:=λy hy=>by
     rw[Ai]at hy;rcases hy with hy|hy;.exact⟨(hx y hy).1,λe he=>((hx y hy).2 e he).mono (ab.trans ad)⟩
     .simp only[Af,Bs,alG]at hy;subst hy;exact⟨hr.1,λe he=>(hr.2 e he).mono ad⟩
    split;.have hn:=xC hL ad.cG ‹_›;exact UK n _ _ hn.cG (((ab.trans ad).trans hn).cp.trans ho) (by grind) (λy hy=>⟨(ae y hy).1,λe he=>((ae y hy).2 e he).mono hn⟩)
    grind
   .exact⟨by grind,λy hy=>⟨(hx y hy).1,λe he=>((hx y hy).2 e he).mono ab⟩⟩
  .exact⟨by grind,λy hy=>⟨(hx y hy).1,λe he=>((hx y hy).2 e he).mono (uL h)⟩⟩
theorem UL:∀(n:Nat)(l:List cy)(s:RS),dI L s->s.cp=0->l.length<=6->(∀x∈l,x.name.length<=1048576/\ES s x.e)->(sd L n l s).2.1.length<=12/\∀x∈(sd L n l s).2.1,x.name.length<=1048576/\ES (sd L n l s).2.2 x.e
 |0,l,s,_,_,hl,hx=>(by grind[sd])|n+1,l,s,h,ho,hl,hx=>by
  unfold sd;split
  .rename_i he;obtain⟨_,h6,_⟩:=wg he;have af:=zb hG h;have ab:=ou hL h;have aa:=ab.trans (yN hL [61] ab.cG);have hi:=Jt hL hG h2 aa.cG (aa.cp.trans ho);have hu:=aa.trans (wi hL aa.cG (aa.cp.trans ho));generalize js L (yJ L [61] (xH L s).2)=x at hi hu;have ad:∀y∈l++[⟨(xH L s).1,x.1⟩],y.name.length<=1048576/\ES x.2 y.e:=λy hy=>by
    rw[Ai]at hy;rcases hy with hy|hy;.exact⟨(hx y hy).1,(hx y hy).2.mono hu⟩
    grind
   split;.have hn:=xC hL hu.cG ‹_›;exact UL n _ _ hn.cG ((hu.trans hn).cp.trans ho) (by grind) (λy hy=>⟨(ad y hy).1,(ad y hy).2.mono hn⟩)
   grind
  .exact⟨by grind,λx ae=>⟨(hx x ae).1,(hx x ae).2.mono (uL h)⟩⟩
theorem xm6{s:RS}(h:dI L s)(ho:s.cp=0):SS (wj L s).2 (wj L s).1:=by
 unfold wj;simp only;have hx:=xT9 hL hG h2 h ho;have h1:=PH hL h ho;generalize rZ L s=x at hx h1;have u2:=yN hL sa h1.cG;have aa:=zb hG (h1.trans u2).cG;have u3:=ou hL (h1.trans u2).cG;generalize xH L (yJ L sa x.2)=n at aa u3;have hw:=PZ hL hG h2 u3.cG ((h1.trans (u2.trans u3)).cp.trans ho);have u4:=Hs hL u3.cG ((h1.trans (u2.trans u3)).cp.trans ho);have u5:=PG hL u4.cG;have ab:(DK L (pX L n.2)).1.1.length<=1048576:=by
  unfold DK;split
  .rename_i hi;have v1:=xC hL u4.cG hi;have v2:=v1.trans (yN hL sb v1.cG);split;.exact zb hG v2.cG
   split;.exact zb hG v2.cG
   .exact zb hG v2.cG
  simp
 generalize DK L (pX L n.2)=o at u5 ab;have u6:=Uu hL u5.cG;have ad:cL (DL L o.2).1:=by
  unfold DL;split;.exact PY hG (u5.cG.next hL ‹_›)
  grind[cL]
 generalize DL L o.2=l at u6 ad;have u:=u2.trans (u3.trans (u4.trans (u5.trans u6)));exact⟨by grind[cL],aa,⟨hx.1,λx ae=>⟨(by grind),(hx.2 x ae).2.mono u⟩⟩,sM,sM,hw.mono (u5.trans u6),ab,ad⟩
theorem xh9{s:RS}(h:dI L s)(ho:s.cp=0):SS (wk L s).2 (wk L s).1:=by unfold wk;have u1:=yN hL FK h;have aa:=zb hG u1.cG;have u2:=u1.trans (ou hL u1.cG);generalize xH L (yJ L FK s)=n at aa u2;have u3:=u2.trans (yN hL Ht u2.cG);have hr:=UK hL hG h2 17 [] _ u3.cG (u3.cp.trans ho) sM sM;exact⟨by grind[cL],aa,sM,hr,sM,Js _,sM,by grind[cL]⟩
theorem xo5{s:RS}(h:dI L s)(ho:s.cp=0):SS (wm L s).2 (wm L s).1:=by
 unfold wm;have aa:=zb hG h;have u2:=ou hL h;generalize xH L s=n at aa u2;have u3:=u2.trans (yN hL pZ u2.cG);have hr:=UL hL hG h2 7 [] _ u3.cG (u3.cp.trans ho) sM sM;have u4:=u3.trans (PM hL 7 [] _ u3.cG (u3.cp.trans ho));simp only;generalize sd L 7 [] (yJ L pZ n.2)=r at hr u4;split;.have hw:=PZ hL hG h2 u4.cG (u4.cp.trans ho);have u5:=Hs hL u4.cG (u4.cp.trans ho);exact⟨by grind[cL],aa,sM,sM,⟨hr.1,λx hx=>⟨(by grind),(hr.2 x hx).2.mono u5⟩⟩,hw,sM,by grind[cL]⟩
 .exact⟨by grind[cL],aa,sM,sM,hr,Js _,sM,by grind[cL]⟩
theorem wp0{s:RS}(h:dI L s)(ho:s.cp=0):SS (mc L s).2 (mc L s).1:=by
 unfold mc;split;.exact xm6 hL hG h2 (h.next hL ‹_›) ho
 split;.exact xh9 hL hG h2 (h.next hL ‹_›) ho
 split;.exact xo5 hL hG h2 (h.next hL ‹_›) ho
 .have u1:=yN hL FN h;have u2:=u1.trans (yN hL sa u1.cG);have aa:=zb hG u2.cG;have u3:=u2.trans (ou hL u2.cG);exact⟨by grind[cL],aa,sM,sM,sM,PZ hL hG h2 u3.cG (u3.cp.trans ho),sM,by grind[cL]⟩
theorem UM:∀(n:Nat)(l:List bZ)(s:RS),dI L s->s.cp=0->l.length<=8->(∀x∈l,SS s x)->(tC L n l s).1.length<=8/\∀x∈(tC L n l s).1,SS (tC L n l s).2 x
 |0,l,s,_,_,hl,hx=>⟨hl,hx⟩|n+1,l,s,h,ho,hl,hx=>by
  unfold tC;split
  .split
   .rename_i he;obtain⟨_,h8,_⟩:=wg he;have hu:=PT hL h ho;have hi:=wp0 hL hG h2 h ho;have ad:∀x∈l++[(mc L s).1],SS (mc L s).2 x:=λx aa=>by
     rw[Ai]at aa;rcases aa with aa|aa;.exact(hx x aa).mono hu
     .simp only[Af,Bs,alG]at aa;subst aa;exact hi
    have ab:(l++[(mc L s).1]).length<=8:=by simp;omega
    split
    .have hn:=xC hL hu.cG ‹_›;have ae:=λx aa=>(ad x aa).mono hn;split;.exact⟨ab,ae⟩
     .exact UM n _ _ hn.cG ((hu.trans hn).cp.trans ho) ab ae
    .exact⟨ab,ad⟩
   .exact⟨hl,λx aa=>(hx x aa).mono (uL h)⟩
  grind
theorem wm9(h1:1<=L.length):lr (Ml L).1:=by
 have h0:dI L DN:=⟨by simpa,dC⟩;unfold Ml;simp only;have hs:=UM hL hG h2 9 [] DN h0 rfl sM sM;have hu:=UC hL 9 [] DN h0 rfl;generalize tC L 9 [] DN=x at hs hu;have ha:=UE hL hu.cG;have hm:cL (uN L x.2).1.1/\cL (uN L x.2).1.2:=by
  unfold uN;split
  .rename_i hi;have v1:=UD hL hu.cG hi;split;.exact⟨by grind[cL],PY hG (v1.cG.next hL ‹_›)⟩
   .exact⟨by grind[cL],PY hG v1.cG⟩
  grind[cL]
 generalize uN L x.2=a at ha hm;split;.rename_i he;have h3:=ha.err (wi5 he);exact⟨hm.1,hm.2,by grind,λst aa=>(hs.2 st aa).ok h3⟩
 grind[UG]
end
theorem UN(s:alW):lr (tD s).1:=by unfold tD;split;all_goals simp_all[UA,wm9,UG]
theorem xa8(l:List bJ)(i:Nat)(h:i<l.length):ot (l.drop i)=jN l[i]+ot (l.drop (i+1)):=by rw[A4 h,ot]
theorem yR0(l:List bJ)(i:Nat)(h:i<l.length):jY (l.drop i)=max (iC l[i]) (jY (l.drop (i+1))):=by rw[A4 h,jY]
theorem UO(e:bJ):1<=jN e:=by rw[Hn];omega
theorem Mm(e:bJ):1<=iC e:=by rw[y9];omega
def UP(e:bJ)(deep n:Int)(r:V)(I:St):Prop:=∃m:Int,I=[.box [.int .i64 m]]/\(((iC e:Int)+deep<=65/\n+jN e<=4096)/\r=.bool true/\m=n+jN e\/¬((iC e:Int)+deep<=65/\n+jN e<=4096)/\r=.bool false)
theorem UQ:∀(k:Nat)(e:bJ)(deep n:Int),iC e<=k->fP e->0<=n->n<=4096->0<=deep->deep<=1000000->bN prog 313 [.agg e.row,.int .i64 deep,.ptr 0 0] [.box [.int .i64 n]] (UP e deep n)
 |0,e,_,_,h,_,_,_,_,_=>by have:=Mm e;omega|k+1,e,deep,n,h,hw,ax,ay,az,a1=>by
  have ih:=UQ k;have aw:=y9 e;have al:=Hn e;obtain⟨args,aa⟩:=eX e.args;have hlen:=hw.len;have ae:=hw.sub;rw[aa]at aw al hlen ae;have e1:IntKind.i64.wrap (n+1)=n+1:=bX om om;have e2:IntKind.i64.wrap (deep+1)=deep+1:=bX om om;obtain⟨sz,af⟩:=eX (jN e);obtain⟨C,hC⟩:∃C:Prop,((iC e:Int)+deep<=65/\n+jN e<=4096)=C:=⟨_,rfl⟩;have ah:C↔((iC e:Int)+deep<=65/\n+sz<=4096):=by rw[<-hC,af]
  unfold UP;rw[hC,af];rw[af]at al;clear hC;have an:∀(m:Int)(τ:St),C->m=n+sz->cz (some (.bool true)) 1 (λr I=>∃m:Int,I=[.box [.int .i64 m]]/\(C/\r=.bool true/\m=n+sz\/¬C/\r=.bool false)) (.box [.int .i64 m]::τ):=λm τ h1 h2=>yW 1 rfl rfl (by rfl) (A7 _) (zC rfl) ⟨m,rfl,.inl ⟨h1,rfl,h2⟩⟩;have ab:∀(m:Int)(τ:St),¬C->cz (some (.bool false)) 1 (λr I=>∃m:Int,I=[.box [.int .i64 m]]/\(C/\r=.bool true/\m=n+sz\/¬C/\r=.bool false)) (.box [.int .i64 m]::τ):=λm τ h1=>yW 1 rfl rfl (by rfl) (A7 _) (zC rfl) ⟨m,rfl,.inr ⟨h1,rfl⟩⟩;refine iV 1 func313 ntmps313 results313 λc hc hb=>?_;refine zA ?_;simp[go_sem,e1];by_cases q1:64<deep;.have ad:decide (64<deep)=true:=als q1;simp[go_sem,ad];exact ab _ _ (by rw[ah];omega)
  have ad:decide (64<deep)=false:=alr q1;by_cases q2:4096<n+1;.have ai:decide (4096<n+1)=true:=als q2;simp[go_sem,ad,ai];exact ab _ _ (by rw[ah];omega)
  have ai:decide (4096<n+1)=false:=alr q2;simp[go_sem,ad,ai,aa];refine zG (S:=Nat×Int) [1,2,23,24,25] (λu=>[.int .i64 deep,.ptr 0 0,.sl .ro (args.map bJ.row),.int .i64 args.length,.int .i64 (u.1:Int)]) (λu=>[.box [.int .i64 u.2]]) (λu=>args.length-u.1) (λu=>u.1<=args.length/\0<=u.2/\u.2<=4096/\u.2+ot (args.drop u.1)=n+sz/\(C↔(jY (args.drop u.1):Int)+(deep+1)<=65/\u.2+ot (args.drop u.1)<=4096)) hc hb (0,n+1) ⟨A5 _,by simp only;omega,by simp only;omega,by simp only[B1];omega,by rw[ah,B1];simp only;omega⟩ ?_ ?_;.exact aN 1 (by rfl)
  rintro⟨i,m⟩⟨hi,ao,aq,aj,hinv⟩;simp only at hi ao aq aj hinv;by_cases q:i<args.length;rotate_left;.rw[A8 om,jY,ot]at hinv;rw[A8 om,ot]at aj;refine zA ?_;simp[go_sem,q];exact an _ _ (hinv.2 om) om
  have ei:=zO q om;have ar:=xa8 args i q;have au:=yR0 args i q;obtain⟨x,hx⟩:=eX (args[i]);have av:x∈args:=hx▸A9 q;have a6:=Fz args x av;rw[hx]at ar au;rw[ar]at aj hinv;rw[au]at hinv;have ak:=ih x (deep+1) m om (ae x av) ao aq om om;refine zA ?_;simp[go_sem,q,hx,e2];refine mY 0 ak cB rfl (by rfl) ⟨.inl (by simp[go_sem,dL,dQ,du,dv]),zC rfl,.inl rfl,tV⟩ (λr I h=>by obtain⟨m2,rfl,_⟩:=h;exact⟨_,rfl,rfl⟩) ?_;rintro r o2⟨m2,h1,h2⟩;obtain rfl:o2=.box [.int .i64 m2]:=sU h1;rcases h2 with⟨h2,rfl,rfl⟩|⟨h2,rfl⟩
  .simp[go_sem,ei];refine zH (i+1,m+jN x) ⟨by simp only;omega,⟨by simp only;omega,by simp only;omega,by simp only;omega,by simp only;omega,?_⟩,?_⟩;.rw[hinv];show _↔(jY (args.drop (i+1)):Int)+(deep+1)<=65/\m+jN x+ot (args.drop (i+1))<=4096;omega
   .exact aN 1 (by rfl)
  .simp[go_sem];exact ab _ _ (by rw[hinv];omega)
def Mn(e:bJ):Bool:=e.kind==3&&e.s==[65,78,68]&&e.args.length==2
def uP:Nat->List bJ->List bJ->List bJ|0,_,l=>l|_+1,[],l=>l|n+1,e::q,l=>if Mn e=true then uP n (q++e.args) l else uP n q (l++[e])
def pj(st:bZ):List bJ:=if st.ef=true then uP 4096 [st.cH] []else[]
theorem UR(l:List bJ):eU 6 (l.map bJ.row):=lK λe=>by rw[bJ.bQ];rfl
theorem UT(st:bZ):Pure prog 268 [.agg st.row] (.sl .ro ((pj st).map bJ.row)):=by
 generalize hM:pj st=M;have ret:∀(r:List bJ)(g:Tag)(I:St),r=M->cz (some (.sl g (r.map bJ.row))) 0 (λr s=>r=.sl .ro (M.map bJ.row)/\s=[]) I:=λr g I h=>by subst h;exact zQ zK ⟨rfl,rfl⟩
 unfold pj at hM;refine iV 0 func268 ntmps268 results268 λc hc hb=>?_;refine tg 26 dC ?_;refine zA ?_;simp[go_sem];by_cases hf:st.ef=true;rotate_left;.have ad:st.ef=false:=sU hf;rw[alp hf]at hM;simp[go_sem,ad];exact ret [] _ _ hM
 rw[alq hf]at hM;simp[go_sem,hf];refine we1 4 6 [st.cH.row] dC (UR [st.cH]) sg ?_;refine wQ 3 6 dC sg ?_;refine zG (S:=Nat×List bJ×List bJ) [3,4,5,100026] (λu=>[.sl (.app 1) (u.2.2.map bJ.row),.sl (.app 0) (u.2.1.map bJ.row),.int .i64 u.1,.cC []]) (λu=>[.app u.2.1.length 6,.app u.2.2.length 6]) (λu=>4096-u.1) (λu=>u.1<=4096/\u.2.1.length<=1+u.1/\u.2.2.length<=u.1/\uP (4096-u.1) u.2.1 u.2.2=M) hc hb (0,[st.cH],[]) ⟨A5 _,sM,sM,hM⟩ ?_ ?_;.exact yu [1,2] dC rfl ⟨by simp[go_sem,yC],by simp[go_sem,yC],tV⟩ ⟨.inl (by simp[go_sem,dL,dQ,du,dv,cO]),.inl (by simp[go_sem,dL,dQ,du,dv,cO]),zC rfl,zC rfl,tV⟩
 rintro⟨n,q,l⟩⟨hn,ab,ae,hinv⟩;simp only at hn ab ae hinv;cases q with
 |nil=>
  have hl:l=M:=by rw[<-hinv];cases h:4096-n<;>rfl
  refine zA ?_;simp[go_sem];exact ret l _ _ hl|cons e q=>
 by_cases af:n<4096;rotate_left
 .have hl:l=M:=by rw[<-hinv,show 4096-n=0 by omega];rfl
  have hd:decide ((n:Int)<4096)=false:=alr om;refine zA ?_;simp[go_sem,hd];exact ret l _ _ hl
 have hd:decide ((n:Int)<4096)=true:=als om;rw[show 4096-n=(4096-(n+1))+1by omega,uP]at hinv;have ei:IntKind.i64.wrap ((n:Int)+1)=((n+1:Nat):Int):=by rw[bX om om];omega
 refine zA ?_;simp[go_sem,hd];refine zJ om ?_;simp[go_sem];by_cases hA:Mn e=true;.rw[alq hA]at hinv;have aa:=hA;unfold Mn at aa;simp only[Aa,alx]at aa;obtain⟨⟨q1,q2⟩,q3⟩:=aa;simp[go_sem,q1,q2,q3];refine zJ ⟨by simp at ab;omega,UR _⟩ ?_;simp[go_sem,ei];refine zH (n+1,q++e.args,l) ⟨by simp only;omega,⟨by simp only;omega,by simp at ab⊢;omega,by simp only;omega,hinv⟩,?_⟩;exact yu [3,1] dC rfl ⟨by simp[go_sem,yC,q3],by simp[go_sem,yC],tV⟩ ⟨.inl (by simp[go_sem,dL,dQ,du,dv,cO]),.inl (by simp[go_sem,dL,dQ,du,dv,cO]),zC rfl,zC rfl,tV⟩
 .have aa:(e.kind==3&&e.s==[65,78,68]&&e.args.length==2)=false:=by simpa[Mn]using hA
  rw[alp hA]at hinv;have key:(e.kind==3)=false\/((e.kind==3)=true/\(e.s==[65,78,68])=false)\/((e.kind==3)=true/\(e.s==[65,78,68])=true/\((e.args.length:Int)==2)=false):=by
   revert aa;have e3:((e.args.length:Int)==2)=(e.args.length==2):=by rw[Df];simp;omega
   rw[e3];cases e.kind==3<;>cases e.s==[65,78,68]<;>cases e.args.length==2<;>simp
  refine key.elim (λq1=>?_) λkey=>key.elim (λq1=>?_) λq1=>?_;all_goals simp[go_sem,q1]
  all_goals refine zJ ⟨om,zZ rfl⟩ ?_
  all_goals simp[go_sem,ei]
  all_goals refine zH (n+1,q,l++[e]) ⟨by simp only;omega,⟨by simp only;omega,by simp at ab⊢;omega,by simp;omega,hinv⟩,?_⟩
  all_goals exact yu [3,1] dC rfl ⟨by simp[go_sem,yC],by simp[go_sem,yC],tV⟩ ⟨.inl (by simp[go_sem,dL,dQ,du,dv,cO]),.inl (by simp[go_sem,dL,dQ,du,dv,cO]),zC rfl,zC rfl,tV⟩
def Mo:V:=.cC [.str [],.agg [.int .i64 0,.int .i64 0,.str []],.bool false]
def pn(e:bJ)(name:alW):Option (alW×bK):=match e.kind==3,e.args with |true,[a,b]=>if b.kind=2then(if b.s=name/\a.kind=1/\a.v.kind≠0then some (LS e.s,a.v)else none)else if a.kind=2/\a.s=name/\b.kind=1/\b.v.kind≠0then some (e.s,b.v)else none|_,_=>none
def oy:Option (alW×bK)->V |none=>Mo|some (s,v)=>.cC [.str s,.agg v.row,.bool true]
theorem UU(e:bJ)(name:alW):Pure prog 269 [.agg e.row,.str name] (oy (pn e name)):=by
 generalize hM:pn e name=M;have no:∀(I:St),none=M->cz (some Mo) 0 (λr s=>r=oy M/\s=[]) I:=λI h=>by subst h;exact wR
 have yes:∀(s:alW)(v:bK)(I:St),some (s,v)=M->cz (some (.cC [.str s,.agg v.row,.bool true])) 0 (λr s=>r=oy M/\s=[]) I:=λs v I h=>by subst h;exact wR
 unfold pn at hM;refine iW 0 func269 ntmps269 results269 λc hc hb=>zM ?_;simp[go_sem];by_cases q1:e.kind=3;rotate_left;.have ab:(e.kind !=3)=true:=sU q1;have aa:(e.kind==3)=false:=sU q1;simp only[aa]at hM;simp[go_sem,ab];exact no _ hM
 have ab:(e.kind !=3)=false:=sU q1;have aa:(e.kind==3)=true:=sU q1;simp only[aa]at hM;obtain⟨k,hk⟩:=eX e.kind;simp[go_sem,ab];by_cases q2:e.args.length=2;rotate_left
 .have ad:((e.args.length:Int)!=2)=true:=by simpa using(show¬(e.args.length:Int)=2by omega)
  simp[go_sem,ad];refine no _ ?_;rw[<-hM];split;.rename_i h;rw[h]at q2;exact absurd rfl q2
  .rfl
 have ad:((e.args.length:Int)!=2)=false:=by simpa using(show(e.args.length:Int)=2by omega)
 simp[go_sem,ad];obtain⟨a,b,af⟩:∃a b,e.args=[a,b]:=by match e.args,q2 with|[a,b],_=>exact⟨a,b,rfl⟩
 simp only[af]at hM;refine Hf [(12,3),(13,3)] 1 10 sM kR (by rw[hc];exact A5 _) hb kR rfl (by repeat'(first|exact jr.iI|refine jr.ft ?_ (by simp[hZ,iu,cV,cR]))) (by simp only[Bx,D2];exact rfl) (by simp only[C7,B1];exact rfl) ?_;simp[go_sem,af];refine⟨by repeat'(first|exact jr.iI|refine jr.ft ?_ (by simp[hZ,iu,cV,cR])),?_⟩;by_cases q3:b.kind=2
 .have ae:(b.kind==2)=true:=sU q3;rw[alq q3]at hM;simp[go_sem,ae];refine xV [(0,2),(1,2),(3,0),(4,3),(5,3)] 2 sM kR kR ?_;simp[go_sem];refine pD (wc5 e.s) ?_;have q4:(b.kind !=2)=false:=sU q3;simp[go_sem,q4];repeat'(first |(refine xG (λq=>?_) (λq=>?_)<;>simp[go_sem,q])|(refine zX (λq=>?_) (λq=>?_)<;>simp[go_sem,q])|(refine xV [(2,2),(4,3)] 1 sM kR kR ?_;simp[go_sem]))
  all_goals first|exact no _ (by rw[<-hM];simp_all)|exact yes _ _ _ (by rw[<-hM];simp_all)
 .have ae:(b.kind==2)=false:=sU q3;rw[alp q3]at hM;simp[go_sem,ae];repeat'(first |(refine xG (λq=>?_) (λq=>?_)<;>simp[go_sem,q])|(refine zX (λq=>?_) (λq=>?_)<;>simp[go_sem,q])|(refine xV [(2,2),(4,3)] 1 sM kR kR ?_;simp[go_sem]))
  all_goals first|exact no _ (by rw[<-hM];simp_all)|exact yes _ _ _ (by rw[<-hM];simp_all)
end Go.Proofs.YtegbonbgofjlcaaGreat
namespace Go.Proofs.YtegbonbgofjlcaaGreat.R
open Go Go.Vx Go.Proofs.Tryz
set_option maxRecDepth 100000
def fc (l:alW):V:= .sl .ro (zU l)
theorem zW(l:alW):(zU l).length=l.length:=by simp[zU]
theorem sk(l:alW):eU 1 (zU l):=λr hr=>by obtain⟨x,_,rfl⟩:=Ab.1 hr;rfl
def ib (l:alW):V:= .sl (.app 0) (zU l)
def gL (l:alW):St:= [.app l.length 1]
abbrev cN:Nat:=1000000000
theorem P1(b:alW)(n:Nat)(hb:b.length<=cN)(hn:n<=cN):bN prog 377 [fc b,.int .i64 n] [] λr s=>r=ib b/\s=gL b:=by
 refine iW 0 func377 ntmps377 results377 λc hc hb=>zM ?_;simp[go_sem,fc,zW];have e1:IntKind.i64.wrap ((b.length:Int)+n)=((b.length+n:Nat):Int):=by rw[bX (by unfold cN at*;omega) (by unfold cN at*;omega)];omega
 simp[go_sem,e1];refine zJ ⟨om,by unfold cN at*;omega⟩ ?_;simp[go_sem,zW];refine zJ ⟨by unfold cN at*;omega,sk b⟩ ?_;simp[go_sem];exact nJ 1 rfl rfl om (xR rfl) ⟨rfl,rfl⟩
def eQ(v:Nat):alW:=if v<128then[UInt8.ofNat v]else UInt8.ofNat (v%128+128)::eQ (v/128)termination_by v
decreasing_by omega
theorem zf{v:Nat}(h:v<128):eQ v=[UInt8.ofNat v]:=by rw[eQ,alq h]
theorem DO{v:Nat}(h:¬v<128):eQ v=UInt8.ofNat (v%128+128)::eQ (v/128):=by rw[eQ,alp h]
theorem UW:∀(k v:Nat),v<128^(k+1)->(eQ v).length<=k+1
 |0,v,h=>by rw[zf om];simp|k+1,v,h=>by
  by_cases hv:v<128;.rw[zf hv];simp
  .rw[DO hv,Ah];have:=UW k (v/128) (by rw[C9 om];rwa[E8]at h);omega
theorem zg{v:Nat}(h:v<18446744073709551616):(eQ v).length<=10:=UW 9 v om
structure Ju where
 out:alW
 v:Nat
theorem dp{n:Int}(h:0<=n)(h2:n<=18446744073709551615):IntKind.u64.wrap n=n:=by unfold IntKind.wrap;simp[IntKind.bits,IntKind.signed];omega
theorem uQ(n:Nat):IntKind.u8.wrap (n:Int)=((UInt8.ofNat n).toNat:Int):=by unfold IntKind.wrap;simp[IntKind.bits,IntKind.signed]
theorem wq1(v:Nat):IntKind.u8.wrap (IntKind.u8.wrap ((v:Int).tmod 128)+128)=((UInt8.ofNat (v%128+128)).toNat:Int):=by
 have e:(v:Int).tmod 128=((v%128:Nat):Int):=by rw[Cp om];omega
 have e2:IntKind.u8.wrap (((v%128:Nat):Int))=((v%128:Nat):Int):=by rw[uQ];simp;omega
 rw[e,e2,show(((v%128:Nat):Int)+128)=((v%128+128:Nat):Int)by omega,uQ]
theorem UX(b:alW)(v0:Nat)(ad:b.length<=cN)(hv:v0<18446744073709551616):bN prog 292 [fc b,.int .u64 v0] [] λr s=>r=ib (b++eQ v0)/\s=gL (b++eQ v0):=by
 refine iV 0 func292 ntmps292 results292 λc hc hb=>?_;refine zA ?_;simp[go_sem,fc,zW];refine zJ ⟨by unfold cN at*;omega,by simp[eU],sk b⟩ ?_;simp[go_sem];refine zG (S:=Ju) [1,5] (λs=>[.int .u64 s.v,ib s.out]) (λs=>gL s.out) (λs=>s.v) (λs=>s.v<18446744073709551616/\s.out++eQ s.v=b++eQ v0) hc hb ⟨b,v0⟩ ⟨hv,rfl⟩ ?_ ?_;.exact bU 1 (by simp[gL]) rfl rfl (A5 _) (zD (by simp[go_sem,ib]) rfl)
 rintro⟨out,v⟩⟨aa,hs⟩;simp only at aa hs;have hlen:out.length<=cN+10:=by have:=alv List.length hs;have ae:=zg hv;simp only[Al]at this;omega
 refine zA ?_;simp[go_sem,ib,gL];refine zX (λh=>?_) (λh=>?_)
 .have h:¬v<128:=by have:=alA h;omega
  simp[go_sem,wq1];refine zJ ⟨zW out,by rw[zW];unfold cN at*;omega,zZ rfl⟩ ?_;have e4:IntKind.u64.wrap ((v:Int).tdiv 128)=((v/128:Nat):Int):=by
   have:(v:Int).tdiv 128=((v/128:Nat):Int):=by rw[Ds om];omega
   rw[this,dp om om]
  have e5:IntKind.u64.wrap ((v:Int)/128)=(v:Int)/128:=dp om om;simp[go_sem];rw[DO h]at hs;refine zH ⟨out++[UInt8.ofNat (v%128+128)],v/128⟩ ⟨by simp only;omega,⟨by simp only;omega,by simpa using hs⟩,bU 1 sM rfl rfl (A5 _) (zD (by simp[go_sem,zU,e5]) rfl)⟩
 .have h:v<128:=by have:=alE h;omega
  simp[go_sem,zW,uQ];refine zJ ⟨by unfold cN at*;omega,zZ rfl⟩ ?_;simp[go_sem];rw[zf h]at hs;have ab:b.length+(eQ v0).length=out.length+1:=by have:=alv List.length hs;simpa using this.symm
  rw[<-hs];exact nJ 1 rfl rfl om (xR rfl) ⟨by simp[zU],by simp[ab]⟩
theorem wA1:((List.range 256).all λm=>jF .or .u8 (m:Int) 128==((m%128+128:Nat):Int))=true:=by rfl
theorem wH1(v:Nat):jF .or .u8 (IntKind.u8.wrap (v:Int)) 128=((UInt8.ofNat (v%128+128)).toNat:Int):=by have h:=Am.1 wA1 (v%256) (by grind);simp_all[uQ];omega
theorem P3(b:alW)(v0:Nat)(aa:b.length<=cN)(hv:v0<18446744073709551616):bN prog 326 [fc b,.int .u64 v0] [] λr s=>r=ib (b++eQ v0)/\s=gL (b++eQ v0):=by
 refine iV 0 func326 ntmps326 results326 λc hc hb=>?_;refine zA ?_;simp[go_sem];refine DA (P1 b 10 aa dC) cB (yD rfl) ?_;rintro r s⟨rfl,rfl⟩;simp[go_sem];refine zG (S:=Ju) [1,5] (λs=>[.int .u64 s.v,ib s.out]) (λs=>gL s.out) (λs=>s.v) (λs=>s.v<18446744073709551616/\s.out++eQ s.v=b++eQ v0) hc hb ⟨b,v0⟩ (by grind) ?_ ?_;.exact bU 1 rfl rfl rfl om (zD (by rfl) rfl)
 rintro⟨out,v⟩⟨ab,hs⟩;simp only at ab hs;have hlen:out.length<=cN+10:=by have:=alv List.length hs;grind[zg]
 refine zA ?_;simp[go_sem,ib,gL];refine zX (λh=>?_) (λh=>?_)
 .have h:¬v<128:=by grind
  have u1:=wH1 v;simp[go_sem,u1];refine zJ ⟨zW out,by simp_all[zW,cN];omega,zZ rfl⟩ ?_;have e5:(v:Int).fdiv 128=(v:Int)/128:=(by grind);simp[go_sem,e5];rw[DO h]at hs;refine zH ⟨out++[UInt8.ofNat (v%128+128)],v/128⟩ ⟨by grind,(by grind),bU 1 sM rfl rfl om (zD (by simp[go_sem,zU]) rfl)⟩
 .have h:v<128:=by grind
  simp[go_sem,zW,uQ];refine zJ ⟨by grind,zZ rfl⟩ ?_;simp[go_sem];rw[zf h]at hs;have ad:b.length+(eQ v0).length=out.length+1:=by have:=alv List.length hs;grind
  rw[<-hs];exact nJ 1 rfl rfl om (xR rfl) (by simp[zU];omega)
theorem wv7(b t:alW)(aa:b.length<=cN)(ht:t.length<=cN):bN prog 382 [fc b,fc t] [] λr s=>r=ib (b++eQ t.length++t)/\s=gL (b++eQ t.length++t):=by refine iW 0 func382 ntmps382 results382 λc hc hb=>zM ?_;have e1:IntKind.u64.wrap (t.length:Int)=(t.length:Int):=dp om (by grind);simp[go_sem,fc,zW,e1];refine DA (P3 b t.length aa (by grind)) cB (yD rfl) ?_;rintro r s⟨rfl,rfl⟩;have ab:=zg (v:=t.length) (by grind);simp[go_sem,ib,gL,zW];refine zJ (by simp_all[cN,sk];omega) ?_;simp[go_sem];exact nJ 1 rfl rfl om (xR rfl) (by grind[zU])
theorem xH9(b t:alW)(aa:b.length<=cN)(ht:t.length<=cN):bN prog 295 [fc b,fc t] [] λr s=>r=ib (b++eQ t.length++t)/\s=gL (b++eQ t.length++t):=by refine iW 0 func295 ntmps295 results295 λc hc hb=>zM ?_;have e1:IntKind.u64.wrap (t.length:Int)=(t.length:Int):=dp om (by grind);simp[go_sem,fc,zW,e1];refine DA (UX b t.length aa (by grind)) cB (yD rfl) ?_;rintro r s⟨rfl,rfl⟩;have ab:=zg (v:=t.length) (by grind);simp[go_sem,ib,gL,zW];refine zJ (by simp_all[cN,sk];omega) ?_;simp[go_sem];exact nJ 1 rfl rfl om (xR rfl) (by grind[zU])
def gM(n:Int):Nat:=if 0<=n then(2*n).toNat else(-2*n-1).toNat
theorem Mq{n:Int}(h:cL n):gM n<18446744073709551616:=by grind[gM,cL]
theorem xZ3(n:Int)(hn:cL n):Pure prog 293 [.int .i64 n] (.int .u64 (gM n)):=by
 refine iW 0 func293 ntmps293 results293 λc hc hb=>zM ?_;unfold cL at hn;simp[go_sem];refine zX (λh=>?_) (λh=>?_)
 .have h:0<=n:=(by grind);have e1:IntKind.u64.wrap n=n:=(by grind[dp]);have e2:IntKind.u64.wrap (2*n)=((gM n:Nat):Int):=by rw[dp om om,gM,alq h];omega
  simp[go_sem,e1,e2];exact zQ (zC rfl) sM
 .have h:¬0<=n:=(by grind);obtain⟨m,rfl⟩:∃m:Nat,n=-(m:Int)-1:=⟨(-n-1).toNat,om⟩;have e1:IntKind.i64.wrap (-(m:Int))=-(m:Int):=(by grind[bX]);have e2:IntKind.i64.wrap (m:Int)=(m:Int):=(by grind[bX]);have e3:IntKind.u64.wrap (m:Int)=(m:Int):=(by grind[dp]);have e4:IntKind.u64.wrap (2*(m:Int))=2*(m:Int):=(by grind[dp]);have e5:IntKind.u64.wrap (2*(m:Int)+1)=((gM (-(m:Int)-1):Nat):Int):=by rw[dp om om,gM,alp h];omega
  simp[go_sem,e1,e2,e3,e4,e5];exact zQ (zC rfl) sM
theorem UY(ek:Nat)(es:Option (List Pk))(a b:Int):nG .shr ek es (.int .i64 a) (.int .u64 b)=.eP (0<=b) (.int .i64 (a.fdiv (2^(min b.toNat 64)))):=rfl
theorem wH5{x:Int}(h:0<=x)(h2:x<=18446744073709551615):jF .xor .u64 x 0=x:=by obtain⟨m,rfl⟩:=Dz h;show IntKind.u64.wrap ((BitVec.ofInt 64 (m:Int)^^^BitVec.ofInt 64 0).toNat:Int)=m;have e:BitVec.ofInt 64 (0:Int)=0#64:=rfl;grind[dp]
theorem wH6{x:Int}(h:0<=x)(h2:x<=18446744073709551615):jF .xor .u64 x 18446744073709551615=18446744073709551615-x:=by
 obtain⟨m,rfl⟩:=Dz h;show IntKind.u64.wrap ((BitVec.ofInt 64 (m:Int)^^^BitVec.ofInt 64 18446744073709551615).toNat:Int)=_;have e:BitVec.ofInt 64 (18446744073709551615:Int)=BitVec.allOnes 64:=by rfl
 rw[e,BitVec.xor_allOnes,alz,BitVec.toNat_not,alC,Ce om];grind[dp]
theorem wD8(n:Int)(hn:cL n):Pure prog 381 [.int .i64 n] (.int .u64 (gM n)):=by
 refine iW 0 func381 ntmps381 results381 λc hc hb=>zM ?_;unfold cL at hn;rcases Int.lt_or_le n 0with h|h
 .have e1:IntKind.u64.wrap n=n+18446744073709551616:=by grind[IntKind.wrap_u64]
  have e2:IntKind.u64.wrap ((n+18446744073709551616)*2)=2*n+18446744073709551616:=by grind[IntKind.wrap_u64]
  have e3:n.fdiv 9223372036854775808=-1:=by grind
  have e4:IntKind.u64.wrap (-1)=18446744073709551615:=by rfl
  have e5:jF .xor .u64 (2*n+18446744073709551616) 18446744073709551615=((gM n:Nat):Int):=by rw[wH6 om om,gM,alp om];omega
  simp[go_sem,e1,e2,UY,e3,e4,e5];exact zQ (zC rfl) sM
 .have e1:IntKind.u64.wrap n=n:=(by grind[dp]);have e2:IntKind.u64.wrap (n*2)=2*n:=by grind[dp]
  have e3:n.fdiv 9223372036854775808=0:=by grind
  have e4:IntKind.u64.wrap 0=0:=(by rfl);have e5:jF .xor .u64 (2*n) 0=((gM n:Nat):Int):=by rw[wH5 om om,gM,alq h];omega
  simp[go_sem,e1,e2,UY,e3,e4,e5];exact zQ (zC rfl) sM
end Go.Proofs.YtegbonbgofjlcaaGreat.R
namespace Go.Vx
open Go
theorem bN.loose{P:Program}{f:FuncId}{args:List V}{I:St}{R R':V->St->Prop}(h:bN P f args I R)(hR:∀r s,R r s->rI I.length R' r s):bN P f args I R':=by
 intro w L J ab hm ha;refine(h w L J ab hm ha).mono ?_;rintro e w'⟨v,r,L',I',J',he,hr,hl,ae,ak⟩;obtain⟨v1,I1,pick,I2,r2,af,hp,ah,ai⟩:=hR _ _ hr;obtain⟨L2,J2,aa,_,_,ad,_⟩:=af.ok ae (xs:=[v]) (by trivial);refine⟨v,r2,L2,I2,_,he,ai,?_,aa.pick hp hm.len,BP (hp.jK aa.len) ah ad⟩;rw[hp.len];rcases C3 pick.length I.length with aj|al;.have:=(A3.1 (hp.id pick.length aj)).1;omega
 omega
end Go.Vx
namespace Go.Proofs.YtegbonbgofjlcaaGreat.R
open Go Go.Vx Go.Proofs.Tryz
set_option maxRecDepth 100000
theorem Jv{f:FuncId}{args:List V}{l:alW}(h:bN prog f args [] λr s=>r=ib l/\s=gL l):Pure prog f args (fc l):=h.loose λr s q=>by obtain⟨rfl,rfl⟩:=q;have h:cz (some (ib l)) 0 (λr s=>r=fc l/\s=[]) (gL l):=zQ zK (by trivial);obtain⟨x,h1,h2⟩:=h;grind
def e9(v:bK):Bool:=if v.kind=0then decide (v.n=0)&&v.s.isEmpty else if v.kind=1then(decide (v.n=0)||decide (v.n=1))&&v.s.isEmpty else if v.kind=2then v.s.isEmpty else if v.kind=3then decide (v.n=0)&&decide (v.s.length<=64)else false
theorem Hw(v:bK):Pure prog 307 [.agg v.row] (.bool (e9 v)):=by
 obtain⟨k,n,s⟩:=v;refine iW 0 func307 ntmps307 results307 λc hc hb=>zM ?_;simp[go_sem];have yes:∀(r b:Bool)(I:St),r=b->cz (some (.bool r)) 0 (λr s=>r=.bool b/\s=[]) I:=λr b I h=>by subst h;exact zQ (zC rfl) sM
 repeat'(first|(refine xG (λq=>?_) (λq=>?_)<;>simp[go_sem,q])|(refine zX (λq=>?_) (λq=>?_)<;>simp[go_sem,q])|(refine yes _ _ _ ?_))
 all_goals grind[e9]
def k6(v:bK):alW:=if e9 v=true then UInt8.ofNat v.kind.toNat::(if v.kind=1then[UInt8.ofNat v.n.toNat]else if v.kind=2then eQ (gM v.n)else if v.kind=3then eQ v.s.length++v.s else[])else[]
theorem wX{ρ:Nat->Nat}{g:Tag}{rows eR:List (List V)}(h:eR=rows):cW ρ (.sl .ro eR) (.sl g rows):=by grind[zK]
theorem wu{b l:alW}{g:Tag}{rows:List (List V)}{I:St}(h:zU (b++l)=rows):cz (some (.sl g rows)) 0 (λr s=>r=fc (b++l)/\s=[]) I:=by subst h;exact zQ zK (by trivial)
theorem wg5(b:alW)(v:bK)(hv:v.ok)(aa:b.length<=cN-1)(hs:v.s.length<=cN):Pure prog 327 [fc b,.agg v.row] (fc (b++k6 v)):=by
 refine iW 0 func327 ntmps327 results327 λc hc hb=>zM ?_;obtain⟨k,n,s⟩:=v;have hn:=hv.n;simp only at hs hn;simp[go_sem,fc,zW];refine zJ ⟨by grind,by simp[eU],sk b⟩ ?_;simp[go_sem];refine pC (Hw ⟨k,n,s⟩) ?_;simp[go_sem];refine zX (λh=>?_) (λh=>?_);.simp[go_sem];refine wu ?_;grind[k6]
 have h:e9 ⟨k,n,s⟩:=by grind
 have hk:k=0\/k=1\/k=2\/k=3:=by grind[e9]
 simp[go_sem,zW];refine zJ ⟨by grind,zZ rfl⟩ ?_;have w0:IntKind.u8.wrap 0=0:=by rfl
 have w1:IntKind.u8.wrap 1=1:=by rfl
 have w2:IntKind.u8.wrap 2=2:=by rfl
 have w3:IntKind.u8.wrap 3=3:=by rfl
 rcases hk with rfl|rfl|rfl|rfl;.simp[go_sem];refine wu ?_;grind[k6,zU]
 .have h1:n=0\/n=1:=by grind[e9]
  simp[go_sem];refine zJ ⟨zW b,by simp_all[zW];omega,zZ rfl⟩ ?_;simp[go_sem];refine wu ?_;rcases h1 with rfl|rfl<;>simp[k6,h,zU,w0,w1]
 .simp[go_sem];refine pC (wD8 n hn) ?_;simp[go_sem];refine zL (Jv (P3 (b++[2]) (gM n) (by grind) (Mq hn))) cB ⟨wX (by grind[zU]),zC rfl,tV⟩ rfl ?_;simp[go_sem];refine wu ?_;grind[k6]
 .simp[go_sem];refine zL (Jv (wv7 (b++[3]) s (by grind) hs)) cB ⟨wX (by grind[zU]),zC rfl,tV⟩ rfl ?_;simp[go_sem];refine wu ?_;grind[k6]
end Go.Proofs.YtegbonbgofjlcaaGreat.R
namespace Go.Proofs.YtegbonbgofjlcaaGreat.R
open Go Go.Vx Go.Proofs.Tryz
set_option maxRecDepth 100000
structure ju(row:List bK):Prop where len:row.length<=20s:∀v∈row,v.s.length<=500ok:∀v∈row,v.ok
theorem xk7{v:bK}(hn:cL v.n)(h:v.s.length<=500):(k6 v).length<=520:=by unfold k6;have h1:=zg (Mq hn);have h2:=zg (v:=v.s.length) om;(repeat' split)<;>simp<;>omega
theorem UZ:∀{l:List bK},(∀v∈l,v.s.length<=500)->(∀v∈l,v.ok)->(l.flatMap k6).length<=520*l.length
 |[],_,_=>by simp|v::l,h,ho=>by have h1:=xk7 (ho v sM).n (h v sM);have h2:=UZ (l:=l) (λx hx=>h x (by simp[hx])) (λx hx=>ho x (by simp[hx]));simp only[Br,Al,Ah];omega
def tE(row:List bK)(i:Nat):alW:=eQ row.length++(row.take i).flatMap k6
def xP(row:List bK):alW:=tE row row.length
theorem P5{row:List bK}(h:ju row)(i:Nat):(tE row i).length<=20000:=by
 have h1:=zg (v:=row.length) (by have:=h.len;omega);have h2:=UZ (l:=row.take i) (λv hv=>h.s v (B6 hv)) (λv hv=>h.ok v (B6 hv));have h3:=h.len;have h4:(row.take i).length<=row.length:=by simp;exact Nat.min_le_right _ _
 unfold tE;rw[Al];omega
theorem xg5{row:List bK}{i:Nat}(h:i<row.length):tE row (i+1)=tE row i++k6 row[i]:=by unfold tE;rw[Ac h,alN,Bj];simp
theorem U0(row:List bK)(h:ju row):Pure prog 253 [.sl .ro (row.map bK.row)] (.str (xP row)):=by
 refine iV 0 func253 ntmps253 results253 λc hc hb=>?_;refine zA ?_;have hl:=h.len;have e1:IntKind.u64.wrap (row.length:Int)=(row.length:Int):=dp om om;simp[go_sem,e1];refine zL (Jv (P3 [] row.length dC om)) cB ⟨wX rfl,zC rfl,tV⟩ rfl ?_;simp[go_sem];refine zG (S:=Nat) [3,10,11,12] (λi=>[fc (tE row i),.sl .ro (row.map bK.row),.int .i64 row.length,.int .i64 i]) (λ_=>[]) (λi=>row.length-i) (λi=>i<=row.length) hc hb 0 (A5 _) ?_ ?_;.exact gC rfl (zR (by simp[go_sem,tE]) rfl)
 intro i hi;refine zA ?_;simp[go_sem];refine zX (λq=>?_) (λq=>?_);.have q:i<row.length:=sU q;obtain⟨v,hv⟩:=eX (row[i]);have hm:v∈row:=hv▸A9 q;simp[go_sem,q,hv];have h2:=P5 h i;have h3:=h.s v hm;refine pC (wg5 (tE row i) v (h.ok v hm) (by unfold cN;omega) (by unfold cN;omega)) ?_;simp[go_sem,zO q om];refine zH (i+1) ⟨om,q,gC rfl (zR (by simp[go_sem,xg5 q,hv]) rfl)⟩
 .have q:i=row.length:=by have:¬i<row.length:=sU q;omega
  subst q;simp[go_sem,fc];refine zJ (xX _) ?_;simp[go_sem,Gk];exact wR
end Go.Proofs.YtegbonbgofjlcaaGreat.R
