/-
  Contracts of functions that the claimed statement reaches, each proved over trees (the library Vx); used by the theorem at the end of the claim.
  Conditions: as each theorem states them.
-/
import Derived.Test.YtplackkccmeioaaGreatKAAI
import Derived.Test.YtplackkccmeioaaGreatKAAE
set_option maxHeartbeats 8000000
namespace Go.Proofs.YtplackkccmeioaaGreat
open Go Go.Vx Go.Proofs.Tryz
set_option maxRecDepth 100000
variable {L:List bQ}
variable {τ:St}{s':RS}{st:bW}{e:Int}
def kf (L:List bQ) (s:RS):Bool×bJ:=if dq L Eb s=true then(true,(iX L (zR s)).1)else(false,de)
theorem wo1 (L:List bQ) (s:RS) (a b:List V): ∃g:Tag,KA L s a b (.box (a++ [.bool false,.int .i64 0,.str [],.int .i64 0,.int .i64 0,.str [],.sl .full []]++b))=
  .box (a++ [.bool (kf L s).1,.int .i64 (kf L s).2.kind,.str (kf L s).2.s,.int .i64 (kf L s).2.v.kind,.int .i64 (kf L s).2.v.n,.str (kf L s).2.v.s,.sl g ((kf L s).2.args.map bJ.row)]++b):=by
 unfold KA kf
 by_cases q:dq L Eb s=true
 .exact⟨.ro,by rw[ai2 q,ai2 q];simp[jP]⟩
 .exact⟨.full,by rw[ai1 q,ai1 q];rfl⟩
theorem NS (L:List bQ) (hL:eR L) (s:RS) (hs:du L s) (ho:s.bZ=0) (τ:St) (j:Nat) (c0 c1 c2 c3 c4 aa ab ad:V) (hj:τ[j]? =some (.box [c0,c1,c2,c3,c4,.bool false,.int .i64 0,.str [],.int .i64 0,.int .i64 0,.str [],.sl .full [],aa,ab,ad])):
  ∃g:Tag,bN prog 122 [.ptr 0 0,.ptr (j+1) 0] (rB L s::τ) (λr I=>r= .cz []/\I=rB L (o9 L s)::τ.set j (.box [c0,c1,c2,c3,c4,.bool (kf L s).1,.int .i64 (kf L s).2.kind,.str (kf L s).2.s,.int .i64 (kf L s).2.v.kind,.int .i64 (kf L s).2.v.n,.str (kf L s).2.v.s,.sl g ((kf L s).2.args.map bJ.row),aa,ab,ad])):=by
 obtain⟨g,hg⟩:=wo1 L s [c0,c1,c2,c3,c4] [aa,ab,ad]
 refine⟨g, ?_⟩
 have:=wd9 L hL s hs ho τ j c0 c1 c2 c3 c4 _ _ _ _ _ _ _ aa ab ad hj
 simp only[Bs,C7]at hg
 rw[hg]at this
 exact this
def qU:aiA:= [70,82,79,77]
def NT:aiA:= [79,82,68,69,82]
def qV:aiA:= [66,89]
def Ec:aiA:= [65,83,67]
def NU:aiA:= [68,69,83,67]
def xc:aiA:= [76,73,77,73,84]
def AN (L:List bQ) (s:RS):(aiA×Bool)×RS:=
 if dq L NT s=true then
  if dq L Ec (xC L (yH L qV (zR s))).2=true then(((xC L (yH L qV (zR s))).1,false),zR (xC L (yH L qV (zR s))).2)
  else if dq L NU (xC L (yH L qV (zR s))).2=true then(((xC L (yH L qV (zR s))).1,true),zR (xC L (yH L qV (zR s))).2)
  else(((xC L (yH L qV (zR s))).1,false),(xC L (yH L qV (zR s))).2)
 else(([],false),s)
def AO (L:List bQ) (s:RS):Int×RS:=if dq L xc s=true then hZ L (zR s)else(-1,s)
theorem NV (hL:eR L) {s:RS} (h:du L s):UI L s (AN L s).2:=by
 unfold AN
 split
 .rename_i hi
  have h1:=xA hL h hi
  have h2:=h1.trans (yM hL qV h1.cA)
  have h3:=h2.trans (nD hL h2.cA)
  split
  .exact h3.trans (xA hL h3.cA ‹_›)
  split
  .exact h3.trans (xA hL h3.cA ‹_›)
  .exact h3
 .exact UI.refl h
theorem Sr (hL:eR L) {s:RS} (h:du L s):UI L s (AO L s).2:=by
 unfold AO
 split
 .rename_i hi
  have h1:=xA hL h hi
  exact h1.trans (NP hL h1.cA)
 .exact UI.refl h
def ve (L:List bQ) (s:RS):bW×RS:=
 let x:=qT L s
 let n:=xC L (yH L qU x.2)
 let w:=kf L n.2
 let o:=AN L (o9 L n.2)
 let l:=AO L o.2
 (⟨1,n.1,x.1,[],[],w.1,w.2,o.1.1,o.1.2,l.1⟩,l.2)
theorem Ss (hL:eR L): ∀(n:Nat) (l:List cO) (s:RS),du L s->s.bZ=0->UI L s (tJ L n l s).2
 |0,_,_,h,_=>UI.refl h
 |n+1,l,s,h,ho=>by
  unfold tJ
  split
  .rename_i he
   have h1:=NR hL h ho
   split
   .have h2:=h1.trans (xA hL h1.cA ‹_›)
    exact h2.trans (Ss hL n _ _ h2.cA (h2.bZ.trans ho))
   .exact h1
  .exact tI h
theorem NW (hL:eR L) {s:RS} (h:du L s) (ho:s.bZ=0):UI L s (qT L s).2:=by
 unfold qT
 split
 .exact xA hL h ‹_›
 .exact Ss hL 7 [] s h ho
def RT (L:List bQ) (x:bW×RS):V->St->Prop:=λr I=>r= .agg x.1.row/\I= [rB L x.2]
theorem pY {g1 g2 g3 g4:Tag} {s:RS} {M:bW×RS} (h:(st,s)=M):
  cw (some (.agg [.int .i64 st.kind,.str st.table,.sl g1 (st.items.map cO.row),.sl g2 (st.rows.map λl=> [V.sl .ro (l.map bJ.row)]),.sl g3 (st.cG.map ct.row),.bool st.dP,.int .i64 st.cE.kind,.str st.cE.s,.int .i64 st.cE.v.kind,.int .i64 st.cE.v.n,.str st.cE.v.s,.sl g4 (st.cE.args.map bJ.row),.str st.order,.bool st.down,.int .i64 st.bS])) 1 (RT L M) (rB L s::τ):=by
 subst h
 exact xN (L:=L) (r:= .agg st.row) (wN ⟨zF rfl,zF rfl,zX,zX,zX,zF rfl,zF rfl,zF rfl,zF rfl,zF rfl,zF rfl,zX,zF rfl,zF rfl,zF rfl,tV⟩) ⟨rfl,rfl⟩
theorem HP (st:bW):gM (.agg st.row)=true:=rfl
theorem xy5 (L:List bQ) (hL:eR L) (s:RS) (hs:du L s) (ho:s.bZ=0):bN prog 118 [.ptr 0 0] [rB L s] (RT L (ve L s)):=by
 generalize hM:ve L s=M
 unfold ve at hM
 have hx:=xX3 L hL s hs ho
 have af:=NW hL hs ho
 generalize qT L s=x at hx af hM
 obtain⟨xl,s1⟩:=x
 simp only at hx af hM
 have hm:=lC L hL s1 af.cA qU
 have ah:=af.trans (yM hL qU af.cA)
 generalize yH L qU s1=s2 at hm ah hM
 have hn:=DQ L hL s2 ah.cA
 have ad:=ah.trans (nD hL ah.cA)
 generalize xC L s2=n at hn ad hM
 obtain⟨nm,s3⟩:=n
 simp only at hn ad hM
 obtain⟨gw,hw⟩:=NS L hL s3 ad.cA (ad.bZ.trans ho) [.box [.int .i64 0,.str [],.sl .full [],.sl .full [],.sl .full [],.bool false,.int .i64 0,.str [],.int .i64 0,.int .i64 0,.str [],.sl .full [],.str [],.bool false,.int .i64 0],.box [.int .i64 1,.str nm,.sl .ro (xl.map cO.row),.sl .full [],.sl .full [],.bool false,.int .i64 0,.str [],.int .i64 0,.int .i64 0,.str [],.sl .full [],.str [],.bool false,.int .i64 (-1)]] 1 _ _ _ _ _ _ _ _ rfl
 have ae:=ad.trans (F3 hL ad.cA (ad.bZ.trans ho))
 generalize o9 L s3=s4 at hw ae hM
 generalize kf L s3=w at hw hM
 obtain⟨wb,we⟩:=w
 simp only[By,Cf]at hw hM
 have ai:=NV hL ae.cA
 generalize hO:AN L s4=o at ai hM
 obtain⟨⟨on,od⟩,s5⟩:=o
 simp only at ai hM
 have aa:=ae.trans ai
 generalize hl:AO L s5=l at hM
 obtain⟨ll,s6⟩:=l
 simp only at hM
 unfold AN at hO
 unfold AO at hl
 refine iW 1 func118 ntmps118 results118 λc hc hb=>zM ?_
 simp[go_sem]
 refine pR hx ?_
 simp[go_sem]
 refine pR hm ?_
 simp[go_sem]
 refine pR hn ?_
 simp[go_sem]
 refine FN hw cB ?_
 rintro r I ⟨rfl,rfl⟩ _
 simp[go_sem]
 by_cases qO:dq L NT s4=true
 rotate_left
 .have qO:dq L NT s4=false:=sU qO
  rw[ai1 (by rw[qO];decide)]at hO
  obtain⟨⟨rfl,rfl⟩,rfl⟩:([]=on/\false=od)/\s4=s5:=sU hO
  refine pR (wT L hL s4 ae.cA _ qO) ?_
  simp[go_sem]
  by_cases qL:dq L xc s4=true
  .rw[ai2 qL]at hl
   have ab:=FW L hL (zR s4) (aa.cA.next hL qL)
   rw[hl]at ab
   refine pR (xS L hL s4 aa.cA _ qL) ?_
   simp[go_sem]
   refine pR ab ?_
   simp[go_sem]
   exact pY (st:=⟨1,nm,xl,[],[],wb,we,_,_,ll⟩) hM
  .have qL:dq L xc s4=false:=sU qL
   rw[ai1 (by rw[qL];decide)]at hl
   obtain⟨rfl,rfl⟩: -1=ll/\s4=s6:=sU hl
   refine pR (wT L hL s4 aa.cA _ qL) ?_
   simp[go_sem]
   exact pY (st:=⟨1,nm,xl,[],[],wb,we,_,_,-1⟩) hM
 rw[ai2 qO]at hO
 have h1:=xA hL ae.cA qO
 have al:=lC L hL _ h1.cA qV
 have h2:=yM hL qV h1.cA
 generalize yH L qV (zR s4)=t1 at al h2 hO
 have aj:=DQ L hL _ h2.cA
 have h3:=nD hL h2.cA
 generalize xC L t1=n2 at aj h3 hO
 obtain⟨ak,t2⟩:=n2
 simp only at aj h3 hO
 refine pR (xS L hL s4 ae.cA _ qO) ?_
 simp[go_sem]
 refine pR al ?_
 simp[go_sem]
 refine pR aj ?_
 simp[go_sem]
 by_cases qA:dq L Ec t2=true
 .rw[ai2 qA]at hO
  obtain⟨⟨rfl,rfl⟩,rfl⟩:(ak=on/\false=od)/\zR t2=s5:=sU hO
  refine pR (xS L hL t2 h3.cA _ qA) ?_
  simp[go_sem]
  by_cases qL:dq L xc (zR t2)=true
  .rw[ai2 qL]at hl
   have ab:=FW L hL (zR (zR t2)) (aa.cA.next hL qL)
   rw[hl]at ab
   refine pR (xS L hL (zR t2) aa.cA _ qL) ?_
   simp[go_sem]
   refine pR ab ?_
   simp[go_sem]
   exact pY (st:=⟨1,nm,xl,[],[],wb,we,_,_,ll⟩) hM
  .have qL:dq L xc (zR t2)=false:=sU qL
   rw[ai1 (by rw[qL];decide)]at hl
   obtain⟨rfl,rfl⟩: -1=ll/\(zR t2)=s6:=sU hl
   refine pR (wT L hL (zR t2) aa.cA _ qL) ?_
   simp[go_sem]
   exact pY (st:=⟨1,nm,xl,[],[],wb,we,_,_,-1⟩) hM
 have qA:dq L Ec t2=false:=sU qA
 rw[ai1 (by rw[qA];decide)]at hO
 refine pR (wT L hL t2 h3.cA _ qA) ?_
 simp[go_sem]
 by_cases qD:dq L NU t2=true
 .rw[ai2 qD]at hO
  obtain⟨⟨rfl,rfl⟩,rfl⟩:(ak=on/\true=od)/\zR t2=s5:=sU hO
  refine pR (xS L hL t2 h3.cA _ qD) ?_
  simp[go_sem]
  by_cases qL:dq L xc (zR t2)=true
  .rw[ai2 qL]at hl
   have ab:=FW L hL (zR (zR t2)) (aa.cA.next hL qL)
   rw[hl]at ab
   refine pR (xS L hL (zR t2) aa.cA _ qL) ?_
   simp[go_sem]
   refine pR ab ?_
   simp[go_sem]
   exact pY (st:=⟨1,nm,xl,[],[],wb,we,_,_,ll⟩) hM
  .have qL:dq L xc (zR t2)=false:=sU qL
   rw[ai1 (by rw[qL];decide)]at hl
   obtain⟨rfl,rfl⟩: -1=ll/\(zR t2)=s6:=sU hl
   refine pR (wT L hL (zR t2) aa.cA _ qL) ?_
   simp[go_sem]
   exact pY (st:=⟨1,nm,xl,[],[],wb,we,_,_,-1⟩) hM
 .have qD:dq L NU t2=false:=sU qD
  rw[ai1 (by rw[qD];decide)]at hO
  obtain⟨⟨rfl,rfl⟩,rfl⟩:(ak=on/\false=od)/\t2=s5:=sU hO
  refine pR (wT L hL t2 h3.cA _ qD) ?_
  simp[go_sem]
  by_cases qL:dq L xc t2=true
  .rw[ai2 qL]at hl
   have ab:=FW L hL (zR t2) (aa.cA.next hL qL)
   rw[hl]at ab
   refine pR (xS L hL t2 aa.cA _ qL) ?_
   simp[go_sem]
   refine pR ab ?_
   simp[go_sem]
   exact pY (st:=⟨1,nm,xl,[],[],wb,we,_,_,ll⟩) hM
  .have qL:dq L xc t2=false:=sU qL
   rw[ai1 (by rw[qL];decide)]at hl
   obtain⟨rfl,rfl⟩: -1=ll/\t2=s6:=sU hl
   refine pR (wT L hL t2 aa.cA _ qL) ?_
   simp[go_sem]
   exact pY (st:=⟨1,nm,xl,[],[],wb,we,_,_,-1⟩) hM
variable {L:List bQ}
def fQ (L:List bQ):Nat->List bJ->RS->Bool×List bJ×RS
 |0,l,s=>(false,l,s)
 |n+1,l,s=>
  if(kb L l.length 6 (jO L false s) s).err=0 then
   (if dq L [44] (iX L s).2=true then fQ L n (l++ [(iX L s).1]) (zR (iX L s).2)else(true,l++ [(iX L s).1],(iX L s).2))
  else(false,l,kb L l.length 6 (jO L false s) s)
def sa (L:List bQ):Nat->List (List bJ)->RS->List (List bJ)×RS
 |0,R,s=>(R,s)
 |n+1,R,s=>
  if(kb L R.length 16 (dq L [40] s) s).err=0 then
   (if(fQ L 7 [] (yH L [40] s)).1=true then
    (if dq L [44] (yH L [41] (fQ L 7 [] (yH L [40] s)).2.2)=true then sa L n (R++ [(fQ L 7 [] (yH L [40] s)).2.1]) (zR (yH L [41] (fQ L 7 [] (yH L [40] s)).2.2))
    else(R++ [(fQ L 7 [] (yH L [40] s)).2.1],yH L [41] (fQ L 7 [] (yH L [40] s)).2.2))
   else(R,(fQ L 7 [] (yH L [40] s)).2.2))
  else(R,kb L R.length 16 (dq L [40] s) s)
def Ed:aiA:= [73,78,84,79]
def F4:aiA:= [86,65,76,85,69,83]
def vf (L:List bQ) (s:RS):bW×RS:=
 let n:=xC L (yH L Ed s)
 let r:=sa L 17 [] (yH L F4 n.2)
 (⟨2,n.1,[],r.1,[],false,de,[],false,0⟩,r.2)
theorem NX (hL:eR L): ∀(n:Nat) (l:List bJ) (s:RS),du L s->s.bZ=0->UI L s (fQ L n l s).2.2
 |0,_,_,h,_=>UI.refl h
 |n+1,l,s,h,ho=>by
  unfold fQ
  split
  .have h1:=vd hL h ho
   split
   .have h2:=h1.trans (xA hL h1.cA ‹_›)
    exact h2.trans (NX hL n _ _ h2.cA (h2.bZ.trans ho))
   .exact h1
  .exact tI h
theorem Su (hL:eR L): ∀(n:Nat) (R:List (List bJ)) (s:RS),du L s->s.bZ=0->UI L s (sa L n R s).2
 |0,_,_,h,_=>UI.refl h
 |n+1,R,s,h,ho=>by
  unfold sa
  split
  .have h1:=yM hL [40] h
   have h2:=h1.trans (NX hL 7 [] _ h1.cA (h1.bZ.trans ho))
   split
   .have h3:=h2.trans (yM hL [41] h2.cA)
    split
    .have h4:=h3.trans (xA hL h3.cA ‹_›)
     exact h4.trans (Su hL n _ _ h4.cA (h4.bZ.trans ho))
    .exact h3
   .exact h2
  .exact tI h
theorem xa6 (hL:eR L) {s:RS} (h:du L s) (ho:s.bZ=0):UI L s (vf L s).2:=by
 unfold vf
 have h1:=yM hL Ed h
 have h2:=h1.trans (nD hL h1.cA)
 have h3:=h2.trans (yM hL F4 h2.cA)
 exact h3.trans (Su hL 17 [] _ h3.cA (h3.bZ.trans ho))
def xd (nm:aiA) (R:List (List bJ)):Ob:= .box [.int .i64 2,.str nm,.sl .full [],.sl (.app 3) (R.map λl=> [V.sl .ro (l.map bJ.row)]),.sl .full [],.bool false,.int .i64 0,.str [],.int .i64 0,.int .i64 0,.str [],.sl .full [],.str [],.bool false,.int .i64 0]
def sb:Ob:= .box [.int .i64 0,.str [],.sl .full [],.sl .full [],.sl .full [],.bool false,.int .i64 0,.str [],.int .i64 0,.int .i64 0,.str [],.sl .full [],.str [],.bool false,.int .i64 0]
theorem xt9 (L:List bQ) (hL:eR L) (s0:RS) (av:du L s0) (aw:s0.bZ=0):bN prog 119 [.ptr 0 0] [rB L s0] (RT L (vf L s0)):=by
 generalize hM:vf L s0=M
 unfold vf at hM
 have ax:=lC L hL s0 av Ed
 have al:=yM hL Ed av
 generalize yH L Ed s0=s1 at ax al hM
 have hn:=DQ L hL s1 al.cA
 have ah:=al.trans (nD hL al.cA)
 generalize xC L s1=n at hn ah hM
 obtain⟨nm,s2⟩:=n
 simp only at hn ah hM
 have ay:=lC L hL s2 ah.cA F4
 have az:=ah.trans (yM hL F4 ah.cA)
 generalize yH L F4 s2=s3 at ay az hM
 obtain⟨X,hX⟩:=eX (sa L 17 [] s3)
 rw[hX]at hM
 have ret: ∀(R:List (List bJ)) (s:RS) (τ:St),(R,s)=X->cw (some (.agg [.int .i64 2,.str nm,.sl .full [],.sl (.app 3) (R.map λl=> [V.sl .ro (l.map bJ.row)]),.sl .full [],.bool false,.int .i64 0,.str [],.int .i64 0,.int .i64 0,.str [],.sl .full [],.str [],.bool false,.int .i64 0])) 1 (RT L M) (rB L s::τ):=λR s τ h=>by
  subst h
  exact pY (st:=⟨2,nm,[],R,[],false,de,[],false,0⟩) hM
 refine iV 1 func119 ntmps119 results119 λc hc hb=> ?_
 refine zA ?_
 simp[go_sem]
 refine pR ax ?_
 simp[go_sem]
 refine pR hn ?_
 simp[go_sem]
 refine pR ay ?_
 simp[go_sem]
 refine DE 2 3 1 _ dC rfl rfl ?_
 simp only[By,Cf]
 refine zI (S:=List (List bJ)×RS) [0,2,3] (λu=> [.ptr 0 0,.ptr 1 0,.ptr 2 0]) (λu=> [rB L u.2,sb,xd nm u.1,.app u.1.length 1]) (λu=>17 - u.1.length) (λu=>u.1.length<=16/\UI L s0 u.2/\sa L (17 - u.1.length) u.1 u.2=X) hc hb ([],s3) ⟨A3 _,az,hX⟩ ?_ ?_
 .exact cc 4 (by simp[go_sem];exact⟨rfl,rfl⟩) rfl (by simp[rB,sb,xd,bT,cS,cN]) dC (zD sg rfl)
 rintro⟨R,s⟩ ⟨hR,hu,hinv⟩
 simp only at hR hu hinv
 have hs:=hu.cA
 have ho:=hu.bZ.trans aw
 have ai:=jt L hL s hs [40]
 have ad:=HO L hL s hs R.length 16 (dq L [40] s)
 have ao:=u9 (L:=L) (n:=R.length) (gb:=16) (b:=dq L [40] s) (s:=s)
 rw[show 17 - R.length=(16 - R.length)+1 by omega,sa]at hinv
 generalize dq L [40] s=bg at ai ad ao hinv
 generalize kb L R.length 16 bg s=m at ad ao hinv
 by_cases q:m.err=0
 rotate_left
 .have q':(m.err==0)=false:=sU q
  rw[ai1 q]at hinv
  rw[q']at ad
  refine zA ?_
  simp[go_sem]
  refine wJ [(5,3),(6,3)] 1 4 sm kR kR ?_
  simp[go_sem,xd]
  refine tE ai cB (wM ⟨zC rfl,tV⟩) rfl ?_
  simp[go_sem]
  refine tE ad cB (wM ⟨zC rfl,zC rfl,zC rfl,tV⟩) rfl ?_
  simp[go_sem]
  exact ret _ _ _ hinv
 have q':(m.err==0)=true:=sU q
 obtain⟨he,aD,rfl⟩:=ao q
 rw[ai2 q]at hinv
 rw[q']at ad
 have a1:=lC L hL m hs [40]
 have a6:=hu.trans (yM hL [40] hs)
 generalize yH L [40] m=s4 at a1 a6 hinv
 obtain⟨Y,hY⟩:=eX (fQ L 7 [] s4)
 rw[hY]at hinv
 refine zA ?_
 simp[go_sem]
 refine wJ [(5,3),(6,3)] 1 4 sm kR kR ?_
 simp[go_sem,xd]
 refine tE ai cB (wM ⟨zC rfl,tV⟩) rfl ?_
 simp[go_sem]
 refine tE ad cB (wM ⟨zC rfl,zC rfl,zC rfl,tV⟩) rfl ?_
 simp[go_sem]
 refine pR a1 ?_
 simp[go_sem]
 refine l7 4 6 dC sg ?_
 refine zI (S:=List bJ×RS) [0,2,3,4] (λu=> [.ptr 0 0,.ptr 1 0,.ptr 2 0,.sl (.app 4) (u.1.map bJ.row)]) (λu=> [rB L u.2,sb,xd nm R,.app R.length 1,.app u.1.length 6]) (λu=>7 - u.1.length) (λu=>u.1.length<=6/\UI L s0 u.2/\fQ L (7 - u.1.length) u.1 u.2=Y) hc hb ([],s4) ⟨A3 _,a6,hY⟩ ?_ ?_
 .exact cc 5 (by simp[go_sem];rfl) rfl (by simp[rB,sb,xd,bT,cS,cN]) dC (zD sg rfl)
 rintro⟨l,t⟩ ⟨hl,an,aa⟩
 simp only at hl an aa
 have ht:=an.cA
 have a7:=an.bZ.trans aw
 have ae:=Sq L hL t ht false
 have ab:=HO L hL t ht l.length 6 (jO L false t)
 have aj:=u9 (L:=L) (n:=l.length) (gb:=6) (b:=jO L false t) (s:=t)
 rw[show 7 - l.length=(6 - l.length)+1 by omega,fQ]at aa
 generalize jO L false t=aA at ae ab aj aa
 generalize kb L l.length 6 aA t=m2 at ab aj aa
 by_cases q2:m2.err=0
 rotate_left
 .have aq:(m2.err==0)=false:=sU q2
  rw[ai1 q2]at aa
  rw[aq]at ab
  have ar:Y.1=false:=by rw[<-aa]
  have au:Y.2.2=m2:=by rw[<-aa]
  rw[ai1 (by rw[ar];decide),au]at hinv
  refine zA ?_
  simp[go_sem]
  refine pR ae ?_
  simp[go_sem]
  refine pR ab ?_
  simp[go_sem,xd]
  exact ret _ _ _ hinv
 have aq:(m2.err==0)=true:=sU q2
 obtain⟨aE,aC,rfl⟩:=aj q2
 rw[ai2 q2]at aa
 rw[aq]at ab
 have hx:=tH L hL m2 ht a7
 have af:=an.trans (vd hL ht a7)
 generalize iX L m2=x at hx af aa
 by_cases q3:dq L [44] x.2=true
 .rw[ai2 q3]at aa
  refine zA ?_
  simp[go_sem]
  refine pR ae ?_
  simp[go_sem]
  refine pR ab ?_
  simp[go_sem]
  refine jW hx cB fK ?_
  simp[go_sem,bJ.bR]
  refine zH ⟨om,zY rfl⟩ ?_
  simp[go_sem]
  refine pR (xS L hL x.2 af.cA _ q3) ?_
  simp[go_sem]
  refine zJ (l++ [x.1],zR x.2) ⟨by simp;omega,⟨by simp;omega,af.trans (xA hL af.cA q3),by simp only[An,Bl,show 7 - (l.length+1)=6 - l.length by omega];exact aa⟩, ?_⟩
  exact aM 5 (by simp[rB,sb,xd,bT,cS,cN]) (zD (by simp[go_sem,bJ.bR]) rfl)
 have q3:dq L [44] x.2=false:=sU q3
 rw[ai1 (by rw[q3];decide)]at aa
 have ar:Y.1:=by rw[<-aa]
 have au:Y.2.2=x.2:=by rw[<-aa]
 have aB:Y.2.1=l++ [x.1]:=by rw[<-aa]
 rw[ai2 ar,au,aB]at hinv
 have a8:=lC L hL x.2 af.cA [41]
 have ak:=af.trans (yM hL [41] af.cA)
 generalize yH L [41] x.2=s5 at a8 ak hinv
 refine zA ?_
 simp[go_sem]
 refine pR ae ?_
 simp[go_sem]
 refine pR ab ?_
 simp[go_sem]
 refine jW hx cB fK ?_
 simp[go_sem,bJ.bR]
 refine zH ⟨om,zY rfl⟩ ?_
 simp[go_sem]
 refine pR (wT L hL x.2 af.cA _ q3) ?_
 simp[go_sem]
 refine pR a8 ?_
 simp[go_sem,xd]
 refine zH ⟨om,zY rfl⟩ ?_
 simp[go_sem]
 by_cases q5:dq L [44] s5=true
 .rw[ai2 q5]at hinv
  refine pR (xS L hL s5 ak.cA _ q5) ?_
  simp[go_sem]
  refine zJ (R++ [l++ [x.1]],zR s5) ⟨by simp;omega,⟨by simp;omega,ak.trans (xA hL ak.cA q5),by simp only[An,Bl,show 17 - (R.length+1)=16 - R.length by omega];exact hinv⟩, ?_⟩
  exact cc 4 (by simp[go_sem,bJ.bR]) rfl (by simp[rB,sb,bT,cS,cN]) dC (zD sg rfl)
 .have q5:dq L [44] s5=false:=sU q5
  rw[ai1 (by rw[q5];decide)]at hinv
  refine pR (wT L hL s5 ak.cA _ q5) ?_
  simp[go_sem]
  have hr:=ret (R++ [l++ [x.1]]) s5
  simp[bJ.bR]at hr
  exact hr _ hinv
variable {L:List bQ}
def F5 (L:List bQ) (s:RS):Bool:=(cD L s).kind==1&&lB (cD L s).s
def pb:aiA:= [83,69,84]
def qW (L:List bQ):Nat->List ct->RS->Bool×List ct×RS
 |0,l,s=>(false,l,s)
 |n+1,l,s=>
  if(kb L l.length 6 (F5 L s) s).err=0 then
   (if dq L [44] (iX L (yH L [61] (xC L s).2)).2=true then qW L n (l++ [⟨(xC L s).1,(iX L (yH L [61] (xC L s).2)).1⟩]) (zR (iX L (yH L [61] (xC L s).2)).2)
   else(true,l++ [⟨(xC L s).1,(iX L (yH L [61] (xC L s).2)).1⟩],(iX L (yH L [61] (xC L s).2)).2))
  else(false,l,kb L l.length 6 (F5 L s) s)
def vg (L:List bQ) (s:RS):bW×RS:=
 let n:=xC L s
 let r:=qW L 7 [] (yH L pb n.2)
 if r.1=true then(⟨3,n.1,[],[],r.2.1,(kf L r.2.2).1,(kf L r.2.2).2,[],false,0⟩,o9 L r.2.2)
 else(⟨3,n.1,[],[],r.2.1,false,de,[],false,0⟩,r.2.2)
theorem NY (hL:eR L): ∀(n:Nat) (l:List ct) (s:RS),du L s->s.bZ=0->UI L s (qW L n l s).2.2
 |0,_,_,h,_=>UI.refl h
 |n+1,l,s,h,ho=>by
  unfold qW
  split
  .have h1:=nD hL h
   have h2:=h1.trans (yM hL [61] h1.cA)
   have h3:=h2.trans (vd hL h2.cA (h2.bZ.trans ho))
   split
   .have h4:=h3.trans (xA hL h3.cA ‹_›)
    exact h4.trans (NY hL n _ _ h4.cA (h4.bZ.trans ho))
   .exact h3
  .exact tI h
theorem xg3 (hL:eR L) {s:RS} (h:du L s) (ho:s.bZ=0):UI L s (vg L s).2:=by
 unfold vg
 have h1:=nD hL h
 have h2:=h1.trans (yM hL pb h1.cA)
 have h3:=h2.trans (NY hL 7 [] _ h2.cA (h2.bZ.trans ho))
 simp only
 split
 .exact h3.trans (F3 hL h3.cA (h3.bZ.trans ho))
 .exact h3
def HQ (nm:aiA) (l:List ct):Ob:= .box [.int .i64 3,.str nm,.sl .full [],.sl .full [],.sl (.app 3) (l.map ct.row),.bool false,.int .i64 0,.str [],.int .i64 0,.int .i64 0,.str [],.sl .full [],.str [],.bool false,.int .i64 0]
theorem xA2 (L:List bQ) (hL:eR L) (s0:RS) (aw:du L s0) (an:s0.bZ=0):bN prog 120 [.ptr 0 0] [rB L s0] (RT L (vg L s0)):=by
 generalize hM:vg L s0=M
 unfold vg at hM
 have hn:=DQ L hL s0 aw
 have ai:=nD hL aw
 generalize xC L s0=n at hn ai hM
 obtain⟨nm,s2⟩:=n
 simp only at hn ai hM
 have ax:=lC L hL s2 ai.cA pb
 have ay:=ai.trans (yM hL pb ai.cA)
 generalize yH L pb s2=s3 at ax ay hM
 obtain⟨X,hX⟩:=eX (qW L 7 [] s3)
 rw[hX]at hM
 refine iV 1 func120 ntmps120 results120 λc hc hb=> ?_
 refine zA ?_
 simp[go_sem]
 refine pR hn ?_
 simp[go_sem]
 refine pR ax ?_
 simp[go_sem]
 refine DE 2 4 7 _ dC rfl rfl ?_
 simp only[By,Cf]
 refine zI (S:=List ct×RS) [0,2,3] (λu=> [.ptr 0 0,.ptr 1 0,.ptr 2 0]) (λu=> [rB L u.2,sb,HQ nm u.1,.app u.1.length 7]) (λu=>7 - u.1.length) (λu=>u.1.length<=6/\UI L s0 u.2/\qW L (7 - u.1.length) u.1 u.2=X) hc hb ([],s3) ⟨A3 _,ay,hX⟩ ?_ ?_
 .exact cc 4 (by simp[go_sem];exact⟨rfl,rfl⟩) rfl (by simp[rB,sb,HQ,bT,cS,cN]) dC (zD sg rfl)
 rintro⟨l,s⟩ ⟨hl,hu,hinv⟩
 simp only at hl hu hinv
 have hs:=hu.cA
 have ho:=hu.bZ.trans an
 have ad:=nz L hL s hs
 have aj:=NJ (cD L s).s (hL.w7 _ (FZ hs))
 have aa:=HO L hL s hs l.length 6 (F5 L s)
 have aq:=u9 (L:=L) (n:=l.length) (gb:=6) (b:=F5 L s) (s:=s)
 rw[show 7 - l.length=(6 - l.length)+1 by omega,qW]at hinv
 generalize ao:F5 L s=bg at aa aq hinv
 unfold F5 at ao
 have ae:=DQ L hL s hs
 have ak:=hu.trans (nD hL hs)
 generalize cD L s=tk at ad aj ao
 generalize lB tk.s=wd at aj ao
 generalize kb L l.length 6 bg s=m at aa aq hinv
 have key:((tk.kind==1)=true/\wd=bg)\/((tk.kind==1)=false/\false=bg):=by
  revert ao
  cases tk.kind==1<;>simp
 by_cases q:m.err=0
 rotate_left
 .have q':(m.err==0)=false:=sU q
  rw[ai1 q]at hinv
  rw[q']at aa
  have ar:X.1=false:=by rw[<-hinv]
  have au:X.2.1=l:=by rw[<-hinv]
  have av:X.2.2=m:=by rw[<-hinv]
  rw[ai1 (by rw[ar];decide),au,av]at hM
  refine zA ?_
  simp[go_sem]
  refine pR ad ?_
  simp[go_sem,HQ]
  refine wJ [(10,0),(12,3)] 1 5 sm kR kR ?_
  simp[go_sem]
  refine key.elim (λ⟨k1,k2⟩=> ?_) (λ⟨k1,k2⟩=> ?_)
  .simp[go_sem,k1]
   refine pD aj ?_
   simp[go_sem,k2]
   refine tE aa cB (wM ⟨zC rfl,zC rfl,zC rfl,tV⟩) rfl ?_
   simp[go_sem]
   exact pY (st:=⟨3,nm,[],[],l,false,de,[],false,0⟩) hM
  .rw[<-k2]at aa
   simp[go_sem,k1]
   refine tE aa cB (wM ⟨zC rfl,zC rfl,zC rfl,tV⟩) rfl ?_
   simp[go_sem]
   exact pY (st:=⟨3,nm,[],[],l,false,de,[],false,0⟩) hM
 have q':(m.err==0)=true:=sU q
 obtain⟨he,az,rfl⟩:=aq q
 rw[ai2 q]at hinv
 rw[q']at aa
 generalize xC L m=n1 at ae ak hinv
 obtain⟨af,t1⟩:=n1
 simp only at ae ak hinv
 have al:=lC L hL t1 ak.cA [61]
 have ah:=ak.trans (yM hL [61] ak.cA)
 generalize yH L [61] t1=t2 at al ah hinv
 have hx:=tH L hL t2 ah.cA (ah.bZ.trans an)
 have ab:=ah.trans (vd hL ah.cA (ah.bZ.trans an))
 generalize iX L t2=x at hx ab hinv
 obtain⟨e,t3⟩:=x
 simp only at ab hinv
 by_cases q3:dq L [44] t3=true
 .rw[ai2 q3]at hinv
  refine zA ?_
  simp[go_sem]
  refine pR ad ?_
  simp[go_sem,HQ]
  refine wJ [(10,0),(12,3)] 1 5 sm kR kR ?_
  simp[go_sem]
  refine key.elim (λ⟨k1,k2⟩=> ?_) (λ⟨k1,k2⟩=> ?_)
  .simp[go_sem,k1]
   refine pD aj ?_
   simp[go_sem,k2]
   refine tE aa cB (wM ⟨zC rfl,zC rfl,zC rfl,tV⟩) rfl ?_
   simp[go_sem]
   refine pR ae ?_
   simp[go_sem]
   refine pR al ?_
   simp[go_sem]
   refine jW hx cB fK ?_
   simp[go_sem,bJ.bR]
   refine zH ⟨om,zY rfl⟩ ?_
   simp[go_sem]
   refine pR (xS L hL t3 ab.cA _ q3) ?_
   simp[go_sem]
   refine zJ (l++ [⟨af,e⟩],zR t3) ⟨by simp;omega,⟨by simp;omega,ab.trans (xA hL ab.cA q3),by simp only[An,Bl,show 7 - (l.length+1)=6 - l.length by omega];exact hinv⟩, ?_⟩
   exact aN 4 (by simp[rB,sb,bT,cS,cN])
  .rw[<-k2]at aa
   simp[go_sem,k1]
   refine tE aa cB (wM ⟨zC rfl,zC rfl,zC rfl,tV⟩) rfl ?_
   simp[go_sem]
   refine pR ae ?_
   simp[go_sem]
   refine pR al ?_
   simp[go_sem]
   refine jW hx cB fK ?_
   simp[go_sem,bJ.bR]
   refine zH ⟨om,zY rfl⟩ ?_
   simp[go_sem]
   refine pR (xS L hL t3 ab.cA _ q3) ?_
   simp[go_sem]
   refine zJ (l++ [⟨af,e⟩],zR t3) ⟨by simp;omega,⟨by simp;omega,ab.trans (xA hL ab.cA q3),by simp only[An,Bl,show 7 - (l.length+1)=6 - l.length by omega];exact hinv⟩, ?_⟩
   exact aN 4 (by simp[rB,sb,bT,cS,cN])
 have q3:dq L [44] t3=false:=sU q3
 rw[ai1 (by rw[q3];decide)]at hinv
 have ar:X.1:=by rw[<-hinv]
 have au:X.2.1=l++ [⟨af,e⟩]:=by rw[<-hinv]
 have av:X.2.2=t3:=by rw[<-hinv]
 rw[ai2 ar,au,av]at hM
 obtain⟨gw,hw⟩:=NS L hL t3 ab.cA (ab.bZ.trans an) [sb,.box [.int .i64 3,.str nm,.sl .full [],.sl .full [],.sl (.app 3) (l.map ct.row++ [[.str af,.int .i64 e.kind,.str e.s,.int .i64 e.v.kind,.int .i64 e.v.n,.str e.v.s,.sl .ro (e.args.map bJ.row)]]),.bool false,.int .i64 0,.str [],.int .i64 0,.int .i64 0,.str [],.sl .full [],.str [],.bool false,.int .i64 0],
  .app (l.length+1) 7,.box [.int .i64 tk.kind,.int .i64 tk.place,.str tk.s,.int .i64 tk.n],.box [.str af,.int .i64 e.kind,.str e.s,.int .i64 e.v.kind,.int .i64 e.v.n,.str e.v.s,.sl .ro (e.args.map bJ.row)]] 1 _ _ _ _ _ _ _ _ rfl
 generalize o9 L t3=s9 at hw hM
 generalize kf L t3=w9 at hw hM
 have hr:=λτ=>pY (L:=L) (g1:= .full) (g2:= .full) (g3:= .app 3) (g4:=gw) (τ:=τ) (st:=⟨3,nm,[],[],l++ [⟨af,e⟩],w9.1,w9.2,[],false,0⟩) hM
 simp at hr
 refine zA ?_
 simp[go_sem]
 refine pR ad ?_
 simp[go_sem,HQ]
 refine wJ [(10,0),(12,3)] 1 5 sm kR kR ?_
 simp[go_sem]
 refine key.elim (λ⟨k1,k2⟩=> ?_) (λ⟨k1,k2⟩=> ?_)
 .simp[go_sem,k1]
  refine pD aj ?_
  simp[go_sem,k2]
  refine tE aa cB (wM ⟨zC rfl,zC rfl,zC rfl,tV⟩) rfl ?_
  simp[go_sem]
  refine pR ae ?_
  simp[go_sem]
  refine pR al ?_
  simp[go_sem]
  refine jW hx cB fK ?_
  simp[go_sem,bJ.bR]
  refine zH ⟨om,zY rfl⟩ ?_
  simp[go_sem]
  refine pR (wT L hL t3 ab.cA _ q3) ?_
  simp[go_sem]
  refine FN hw cB ?_
  rintro r I ⟨rfl,rfl⟩ _
  simp[go_sem]
  exact hr _
 .rw[<-k2]at aa
  simp[go_sem,k1]
  refine tE aa cB (wM ⟨zC rfl,zC rfl,zC rfl,tV⟩) rfl ?_
  simp[go_sem]
  refine pR ae ?_
  simp[go_sem]
  refine pR al ?_
  simp[go_sem]
  refine jW hx cB fK ?_
  simp[go_sem,bJ.bR]
  refine zH ⟨om,zY rfl⟩ ?_
  simp[go_sem]
  refine pR (wT L hL t3 ab.cA _ q3) ?_
  simp[go_sem]
  refine FN hw cB ?_
  rintro r I ⟨rfl,rfl⟩ _
  simp[go_sem]
  exact hr _
def Ee (c:UInt8):Bool:=decide (c.toNat=9)||(decide (c.toNat=10)||(decide (c.toNat=13)||decide (c.toNat=32)))
theorem Ef (c:UInt8) (n:Nat):(((c.toNat:Nat):Int)==(n:Int))=decide (c.toNat=n):=by
 rw[Da]
 simp only[ai8,ai7]
 omega
theorem xd3 (c:UInt8):Pure prog 116 [.int .u8 c.toNat] (.bool (Ee c)):=by
 generalize hM:Ee c=M
 unfold Ee at hM
 have h9:=Ef c 9
 have aa:=Ef c 10
 have ab:=Ef c 13
 have ad:=Ef c 32
 simp only[Bz]at h9 aa ab ad
 have ret: ∀(r:Bool) (τ:St),r=M->cw (some (.bool r)) 0 (λr I=>r= .bool M/\I= []) τ:=λr τ h=>by subst h;exact wR
 refine iW 0 func116 ntmps116 results116 λc hc hb=>zM ?_
 simp[go_sem]
 repeat' (first
  |(refine xD (λq=> ?_) (λq=> ?_)<;>simp[go_sem,q])
  |(refine zV (λq=> ?_) (λq=> ?_)<;>simp[go_sem,q]))
 all_goals exact ret _ _ (by rw[<-hM];simp_all)
abbrev TR:=bQ×Nat×Int
def vh (x:TR):V:= .cz [.agg x.1.row,.int .i64 x.2.1,.int .i64 x.2.2]
theorem KB (x:TR):gM (vh x)=true:=rfl
theorem nE {t:bQ} {n:Nat} {M:TR} (h:(t,n,e)=M):cw (some (.cz [.agg [.int .i64 t.kind,.int .i64 t.place,.str t.s,.int .i64 t.n],.int .i64 n,.int .i64 e])) 0 (λr I=>r=vh M/\I= []) τ:=by
 subst h
 exact wR
def nG (v:Int):aiA->Option Int
 | []=>some v
 |c::l=>if jM c=true then(if(9223372036854775807 - ((c.toNat:Int) - 48))/10<v then none else nG (v*10+((c.toNat:Int) - 48)) l)else some v
def qX (at_:Nat) (l:aiA):TR:=
 match nG 0 l with
 |none=>(l8,0,5)
 |some v=>if mE ((l.dropWhile jM).headD 0)=true then(l8,0,13)else(⟨2,0,[],v⟩,at_+(l.takeWhile jM).length,0)
theorem Sv {c:UInt8} (h:jM c):48<=c.toNat/\c.toNat<=57:=by unfold jM at h;simpa using h
theorem yT9 (s:aiA) (hl:s.length<=maxLen) (a:Nat) (ha:a<=s.length):Pure prog 182 [.str s,.int .i64 a] (vh (qX a (s.drop a))):=by
 generalize hM:qX a (s.drop a)=M
 unfold qX at hM
 unfold maxLen at hl
 have ae:mE 0=false:=dC
 refine iV 0 func182 ntmps182 results182 λc hc hb=> ?_
 refine zA ?_
 simp[go_sem]
 refine zI (S:=Nat×Int) [0,1,4,7] (λu=> [.str s,.int .i64 u.1,.ptr 0 0,.int .i64 u.2]) (λ_=> [.box [.int .i64 0,.int .i64 0,.str [],.int .i64 0]]) (λu=>s.length - u.1)
  (λu=>u.1<=s.length/\0<=u.2/\u.2<=9223372036854775807/\(match nG u.2 (s.drop u.1)with|none=>(l8,0,5)|some v=>if mE (((s.drop u.1).dropWhile jM).headD 0)=true then(l8,0,13)else((⟨2,0,[],v⟩,u.1+((s.drop u.1).takeWhile jM).length,0):TR))=M) hc hb (a,0) ⟨ha,E1 _,sm,hM⟩ ?_ ?_
 .exact aN 1 (by rfl)
 rintro⟨i,v⟩ ⟨hi,af,ah,hinv⟩
 simp only at hi af ah hinv
 by_cases q:i<s.length
 rotate_left
 .obtain rfl:i=s.length:=om
  rw[Ci]at hinv
  have hinv:(⟨⟨2,0,[],v⟩,s.length,0⟩:TR)=M:=by rw[<-hinv];rfl
  refine zA ?_
  simp[go_sem]
  exact nE (t:=⟨2,0,[],v⟩) hinv
 have ei:=zU q om
 obtain⟨x,hx⟩:=eX (s[i])
 rw[A5 q,hx]at hinv
 have aa:=HG x
 have ab:=Km x
 by_cases qd:jM x=true
 rotate_left
 .have qd:jM x=false:=sU qd
  rw[nG,ai1 (by rw[qd];decide),List.dropWhile_cons_of_neg (by rw[qd];decide),List.takeWhile_cons_of_neg (by rw[qd];decide)]at hinv
  simp only[List.headD_cons,Ct,D4]at hinv
  rw[qd]at aa
  by_cases ql:mE x=true
  .simp only[ql,aib]at hinv
   rw[ql]at ab
   refine zA ?_
   simp[go_sem,q,hx]
   refine pC aa ?_
   simp[go_sem,q,hx]
   refine pC ab ?_
   simp[go_sem]
   exact nE (t:=l8) hinv
  .have ql:mE x=false:=sU ql
   simp only[ql,Cv,aij]at hinv
   rw[ql]at ab
   refine zA ?_
   simp[go_sem,q,hx]
   refine pC aa ?_
   simp[go_sem,q,hx]
   refine pC ab ?_
   simp[go_sem]
   exact nE (t:=⟨2,0,[],v⟩) hinv
 have hr:=Sv qd
 rw[nG,ai2 qd,List.dropWhile_cons_of_pos qd,D5 qd]at hinv
 rw[qd]at aa
 have e1:IntKind.u8.wrap ((x.toNat:Int) - 48)=(x.toNat:Int) - 48:=Kl om om
 have e2:IntKind.i64.wrap ((x.toNat:Int) - 48)=(x.toNat:Int) - 48:=bX om om
 have e3:IntKind.i64.wrap (9223372036854775807 - ((x.toNat:Int) - 48))=9223372036854775807 - ((x.toNat:Int) - 48):=bX om om
 obtain⟨d,hd⟩: ∃d:Int,(x.toNat:Int) - 48=d:=⟨_,rfl⟩
 rw[hd]at hinv e1 e2 e3
 have ai:0<=d/\d<=9:=om
 have e4:IntKind.i64.wrap ((9223372036854775807 - d).tdiv 10)=(9223372036854775807 - d)/10:=by
  rw[Dl om,bX om om]
 refine zA ?_
 simp[go_sem,q,hx]
 refine pC aa ?_
 simp[go_sem,q,hx,e1,e2,e3,e4,hd]
 by_cases qg:(9223372036854775807 - d)/10<v
 .have ad:decide ((9223372036854775807 - d)/10<v)=true:=ai4 qg
  simp only[qg,aib]at hinv
  simp[go_sem,ad]
  exact nE (t:=l8) hinv
 .have ad:decide ((9223372036854775807 - d)/10<v)=false:=ai3 qg
  simp only[qg,aij]at hinv
  have e5:IntKind.i64.wrap (v*10)=v*10:=bX om om
  have e6:IntKind.i64.wrap (v*10+d)=v*10+d:=bX om om
  simp[go_sem,ad,e5,e6,ei]
  refine zJ (i+1,v*10+d) ⟨by simp only;omega,⟨by simp only;omega,by simp only;omega,by simp only;omega, ?_⟩, ?_⟩
  .simp only[Af]at hinv
   rw[<-hinv]
   simp only[Dx,E2 1]
  .exact aN 1 (by rfl)
def F6 (i:Nat) (w:aiA):TR:=if 64<w.length then(l8,0,3)else(⟨3,0,w,0⟩,i+1,0)
def lD:Nat->aiA->aiA->TR
 |_,_,[]=>(l8,0,13)
 |i,w,[c]=>if c.toNat=39 then F6 i w else(l8,0,13)
 |i,w,c::c2::l=>if c.toNat=39 then(if c2.toNat=39 then lD (i+2) (w++ [c2]) l else F6 i w)else lD (i+1) (w++ [c]) (c2::l)
theorem xf6 (i:Nat) (w:aiA) (c:UInt8) (l:aiA) (h: ¬c.toNat=39):lD i w (c::l)=lD (i+1) (w++ [c]) l:=by
 cases l<;>simp_all[lD]
theorem xu9 (s:aiA) (hl:s.length<=maxLen) (a:Nat) (ha:a<s.length):Pure prog 183 [.str s,.int .i64 a] (vh (lD (a+1) [] (s.drop (a+1)))):=by
 generalize hM:lD (a+1) [] (s.drop (a+1))=M
 unfold maxLen at hl
 have ea:IntKind.i64.wrap ((a:Int)+1)=((a+1:Nat):Int):=(by grind[zU])
 refine iV 0 func183 ntmps183 results183 λc hc hb=> ?_
 refine zA ?_
 simp[go_sem,ea]
 refine zI (S:=Nat×aiA) [0,4,7,8] (λu=> [.str s,.ptr 0 0,.str u.2,.int .i64 u.1]) (λ_=> [.box [.int .i64 0,.int .i64 0,.str [],.int .i64 0]]) (λu=>s.length - u.1)
  (λu=>u.1<=s.length/\u.2.length<=u.1/\lD u.1 u.2 (s.drop u.1)=M) hc hb (a+1,[]) (by grind) ?_ ?_
 .exact cc 1 (by rfl) rfl (by rfl) om (zD (by rfl) rfl)
 rintro⟨i,w⟩ ⟨hi,hw,hinv⟩
 simp only at hi hw hinv
 by_cases q:i<s.length
 rotate_left
 .obtain rfl:i=s.length:=om
  rw[Ci]at hinv
  refine zA ?_
  simp[go_sem]
  exact nE (t:=l8) hinv
 have ei:=zU q om
 obtain⟨x,hx⟩:=eX (s[i])
 have aa:=Ef x 39
 simp only[Bz]at aa
 rw[A5 q,hx]at hinv
 by_cases ae:x.toNat=39
 rotate_left
 .rw[ai3 ae]at aa
  rw[xf6 _ _ _ _ ae]at hinv
  have ai:(s.take (i+1)).drop i= [x]:=by
   rw[Cp,A0 q,hx,List.drop_append,A9 (by grind),B0,C8 om]
   simp
  refine zA ?_
  simp[go_sem,q,hx,aa,ei]
  refine zH om ?_
  simp[go_sem,ai]
  refine zH om ?_
  simp[go_sem,ei]
  refine zJ (i+1,w++ [x]) ⟨om,(by grind), ?_⟩
  exact cc 1 (by rfl) rfl (by rfl) om (zD (by rfl) rfl)
 rw[ai4 ae]at aa
 by_cases q2:i+1<s.length
 rotate_left
 .have al:s.drop (i+1)= []:=(by grind)
  rw[al,lD,ai2 ae]at hinv
  unfold F6 at hinv
  have e1:((i:Int)+1==(s.length:Int))=true:=by grind
  refine zA ?_
  simp[go_sem,q,hx,aa,ei,e1]
  by_cases af:64<w.length
  .have ab:decide ((64:Int)<w.length)=true:=(by grind)
   rw[ai2 af]at hinv
   simp[go_sem,ab]
   exact nE (t:=l8) hinv
  .have ab:decide ((64:Int)<w.length)=false:=(by grind)
   rw[ai1 af]at hinv
   simp[go_sem,ab,ei]
   exact nE (t:=⟨3,0,w,0⟩) hinv
 have e1:((i:Int)+1==(s.length:Int))=false:=by grind
 have an:=zU q2 om
 obtain⟨y,hy⟩:=eX (s[i+1])
 have ah:=Ef y 39
 simp only[Bz]at ah
 have aj:s[i+1]?.getD 0=y:=by grind
 have ak:IntKind.i64.wrap ((i:Int)+1+1)=(i:Int)+2:=by grind
 rw[A5 q2,hy,lD,ai2 ae]at hinv
 by_cases qy:y.toNat=39
 rotate_left
 .rw[ai1 qy]at hinv
  unfold F6 at hinv
  rw[ai3 qy]at ah
  have ad:((y.toNat:Int) !=39)=true:=by grind
  refine zA ?_
  simp[go_sem,q,hx,aa,ei,e1]
  refine zH om ?_
  simp[go_sem,aj,ad]
  by_cases af:64<w.length
  .have ab:decide ((64:Int)<w.length)=true:=(by grind)
   rw[ai2 af]at hinv
   simp[go_sem,ab]
   exact nE (t:=l8) hinv
  .have ab:decide ((64:Int)<w.length)=false:=(by grind)
   rw[ai1 af]at hinv
   simp[go_sem,ab,ei]
   exact nE (t:=⟨3,0,w,0⟩) hinv
 rw[ai2 qy]at hinv
 rw[ai4 qy]at ah
 have ad:((y.toNat:Int) !=39)=false:=by grind
 have ai:(s.take (i+2)).drop (i+1)= [y]:=by
  rw[Cp,A0 q2,hy,List.drop_append,A9 (by grind),B0,C8 om]
  simp
 refine zA ?_
 simp[go_sem,q,hx,aa,ei,e1]
 have et:((i:Int)+2).toNat=i+2:=om
 have ao:IntKind.i64.wrap ((i:Int)+1+1)=((i+2:Nat):Int):=om
 refine zH om ?_
 simp[go_sem,aj,ad,ei,ak,et]
 refine zH om ?_
 simp[go_sem,ai]
 refine zH om ?_
 simp[go_sem,ak]
 refine zJ (i+2,w++ [y]) ⟨om,(by grind), ?_⟩
 exact cc 1 (by rfl) rfl (by rfl) om (zD (by rfl) rfl)
def ju (c:UInt8):Bool:=mE c||jM c
def fr:aiA:= [40,41,44,59,42,61,60,62,43,45,47,37]
def iK (s:aiA) (a:Nat):TR:=
 if mE (s.getD a 0)=true then(⟨1,0,((s.drop a).takeWhile ju).map yP,0⟩,a+((s.drop a).takeWhile ju).length,0)
 else if jM (s.getD a 0)=true then qX a (s.drop a)
 else if(s.getD a 0).toNat=39 then lD (a+1) [] (s.drop (a+1))
 else if a+1<s.length/\((s.drop a).take 2= [60,61]\/(s.drop a).take 2= [62,61]\/(s.drop a).take 2= [60,62])then(⟨4,0,(s.drop a).take 2,0⟩,a+2,0)
 else if fr.contains (s.getD a 0)=true then(⟨4,0,[s.getD a 0],0⟩,a+1,0)
 else(l8,0,13)
theorem xN1 (s:aiA) (hl:s.length<=maxLen) (a:Nat) (ha:a<s.length):Pure prog 117 [.str s,.int .i64 a] (vh (iK s a)):=by
 generalize hM:iK s a=M
 have af:=yT9 s hl a om
 have ah:=xu9 s hl a ha
 unfold iK at hM
 unfold maxLen at hl
 have az:s.getD a 0=s[a]:=by grind
 rw[az]at hM
 obtain⟨x,hx⟩:=eX (s[a])
 rw[hx]at hM
 have ab:=Km x
 have ad:=HG x
 generalize qX a (s.drop a)=n at af hM
 generalize lD (a+1) [] (s.drop (a+1))=t at ah hM
 have ret: ∀(y:TR) (τ:St),y=M->cw (some (.cz [.agg [.int .i64 y.1.kind,.int .i64 y.1.place,.str y.1.s,.int .i64 y.1.n],.int .i64 y.2.1,.int .i64 y.2.2])) 0 (λr I=>r=vh M/\I= []) τ:=λy τ h=>nE (t:=y.1) h
 refine iV 0 func117 ntmps117 results117 λc hc hb=> ?_
 refine zA ?_
 simp[go_sem,ha,hx]
 by_cases q1:mE x=true
 .rw[ai2 q1]at hM
  rw[q1]at ab
  refine pC ab ?_
  simp[go_sem]
  refine zI (S:=Nat×aiA) [0,1,4,7] (λu=> [.str s,.int .i64 u.1,.ptr 0 0,.str u.2]) (λ_=> [.box [.int .i64 0,.int .i64 0,.str [],.int .i64 0]]) (λu=>s.length - u.1)
   (λu=>u.1<=s.length/\u.2.length<=u.1/\((⟨1,0,u.2++((s.drop u.1).takeWhile ju).map yP,0⟩,u.1+((s.drop u.1).takeWhile ju).length,0):TR)=M) hc hb (a,[]) (by grind) ?_ ?_
  .exact cc 1 (by rfl) rfl (by rfl) om (zD (by rfl) rfl)
  rintro⟨i,w⟩ ⟨hi,hw,hinv⟩
  simp only at hi hw hinv
  by_cases q:i<s.length
  rotate_left
  .obtain rfl:i=s.length:=om
   rw[Ci]at hinv
   simp only[List.takeWhile_nil,Bp,Az,Ct,D4]at hinv
   refine zA ?_
   simp[go_sem]
   exact nE (t:=⟨1,0,w,0⟩) hinv
  have ei:=zU q om
  obtain⟨y,hy⟩:=eX (s[i])
  rw[A5 q,hy]at hinv
  have a1:=Km y
  have ae:=HG y
  have ar:=NI y
  have yes:ju y=true->((⟨1,0,(w++ [yP y])++((s.drop (i+1)).takeWhile ju).map yP,0⟩,i+1+((s.drop (i+1)).takeWhile ju).length,0):TR)=M:=λh=>by
   rw[D5 h]at hinv
   grind
  have no:ju y=false->((⟨1,0,w,0⟩,i,0):TR)=M:=(by grind[List.takeWhile_cons_of_neg])
  have au:GO [[V.int .u8 ((yP y).toNat:Int)]]:=xR [yP y]
  have av:uD [V.int .u8 ((yP y).toNat:Int)]=yP y:=(List.cons.inj (GP [yP y])).1
  refine zA ?_
  simp[go_sem,q,hy]
  refine pC a1 ?_
  refine(A6 (mE y)).elim (λp1=> ?_) (λp1=> ?_)
  .have aw:=yes (by unfold ju;grind)
   simp[go_sem,p1,q,hy]
   refine pC ar ?_
   simp[go_sem]
   refine zH au ?_
   simp[go_sem,av]
   refine zH om ?_
   simp[go_sem,ei]
   refine zJ (i+1,w++ [yP y]) ⟨om,(by grind), ?_⟩
   exact cc 1 (by rfl) rfl (by rfl) om (zD (by rfl) rfl)
  refine(A6 (jM y)).elim (λp2=> ?_) (λp2=> ?_)
  .have aw:=yes (by unfold ju;grind)
   simp[go_sem,p1,q,hy]
   refine pC ae ?_
   simp[go_sem,p2,q,hy]
   refine pC ar ?_
   simp[go_sem]
   refine zH au ?_
   simp[go_sem,av]
   refine zH om ?_
   simp[go_sem,ei]
   refine zJ (i+1,w++ [yP y]) ⟨om,(by grind), ?_⟩
   exact cc 1 (by rfl) rfl (by rfl) om (zD (by rfl) rfl)
  .have a6:=no (by unfold ju;grind)
   simp[go_sem,p1,q,hy]
   refine pC ae ?_
   simp[go_sem,p2]
   exact nE (t:=⟨1,0,w,0⟩) a6
 have q1:mE x=false:=by grind
 rw[ai1 om]at hM
 rw[q1]at ab
 refine pC ab ?_
 simp[go_sem,ha,hx]
 by_cases q2:jM x=true
 .rw[ai2 q2]at hM
  rw[q2]at ad
  refine pC ad ?_
  simp[go_sem]
  refine zL af cB (yE rfl) (KB _) ?_
  simp[go_sem,vh]
  exact ret _ _ hM
 have q2:jM x=false:=by grind
 rw[ai1 om]at hM
 rw[q2]at ad
 refine pC ad ?_
 simp[go_sem,ha,hx]
 have aa:=Ef x 39
 simp only[Bz]at aa
 by_cases q3:x.toNat=39
 .rw[ai2 q3]at hM
  rw[ai4 q3]at aa
  simp[go_sem,aa]
  refine zL ah cB (yE rfl) (KB _) ?_
  simp[go_sem,vh]
  exact ret _ _ hM
 rw[ai1 q3]at hM
 rw[ai3 q3]at aa
 simp[go_sem,aa]
 have ax: ∀(y:UInt8),((y.toNat:Int)==(x.toNat:Int))=(y==x):=λy=>by
  rw[Da]
  simp only[ai8]
  exact⟨λh=>E5.1 om,(by grind)⟩
 have ea:IntKind.i64.wrap ((a:Int)+1)=((a+1:Nat):Int):=(by grind[zU])
 have ai:(s.take (a+1)).drop a= [x]:=by
  rw[Cp,A0 ha,hx,List.drop_append,A9 (by grind),B0,C8 om]
  simp
 by_cases qa:a+1<s.length
 rotate_left
 .have aj:decide ((a:Int)+1<s.length)=false:=(by grind)
  rw[ai1 om]at hM
  simp[go_sem,ea,aj]
  refine zI (S:=Nat) [0,1,4,9] (λk=> [.str s,.int .i64 a,.ptr 0 0,.int .i64 (k:Int)]) (λ_=> [.box [.int .i64 0,.int .i64 0,.str [],.int .i64 0]]) (λk=>12 - k)
   (λk=>k<=12/\(if(fr.drop k).contains x=true then(⟨4,0,[x],0⟩,a+1,0)else(l8,0,13):TR)=M) hc hb 0 ⟨om,hM⟩ ?_ ?_
  .exact cc 1 (by rfl) rfl (by rfl) om (zD (by rfl) rfl)
  rintro k ⟨hk,hinv⟩
  by_cases qk:k<12
  rotate_left
  .obtain rfl:k=12:=om
   refine zA ?_
   simp[go_sem]
   exact nE (t:=l8) hinv
  have ak:k<fr.length:=qk
  have ek:=zU qk dC
  have al:decide ((k:Int)<12)=true:=(by grind)
  obtain⟨y,hy⟩:=eX (fr[k])
  rw[A5 ak,hy]at hinv
  have an: [40,41,44,59,42,61,60,62,43,45,47,37][k]?.getD (0:UInt8)=y:=by
   have:fr[k]?.getD 0=y:=by grind
   exact this
  refine zA ?_
  simp[go_sem,al]
  refine yI [] 1 sm (by rfl) kR ?_
  simp[go_sem]
  refine zH om ?_
  simp[go_sem,ha,hx,an,ax]
  by_cases qe:(y==x)=true
  .have ao:y=x:=by grind
   rw[ai2 (by simp[ao])]at hinv
   simp[go_sem,qe,ea]
   refine zH om ?_
   simp[go_sem,ai,ea]
   exact nE (t:=⟨4,0,[x],0⟩) hinv
  .have qe:(y==x)=false:=by grind
   have aq:(y::fr.drop (k+1)).contains x=(fr.drop (k+1)).contains x:=by
    rw[Dg,show(x==y)=false by grind]
    rfl
   rw[aq]at hinv
   simp[go_sem,qe,ek]
   exact zJ (k+1) ⟨om,(by grind),cc 1 (by rfl) rfl (by rfl) om (zD (by rfl) rfl)⟩
 have aj:decide ((a:Int)+1<s.length)=true:=(by grind)
 have ay:IntKind.i64.wrap ((a:Int)+2)=(a:Int)+2:=by grind[bX]
 have et:((a:Int)+2).toNat=a+2:=om
 have ae:(s.drop a).take 2=(s.take (a+2)).drop a:=by grind
 rw[ae]at hM
 simp[go_sem,ea,ay,et,aj]
 refine zH om ?_
 simp[go_sem]
 generalize (s.take (a+2)).drop a=two at hM
 have yes:(two= [60,61]\/two= [62,61]\/two= [60,62])->((⟨4,0,two,0⟩,a+2,0):TR)=M:=(by grind)
 have no: ¬(two= [60,61]\/two= [62,61]\/two= [60,62])->(if fr.contains x=true then(⟨4,0,[x],0⟩,a+1,0)else(l8,0,13):TR)=M:=(by grind)
 clear hM
 by_cases qt:two= [60,61]\/two= [62,61]\/two= [60,62]
 .have hM:=yes qt
  rcases qt with rfl|rfl|rfl
  all_goals simp[go_sem,ay]
  all_goals exact nE (t:=⟨4,0,_,0⟩) hM
 .have hM:=no qt
  have p1:(two== [60,61])=false:=by grind
  have p2:(two== [62,61])=false:=by grind
  have p3:(two== [60,62])=false:=by grind
  clear yes no qt
  simp[go_sem,p1,p2,p3]
  refine zI (S:=Nat) [0,1,4,9] (λk=> [.str s,.int .i64 a,.ptr 0 0,.int .i64 (k:Int)]) (λ_=> [.box [.int .i64 0,.int .i64 0,.str [],.int .i64 0]]) (λk=>12 - k)
   (λk=>k<=12/\(if(fr.drop k).contains x=true then(⟨4,0,[x],0⟩,a+1,0)else(l8,0,13):TR)=M) hc hb 0 (by grind) ?_ ?_
  .exact cc 1 (by rfl) rfl (by rfl) om (zD (by rfl) rfl)
  rintro k ⟨hk,hinv⟩
  by_cases qk:k<12
  rotate_left
  .obtain rfl:k=12:=om
   refine zA ?_
   simp[go_sem]
   exact nE (t:=l8) hinv
  have ak:k<fr.length:=qk
  have ek:=zU qk dC
  have al:decide ((k:Int)<12)=true:=(by grind)
  obtain⟨y,hy⟩:=eX (fr[k])
  rw[A5 ak,hy]at hinv
  have an: [40,41,44,59,42,61,60,62,43,45,47,37][k]?.getD (0:UInt8)=y:=by
   have:fr[k]?.getD 0=y:=by grind
   simpa
  refine zA ?_
  simp[go_sem,al]
  refine yI [] 1 sm kR kR ?_
  simp[go_sem]
  refine zH om ?_
  simp[go_sem,ha,hx,an,ax]
  by_cases qe:(y==x)=true
  .have ao:y=x:=by grind
   rw[ai2 (by simp[ao])]at hinv
   simp[go_sem,qe,ea]
   refine zH om ?_
   simp[go_sem,ai,ea]
   exact nE (t:=⟨4,0,[x],0⟩) hinv
  .have qe:(y==x)=false:=by grind
   have aq:(y::fr.drop (k+1)).contains x=(fr.drop (k+1)).contains x:=by
    grind
   rw[aq]at hinv
   simp[go_sem,qe,ek]
   exact zJ (k+1) ⟨om,(by grind),cc 1 (by rfl) rfl (by rfl) om (zD (by rfl) rfl)⟩
def nH (s:aiA):Nat->Nat->List bQ->List bQ×Int
 |0,_,_=>([],0)
 |n+1,a,l=>
  if a<s.length then
   (if Ee (s.getD a 0)=true then nH s n (a+1) l
   else if(iK s a).2.2=0 then nH s n (iK s a).2.1 (l++ [{(iK s a).1 with place:=a}])else([],(iK s a).2.2))
  else(l++ [⟨0,s.length,[],0⟩],0)
def jQ (s:aiA):List bQ×Int:=if 2000<s.length then([],3)else nH s (s.length+1) 0 []
theorem Sw: ∀(l:aiA) (v r:Int),0<=v->v<=9223372036854775807->nG v l=some r->0<=r/\r<=9223372036854775807
 | [],v,r,h0,h1,h=>by rw[nG]at h;cases h;exact⟨h0,h1⟩
 |c::l,v,r,h0,h1,h=>by
  rw[nG]at h
  split at h
  .rename_i hd
   have hr:=Sv hd
   split at h
   .cases h
   .exact Sw l _ r om om h
  .cases h;exact⟨h0,h1⟩
theorem NZ: ∀(k:Nat) (l:aiA),l.length<=k-> ∀(i:Nat) (w:aiA),(lD i w l).2.2=0->i<(lD i w l).2.1/\(lD i w l).2.1<=i+l.length/\(lD i w l).1.s.length<=64/\(lD i w l).1.n=0
 |0,l,hk,i,w,h=>by
  have:l= []:=As om
  subst this
  simp[lD]at h
 |k+1,l,hk,i,w,h=>by
  match l,hk with
  | [],_=>simp[lD]at h
  | [c],_=>
   rw[lD]at h⊢
   split at h
   .rename_i hc
    rw[ai2 hc]
    unfold F6 at h⊢
    split at h
    .simp at h
    .rename_i aa
     rw[ai1 aa]
     exact⟨sm,sm,by simp only;omega,rfl⟩
   .simp at h
  |c::c2::l,hk=>
   rw[lD]at h⊢
   split at h
   .rename_i hc
    rw[ai2 hc]
    split at h
    .rename_i ab
     rw[ai2 ab]
     have:=NZ k l (by simp at hk;omega) _ _ h
     simp only[Af]
     omega
    .rename_i ab
     rw[ai1 ab]
     unfold F6 at h⊢
     split at h
     .simp at h
     .rename_i aa
      rw[ai1 aa]
      exact⟨sm,sm,by simp only;omega,rfl⟩
   .rename_i hc
    rw[ai1 hc]
    have:=NZ k (c2::l) (by simp at hk⊢;omega) _ _ h
    simp only[Af]at this⊢
    omega
theorem N0 {p:UInt8->Bool}: ∀l:aiA,(l.takeWhile p).length<=l.length
 | []=>A7 _
 |c::l=>by
  rw[List.takeWhile_cons]
  have:=N0 (p:=p) l
  split<;>simp only[Af,Ct]<;>omega
theorem Sx {s:aiA} {a:Nat} (ha:a<s.length) (h:(iK s a).2.2=0):a<(iK s a).2.1/\(iK s a).2.1<=s.length/\(iK s a).1.s.length<=s.length+64/\0<=(iK s a).1.n/\(iK s a).1.n<=9223372036854775807:=by
 have aa:s.getD a 0=s[a]:=by rw[Al,A0 ha];rfl
 have ab:=A5 ha
 unfold iK at h⊢
 rw[aa,ab]at h⊢
 obtain⟨x,hx⟩:=eX (s[a])
 rw[hx]at h⊢
 have hl:(s.drop (a+1)).length=s.length - (a+1):=D6
 generalize s.drop (a+1)=l at h hl⊢
 split at h
 .rename_i q1
  rw[ai2 q1]
  have hw:ju x:=by unfold ju;rw[q1];rfl
  have:=N0 (p:=ju) l
  rw[D5 hw]
  simp only[Af,Ai]
  omega
 rename_i q1
 rw[ai1 q1]
 split at h
 .rename_i q2
  rw[ai2 q2]
  unfold qX at h⊢
  split at h
  .simp at h
  rename_i r hr
  have ad:=Sw _ 0 r (E1 _) dC hr
  split at h
  .simp at h
  rename_i hle
  rw[ai1 hle,D5 q2]
  have:=N0 (p:=jM) l
  simp only[Af,Ct]
  omega
 rename_i q2
 rw[ai1 q2]
 split at h
 .rename_i q3
  rw[ai2 q3]
  have:=NZ l.length l (A7 _) _ _ h
  omega
 rename_i q3
 rw[ai1 q3]
 split at h
 .rename_i q4
  rw[ai2 q4]
  simp only[B0]
  omega
 rename_i q4
 rw[ai1 q4]
 split at h
 .rename_i q5
  rw[ai2 q5]
  simp only[Bl]
  omega
 .simp at h
def KC (t:bQ):Prop:=t.s.length<=3000/\0<=t.n/\t.n<=9223372036854775807
theorem N3 {s:aiA} (hs:s.length<=2000): ∀(n a:Nat) (l:List bQ),s.length<n+a->a<=s.length->l.length<=a->(∀t∈l,KC t)->(nH s n a l).2=0->
  ∃l',(nH s n a l).1=l'++ [⟨0,s.length,[],0⟩]/\l'.length<=s.length/\ ∀t∈l',KC t
 |0,a,l,hf,ha,_,_,_=>by omega
 |n+1,a,l,hf,ha,hl,ht,h=>by
  unfold nH at h⊢
  by_cases q:a<s.length
  rotate_left
  .rw[ai1 q]
   exact⟨l,rfl,om,ht⟩
  rw[ai2 q]at h⊢
  by_cases q2:Ee (s.getD a 0)=true
  .rw[ai2 q2]at h⊢
   exact N3 hs n (a+1) l om om om ht h
  rw[ai1 q2]at h⊢
  by_cases q3:(iK s a).2.2=0
  .rw[ai2 q3]at h⊢
   have ho:=Sx q q3
   refine N3 hs n _ _ om om (by simp;omega) (λt aa=> ?_) h
   rw[Ak]at aa
   rcases aa with aa|aa
   .exact ht t aa
   .simp only[Ae,Bg,aih]at aa
    subst aa
    unfold KC
    simp only
    omega
  .rw[ai1 q3]at h
   exact absurd h q3
theorem Sy {s:aiA} (h:(jQ s).2=0):s.length<=2000/\eR (jQ s).1/\gO (jQ s).1/\1<=(jQ s).1.length/\(jQ s).1.length<=2001:=by
 unfold jQ at h⊢
 split at h
 .simp at h
 rename_i hl
 rw[ai1 hl]
 obtain⟨l',h1,h2,h3⟩:=N3 om _ _ _ om (A3 _) (A7 _) (λt ht=>by cases ht) h
 have h4: ∀t∈l'++ [⟨0,s.length,[],0⟩],KC t:=λt ht=>by
  rw[Ak]at ht
  rcases ht with ht|ht
  .exact h3 t ht
  .simp only[Ae,Bg,aih]at ht
   subst ht
   exact⟨A3 _,E1 _,sm⟩
 rw[h1]
 refine⟨om,⟨by simp;omega,λi hi=> ?_,λt ht=> ?_⟩,⟨λt ht=> ?_,λt ht=>(h4 t ht).2⟩,sm,by simp;omega⟩
 .have:i=l'.length:=by simp at hi;omega
  subst this
  rw[Al,Au (A7 _),Nat.sub_self]
  rfl
 .have:=(h4 t ht).1;unfold maxLen;omega
 .have:=(h4 t ht).1;omega
def xe (x:List bQ×Int):V:= .cz [.sl .ro (x.1.map bQ.row),.int .i64 x.2]
theorem N4 {g:Tag} {l:List bQ} {M:List bQ×Int} (h:(l,e)=M):cw (some (.cz [.sl g (l.map bQ.row),.int .i64 e])) 0 (λr I=>r=xe M/\I= []) τ:=by
 subst h
 exact zW (r:= .cz [.sl .ro (l.map bQ.row),.int .i64 e]) (yW ⟨uQ,xV rfl,tV⟩) ⟨rfl,rfl⟩
theorem wo8 (s:aiA) (hl:s.length<=maxLen):Pure prog 63 [.str s] (xe (jQ s)):=by
 generalize hM:jQ s=M
 unfold jQ at hM
 unfold maxLen at hl
 refine iV 0 func63 ntmps63 results63 λc hc hb=> ?_
 refine zA ?_
 simp[go_sem]
 by_cases q0:2000<s.length
 .rw[ai2 q0]at hM
  have ad:decide ((2000:Int)<s.length)=true:=ai4 om
  simp[go_sem,ad]
  exact N4 (l:= []) hM
 rw[ai1 q0]at hM
 have ad:decide ((2000:Int)<s.length)=false:=ai3 om
 simp[go_sem,ad]
 refine l7 4 4 dC sg ?_
 refine zI (S:=Nat×List bQ) [0,4,5] (λu=> [.str s,.sl (.app 0) (u.2.map bQ.row),.int .i64 u.1]) (λu=> [.app u.2.length 4]) (λu=>s.length - u.1)
  (λu=>u.1<=s.length/\u.2.length<=u.1/\ ∃n,s.length<n+u.1/\nH s n u.1 u.2=M) hc hb (0,[]) ⟨A3 _,A7 _,s.length+1,by simp only;omega,hM⟩ ?_ ?_
 .exact aN 1 (by rfl)
 rintro⟨a,l⟩ ⟨ha,af,n,hn,hinv⟩
 simp only at ha af hn hinv
 obtain⟨n,rfl⟩: ∃m,n=m+1:=⟨n - 1,om⟩
 rw[nH]at hinv
 by_cases q:a<s.length
 rotate_left
 .rw[ai1 q]at hinv
  refine zA ?_
  simp[go_sem,q]
  refine zH ⟨om,zY rfl⟩ ?_
  simp[go_sem]
  have hr:=λg τ=>N4 (g:=g) (τ:=τ) hinv
  simp at hr
  exact hr _ _
 rw[ai2 q]at hinv
 have ea:=zU q om
 obtain⟨x,hx⟩:=eX (s[a])
 have ah:s.getD a 0=x:=by rw[Al,A0 q,hx];rfl
 rw[ah]at hinv
 have aa:=xd3 x
 by_cases q2:Ee x=true
 .rw[ai2 q2]at hinv
  rw[q2]at aa
  refine zA ?_
  simp[go_sem,q,hx]
  refine pC aa ?_
  simp[go_sem,ea]
  exact zJ (a+1,l) ⟨by simp only;omega,⟨by simp only;omega,by simp only;omega,n,by simp only;omega,hinv⟩,aN 1 (by rfl)⟩
 have q2:Ee x=false:=sU q2
 rw[ai1 (by rw[q2];decide)]at hinv
 rw[q2]at aa
 have ab:=xN1 s (by unfold maxLen;omega) a q
 have db:=Sx q
 generalize iK s a=o at ab db hinv
 by_cases q3:o.2.2=0
 .rw[ai2 q3]at hinv
  have db:=db q3
  have ae:(o.2.2 !=0)=false:=sU q3
  refine zA ?_
  simp[go_sem,q,hx]
  refine pC aa ?_
  simp[go_sem]
  refine zL ab cB (yE rfl) (KB _) ?_
  simp[go_sem,vh,ae]
  refine zH ⟨om,zY rfl⟩ ?_
  simp[go_sem]
  refine zJ (o.2.1,l++ [{o.1 with place:=a}]) ⟨by simp only;omega,⟨by simp only;omega,by simp;omega,n,by simp only;omega,hinv⟩, ?_⟩
  exact aN 1 (by rfl)
 .rw[ai1 q3]at hinv
  have ae:(o.2.2 !=0)=true:=sU q3
  refine zA ?_
  simp[go_sem,q,hx]
  refine pC aa ?_
  simp[go_sem]
  refine zL ab cB (yE rfl) (KB _) ?_
  simp[go_sem,vh,ae]
  exact N4 (l:= []) hinv
variable {L:List bQ}
def KD:aiA:= [83,69,76,69,67,84]
def KE:aiA:= [73,78,83,69,82,84]
def KF:aiA:= [85,80,68,65,84,69]
def Eg:aiA:= [68,69,76,69,84,69]
def lE (L:List bQ) (s:RS):bW×RS:=
 if dq L KD s=true then ve L (zR s)
 else if dq L KE s=true then vf L (zR s)
 else if dq L KF s=true then vg L (zR s)
 else
  let n:=xC L (yH L qU (yH L Eg s))
  (⟨4,n.1,[],[],[],(kf L n.2).1,(kf L n.2).2,[],false,0⟩,o9 L n.2)
theorem xe6 (hL:eR L) {s:RS} (h:du L s) (ho:s.bZ=0):UI L s (ve L s).2:=by
 unfold ve
 have h1:=NW hL h ho
 have h2:=h1.trans (yM hL qU h1.cA)
 have h3:=h2.trans (nD hL h2.cA)
 have h4:=h3.trans (F3 hL h3.cA (h3.bZ.trans ho))
 have h5:=h4.trans (NV hL h4.cA)
 exact h5.trans (Sr hL h5.cA)
theorem N5 (hL:eR L) {s:RS} (h:du L s) (ho:s.bZ=0):UI L s (lE L s).2:=by
 unfold lE
 split
 .have h1:=xA hL h ‹_›
  exact h1.trans (xe6 hL h1.cA (h1.bZ.trans ho))
 split
 .have h1:=xA hL h ‹_›
  exact h1.trans (xa6 hL h1.cA (h1.bZ.trans ho))
 split
 .have h1:=xA hL h ‹_›
  exact h1.trans (xg3 hL h1.cA (h1.bZ.trans ho))
 .have h1:=yM hL Eg h
  have h2:=h1.trans (yM hL qU h1.cA)
  have h3:=h2.trans (nD hL h2.cA)
  exact h3.trans (F3 hL h3.cA (h3.bZ.trans ho))
theorem wn2 (L:List bQ) (hL:eR L) (s:RS) (hs:du L s) (ho:s.bZ=0):bN prog 66 [.ptr 0 0] [rB L s] (RT L (lE L s)):=by
 generalize hM:lE L s=M
 unfold lE at hM
 have ret: ∀(x:bW×RS) (τ:St),x=M->cw (some (.agg x.1.row)) 1 (RT L M) (rB L x.2::τ):=λx τ h=>pY (g1:= .ro) (g2:= .ro) (g3:= .ro) (g4:= .ro) (st:=x.1) h
 refine iW 1 func66 ntmps66 results66 λc hc hb=>zM ?_
 simp[go_sem]
 by_cases q1:dq L KD s=true
 .rw[ai2 q1]at hM
  have aa:=xy5 L hL (zR s) (hs.next hL q1) ho
  generalize ve L (zR s)=x at aa hM
  refine pR (xS L hL s hs _ q1) ?_
  simp[go_sem]
  refine HH aa cB fK (HP _) ?_
  simp[go_sem]
  exact ret x _ hM
 have q1:dq L KD s=false:=sU q1
 rw[ai1 (by rw[q1];decide)]at hM
 refine pR (wT L hL s hs _ q1) ?_
 simp[go_sem]
 by_cases q2:dq L KE s=true
 .rw[ai2 q2]at hM
  have aa:=xt9 L hL (zR s) (hs.next hL q2) ho
  generalize vf L (zR s)=x at aa hM
  refine pR (xS L hL s hs _ q2) ?_
  simp[go_sem]
  refine HH aa cB fK (HP _) ?_
  simp[go_sem]
  exact ret x _ hM
 have q2:dq L KE s=false:=sU q2
 rw[ai1 (by rw[q2];decide)]at hM
 refine pR (wT L hL s hs _ q2) ?_
 simp[go_sem]
 by_cases q3:dq L KF s=true
 .rw[ai2 q3]at hM
  have aa:=xA2 L hL (zR s) (hs.next hL q3) ho
  generalize vg L (zR s)=x at aa hM
  refine pR (xS L hL s hs _ q3) ?_
  simp[go_sem]
  refine HH aa cB fK (HP _) ?_
  simp[go_sem]
  exact ret x _ hM
 have q3:dq L KF s=false:=sU q3
 rw[ai1 (by rw[q3];decide)]at hM
 refine pR (wT L hL s hs _ q3) ?_
 simp[go_sem]
 have af:=lC L hL s hs Eg
 have ab:=yM hL Eg hs
 generalize yH L Eg s=s1 at af ab hM
 have ah:=lC L hL s1 ab.cA qU
 have ad:=ab.trans (yM hL qU ab.cA)
 generalize yH L qU s1=s2 at ah ad hM
 have hn:=DQ L hL s2 ad.cA
 have ae:=ad.trans (nD hL ad.cA)
 generalize xC L s2=n at hn ae hM
 obtain⟨nm,s3⟩:=n
 simp only at hn ae hM
 obtain⟨gw,hw⟩:=NS L hL s3 ae.cA (ae.bZ.trans ho) [sb,.box [.int .i64 4,.str nm,.sl .full [],.sl .full [],.sl .full [],.bool false,.int .i64 0,.str [],.int .i64 0,.int .i64 0,.str [],.sl .full [],.str [],.bool false,.int .i64 0]] 1 _ _ _ _ _ _ _ _ rfl
 generalize o9 L s3=s4 at hw hM
 generalize kf L s3=w at hw hM
 refine pR af ?_
 simp[go_sem]
 refine pR ah ?_
 simp[go_sem]
 refine pR hn ?_
 simp[go_sem]
 refine FN hw cB ?_
 rintro r I ⟨rfl,rfl⟩ _
 simp[go_sem]
 exact pY (st:=⟨4,nm,[],[],[],w.1,w.2,[],false,0⟩) hM
theorem wW {P:Program} {c:Ctx} {f:FuncId} {bY args cj:List V} {o:Ob} {L:List bQ} {s:RS} {v:V} {KV:V->St->Prop} (hc:bN P f cj [rB L s] (λr I=>r=v/\I= [rB L s'])) (hb:xE P f)
  (aa:bP (cP (cK [1] (τ.length+2))) cj (args++bY)) (hn:gM v) (hk:KV v (o::rB L s'::τ)):jk P c (.fn f bY) args (o::rB L s::τ) KV fx:=by
 refine mz 1 hc hb rfl (Ko _ _ _) aa (λr I h=>⟨_,h.2,Ko _ _ _⟩) ?_
 rintro r o2 ⟨rfl,h2⟩
 obtain rfl:o2=rB L s':=sU h2
 rw[zi hn]
 exact hk
theorem Sz {P:Program} {c:Ctx} {n:Nat} {f:FuncId} {bY args cj:List V} {o:Ob} {L:List bQ} {s:RS} {v:V} {KV:V->St->Prop} (hc:bN P f cj [rB L s] (λr I=>r=v/\I= [rB L s'])) (hb:xE P f)
  (aa:bP (cP (cK [1] (τ.length+2))) cj (args++bY)) (hn:gM v) (hk:KV v (o::rB L s'::τ)):pT P c ⟨2,n,[],none⟩ 3 (.fn f bY) args (o::rB L s::τ) KV fx:=by
 have ab: ∀(N:Nat) (s:RS),yA (cK [1] N) (rB L s)=rB L s:=λN s=>yY (n:=0) (λ_ h=>absurd h (Nat.not_lt_zero _)) (Ko _ _ _)
 have e:yX [1] (o::rB L s::τ) [rB L s']=o::rB L s'::τ:=by
  simp only[yX,Bl,Cr,aiu,Ds,Bj,Ah,Bp,fI,Az,ab]
  rfl
 refine FI hc hb [1] sm rfl (λi j q h1 h2=> ?_) aa (.inr ?_) ?_
 .match i with
  |0=>simp at h1 h2;subst h1;subst h2;rw[ab];rfl
  |i+1=>simp at h1
 .rw[e];exact Kp.iU (I:=o::rB L s::τ) (id:=1) (o:=rB L s') (.inl sm)
 .rw[e,zi hn];exact hk
theorem mX {N:Nat} {l l':List V} (h:bP (cP (cK [1] N)) l l'):bP (cP (cK [1] N)) (.ptr 0 0::l) (.ptr 1 0::l'):=⟨.inl rfl,h⟩
theorem Eh {N:Nat}:bP (cP (cK [1] N)) [.ptr 0 0] [.ptr 1 0]:=mX trivial
variable {L:List bQ}
def Ei:aiA:= [65,83]
def HR:aiA:= [79,70]
def HS:aiA:= [83,89,83,84,69,77]
def HT:aiA:= [84,73,77,69]
def N6:aiA:= [66,79,85,78,68]
def N7:List aiA:= [KD,KE,KF,Eg]
def qY (L:List bQ) (s:RS):Bool:= !(ec L s N7).isEmpty
def sd (L:List bQ):Nat->List bW->RS->List bW×RS
 |0,l,s=>(l,s)
 |n+1,l,s=>
  if s.err=0 then
   if(kb L l.length 8 (qY L s) s).err=0 then
    if dq L [59] (lE L s).2=true then
     if dq L Ei (zR (lE L s).2)=true\/(cD L (zR (lE L s).2)).kind=0 then(l++ [(lE L s).1],zR (lE L s).2)
     else sd L n (l++ [(lE L s).1]) (zR (lE L s).2)
    else(l++ [(lE L s).1],(lE L s).2)
   else(l,kb L l.length 8 (qY L s) s)
  else(l,s)
def AP (L:List bQ) (s:RS):RS:=yH L HT (yH L HS (yH L HR (zR s)))
def tK (L:List bQ) (s:RS):(Int×Int)×RS:=
 if dq L Ei s=true then
  if dq L N6 (AP L s)=true then((2,(hZ L (zR (AP L s))).1),(hZ L (zR (AP L s))).2)
  else((1,(hZ L (AP L s)).1),(hZ L (AP L s)).2)
 else((0,0),s)
def pc (L:List bQ) (s:RS):RS:=if s.err=0/\(cD L s).kind≠0 then iF 13 (cD L s).place s else s
def AQ:RS:=⟨0,0,0,0⟩
def tL:dZ:=⟨0,0,[]⟩
def KG (L:List bQ):dZ×Int×Int:=
 let x:=sd L 9 [] AQ
 let a:=tK L x.2
 let e:=pc L a.2
 if e.err=0 then(⟨a.1.1,a.1.2,x.1⟩,0,0)else(tL,e.place,e.err)
def sf (s:aiA):dZ×Int×Int:=if(jQ s).2=0 then KG (jQ s).1 else(tL,0,(jQ s).2)
theorem SA (hL:eR L): ∀(n:Nat) (l:List bW) (s:RS),du L s->s.bZ=0->UI L s (sd L n l s).2
 |0,_,_,h,_=>UI.refl h
 |n+1,l,s,h,ho=>by
  unfold sd
  split
  .split
   .have h1:=N5 hL h ho
    split
    .have h2:=h1.trans (xA hL h1.cA ‹_›)
     split
     .exact h2
     .exact h2.trans (SA hL n _ _ h2.cA (h2.bZ.trans ho))
    .exact h1
   .exact tI h
  .exact UI.refl h
theorem SB (hL:eR L) {s:RS} (h:du L s) (hi:dq L Ei s):UI L s (AP L s):=by
 unfold AP
 have h1:=xA hL h hi
 have h2:=h1.trans (yM hL HR h1.cA)
 have h3:=h2.trans (yM hL HS h2.cA)
 exact h3.trans (yM hL HT h3.cA)
theorem SD (hL:eR L) {s:RS} (h:du L s):UI L s (tK L s).2:=by
 unfold tK
 split
 .rename_i hi
  have h1:=SB hL h hi
  split
  .have h2:=h1.trans (xA hL h1.cA ‹_›)
   exact h2.trans (NP hL h2.cA)
  .exact h1.trans (NP hL h1.cA)
 grind[UI.refl]
def Ej (x:dZ×Int×Int):V:= .cz [.agg x.1.row,.int .i64 x.2.1,.int .i64 x.2.2]
theorem N8 {g:Tag} {l:dZ} {p:Int} {M:dZ×Int×Int} (h:(l,p,e)=M):cw (some (.cz [.agg [.int .i64 l.mode,.int .i64 l.n,.sl g (l.stmts.map bW.row)],.int .i64 p,.int .i64 e])) 0 (λr I=>r=Ej M/\I= []) τ:=by
 subst h
 exact zW (r:= .cz [.agg [.int .i64 l.mode,.int .i64 l.n,.sl .ro (l.stmts.map bW.row)],.int .i64 p,.int .i64 e]) (yW ⟨wX ⟨zF rfl,zF rfl,zX,tV⟩,xV rfl,xV rfl,tV⟩) (by trivial)
def lF (m n:Int) (l:List bW):Ob:= .box [.int .i64 m,.int .i64 n,.sl (.app 3) (l.map bW.row)]
def qZ:Ob:= .box [.int .i64 0,.int .i64 0,.sl .full []]
theorem xT8 (s:aiA) (hl:s.length<=maxLen):Pure prog 26 [.str s] (Ej (sf s)):=by
 generalize hM:sf s=M
 unfold sf at hM
 have ah:=wo8 s hl
 have db:=Sy (s:=s)
 generalize jQ s=x at ah db hM
 obtain⟨L,e⟩:=x
 simp only at db hM
 refine iV 0 func26 ntmps26 results26 λc hc hb=> ?_
 by_cases qe:e=0
 rotate_left
 .rw[ai1 qe]at hM
  have ar:(e !=0)=true:=by grind
  refine zA ?_
  simp[go_sem]
  refine pC ah ?_
  simp[go_sem,xe,ar]
  exact N8 (l:=tL) hM
 obtain⟨_,hL,hG,aE,aF⟩:=db qe
 rw[ai2 qe]at hM
 have ar:(e !=0)=false:=by grind
 have h0:du L AQ:=⟨by simpa,dC⟩
 unfold KG at hM
 obtain⟨X,hX⟩:=eX (sd L 9 [] AQ)
 rw[hX]at hM
 refine zO (zA ?_)
 simp[go_sem]
 refine zO (zA ?_)
 simp[go_sem]
 refine pC ah ?_
 simp[go_sem,xe]
 refine zO (zA ?_)
 simp[go_sem,ar]
 refine zO (zA ?_)
 simp[go_sem]
 refine zO (zA ?_)
 simp[go_sem]
 refine DE 2 2 15 _ dC rfl rfl ?_
 simp only[By,Cf]
 refine ou (S:=List bW×RS) [2,7,8] (λ_=> [.ptr 0 0,.ptr 1 0,.ptr 2 0]) (λu=> [qZ,rB L u.2,lF 0 0 u.1,.app u.1.length 15]) (λu=>du L u.2/\u.2.bZ=0/\u=X) hc hb ?_ ?_
 .refine z7 ?_
  refine zI (S:=List bW×RS) [2,7,8] (λ_=> [.ptr 0 0,.ptr 1 0,.ptr 2 0]) (λu=> [qZ,rB L u.2,lF 0 0 u.1,.app u.1.length 15]) (λu=>9 - u.1.length) (λu=>u.1.length<=8/\du L u.2/\u.2.bZ=0/\sd L (9 - u.1.length) u.1 u.2=X) hc hb ([],AQ) (by trivial) ?_ ?_
  .exact cc 4 (by rfl) rfl (by rfl) dC (zD (by rfl) rfl)
  rintro⟨l,s1⟩ ⟨aB,hs,ho,hinv⟩
  simp only at aB hs ho hinv
  rw[show 9 - l.length=(8 - l.length)+1 by omega,sd]at hinv
  by_cases q1:s1.err=0
  rotate_left
  .rw[ai1 q1]at hinv
   have ab:(s1.err==0)=false:=by grind
   refine zA ?_
   simp[go_sem,rB,ab]
   exact zJ (l,s1) ⟨(by grind),cc 4 (by rfl) rfl (by rfl) dC (zD (by rfl) rfl)⟩
  have ab:(s1.err==0)=true:=by grind
  rw[ai2 q1]at hinv
  have ae:=AL L hL s1 hs N7 dC
  have aa:=HO L hL s1 hs l.length 8 (qY L s1)
  have ao:=u9 (L:=L) (n:=l.length) (gb:=8) (b:=qY L s1) (s:=s1)
  have ai:=tI (L:=L) (n:=l.length) (gb:=8) (b:=qY L s1) hs
  unfold qY at aa ao ai hinv
  generalize ec L s1 N7=an at ae aa ao ai hinv
  generalize kb L l.length 8 (!an.isEmpty) s1=m at aa ao ai hinv
  by_cases q2:m.err=0
  rotate_left
  .rw[ai1 q2]at hinv
   have ad:(m.err==0)=false:=by grind
   rw[ad]at aa
   refine zA ?_
   simp[go_sem,rB,ab]
   refine wW ae cB (mX ⟨zK,tV⟩) rfl ?_
   simp[go_sem,lF]
   refine wW aa cB (mX ⟨zC rfl,zC rfl,zC rfl,tV⟩) rfl ?_
   simp[go_sem,rB]
   exact zJ (l,m) ⟨⟨ai.cA,ai.bZ.trans ho,hinv⟩,cc 4 (by rfl) rfl (by rfl) dC (zD (by rfl) rfl)⟩
  have ad:(m.err==0)=true:=by grind
  rw[ad]at aa
  obtain⟨_,aG,rfl⟩:=ao q2
  rw[ai2 q2]at hinv
  have au:=wn2 L hL m hs ho
  have aq:=N5 hL hs ho
  generalize lE L m=x at au aq hinv
  obtain⟨st,s2⟩:=x
  simp only at aq hinv
  have aj:=aq.cA
  have aC:=aq.bZ.trans ho
  by_cases q3:dq L [59] s2=true
  rotate_left
  .have q3:dq L [59] s2=false:=by grind
   rw[ai1 om]at hinv
   refine zA ?_
   simp[go_sem,rB,ab]
   refine wW ae cB (mX ⟨zK,tV⟩) rfl ?_
   simp[go_sem,lF]
   refine wW aa cB (mX ⟨zC rfl,zC rfl,zC rfl,tV⟩) rfl ?_
   simp[go_sem]
   refine wJ [(3,3)] 2 4 sm (by rfl) kR ?_
   simp[go_sem]
   refine Sz au cB Eh (HP _) ?_
   simp[go_sem]
   refine zH ⟨om,zY rfl⟩ ?_
   simp[go_sem]
   refine wW (wT L hL s2 aj _ q3) cB (mX ⟨zC rfl,tV⟩) rfl ?_
   simp[go_sem,rB]
   exact zJ (l++ [st],s2) ⟨(by grind),aM 4 (by rfl) (zD (by rfl) rfl)⟩
  rw[ai2 q3]at hinv
  have av:=aj.next hL q3
  have a1:=jt L hL (zR s2) av Ei
  have af:=nz L hL (zR s2) av
  generalize dq L Ei (zR s2)=ba at a1 hinv
  generalize cD L (zR s2)=tk at af hinv
  refine zA ?_
  simp[go_sem,rB,ab]
  refine wW ae cB (mX ⟨zK,tV⟩) rfl ?_
  simp[go_sem,lF]
  refine wW aa cB (mX ⟨zC rfl,zC rfl,zC rfl,tV⟩) rfl ?_
  simp[go_sem]
  refine wJ [(3,3)] 2 4 sm (by rfl) kR ?_
  simp[go_sem]
  refine Sz au cB Eh (HP _) ?_
  simp[go_sem]
  refine zH ⟨om,zY rfl⟩ ?_
  simp[go_sem]
  refine wW (xS L hL s2 aj _ q3) cB (mX ⟨zC rfl,tV⟩) rfl ?_
  simp[go_sem]
  refine wW a1 cB (mX ⟨zC rfl,tV⟩) rfl ?_
  refine(A6 ba).elim (λq4=> ?_) (λq4=> ?_)
  .rw[ai2 (.inl q4)]at hinv
   simp[go_sem,q4,rB]
   exact zJ (l++ [st],zR s2) ⟨(by trivial),aM 4 (by rfl) (zD (by rfl) rfl)⟩
  simp[go_sem,q4]
  refine wW af cB Eh rfl ?_
  by_cases q5:tk.kind=0
  .have aw:(tk.kind==0)=true:=by grind
   rw[ai2 (.inr q5)]at hinv
   simp[go_sem,aw,rB]
   exact zJ (l++ [st],zR s2) ⟨(by trivial),aM 4 (by rfl) (zD (by rfl) rfl)⟩
  .have aw:(tk.kind==0)=false:=by grind
   rw[ai1 (by grind)]at hinv
   simp[go_sem,aw,rB]
   refine zJ (l++ [st],zR s2) ⟨by grind,⟨by grind,av,aC,by grind⟩,aM 4 (by rfl) (zD (by rfl) rfl)⟩
 .rintro⟨l,s1⟩ ⟨hs,ho,aD⟩
  simp only at hs ho
  rw[<-aD]at hM
  simp only at hM
  have ax:=SD hL hs
  refine ou (S:=(Int×Int)×RS) [2,7,8] (λ_=> [.ptr 0 0,.ptr 1 0,.ptr 2 0]) (λu=> [qZ,rB L u.2,lF u.1.1 u.1.2 l,.app l.length 15]) (λu=>u=tK L s1) hc hb ?_ ?_
  .obtain⟨A,hA⟩:=eX (tK L s1)
   rw[hA]
   unfold tK AP at hA
   by_cases q1:dq L Ei s1=true
   rotate_left
   .have q1:dq L Ei s1=false:=by grind
    rw[ai1 om]at hA
    refine zA ?_
    simp[go_sem]
    refine wW (wT L hL s1 hs _ q1) cB (mX ⟨zC rfl,tV⟩) rfl ?_
    simp[go_sem]
    exact zJ ((0,0),s1) ⟨hA,cc 4 (by rfl) rfl (by rfl) dC (zD (by rfl) rfl)⟩
   rw[ai2 q1]at hA
   have a6:=hs.next hL q1
   have a7:=lC L hL _ a6 HR
   have ay:=uX hL (w:=HR) a6
   generalize yH L HR (zR s1)=u1 at a7 ay hA
   have a8:=lC L hL _ ay HS
   have az:=uX hL (w:=HS) ay
   generalize yH L HS u1=u2 at a8 az hA
   have aA:=lC L hL _ az HT
   have ak:=uX hL (w:=HT) az
   generalize yH L HT u2=u3 at aA ak hA
   refine zA ?_
   simp[go_sem]
   refine wW (xS L hL s1 hs _ q1) cB (mX ⟨zC rfl,tV⟩) rfl ?_
   simp[go_sem]
   refine wW a7 cB (mX ⟨zC rfl,tV⟩) rfl ?_
   simp[go_sem]
   refine wW a8 cB (mX ⟨zC rfl,tV⟩) rfl ?_
   simp[go_sem]
   refine wW aA cB (mX ⟨zC rfl,tV⟩) rfl ?_
   simp[go_sem,lF]
   by_cases q2:dq L N6 u3=true
   .rw[ai2 q2]at hA
    have al:=FW L hL _ (ak.next hL q2)
    generalize hZ L (zR u3)=nn at al hA
    refine wW (xS L hL u3 ak _ q2) cB (mX ⟨zC rfl,tV⟩) rfl ?_
    simp[go_sem]
    refine wW al cB Eh rfl ?_
    simp[go_sem]
    exact zJ ((2,nn.1),nn.2) ⟨hA,cc 4 (by rfl) rfl (by rfl) dC (zD (by rfl) rfl)⟩
   .have q2:dq L N6 u3=false:=by grind
    rw[ai1 om]at hA
    have al:=FW L hL _ ak
    generalize hZ L u3=nn at al hA
    refine wW (wT L hL u3 ak _ q2) cB (mX ⟨zC rfl,tV⟩) rfl ?_
    simp[go_sem]
    refine wW al cB Eh rfl ?_
    simp[go_sem]
    exact zJ ((1,nn.1),nn.2) ⟨hA,cc 4 (by rfl) rfl (by rfl) dC (zD (by rfl) rfl)⟩
  .rintro _ rfl
   generalize tK L s1=A at ax hM
   obtain⟨⟨m,n⟩,s2⟩:=A
   simp only at ax hM
   have aj:=ax.cA
   refine ou (S:=RS) [2,7,8] (λ_=> [.ptr 0 0,.ptr 1 0,.ptr 2 0]) (λu=> [qZ,rB L u,lF m n l,.app l.length 15]) (λu=>u=pc L s2) hc hb ?_ ?_
   .have af:=nz L hL s2 aj
    have hf:=AK L s2 13 (cD L s2).place
    obtain⟨E,hE⟩:=eX (pc L s2)
    rw[hE]
    unfold pc at hE
    generalize cD L s2=tk at af hf hE
    generalize iF 13 tk.place s2=f at hf hE
    refine zA ?_
    simp[go_sem,rB]
    by_cases q1:s2.err=0
    rotate_left
    .have ab:(s2.err==0)=false:=by grind
     rw[ai1 om]at hE
     simp[go_sem,ab]
     exact zJ s2 ⟨hE,cc 4 (by rfl) rfl (by rfl) dC (zD (by rfl) rfl)⟩
    have ab:(s2.err==0)=true:=by grind
    simp[go_sem,ab]
    refine wW af cB Eh rfl ?_
    by_cases q2:tk.kind=0
    .have ad:(tk.kind !=0)=false:=by grind
     rw[ai1 om]at hE
     simp[go_sem,ad,rB]
     exact zJ s2 ⟨hE,cc 4 (by rfl) rfl (by rfl) dC (zD (by rfl) rfl)⟩
    .have ad:(tk.kind !=0)=true:=by grind
     rw[ai2 ⟨q1,q2⟩]at hE
     simp[go_sem,ad]
     refine wW af cB Eh rfl ?_
     simp[go_sem]
     refine wW hf cB (mX ⟨zC rfl,zC rfl,tV⟩) rfl ?_
     simp[go_sem,rB]
     exact zJ f ⟨hE,cc 4 (by rfl) rfl (by rfl) dC (zD (by rfl) rfl)⟩
   .rintro _ rfl
    generalize pc L s2=E at hM
    refine zA ?_
    simp[go_sem,rB]
    by_cases q1:E.err=0
    .have ab:(E.err !=0)=false:=by grind
     rw[ai2 q1]at hM
     simp[go_sem,ab,qZ,lF]
     exact N8 (l:=⟨m,n,l⟩) hM
    .have ab:(E.err !=0)=true:=by grind
     rw[ai1 q1]at hM
     simp[go_sem,ab,qZ,lF]
     refine wJ [(9,3)] 1 4 sm (by rfl) kR ?_
     simp[go_sem]
     exact N8 (l:=tL) hM
theorem SF (s:aiA) (hl:s.length<=maxLen):Pure prog 9 [.str s] (.agg (sf s).1.row):=by
 have h:=xT8 s hl
 generalize sf s=x at h⊢
 refine iW 0 func9 ntmps9 results9 λc hc hb=>zM ?_
 simp[go_sem]
 refine pC h ?_
 simp[go_sem,Ej]
 exact zW (zC rfl) sm
variable {L:List bQ}
structure jl (e:bJ):Prop where
 dV:Good e
 wide:fB e
 size:mH e<=4000
structure k6 (st:bW):Prop where
 kind:cZ st.kind
 table:st.table.length<=1048576
 items:st.items.length<=12/\ ∀x∈st.items,cZ x.kind/\jl x.e
 rows:st.rows.length<=20/\ ∀r∈st.rows,r.length<=12/\ ∀e∈r,jl e
 cG:st.cG.length<=12/\ ∀x∈st.cG,x.name.length<=1048576/\jl x.e
 cE:jl st.cE
 order:st.order.length<=1048576
 bS:cZ st.bS
structure k7 (l:dZ):Prop where
 mode:cZ l.mode
 n:cZ l.n
 stmts:l.stmts.length<=12/\ ∀st∈l.stmts,k6 st
theorem SG:k7 tL:=⟨dC,dC,dC,λst aa=>by trivial⟩
structure ES (s:RS) (e:bJ):Prop where
 dV:Good e
 wide:fB e
 size:s.err=0->mH e<=2001
theorem ES.mono {s:RS} {e:bJ} (h:ES s e) (u:UI L s s'):ES s' e:=⟨h.dV,h.wide,λq=>h.size (u.err q)⟩
theorem ES.ok {s:RS} {e:bJ} (h:ES s e) (hs:s.err=0):jl e:=⟨h.dV,h.wide,by have:=h.size hs;omega⟩
theorem HU (s:RS):ES s de:=⟨Sj,R6 rfl,λ_=>dC⟩
theorem HV (hL:eR L) (hG:gO L) (h2:L.length<=2001) {s:RS} (hs:du L s) (ho:s.bZ=0):ES (iX L s).2 (iX L s).1:=by
 have h:=NN hL hs ho
 have k:=NO hL hG hs ho
 exact⟨k.dV,h.wide,λq=>by have:=k.size q;have:=h.cA.at_;omega⟩
theorem N9 (hG:gO L) {s:RS} (hs:du L s):cZ (hZ L s).1:=by
 unfold hZ cZ
 split
 .have:=hG.num _ (FZ hs);omega
 .simp
structure SS (s:RS) (st:bW):Prop where
 kind:cZ st.kind
 table:st.table.length<=1048576
 items:st.items.length<=12/\ ∀x∈st.items,cZ x.kind/\ES s x.e
 rows:st.rows.length<=20/\ ∀r∈st.rows,r.length<=12/\ ∀e∈r,ES s e
 cG:st.cG.length<=12/\ ∀x∈st.cG,x.name.length<=1048576/\ES s x.e
 cE:ES s st.cE
 order:st.order.length<=1048576
 bS:cZ st.bS
theorem SS.mono {s:RS} (h:SS s st) (u:UI L s s'):SS s' st:=
 ⟨h.kind,h.table,⟨h.items.1,λx hx=>⟨(h.items.2 x hx).1,(h.items.2 x hx).2.mono u⟩⟩,⟨h.rows.1,λr hr=>⟨(h.rows.2 r hr).1,λe he=>((h.rows.2 r hr).2 e he).mono u⟩⟩,⟨h.cG.1,λx hx=>⟨(h.cG.2 x hx).1,(h.cG.2 x hx).2.mono u⟩⟩,h.cE.mono u,h.order,h.bS⟩
theorem SS.ok {s:RS} (h:SS s st) (hs:s.err=0):k6 st:=
 ⟨h.kind,h.table,⟨h.items.1,λx hx=>⟨(h.items.2 x hx).1,(h.items.2 x hx).2.ok hs⟩⟩,⟨h.rows.1,λr hr=>⟨(h.rows.2 r hr).1,λe he=>((h.rows.2 r hr).2 e he).ok hs⟩⟩,⟨h.cG.1,λx hx=>⟨(h.cG.2 x hx).1,(h.cG.2 x hx).2.ok hs⟩⟩,h.cE.ok hs,h.order,h.bS⟩
theorem xV6 {s:RS} (h:(pc L s).err=0):s.err=0:=by
 grind[pc]
section
variable (hL:eR L) (hG:gO L) (h2:L.length<=2001)
include hL hG h2
theorem xX2 {s:RS} (h:du L s) (ho:s.bZ=0):cZ (pa L s).1.kind/\ES (pa L s).2 (pa L s).1.e:=by
 unfold pa
 split
 .grind[cZ,HU]
 split
 .rename_i hi
  have h1:=xA hL h hi
  have h3:=h1.trans (yM hL [40] h1.cA)
  have hx:=HV hL hG h2 h3.cA (h3.bZ.trans ho)
  exact⟨by grind[cZ],hx.mono (yM hL [41] (h3.trans (vd hL h3.cA (h3.bZ.trans ho))).cA)⟩
 grind[cZ,HV]
theorem SH: ∀(n:Nat) (l:List cO) (s:RS),du L s->s.bZ=0->l.length<=6->(∀x∈l,cZ x.kind/\ES s x.e)->
  (tJ L n l s).1.length<=12/\ ∀x∈(tJ L n l s).1,cZ x.kind/\ES (tJ L n l s).2 x.e
 |0,l,s,_,_,hl,hx=>(by grind[tJ])
 |n+1,l,s,h,ho,hl,hx=>by
  unfold tJ
  split
  .rename_i he
   obtain⟨_,h6,_⟩:=u9 he
   have hu:=NR hL h ho
   have hi:=xX2 hL hG h2 h ho
   have ab: ∀x∈l++ [(pa L s).1],cZ x.kind/\ES (pa L s).2 x.e:=λx aa=>by
    rw[Ak]at aa
    rcases aa with aa|aa
    .exact⟨(hx x aa).1,(hx x aa).2.mono hu⟩
    grind
   split
   .have hn:=xA hL hu.cA ‹_›
    exact SH n _ _ hn.cA ((hu.trans hn).bZ.trans ho) (by grind) (λx aa=>⟨(by grind),(ab x aa).2.mono hn⟩)
   grind
  .exact⟨by grind,λx aa=>⟨(hx x aa).1,(hx x aa).2.mono (tI h)⟩⟩
theorem xI3 {s:RS} (h:du L s) (ho:s.bZ=0):(qT L s).1.length<=12/\ ∀x∈(qT L s).1,cZ x.kind/\ES (qT L s).2 x.e:=by
 unfold qT
 split
 .simp[cZ,HU]
 grind[SH]
theorem Oa {s:RS} (h:du L s) (ho:s.bZ=0):ES (o9 L s) (kf L s).2:=by
 unfold o9 kf
 by_cases q:dq L Eb s=true
 .rw[ai2 q,ai2 q]
  exact HV hL hG h2 (h.next hL q) ho
 simp_all[HU]
theorem SI: ∀(n:Nat) (l:List bJ) (s:RS),du L s->s.bZ=0->l.length<=6->(∀e∈l,ES s e)->
  (fQ L n l s).2.1.length<=12/\ ∀e∈(fQ L n l s).2.1,ES (fQ L n l s).2.2 e
 |0,l,s,_,_,hl,hx=>(by grind[fQ])
 |n+1,l,s,h,ho,hl,hx=>by
  unfold fQ
  split
  .rename_i he
   obtain⟨_,h6,_⟩:=u9 he
   have hu:=vd hL h ho
   have hi:=HV hL hG h2 h ho
   have ab: ∀x∈l++ [(iX L s).1],ES (iX L s).2 x:=λx aa=>by
    rw[Ak]at aa
    rcases aa with aa|aa
    .exact(hx x aa).mono hu
    grind
   split
   .have hn:=xA hL hu.cA ‹_›
    exact SI n _ _ hn.cA ((hu.trans hn).bZ.trans ho) (by grind) (λx aa=>(ab x aa).mono hn)
   grind
  .exact⟨by grind,λx aa=>(hx x aa).mono (tI h)⟩
theorem SJ: ∀(n:Nat) (R:List (List bJ)) (s:RS),du L s->s.bZ=0->R.length<=16->(∀r∈R,r.length<=12/\ ∀e∈r,ES s e)->
  (sa L n R s).1.length<=20/\ ∀r∈(sa L n R s).1,r.length<=12/\ ∀e∈r,ES (sa L n R s).2 e
 |0,R,s,_,_,hl,hx=>(by grind[sa])
 |n+1,R,s,h,ho,hl,hx=>by
  unfold sa
  split
  .rename_i he
   obtain⟨_,h6,_⟩:=u9 he
   have aa:=yM hL [40] h
   have hr:=SI hL hG h2 7 [] _ aa.cA (aa.bZ.trans ho) sm sm
   have ab:=aa.trans (NX hL 7 [] _ aa.cA (aa.bZ.trans ho))
   generalize fQ L 7 [] (yH L [40] s)=r at hr ab
   split
   .have ad:=yM hL [41] ab.cA
    have ae: ∀y∈R++ [r.2.1],y.length<=12/\ ∀e∈y,ES (yH L [41] r.2.2) e:=λy hy=>by
     rw[Ak]at hy
     rcases hy with hy|hy
     .exact⟨(hx y hy).1,λe he=>((hx y hy).2 e he).mono (ab.trans ad)⟩
     .simp only[Ae,Bg,aih]at hy
      subst hy
      exact⟨hr.1,λe he=>(hr.2 e he).mono ad⟩
    split
    .have hn:=xA hL ad.cA ‹_›
     exact SJ n _ _ hn.cA (((ab.trans ad).trans hn).bZ.trans ho) (by grind) (λy hy=>⟨(ae y hy).1,λe he=>((ae y hy).2 e he).mono hn⟩)
    grind
   .exact⟨by grind,λy hy=>⟨(hx y hy).1,λe he=>((hx y hy).2 e he).mono ab⟩⟩
  .exact⟨by grind,λy hy=>⟨(hx y hy).1,λe he=>((hx y hy).2 e he).mono (tI h)⟩⟩
theorem SK: ∀(n:Nat) (l:List ct) (s:RS),du L s->s.bZ=0->l.length<=6->(∀x∈l,x.name.length<=1048576/\ES s x.e)->
  (qW L n l s).2.1.length<=12/\ ∀x∈(qW L n l s).2.1,x.name.length<=1048576/\ES (qW L n l s).2.2 x.e
 |0,l,s,_,_,hl,hx=>(by grind[qW])
 |n+1,l,s,h,ho,hl,hx=>by
  unfold qW
  split
  .rename_i he
   obtain⟨_,h6,_⟩:=u9 he
   have af:=xb hG h
   have ab:=nD hL h
   have aa:=ab.trans (yM hL [61] ab.cA)
   have hi:=HV hL hG h2 aa.cA (aa.bZ.trans ho)
   have hu:=aa.trans (vd hL aa.cA (aa.bZ.trans ho))
   generalize iX L (yH L [61] (xC L s).2)=x at hi hu
   have ad: ∀y∈l++ [⟨(xC L s).1,x.1⟩],y.name.length<=1048576/\ES x.2 y.e:=λy hy=>by
    rw[Ak]at hy
    rcases hy with hy|hy
    .exact⟨(hx y hy).1,(hx y hy).2.mono hu⟩
    grind
   split
   .have hn:=xA hL hu.cA ‹_›
    exact SK n _ _ hn.cA ((hu.trans hn).bZ.trans ho) (by grind) (λy hy=>⟨(ad y hy).1,(ad y hy).2.mono hn⟩)
   grind
  .exact⟨by grind,λx ae=>⟨(hx x ae).1,(hx x ae).2.mono (tI h)⟩⟩
theorem xe5 {s:RS} (h:du L s) (ho:s.bZ=0):SS (ve L s).2 (ve L s).1:=by
 unfold ve
 simp only
 have hx:=xI3 hL hG h2 h ho
 have h1:=NW hL h ho
 generalize qT L s=x at hx h1
 have u2:=yM hL qU h1.cA
 have aa:=xb hG (h1.trans u2).cA
 have u3:=nD hL (h1.trans u2).cA
 generalize xC L (yH L qU x.2)=n at aa u3
 have hw:=Oa hL hG h2 u3.cA ((h1.trans (u2.trans u3)).bZ.trans ho)
 have u4:=F3 hL u3.cA ((h1.trans (u2.trans u3)).bZ.trans ho)
 have u5:=NV hL u4.cA
 have ab:(AN L (o9 L n.2)).1.1.length<=1048576:=by
  unfold AN
  split
  .rename_i hi
   have v1:=xA hL u4.cA hi
   have v2:=v1.trans (yM hL qV v1.cA)
   split
   .exact xb hG v2.cA
   split
   .exact xb hG v2.cA
   .exact xb hG v2.cA
  simp
 generalize AN L (o9 L n.2)=o at u5 ab
 have u6:=Sr hL u5.cA
 have ad:cZ (AO L o.2).1:=by
  unfold AO
  split
  .exact N9 hG (u5.cA.next hL ‹_›)
  grind[cZ]
 generalize AO L o.2=l at u6 ad
 have u:=u2.trans (u3.trans (u4.trans (u5.trans u6)))
 exact⟨by grind[cZ],aa,⟨hx.1,λx ae=>⟨(by grind),(hx.2 x ae).2.mono u⟩⟩,sm,sm,hw.mono (u5.trans u6),ab,ad⟩
theorem xa5 {s:RS} (h:du L s) (ho:s.bZ=0):SS (vf L s).2 (vf L s).1:=by
 unfold vf
 have u1:=yM hL Ed h
 have aa:=xb hG u1.cA
 have u2:=u1.trans (nD hL u1.cA)
 generalize xC L (yH L Ed s)=n at aa u2
 have u3:=u2.trans (yM hL F4 u2.cA)
 have hr:=SJ hL hG h2 17 [] _ u3.cA (u3.bZ.trans ho) sm sm
 exact⟨by grind[cZ],aa,sm,hr,sm,HU _,sm,by grind[cZ]⟩
theorem xg2 {s:RS} (h:du L s) (ho:s.bZ=0):SS (vg L s).2 (vg L s).1:=by
 unfold vg
 have aa:=xb hG h
 have u2:=nD hL h
 generalize xC L s=n at aa u2
 have u3:=u2.trans (yM hL pb u2.cA)
 have hr:=SK hL hG h2 7 [] _ u3.cA (u3.bZ.trans ho) sm sm
 have u4:=u3.trans (NY hL 7 [] _ u3.cA (u3.bZ.trans ho))
 simp only
 generalize qW L 7 [] (yH L pb n.2)=r at hr u4
 split
 .have hw:=Oa hL hG h2 u4.cA (u4.bZ.trans ho)
  have u5:=F3 hL u4.cA (u4.bZ.trans ho)
  exact⟨by grind[cZ],aa,sm,sm,⟨hr.1,λx hx=>⟨(by grind),(hr.2 x hx).2.mono u5⟩⟩,hw,sm,by grind[cZ]⟩
 .exact⟨by grind[cZ],aa,sm,sm,hr,HU _,sm,by grind[cZ]⟩
theorem wb5 {s:RS} (h:du L s) (ho:s.bZ=0):SS (lE L s).2 (lE L s).1:=by
 unfold lE
 split
 .exact xe5 hL hG h2 (h.next hL ‹_›) ho
 split
 .exact xa5 hL hG h2 (h.next hL ‹_›) ho
 split
 .exact xg2 hL hG h2 (h.next hL ‹_›) ho
 .have u1:=yM hL Eg h
  have u2:=u1.trans (yM hL qU u1.cA)
  have aa:=xb hG u2.cA
  have u3:=u2.trans (nD hL u2.cA)
  exact⟨by grind[cZ],aa,sm,sm,sm,Oa hL hG h2 u3.cA (u3.bZ.trans ho),sm,by grind[cZ]⟩
theorem SL: ∀(n:Nat) (l:List bW) (s:RS),du L s->s.bZ=0->l.length<=8->(∀x∈l,SS s x)->
  (sd L n l s).1.length<=8/\ ∀x∈(sd L n l s).1,SS (sd L n l s).2 x
 |0,l,s,_,_,hl,hx=>⟨hl,hx⟩
 |n+1,l,s,h,ho,hl,hx=>by
  unfold sd
  split
  .split
   .rename_i he
    obtain⟨_,h8,_⟩:=u9 he
    have hu:=N5 hL h ho
    have hi:=wb5 hL hG h2 h ho
    have ad: ∀x∈l++ [(lE L s).1],SS (lE L s).2 x:=λx aa=>by
     rw[Ak]at aa
     rcases aa with aa|aa
     .exact(hx x aa).mono hu
     .simp only[Ae,Bg,aih]at aa
      subst aa
      exact hi
    have ab:(l++ [(lE L s).1]).length<=8:=by simp;omega
    split
    .have hn:=xA hL hu.cA ‹_›
     have ae:=λx aa=>(ad x aa).mono hn
     split
     .exact⟨ab,ae⟩
     .exact SL n _ _ hn.cA ((hu.trans hn).bZ.trans ho) ab ae
    .exact⟨ab,ad⟩
   .exact⟨hl,λx aa=>(hx x aa).mono (tI h)⟩
  grind
theorem xZ6 (h1:1<=L.length):k7 (KG L).1:=by
 have h0:du L AQ:=⟨by simpa,dC⟩
 unfold KG
 simp only
 have hs:=SL hL hG h2 9 [] AQ h0 rfl sm sm
 have hu:=SA hL 9 [] AQ h0 rfl
 generalize sd L 9 [] AQ=x at hs hu
 have ha:=SD hL hu.cA
 have hm:cZ (tK L x.2).1.1/\cZ (tK L x.2).1.2:=by
  unfold tK
  split
  .rename_i hi
   have v1:=SB hL hu.cA hi
   split
   .exact⟨by grind[cZ],N9 hG (v1.cA.next hL ‹_›)⟩
   .exact⟨by grind[cZ],N9 hG v1.cA⟩
  grind[cZ]
 generalize tK L x.2=a at ha hm
 split
 .rename_i he
  have h3:=ha.err (xV6 he)
  exact⟨hm.1,hm.2,by grind,λst aa=>(hs.2 st aa).ok h3⟩
 grind[SG]
end
theorem SM (s:aiA):k7 (sf s).1:=by
 unfold sf
 split
 all_goals simp_all[Sy,xZ6,SG]
theorem yV6 (l:List bJ) (i:Nat) (h:i<l.length):mW (l.drop i)=mH l[i]+mW (l.drop (i+1)):=by
 rw[A5 h,mW]
theorem yM7 (l:List bJ) (i:Nat) (h:i<l.length):wL (l.drop i)=max (ig l[i]) (wL (l.drop (i+1))):=by
 rw[A5 h,wL]
theorem Oc (e:bJ):1<=mH e:=by rw[FY];omega
theorem KH (e:bJ):1<=ig e:=by rw[uW];omega
def SN (e:bJ) (deep n:Int) (r:V) (I:St):Prop:=r= .bool (decide ((ig e:Int)+deep<=65))/\ ∃m:Int,I= [.box [.int .i64 m]]/\n<=m/\m<=n+mH e
theorem SO: ∀(k:Nat) (e:bJ) (deep n:Int),ig e<=k->fB e->0<=n->n+mH e<=4096->0<=deep->deep<=1000000->bN prog 201 [.agg e.row,.int .i64 deep,.ptr 0 0] [.box [.int .i64 n]] (SN e deep n)
 |0,e,_,_,h,_,_,_,_,_=>by have:=KH e;omega
 |k+1,e,deep,n,h,hw,au,an,av,aw=>by
  have ih:=SO k
  have ao:=uW e
  have ah:=FY e
  obtain⟨M,hM⟩:=eX (decide ((ig e:Int)+deep<=65))
  unfold SN
  rw[hM]
  obtain⟨args,aa⟩:=eX e.args
  have hlen:=hw.len
  have ae:=hw.sub
  rw[aa]at ao ah hlen ae
  have e1:IntKind.i64.wrap (n+1)=n+1:=bX om om
  have e2:IntKind.i64.wrap (deep+1)=deep+1:=bX om om
  obtain⟨sz,aq⟩:=eX (mH e)
  rw[aq]at ah an⊢
  have ret: ∀(b:Bool) (m:Int) (τ:St),b=M->n<=m->m<=n+sz->cw (some (.bool b)) 1 (λr I=>r= .bool M/\ ∃m:Int,I= [.box [.int .i64 m]]/\n<=m/\m<=n+sz) (.box [.int .i64 m]::τ):=λb m τ h1 h2 h3=>by
   subst h1
   exact yZ 1 rfl rfl (by rfl) (A7 _) (zC rfl) ⟨rfl,m,rfl,h2,h3⟩
  refine iV 1 func201 ntmps201 results201 λc hc hb=> ?_
  refine zA ?_
  simp[go_sem,e1]
  by_cases q1:64<deep
  .have af:decide (64<deep)=true:=ai4 q1
   have hM:false=M:=by rw[<-hM];exact(ai3 om).symm
   simp[go_sem,af]
   exact ret _ _ _ hM om om
  have af:decide (64<deep)=false:=ai3 q1
  have ar:decide (4096<n+1)=false:=ai3 om
  simp[go_sem,af,ar,aa]
  refine zI (S:=Nat×Int) [1,2,23,24,25] (λu=> [.int .i64 deep,.ptr 0 0,.sl .ro (args.map bJ.row),.int .i64 args.length,.int .i64 (u.1:Int)]) (λu=> [.box [.int .i64 u.2]]) (λu=>args.length - u.1)
   (λu=>u.1<=args.length/\n<=u.2/\u.2+mW (args.drop u.1)<=n+sz/\decide ((wL (args.drop u.1):Int)+(deep+1)<=65)=M) hc hb (0,n+1)
   ⟨A3 _,by simp only;omega,by simp only[Bj];omega,by rw[<-hM,Bj];exact decide_eq_decide.2 om⟩ ?_ ?_
  .exact aN 1 (by rfl)
  rintro⟨i,m⟩ ⟨hi,ai,ad,hinv⟩
  simp only at hi ai ad hinv
  by_cases q:i<args.length
  rotate_left
  .rw[A9 om]at hinv ad
   have hinv:true=M:=by rw[<-hinv,wL];exact(ai4 om).symm
   refine zA ?_
   simp[go_sem,q]
   exact ret _ _ _ hinv ai (by rw[mW]at ad;omega)
  have ei:=zU q om
  have aj:=yV6 args i q
  have ak:=yM7 args i q
  obtain⟨x,hx⟩:=eX (args[i])
  have al:x∈args:=hx▸A8 q
  have ax:=DS args x al
  rw[hx]at aj ak
  rw[aj]at ad
  rw[ak]at hinv
  have ab:=ih x (deep+1) m om (ae x al) om om om om
  by_cases q3:(ig x:Int)+(deep+1)<=65
  .refine zA ?_
   simp[go_sem,q,hx,e2]
   refine mz 0 ab cB rfl (by rfl) ⟨.inl (by simp[go_sem,dH,dM,dj,dt]),zC rfl,.inl rfl,tV⟩ (λr I h=>by
    obtain⟨_,m2,rfl,_⟩:=h
    exact⟨_,rfl,rfl⟩) ?_
   rintro r o2 ⟨rfl,m2,h1,h2,h3⟩
   obtain rfl:o2= .box [.int .i64 m2]:=sU h1
   rw[ai4 q3]
   simp[go_sem,ei]
   refine zJ (i+1,m2) ⟨by simp only;omega,⟨by simp only;omega,by simp only;omega,by simp only;omega, ?_⟩, ?_⟩
   .rw[<-hinv]
    show decide ((wL (args.drop (i+1)):Int)+(deep+1)<=65)=_
    exact decide_eq_decide.2 om
   .exact aN 1 (by rfl)
  .have hinv:false=M:=by rw[<-hinv];exact(ai3 om).symm
   refine zA ?_
   simp[go_sem,q,hx,e2]
   refine mz 0 ab cB rfl (by rfl) ⟨.inl (by simp[go_sem,dH,dM,dj,dt]),zC rfl,.inl rfl,tV⟩ (λr I h=>by
    obtain⟨_,m2,rfl,_⟩:=h
    exact⟨_,rfl,rfl⟩) ?_
   rintro r o2 ⟨rfl,m2,h1,h2,h3⟩
   obtain rfl:o2= .box [.int .i64 m2]:=sU h1
   rw[ai3 q3]
   simp[go_sem]
   exact ret _ _ _ hinv om om
def KI (e:bJ):Bool:=e.kind==3&&e.s== [65,78,68]&&e.args.length==2
def tM:Nat->List bJ->List bJ->List bJ
 |0,_,l=>l
 |_+1,[],l=>l
 |n+1,e::q,l=>if KI e=true then tM n (q++e.args) l else tM n q (l++ [e])
def nI (st:bW):List bJ:=if st.dP=true then tM 4096 [st.cE] []else []
theorem SP (l:List bJ):eK 6 (l.map bJ.row):=my λe=>by rw[bJ.bR];rfl
theorem SQ (st:bW):Pure prog 168 [.agg st.row] (.sl .ro ((nI st).map bJ.row)):=by
 generalize hM:nI st=M
 have ret: ∀(r:List bJ) (g:Tag) (I:St),r=M->cw (some (.sl g (r.map bJ.row))) 0 (λr s=>r= .sl .ro (M.map bJ.row)/\s= []) I:=λr g I h=>by subst h;exact zW zK ⟨rfl,rfl⟩
 unfold nI at hM
 refine iV 0 func168 ntmps168 results168 λc hc hb=> ?_
 refine uO 26 dC ?_
 refine zA ?_
 simp[go_sem]
 by_cases hf:st.dP=true
 rotate_left
 .have ad:st.dP=false:=sU hf
  rw[ai1 hf]at hM
  simp[go_sem,ad]
  exact ret [] _ _ hM
 rw[ai2 hf]at hM
 simp[go_sem,hf]
 refine Zj 4 6 [st.cE.row] dC (SP [st.cE]) sg ?_
 refine l7 3 6 dC sg ?_
 refine zI (S:=Nat×List bJ×List bJ) [3,4,5,100026] (λu=> [.sl (.app 1) (u.2.2.map bJ.row),.sl (.app 0) (u.2.1.map bJ.row),.int .i64 u.1,.cz []]) (λu=> [.app u.2.1.length 6,.app u.2.2.length 6]) (λu=>4096 - u.1)
  (λu=>u.1<=4096/\u.2.1.length<=1+u.1/\u.2.2.length<=u.1/\tM (4096 - u.1) u.2.1 u.2.2=M) hc hb (0,[st.cE],[]) ⟨A3 _,sm,sm,hM⟩ ?_ ?_
 .exact DB [1,2] dC rfl ⟨by simp[go_sem,yA],by simp[go_sem,yA],tV⟩ ⟨.inl (by simp[go_sem,dH,dM,dj,dt,cK]),.inl (by simp[go_sem,dH,dM,dj,dt,cK]),zC rfl,zC rfl,tV⟩
 rintro⟨n,q,l⟩ ⟨hn,ab,ae,hinv⟩
 simp only at hn ab ae hinv
 cases q with
 |nil=>
  have hl:l=M:=by rw[<-hinv];cases h:4096 - n<;>rfl
  refine zA ?_
  simp[go_sem]
  exact ret l _ _ hl
 |cons e q=>
 by_cases af:n<4096
 rotate_left
 .have hl:l=M:=by rw[<-hinv,show 4096 - n=0 by omega];rfl
  have hd:decide ((n:Int)<4096)=false:=ai3 om
  refine zA ?_
  simp[go_sem,hd]
  exact ret l _ _ hl
 have hd:decide ((n:Int)<4096)=true:=ai4 om
 rw[show 4096 - n=(4096 - (n+1))+1 by omega,tM]at hinv
 have ei:IntKind.i64.wrap ((n:Int)+1)=((n+1:Nat):Int):=by rw[bX om om];omega
 refine zA ?_
 simp[go_sem,hd]
 refine zH om ?_
 simp[go_sem]
 by_cases hA:KI e=true
 .rw[ai2 hA]at hinv
  have aa:=hA
  unfold KI at aa
  simp only[Ac,ai8]at aa
  obtain⟨⟨q1,q2⟩,q3⟩:=aa
  simp[go_sem,q1,q2,q3]
  refine zH ⟨by simp at ab;omega,SP _⟩ ?_
  simp[go_sem,ei]
  refine zJ (n+1,q++e.args,l) ⟨by simp only;omega,⟨by simp only;omega,by simp at ab⊢;omega,by simp only;omega,hinv⟩, ?_⟩
  exact DB [3,1] dC rfl ⟨by simp[go_sem,yA,q3],by simp[go_sem,yA],tV⟩ ⟨.inl (by simp[go_sem,dH,dM,dj,dt,cK]),.inl (by simp[go_sem,dH,dM,dj,dt,cK]),zC rfl,zC rfl,tV⟩
 .have aa:(e.kind==3&&e.s== [65,78,68]&&e.args.length==2)=false:=by simpa[KI]using hA
  rw[ai1 hA]at hinv
  have key:(e.kind==3)=false\/((e.kind==3)=true/\(e.s== [65,78,68])=false)\/((e.kind==3)=true/\(e.s== [65,78,68])=true/\((e.args.length:Int)==2)=false):=by
   revert aa
   have e3:((e.args.length:Int)==2)=(e.args.length==2):=by
    rw[Da];simp;omega
   rw[e3]
   cases e.kind==3<;>cases e.s== [65,78,68]<;>cases e.args.length==2<;>simp
  refine key.elim (λq1=> ?_) λkey=>key.elim (λq1=> ?_) λq1=> ?_
  all_goals simp[go_sem,q1]
  all_goals refine zH ⟨om,zY rfl⟩ ?_
  all_goals simp[go_sem,ei]
  all_goals refine zJ (n+1,q,l++ [e]) ⟨by simp only;omega,⟨by simp only;omega,by simp at ab⊢;omega,by simp;omega,hinv⟩, ?_⟩
  all_goals exact DB [3,1] dC rfl ⟨by simp[go_sem,yA],by simp[go_sem,yA],tV⟩ ⟨.inl (by simp[go_sem,dH,dM,dj,dt,cK]),.inl (by simp[go_sem,dH,dM,dj,dt,cK]),zC rfl,zC rfl,tV⟩
def KJ:V:= .cz [.str [],.agg [.int .i64 0,.int .i64 0,.str []],.bool false]
def ow (e:bJ) (name:aiA):Option (aiA×bK):=
 match e.kind==3,e.args with
 |true,[a,b]=>
  if b.kind=2 then(if b.s=name/\a.kind=1/\a.v.kind≠0 then some (Kg e.s,a.v)else none)
  else if a.kind=2/\a.s=name/\b.kind=1/\b.v.kind≠0 then some (e.s,b.v)else none
 |_,_=>none
def nJ:Option (aiA×bK)->V
 |none=>KJ
 |some (s,v)=> .cz [.str s,.agg v.row,.bool true]
theorem SR (e:bJ) (name:aiA):Pure prog 169 [.agg e.row,.str name] (nJ (ow e name)):=by
 generalize hM:ow e name=M
 have no: ∀(I:St),none=M->cw (some KJ) 0 (λr s=>r=nJ M/\s= []) I:=λI h=>by subst h;exact wR
 have yes: ∀(s:aiA) (v:bK) (I:St),some (s,v)=M->cw (some (.cz [.str s,.agg v.row,.bool true])) 0 (λr s=>r=nJ M/\s= []) I:=λs v I h=>by subst h;exact wR
 unfold ow at hM
 refine iW 0 func169 ntmps169 results169 λc hc hb=>zM ?_
 simp[go_sem]
 by_cases q1:e.kind=3
 rotate_left
 .have ab:(e.kind !=3)=true:=sU q1
  have aa:(e.kind==3)=false:=sU q1
  simp only[aa]at hM
  simp[go_sem,ab]
  exact no _ hM
 have ab:(e.kind !=3)=false:=sU q1
 have aa:(e.kind==3)=true:=sU q1
 simp only[aa]at hM
 obtain⟨k,hk⟩:=eX e.kind
 simp[go_sem,ab]
 by_cases q2:e.args.length=2
 rotate_left
 .have ad:((e.args.length:Int) !=2)=true:=by simpa using (show ¬(e.args.length:Int)=2 by omega)
  simp[go_sem,ad]
  refine no _ ?_
  rw[<-hM]
  split
  .rename_i h;rw[h]at q2;exact absurd rfl q2
  .rfl
 have ad:((e.args.length:Int) !=2)=false:=by simpa using (show(e.args.length:Int)=2 by omega)
 simp[go_sem,ad]
 obtain⟨a,b,af⟩: ∃a b,e.args= [a,b]:=by
  match e.args,q2 with
  | [a,b],_=>exact⟨a,b,rfl⟩
 simp only[af]at hM
 refine Zi [(12,3),(13,3)] 1 10 sm kR (by rw[hc];exact A3 _) hb kR rfl (by repeat' (first|exact th.oJ|refine th.fu ?_ (by simp[iS,jC,cS,cN]))) (by simp only[Cr,aiu];exact rfl) (by simp only[Ds,Bj];exact rfl) ?_
 simp[go_sem,af]
 refine⟨by repeat' (first|exact th.oJ|refine th.fu ?_ (by simp[iS,jC,cS,cN])), ?_⟩
 by_cases q3:b.kind=2
 .have ae:(b.kind==2)=true:=sU q3
  rw[ai2 q3]at hM
  simp[go_sem,ae]
  refine nv [(0,2),(1,2),(3,0),(4,3),(5,3)] 2 sm kR kR ?_
  simp[go_sem]
  refine pD (xQ2 e.s) ?_
  have q4:(b.kind !=2)=false:=sU q3
  simp[go_sem,q4]
  repeat' (first
   |(refine xD (λq=> ?_) (λq=> ?_)<;>simp[go_sem,q])
   |(refine zV (λq=> ?_) (λq=> ?_)<;>simp[go_sem,q])
   |(refine nv [(2,2),(4,3)] 1 sm kR kR ?_;simp[go_sem]))
  all_goals first|exact no _ (by rw[<-hM];simp_all)|exact yes _ _ _ (by rw[<-hM];simp_all)
 .have ae:(b.kind==2)=false:=sU q3
  rw[ai1 q3]at hM
  simp[go_sem,ae]
  repeat' (first
   |(refine xD (λq=> ?_) (λq=> ?_)<;>simp[go_sem,q])
   |(refine zV (λq=> ?_) (λq=> ?_)<;>simp[go_sem,q])
   |(refine nv [(2,2),(4,3)] 1 sm kR kR ?_;simp[go_sem]))
  all_goals first|exact no _ (by rw[<-hM];simp_all)|exact yes _ _ _ (by rw[<-hM];simp_all)
end Go.Proofs.YtplackkccmeioaaGreat
namespace Go.Proofs.YtplackkccmeioaaGreat.R
open Go Go.Vx Go.Proofs.Tryz
set_option maxRecDepth 100000
def eF (l:aiA):V:= .sl .ro (zN l)
theorem zQ (l:aiA):(zN l).length=l.length:=by simp[zN]
theorem q9 (l:aiA):eK 1 (zN l):=λr hr=>by
 obtain⟨x,_,rfl⟩:=Ab.1 hr
 rfl
def gv (l:aiA):V:= .sl (.app 0) (zN l)
def gj (l:aiA):St:= [.app l.length 1]
abbrev cH:Nat:=1000000000
theorem Od (b:aiA) (n:Nat) (hb:b.length<=cH) (hn:n<=cH):bN prog 255 [eF b,.int .i64 n] [] λr s=>r=gv b/\s=gj b:=by
 refine iW 0 func255 ntmps255 results255 λc hc hb=>zM ?_
 simp[go_sem,eF,zQ]
 have e1:IntKind.i64.wrap ((b.length:Int)+n)=((b.length+n:Nat):Int):=by rw[bX (by unfold cH at*;omega) (by unfold cH at*;omega)];omega
 simp[go_sem,e1]
 refine zH ⟨om,by unfold cH at*;omega⟩ ?_
 simp[go_sem,zQ]
 refine zH ⟨by unfold cH at*;omega,q9 b⟩ ?_
 simp[go_sem]
 exact mV 1 rfl rfl om (xQ rfl) ⟨rfl,rfl⟩
def eJ (v:Nat):aiA:=if v<128 then [UInt8.ofNat v]else UInt8.ofNat (v%128+128)::eJ (v/128)
termination_by v
decreasing_by omega
theorem F7 {v:Nat} (h:v<128):eJ v= [UInt8.ofNat v]:=by rw[eJ,ai2 h]
theorem HW {v:Nat} (h: ¬v<128):eJ v=UInt8.ofNat (v%128+128)::eJ (v/128):=by rw[eJ,ai1 h]
theorem SU: ∀(k v:Nat),v<128^(k+1)->(eJ v).length<=k+1
 |0,v,h=>by rw[F7 om];simp
 |k+1,v,h=>by
  by_cases hv:v<128
  .rw[F7 hv];simp
  .rw[HW hv,Af]
   have:=SU k (v/128) (by rw[C3 om];rwa [E4]at h)
   omega
theorem xf {v:Nat} (h:v<18446744073709551616):(eJ v).length<=10:=SU 9 v om
structure HX where
 out:aiA
 v:Nat
theorem cW {n:Int} (h:0<=n) (h2:n<=18446744073709551615):IntKind.u64.wrap n=n:=by
 unfold IntKind.wrap
 simp[IntKind.bits,IntKind.signed]
 omega
theorem tN (n:Nat):IntKind.u8.wrap (n:Int)=((UInt8.ofNat n).toNat:Int):=by
 unfold IntKind.wrap
 simp[IntKind.bits,IntKind.signed]
theorem wc5 (v:Nat):IntKind.u8.wrap (IntKind.u8.wrap ((v:Int).tmod 128)+128)=((UInt8.ofNat (v%128+128)).toNat:Int):=by
 have e:(v:Int).tmod 128=((v%128:Nat):Int):=by rw[Dm om];omega
 have e2:IntKind.u8.wrap (((v%128:Nat):Int))=((v%128:Nat):Int):=by
  rw[tN]
  simp
  omega
 rw[e,e2,show(((v%128:Nat):Int)+128)=((v%128+128:Nat):Int) by omega,tN]
theorem SV (b:aiA) (v0:Nat) (ad:b.length<=cH) (hv:v0<18446744073709551616):bN prog 128 [eF b,.int .u64 v0] [] λr s=>r=gv (b++eJ v0)/\s=gj (b++eJ v0):=by
 refine iV 0 func128 ntmps128 results128 λc hc hb=> ?_
 refine zA ?_
 simp[go_sem,eF,zQ]
 refine zH ⟨by unfold cH at*;omega,by simp[eK],q9 b⟩ ?_
 simp[go_sem]
 refine zI (S:=HX) [1,5] (λs=> [.int .u64 s.v,gv s.out]) (λs=>gj s.out) (λs=>s.v) (λs=>s.v<18446744073709551616/\s.out++eJ s.v=b++eJ v0) hc hb ⟨b,v0⟩ ⟨hv,rfl⟩ ?_ ?_
 .exact cc 1 (by simp[gj]) rfl rfl (A3 _) (zD (by simp[go_sem,gv]) rfl)
 rintro⟨out,v⟩ ⟨aa,hs⟩
 simp only at aa hs
 have hlen:out.length<=cH+10:=by
  have:=ai6 List.length hs
  have ae:=xf hv
  simp only[An]at this
  omega
 refine zA ?_
 simp[go_sem,gv,gj]
 refine zV (λh=> ?_) (λh=> ?_)
 .have h: ¬v<128:=by have:=aia h;omega
  simp[go_sem,wc5]
  refine zH ⟨zQ out,by rw[zQ];unfold cH at*;omega,zY rfl⟩ ?_
  have e4:IntKind.u64.wrap ((v:Int).tdiv 128)=((v/128:Nat):Int):=by
   have:(v:Int).tdiv 128=((v/128:Nat):Int):=by rw[Dl om];omega
   rw[this,cW om om]
  have e5:IntKind.u64.wrap ((v:Int)/128)=(v:Int)/128:=cW om om
  simp[go_sem]
  rw[HW h]at hs
  refine zJ ⟨out++ [UInt8.ofNat (v%128+128)],v/128⟩ ⟨by simp only;omega,⟨by simp only;omega,by simpa using hs⟩,cc 1 sm rfl rfl (A3 _) (zD (by simp[go_sem,zN,e5]) rfl)⟩
 .have h:v<128:=by have:=aid h;omega
  simp[go_sem,zQ,tN]
  refine zH ⟨by unfold cH at*;omega,zY rfl⟩ ?_
  simp[go_sem]
  rw[F7 h]at hs
  have ab:b.length+(eJ v0).length=out.length+1:=by
   have:=ai6 List.length hs
   simpa using this.symm
  rw[<-hs]
  exact mV 1 rfl rfl om (xQ rfl) ⟨by simp[zN],by simp[ab]⟩
theorem wm2:((List.range 256).all λm=>jo .or .u8 (m:Int) 128==((m%128+128:Nat):Int))=true:=by rfl
theorem ws6 (v:Nat):jo .or .u8 (IntKind.u8.wrap (v:Int)) 128=((UInt8.ofNat (v%128+128)).toNat:Int):=by
 have h:=Am.1 wm2 (v%256) (by grind)
 simp_all[tN];omega
theorem Oe (b:aiA) (v0:Nat) (aa:b.length<=cH) (hv:v0<18446744073709551616):bN prog 214 [eF b,.int .u64 v0] [] λr s=>r=gv (b++eJ v0)/\s=gj (b++eJ v0):=by
 refine iV 0 func214 ntmps214 results214 λc hc hb=> ?_
 refine zA ?_
 simp[go_sem]
 refine AD (Od b 10 aa dC) cB (yE rfl) ?_
 rintro r s ⟨rfl,rfl⟩
 simp[go_sem]
 refine zI (S:=HX) [1,5] (λs=> [.int .u64 s.v,gv s.out]) (λs=>gj s.out) (λs=>s.v) (λs=>s.v<18446744073709551616/\s.out++eJ s.v=b++eJ v0) hc hb ⟨b,v0⟩ (by grind) ?_ ?_
 .exact cc 1 rfl rfl rfl om (zD (by rfl) rfl)
 rintro⟨out,v⟩ ⟨ab,hs⟩
 simp only at ab hs
 have hlen:out.length<=cH+10:=by
  have:=ai6 List.length hs
  grind[xf]
 refine zA ?_
 simp[go_sem,gv,gj]
 refine zV (λh=> ?_) (λh=> ?_)
 .have h: ¬v<128:=by grind
  have u1:=ws6 v
  simp[go_sem,u1]
  refine zH ⟨zQ out,by simp_all[zQ,cH];omega,zY rfl⟩ ?_
  have e5:(v:Int).fdiv 128=(v:Int)/128:=(by grind)
  simp[go_sem,e5]
  rw[HW h]at hs
  refine zJ ⟨out++ [UInt8.ofNat (v%128+128)],v/128⟩ ⟨by grind,(by grind),cc 1 sm rfl rfl om (zD (by simp[go_sem,zN]) rfl)⟩
 .have h:v<128:=by grind
  simp[go_sem,zQ,tN]
  refine zH ⟨by grind,zY rfl⟩ ?_
  simp[go_sem]
  rw[F7 h]at hs
  have ad:b.length+(eJ v0).length=out.length+1:=by
   have:=ai6 List.length hs
   grind
  rw[<-hs]
  exact mV 1 rfl rfl om (xQ rfl) (by simp[zN];omega)
theorem wi1 (b t:aiA) (aa:b.length<=cH) (ht:t.length<=cH):bN prog 260 [eF b,eF t] [] λr s=>r=gv (b++eJ t.length++t)/\s=gj (b++eJ t.length++t):=by
 refine iW 0 func260 ntmps260 results260 λc hc hb=>zM ?_
 have e1:IntKind.u64.wrap (t.length:Int)=(t.length:Int):=cW om (by grind)
 simp[go_sem,eF,zQ,e1]
 refine AD (Oe b t.length aa (by grind)) cB (yE rfl) ?_
 rintro r s ⟨rfl,rfl⟩
 have ab:=xf (v:=t.length) (by grind)
 simp[go_sem,gv,gj,zQ]
 refine zH (by simp_all[cH,q9];omega) ?_
 simp[go_sem]
 exact mV 1 rfl rfl om (xQ rfl) (by grind[zN])
theorem xx8 (b t:aiA) (aa:b.length<=cH) (ht:t.length<=cH):bN prog 131 [eF b,eF t] [] λr s=>r=gv (b++eJ t.length++t)/\s=gj (b++eJ t.length++t):=by
 refine iW 0 func131 ntmps131 results131 λc hc hb=>zM ?_
 have e1:IntKind.u64.wrap (t.length:Int)=(t.length:Int):=cW om (by grind)
 simp[go_sem,eF,zQ,e1]
 refine AD (SV b t.length aa (by grind)) cB (yE rfl) ?_
 rintro r s ⟨rfl,rfl⟩
 have ab:=xf (v:=t.length) (by grind)
 simp[go_sem,gv,gj,zQ]
 refine zH (by simp_all[cH,q9];omega) ?_
 simp[go_sem]
 exact mV 1 rfl rfl om (xQ rfl) (by grind[zN])
def gI (n:Int):Nat:=if 0<=n then(2*n).toNat else(-2*n - 1).toNat
theorem KK {n:Int} (h:cZ n):gI n<18446744073709551616:=by
 grind[gI,cZ]
theorem xN3 (n:Int) (hn:cZ n):Pure prog 129 [.int .i64 n] (.int .u64 (gI n)):=by
 refine iW 0 func129 ntmps129 results129 λc hc hb=>zM ?_
 unfold cZ at hn
 simp[go_sem]
 refine zV (λh=> ?_) (λh=> ?_)
 .have h:0<=n:=(by grind)
  have e1:IntKind.u64.wrap n=n:=(by grind[cW])
  have e2:IntKind.u64.wrap (2*n)=((gI n:Nat):Int):=by rw[cW om om,gI,ai2 h];omega
  simp[go_sem,e1,e2]
  exact zW (zC rfl) sm
 .have h: ¬0<=n:=(by grind)
  obtain⟨m,rfl⟩: ∃m:Nat,n= -(m:Int) - 1:=⟨(-n - 1).toNat,om⟩
  have e1:IntKind.i64.wrap (-(m:Int))= -(m:Int):=(by grind[bX])
  have e2:IntKind.i64.wrap (m:Int)=(m:Int):=(by grind[bX])
  have e3:IntKind.u64.wrap (m:Int)=(m:Int):=(by grind[cW])
  have e4:IntKind.u64.wrap (2*(m:Int))=2*(m:Int):=(by grind[cW])
  have e5:IntKind.u64.wrap (2*(m:Int)+1)=((gI (-(m:Int) - 1):Nat):Int):=by rw[cW om om,gI,ai1 h];omega
  simp[go_sem,e1,e2,e3,e4,e5]
  exact zW (zC rfl) sm
theorem SX (ek:Nat) (es:Option (List Pk)) (a b:Int):mS .shr ek es (.int .i64 a) (.int .u64 b)= .ez (0<=b) (.int .i64 (a.fdiv (2^(min b.toNat 64)))):=rfl
theorem wt0 {x:Int} (h:0<=x) (h2:x<=18446744073709551615):jo .xor .u64 x 0=x:=by
 obtain⟨m,rfl⟩:=Dv h
 show IntKind.u64.wrap ((BitVec.ofInt 64 (m:Int)^^^BitVec.ofInt 64 0).toNat:Int)=m
 have e:BitVec.ofInt 64 (0:Int)=0#64:=rfl
 grind[cW]
theorem wt1 {x:Int} (h:0<=x) (h2:x<=18446744073709551615):jo .xor .u64 x 18446744073709551615=18446744073709551615 - x:=by
 obtain⟨m,rfl⟩:=Dv h
 show IntKind.u64.wrap ((BitVec.ofInt 64 (m:Int)^^^BitVec.ofInt 64 18446744073709551615).toNat:Int)=_
 have e:BitVec.ofInt 64 (18446744073709551615:Int)=BitVec.allOnes 64:=by rfl
 rw[e,BitVec.xor_allOnes,aif,BitVec.toNat_not,aii,Cx om]
 grind[cW]
theorem wp5 (n:Int) (hn:cZ n):Pure prog 259 [.int .i64 n] (.int .u64 (gI n)):=by
 refine iW 0 func259 ntmps259 results259 λc hc hb=>zM ?_
 unfold cZ at hn
 rcases Int.lt_or_le n 0 with h|h
 .have e1:IntKind.u64.wrap n=n+18446744073709551616:=by grind[IntKind.wrap_u64]
  have e2:IntKind.u64.wrap ((n+18446744073709551616)*2)=2*n+18446744073709551616:=by grind[IntKind.wrap_u64]
  have e3:n.fdiv 9223372036854775808= -1:=by grind
  have e4:IntKind.u64.wrap (-1)=18446744073709551615:=by rfl
  have e5:jo .xor .u64 (2*n+18446744073709551616) 18446744073709551615=((gI n:Nat):Int):=by
   rw[wt1 om om,gI,ai1 om];omega
  simp[go_sem,e1,e2,SX,e3,e4,e5]
  exact zW (zC rfl) sm
 .have e1:IntKind.u64.wrap n=n:=(by grind[cW])
  have e2:IntKind.u64.wrap (n*2)=2*n:=by grind[cW]
  have e3:n.fdiv 9223372036854775808=0:=by grind
  have e4:IntKind.u64.wrap 0=0:=(by rfl)
  have e5:jo .xor .u64 (2*n) 0=((gI n:Nat):Int):=by
   rw[wt0 om om,gI,ai2 h];omega
  simp[go_sem,e1,e2,SX,e3,e4,e5]
  exact zW (zC rfl) sm
end Go.Proofs.YtplackkccmeioaaGreat.R
namespace Go.Vx
open Go
theorem bN.loose {P:Program} {f:FuncId} {args:List V} {I:St} {R R':V->St->Prop} (h:bN P f args I R) (hR: ∀r s,R r s->qx I.length R' r s):bN P f args I R':=by
 intro w L J ab hm ha
 refine(h w L J ab hm ha).mono ?_
 rintro e w' ⟨v,r,L',I',J',he,hr,hl,ae,ak⟩
 obtain⟨v1,I1,pick,I2,r2,af,hp,ah,ai⟩:=hR _ _ hr
 obtain⟨L2,J2,aa,_,_,ad,_⟩:=af.ok ae (xs:= [v]) (by trivial)
 refine⟨v,r2,L2,I2,_,he,ai, ?_,aa.pick hp hm.len,yw (hp.jr aa.len) ah ad⟩
 rw[hp.len]
 rcases Bv pick.length I.length with aj|al
 .have:=(A4.1 (hp.id pick.length aj)).1
  omega
 omega
end Go.Vx
namespace Go.Proofs.YtplackkccmeioaaGreat.R
open Go Go.Vx Go.Proofs.Tryz
set_option maxRecDepth 100000
theorem HY {f:FuncId} {args:List V} {l:aiA} (h:bN prog f args [] λr s=>r=gv l/\s=gj l):Pure prog f args (eF l):=h.loose λr s q=>by
 obtain⟨rfl,rfl⟩:=q
 have h:cw (some (gv l)) 0 (λr s=>r=eF l/\s= []) (gj l):=zW zK (by trivial)
 obtain⟨x,h1,h2⟩:=h
 grind
def eD (v:bK):Bool:=
 if v.kind=0 then decide (v.n=0)&&v.s.isEmpty else if v.kind=1 then(decide (v.n=0)||decide (v.n=1))&&v.s.isEmpty
 else if v.kind=2 then v.s.isEmpty else if v.kind=3 then decide (v.n=0)&&decide (v.s.length<=64)else false
theorem F8 (v:bK):Pure prog 195 [.agg v.row] (.bool (eD v)):=by
 obtain⟨k,n,s⟩:=v
 refine iW 0 func195 ntmps195 results195 λc hc hb=>zM ?_
 simp[go_sem]
 have yes: ∀(r b:Bool) (I:St),r=b->cw (some (.bool r)) 0 (λr s=>r= .bool b/\s= []) I:=λr b I h=>by subst h;exact zW (zC rfl) sm
 repeat' (first|(refine xD (λq=> ?_) (λq=> ?_)<;>simp[go_sem,q])|(refine zV (λq=> ?_) (λq=> ?_)<;>simp[go_sem,q])|(refine yes _ _ _ ?_))
 all_goals grind[eD]
def kz (v:bK):aiA:=
 if eD v=true then
  UInt8.ofNat v.kind.toNat::(if v.kind=1 then [UInt8.ofNat v.n.toNat]else if v.kind=2 then eJ (gI v.n)else if v.kind=3 then eJ v.s.length++v.s else [])
 else []
theorem wQ {ρ:Nat->Nat} {g:Tag} {rows eC:List (List V)} (h:eC=rows):cP ρ (.sl .ro eC) (.sl g rows):=by grind[zK]
theorem vi {b l:aiA} {g:Tag} {rows:List (List V)} {I:St} (h:zN (b++l)=rows):cw (some (.sl g rows)) 0 (λr s=>r=eF (b++l)/\s= []) I:=by subst h;exact zW zK (by trivial)
theorem xT9 (b:aiA) (v:bK) (hv:v.ok) (aa:b.length<=cH - 1) (hs:v.s.length<=cH):Pure prog 215 [eF b,.agg v.row] (eF (b++kz v)):=by
 refine iW 0 func215 ntmps215 results215 λc hc hb=>zM ?_
 obtain⟨k,n,s⟩:=v
 have hn:=hv.n
 simp only at hs hn
 simp[go_sem,eF,zQ]
 refine zH ⟨by grind,by simp[eK],q9 b⟩ ?_
 simp[go_sem]
 refine pC (F8 ⟨k,n,s⟩) ?_
 simp[go_sem]
 refine zV (λh=> ?_) (λh=> ?_)
 .simp[go_sem]
  refine vi ?_
  grind[kz]
 have h:eD ⟨k,n,s⟩:=by grind
 have hk:k=0\/k=1\/k=2\/k=3:=by
  grind[eD]
 simp[go_sem,zQ]
 refine zH ⟨by grind,zY rfl⟩ ?_
 have w0:IntKind.u8.wrap 0=0:=by rfl
 have w1:IntKind.u8.wrap 1=1:=by rfl
 have w2:IntKind.u8.wrap 2=2:=by rfl
 have w3:IntKind.u8.wrap 3=3:=by rfl
 rcases hk with rfl|rfl|rfl|rfl
 .simp[go_sem]
  refine vi ?_
  grind[kz,zN]
 .have h1:n=0\/n=1:=by
   grind[eD]
  simp[go_sem]
  refine zH ⟨zQ b,by simp_all[zQ];omega,zY rfl⟩ ?_
  simp[go_sem]
  refine vi ?_
  rcases h1 with rfl|rfl<;>simp[kz,h,zN,w0,w1]
 .simp[go_sem]
  refine pC (wp5 n hn) ?_
  simp[go_sem]
  refine zL (HY (Oe (b++ [2]) (gI n) (by grind) (KK hn))) cB ⟨wQ (by grind[zN]),zC rfl,tV⟩ rfl ?_
  simp[go_sem]
  refine vi ?_
  grind[kz]
 .simp[go_sem]
  refine zL (HY (wi1 (b++ [3]) s (by grind) hs)) cB ⟨wQ (by grind[zN]),zC rfl,tV⟩ rfl ?_
  simp[go_sem]
  refine vi ?_
  grind[kz]
end Go.Proofs.YtplackkccmeioaaGreat.R
namespace Go.Proofs.YtplackkccmeioaaGreat.R
open Go Go.Vx Go.Proofs.Tryz
set_option maxRecDepth 100000
structure iY (row:List bK):Prop where
 len:row.length<=20
 s: ∀v∈row,v.s.length<=500
 ok: ∀v∈row,v.ok
theorem xd0 {v:bK} (hn:cZ v.n) (h:v.s.length<=500):(kz v).length<=520:=by
 unfold kz
 have h1:=xf (KK hn)
 have h2:=xf (v:=v.s.length) om
 (repeat' split)<;>simp<;>omega
theorem SY: ∀{l:List bK},(∀v∈l,v.s.length<=500)->(∀v∈l,v.ok)->(l.flatMap kz).length<=520*l.length
 | [],_,_=>by simp
 |v::l,h,ho=>by
  have h1:=xd0 (ho v sm).n (h v sm)
  have h2:=SY (l:=l) (λx hx=>h x (by simp[hx])) (λx hx=>ho x (by simp[hx]))
  simp only[Bw,An,Af]
  omega
def si (row:List bK) (i:Nat):aiA:=eJ row.length++(row.take i).flatMap kz
def xL (row:List bK):aiA:=si row row.length
theorem Of {row:List bK} (h:iY row) (i:Nat):(si row i).length<=20000:=by
 have h1:=xf (v:=row.length) (by have:=h.len;omega)
 have h2:=SY (l:=row.take i) (λv hv=>h.s v (B4 hv)) (λv hv=>h.ok v (B4 hv))
 have h3:=h.len
 have h4:(row.take i).length<=row.length:=by simp;exact Nat.min_le_right _ _
 unfold si
 rw[An]
 omega
theorem yZ2 {row:List bK} {i:Nat} (h:i<row.length):si row (i+1)=si row i++kz row[i]:=by
 unfold si
 rw[Ag h,aio,Cn]
 simp
theorem SZ (row:List bK) (h:iY row):Pure prog 153 [.sl .ro (row.map bK.row)] (.str (xL row)):=by
 refine iV 0 func153 ntmps153 results153 λc hc hb=> ?_
 refine zA ?_
 have hl:=h.len
 have e1:IntKind.u64.wrap (row.length:Int)=(row.length:Int):=cW om om
 simp[go_sem,e1]
 refine zL (HY (Oe [] row.length dC om)) cB ⟨wQ rfl,zC rfl,tV⟩ rfl ?_
 simp[go_sem]
 refine zI (S:=Nat) [3,10,11,12] (λi=> [eF (si row i),.sl .ro (row.map bK.row),.int .i64 row.length,.int .i64 i]) (λ_=> []) (λi=>row.length - i) (λi=>i<=row.length) hc hb 0 (A3 _) ?_ ?_
 .exact iu rfl (zP (by simp[go_sem,si]) rfl)
 intro i hi
 refine zA ?_
 simp[go_sem]
 refine zV (λq=> ?_) (λq=> ?_)
 .have q:i<row.length:=sU q
  obtain⟨v,hv⟩:=eX (row[i])
  have hm:v∈row:=hv▸A8 q
  simp[go_sem,q,hv]
  have h2:=Of h i
  have h3:=h.s v hm
  refine pC (xT9 (si row i) v (h.ok v hm) (by unfold cH;omega) (by unfold cH;omega)) ?_
  simp[go_sem,zU q om]
  refine zJ (i+1) ⟨om,q,iu rfl (zP (by simp[go_sem,yZ2 q,hv]) rfl)⟩
 .have q:i=row.length:=by
   have: ¬i<row.length:=sU q
   omega
  subst q
  simp[go_sem,eF]
  refine zH (xR _) ?_
  simp[go_sem,GP]
  exact wR
end Go.Proofs.YtplackkccmeioaaGreat.R
