/-
  Contracts of functions that the claimed statement reaches, each proved over trees (the library Vx); used by the theorem at the end of the claim.
  Conditions: as each theorem states them.
-/
import Derived.Test.YtplackkccmeioaaGreatKBAI
import Derived.Test.YtplackkccmeioaaGreatKBAE
set_option maxHeartbeats 8000000
namespace Go.Proofs.YtplackkccmeioaaGreat
open Go Go.Vx Go.Proofs.Tryz
set_option maxRecDepth 100000
variable {L:List bR}
variable {τ:St}{s':RS}{st:bW}{e:Int}
def jY (L:List bR) (s:RS):Bool×bJ:=if dh L DA s=true then(true,(iO L (zP s)).1)else(false,cT)
theorem wm7 (L:List bR) (s:RS) (a b:List V): ∃g:Tag,JU L s a b (.box (a++ [.bool false,.int .i64 0,.str [],.int .i64 0,.int .i64 0,.str [],.sl .full []]++b))=
  .box (a++ [.bool (jY L s).1,.int .i64 (jY L s).2.kind,.str (jY L s).2.s,.int .i64 (jY L s).2.v.kind,.int .i64 (jY L s).2.v.n,.str (jY L s).2.v.s,.sl g ((jY L s).2.args.map bJ.row)]++b):=by
 unfold JU jY
 by_cases q:dh L DA s=true
 .exact⟨.ro,by rw[ahg q,ahg q];simp[jB]⟩
 .exact⟨.full,by rw[ahf q,ahf q];rfl⟩
theorem M8 (L:List bR) (hL:eO L) (s:RS) (hs:dj L s) (ho:s.bZ=0) (τ:St) (j:Nat) (c0 c1 c2 c3 c4 aa ab ad:V) (hj:τ[j]? =some (.box [c0,c1,c2,c3,c4,.bool false,.int .i64 0,.str [],.int .i64 0,.int .i64 0,.str [],.sl .full [],aa,ab,ad])):
  ∃g:Tag,bN prog 122 [.ptr 0 0,.ptr (j+1) 0] (rB L s::τ) (λr I=>r= .cy []/\I=rB L (oC L s)::τ.set j (.box [c0,c1,c2,c3,c4,.bool (jY L s).1,.int .i64 (jY L s).2.kind,.str (jY L s).2.s,.int .i64 (jY L s).2.v.kind,.int .i64 (jY L s).2.v.n,.str (jY L s).2.v.s,.sl g ((jY L s).2.args.map bJ.row),aa,ab,ad])):=by
 obtain⟨g,hg⟩:=wm7 L s [c0,c1,c2,c3,c4] [aa,ab,ad]
 refine⟨g, ?_⟩
 have:=wc6 L hL s hs ho τ j c0 c1 c2 c3 c4 _ _ _ _ _ _ _ aa ab ad hj
 simp only[Bm,Bu]at hg
 rw[hg]at this
 exact this
def qf:ahP:= [70,82,79,77]
def M9:ahP:= [79,82,68,69,82]
def qh:ahP:= [66,89]
def DB:ahP:= [65,83,67]
def Na:ahP:= [68,69,83,67]
def vS:ahP:= [76,73,77,73,84]
def zj (L:List bR) (s:RS):(ahP×Bool)×RS:=
 if dh L M9 s=true then
  if dh L DB (xD L (yG L qh (zP s))).2=true then(((xD L (yG L qh (zP s))).1,false),zP (xD L (yG L qh (zP s))).2)
  else if dh L Na (xD L (yG L qh (zP s))).2=true then(((xD L (yG L qh (zP s))).1,true),zP (xD L (yG L qh (zP s))).2)
  else(((xD L (yG L qh (zP s))).1,false),(xD L (yG L qh (zP s))).2)
 else(([],false),s)
def zk (L:List bR) (s:RS):Int×RS:=if dh L vS s=true then gN L (zP s)else(-1,s)
theorem Nb (hL:eO L) {s:RS} (h:dj L s):UI L s (zj L s).2:=by
 unfold zj
 split
 .rename_i hi
  have h1:=yY hL h hi
  have h2:=h1.trans (yK hL qh h1.cz)
  have h3:=h2.trans (nf hL h2.cz)
  split
  .exact h3.trans (yY hL h3.cz ‹_›)
  split
  .exact h3.trans (yY hL h3.cz ‹_›)
  .exact h3
 .exact UI.refl h
theorem RG (hL:eO L) {s:RS} (h:dj L s):UI L s (zk L s).2:=by
 unfold zk
 split
 .rename_i hi
  have h1:=yY hL h hi
  exact h1.trans (M5 hL h1.cz)
 .exact UI.refl h
def uy (L:List bR) (s:RS):bW×RS:=
 let x:=p9 L s
 let n:=xD L (yG L qf x.2)
 let w:=jY L n.2
 let o:=zj L (oC L n.2)
 let l:=zk L o.2
 (⟨1,n.1,x.1,[],[],w.1,w.2,o.1.1,o.1.2,l.1⟩,l.2)
theorem RH (hL:eO L): ∀(n:Nat) (l:List cM) (s:RS),dj L s->s.bZ=0->UI L s (sR L n l s).2
 |0,_,_,h,_=>UI.refl h
 |n+1,l,s,h,ho=>by
  unfold sR
  split
  .rename_i he
   have h1:=M7 hL h ho
   split
   .have h2:=h1.trans (yY hL h1.cz ‹_›)
    exact h2.trans (RH hL n _ _ h2.cz (h2.bZ.trans ho))
   .exact h1
  .exact sQ h
theorem Nc (hL:eO L) {s:RS} (h:dj L s) (ho:s.bZ=0):UI L s (p9 L s).2:=by
 unfold p9
 split
 .exact yY hL h ‹_›
 .exact RH hL 7 [] s h ho
def RT (L:List bR) (x:bW×RS):V->St->Prop:=λr I=>r= .agg x.1.row/\I= [rB L x.2]
theorem pt {g1 g2 g3 g4:Tag} {s:RS} {M:bW×RS} (h:(st,s)=M):
  cw (some (.agg [.int .i64 st.kind,.str st.table,.sl g1 (st.items.map cM.row),.sl g2 (st.rows.map λl=> [V.sl .ro (l.map bJ.row)]),.sl g3 (st.cD.map cm.row),.bool st.dM,.int .i64 st.cE.kind,.str st.cE.s,.int .i64 st.cE.v.kind,.int .i64 st.cE.v.n,.str st.cE.v.s,.sl g4 (st.cE.args.map bJ.row),.str st.order,.bool st.down,.int .i64 st.bQ])) 1 (RT L M) (rB L s::τ):=by
 subst h
 exact xL (L:=L) (r:= .agg st.row) (wL ⟨zF rfl,zF rfl,zW,zW,zW,zF rfl,zF rfl,zF rfl,zF rfl,zF rfl,zF rfl,zW,zF rfl,zF rfl,zF rfl,tV⟩) ⟨rfl,rfl⟩
theorem Hd (st:bW):gA (.agg st.row)=true:=rfl
theorem xw5 (L:List bR) (hL:eO L) (s:RS) (hs:dj L s) (ho:s.bZ=0):bN prog 118 [.ptr 0 0] [rB L s] (RT L (uy L s)):=by
 generalize hM:uy L s=M
 unfold uy at hM
 have hx:=xV8 L hL s hs ho
 have af:=Nc hL hs ho
 generalize p9 L s=x at hx af hM
 obtain⟨xl,s1⟩:=x
 simp only at hx af hM
 have hm:=k6 L hL s1 af.cz qf
 have ah:=af.trans (yK hL qf af.cz)
 generalize yG L qf s1=s2 at hm ah hM
 have hn:=CP L hL s2 ah.cz
 have ad:=ah.trans (nf hL ah.cz)
 generalize xD L s2=n at hn ad hM
 obtain⟨nm,s3⟩:=n
 simp only at hn ad hM
 obtain⟨gw,hw⟩:=M8 L hL s3 ad.cz (ad.bZ.trans ho) [.box [.int .i64 0,.str [],.sl .full [],.sl .full [],.sl .full [],.bool false,.int .i64 0,.str [],.int .i64 0,.int .i64 0,.str [],.sl .full [],.str [],.bool false,.int .i64 0],.box [.int .i64 1,.str nm,.sl .ro (xl.map cM.row),.sl .full [],.sl .full [],.bool false,.int .i64 0,.str [],.int .i64 0,.int .i64 0,.str [],.sl .full [],.str [],.bool false,.int .i64 (-1)]] 1 _ _ _ _ _ _ _ _ rfl
 have ae:=ad.trans (Fu hL ad.cz (ad.bZ.trans ho))
 generalize oC L s3=s4 at hw ae hM
 generalize jY L s3=w at hw hM
 obtain⟨wb,we⟩:=w
 simp only[Bz,Ch]at hw hM
 have ai:=Nb hL ae.cz
 generalize hO:zj L s4=o at ai hM
 obtain⟨⟨on,od⟩,s5⟩:=o
 simp only at ai hM
 have aa:=ae.trans ai
 generalize hl:zk L s5=l at hM
 obtain⟨ll,s6⟩:=l
 simp only at hM
 unfold zj at hO
 unfold zk at hl
 refine iW 1 func118 ntmps118 results118 λc hc hb=>zM ?_
 simp[go_sem]
 refine pR hx ?_
 simp[go_sem]
 refine pR hm ?_
 simp[go_sem]
 refine pR hn ?_
 simp[go_sem]
 refine Fc hw cB ?_
 rintro r I ⟨rfl,rfl⟩ _
 simp[go_sem]
 by_cases qO:dh L M9 s4=true
 rotate_left
 .have qO:dh L M9 s4=false:=sU qO
  rw[ahf (by rw[qO];decide)]at hO
  obtain⟨⟨rfl,rfl⟩,rfl⟩:([]=on/\false=od)/\s4=s5:=sU hO
  refine pR (wO L hL s4 ae.cz _ qO) ?_
  simp[go_sem]
  by_cases qL:dh L vS s4=true
  .rw[ahg qL]at hl
   have ab:=Fl L hL (zP s4) (aa.cz.next hL qL)
   rw[hl]at ab
   refine pR (xO L hL s4 aa.cz _ qL) ?_
   simp[go_sem]
   refine pR ab ?_
   simp[go_sem]
   exact pt (st:=⟨1,nm,xl,[],[],wb,we,_,_,ll⟩) hM
  .have qL:dh L vS s4=false:=sU qL
   rw[ahf (by rw[qL];decide)]at hl
   obtain⟨rfl,rfl⟩: -1=ll/\s4=s6:=sU hl
   refine pR (wO L hL s4 aa.cz _ qL) ?_
   simp[go_sem]
   exact pt (st:=⟨1,nm,xl,[],[],wb,we,_,_,-1⟩) hM
 rw[ahg qO]at hO
 have h1:=yY hL ae.cz qO
 have al:=k6 L hL _ h1.cz qh
 have h2:=yK hL qh h1.cz
 generalize yG L qh (zP s4)=t1 at al h2 hO
 have aj:=CP L hL _ h2.cz
 have h3:=nf hL h2.cz
 generalize xD L t1=n2 at aj h3 hO
 obtain⟨ak,t2⟩:=n2
 simp only at aj h3 hO
 refine pR (xO L hL s4 ae.cz _ qO) ?_
 simp[go_sem]
 refine pR al ?_
 simp[go_sem]
 refine pR aj ?_
 simp[go_sem]
 by_cases qA:dh L DB t2=true
 .rw[ahg qA]at hO
  obtain⟨⟨rfl,rfl⟩,rfl⟩:(ak=on/\false=od)/\zP t2=s5:=sU hO
  refine pR (xO L hL t2 h3.cz _ qA) ?_
  simp[go_sem]
  by_cases qL:dh L vS (zP t2)=true
  .rw[ahg qL]at hl
   have ab:=Fl L hL (zP (zP t2)) (aa.cz.next hL qL)
   rw[hl]at ab
   refine pR (xO L hL (zP t2) aa.cz _ qL) ?_
   simp[go_sem]
   refine pR ab ?_
   simp[go_sem]
   exact pt (st:=⟨1,nm,xl,[],[],wb,we,_,_,ll⟩) hM
  .have qL:dh L vS (zP t2)=false:=sU qL
   rw[ahf (by rw[qL];decide)]at hl
   obtain⟨rfl,rfl⟩: -1=ll/\(zP t2)=s6:=sU hl
   refine pR (wO L hL (zP t2) aa.cz _ qL) ?_
   simp[go_sem]
   exact pt (st:=⟨1,nm,xl,[],[],wb,we,_,_,-1⟩) hM
 have qA:dh L DB t2=false:=sU qA
 rw[ahf (by rw[qA];decide)]at hO
 refine pR (wO L hL t2 h3.cz _ qA) ?_
 simp[go_sem]
 by_cases qD:dh L Na t2=true
 .rw[ahg qD]at hO
  obtain⟨⟨rfl,rfl⟩,rfl⟩:(ak=on/\true=od)/\zP t2=s5:=sU hO
  refine pR (xO L hL t2 h3.cz _ qD) ?_
  simp[go_sem]
  by_cases qL:dh L vS (zP t2)=true
  .rw[ahg qL]at hl
   have ab:=Fl L hL (zP (zP t2)) (aa.cz.next hL qL)
   rw[hl]at ab
   refine pR (xO L hL (zP t2) aa.cz _ qL) ?_
   simp[go_sem]
   refine pR ab ?_
   simp[go_sem]
   exact pt (st:=⟨1,nm,xl,[],[],wb,we,_,_,ll⟩) hM
  .have qL:dh L vS (zP t2)=false:=sU qL
   rw[ahf (by rw[qL];decide)]at hl
   obtain⟨rfl,rfl⟩: -1=ll/\(zP t2)=s6:=sU hl
   refine pR (wO L hL (zP t2) aa.cz _ qL) ?_
   simp[go_sem]
   exact pt (st:=⟨1,nm,xl,[],[],wb,we,_,_,-1⟩) hM
 .have qD:dh L Na t2=false:=sU qD
  rw[ahf (by rw[qD];decide)]at hO
  obtain⟨⟨rfl,rfl⟩,rfl⟩:(ak=on/\false=od)/\t2=s5:=sU hO
  refine pR (wO L hL t2 h3.cz _ qD) ?_
  simp[go_sem]
  by_cases qL:dh L vS t2=true
  .rw[ahg qL]at hl
   have ab:=Fl L hL (zP t2) (aa.cz.next hL qL)
   rw[hl]at ab
   refine pR (xO L hL t2 aa.cz _ qL) ?_
   simp[go_sem]
   refine pR ab ?_
   simp[go_sem]
   exact pt (st:=⟨1,nm,xl,[],[],wb,we,_,_,ll⟩) hM
  .have qL:dh L vS t2=false:=sU qL
   rw[ahf (by rw[qL];decide)]at hl
   obtain⟨rfl,rfl⟩: -1=ll/\t2=s6:=sU hl
   refine pR (wO L hL t2 aa.cz _ qL) ?_
   simp[go_sem]
   exact pt (st:=⟨1,nm,xl,[],[],wb,we,_,_,-1⟩) hM
variable {L:List bR}
def fF (L:List bR):Nat->List bJ->RS->Bool×List bJ×RS
 |0,l,s=>(false,l,s)
 |n+1,l,s=>
  if(jX L l.length 6 (jA L false s) s).err=0 then
   (if dh L [44] (iO L s).2=true then fF L n (l++ [(iO L s).1]) (zP (iO L s).2)else(true,l++ [(iO L s).1],(iO L s).2))
  else(false,l,jX L l.length 6 (jA L false s) s)
def rD (L:List bR):Nat->List (List bJ)->RS->List (List bJ)×RS
 |0,R,s=>(R,s)
 |n+1,R,s=>
  if(jX L R.length 16 (dh L [40] s) s).err=0 then
   (if(fF L 7 [] (yG L [40] s)).1=true then
    (if dh L [44] (yG L [41] (fF L 7 [] (yG L [40] s)).2.2)=true then rD L n (R++ [(fF L 7 [] (yG L [40] s)).2.1]) (zP (yG L [41] (fF L 7 [] (yG L [40] s)).2.2))
    else(R++ [(fF L 7 [] (yG L [40] s)).2.1],yG L [41] (fF L 7 [] (yG L [40] s)).2.2))
   else(R,(fF L 7 [] (yG L [40] s)).2.2))
  else(R,jX L R.length 16 (dh L [40] s) s)
def DC:ahP:= [73,78,84,79]
def Fv:ahP:= [86,65,76,85,69,83]
def uz (L:List bR) (s:RS):bW×RS:=
 let n:=xD L (yG L DC s)
 let r:=rD L 17 [] (yG L Fv n.2)
 (⟨2,n.1,[],r.1,[],false,cT,[],false,0⟩,r.2)
theorem Nd (hL:eO L): ∀(n:Nat) (l:List bJ) (s:RS),dj L s->s.bZ=0->UI L s (fF L n l s).2.2
 |0,_,_,h,_=>UI.refl h
 |n+1,l,s,h,ho=>by
  unfold fF
  split
  .have h1:=ux hL h ho
   split
   .have h2:=h1.trans (yY hL h1.cz ‹_›)
    exact h2.trans (Nd hL n _ _ h2.cz (h2.bZ.trans ho))
   .exact h1
  .exact sQ h
theorem RI (hL:eO L): ∀(n:Nat) (R:List (List bJ)) (s:RS),dj L s->s.bZ=0->UI L s (rD L n R s).2
 |0,_,_,h,_=>UI.refl h
 |n+1,R,s,h,ho=>by
  unfold rD
  split
  .have h1:=yK hL [40] h
   have h2:=h1.trans (Nd hL 7 [] _ h1.cz (h1.bZ.trans ho))
   split
   .have h3:=h2.trans (yK hL [41] h2.cz)
    split
    .have h4:=h3.trans (yY hL h3.cz ‹_›)
     exact h4.trans (RI hL n _ _ h4.cz (h4.bZ.trans ho))
    .exact h3
   .exact h2
  .exact sQ h
theorem yY4 (hL:eO L) {s:RS} (h:dj L s) (ho:s.bZ=0):UI L s (uz L s).2:=by
 unfold uz
 have h1:=yK hL DC h
 have h2:=h1.trans (nf hL h1.cz)
 have h3:=h2.trans (yK hL Fv h2.cz)
 exact h3.trans (RI hL 17 [] _ h3.cz (h3.bZ.trans ho))
def vT (nm:ahP) (R:List (List bJ)):Ob:= .box [.int .i64 2,.str nm,.sl .full [],.sl (.app 3) (R.map λl=> [V.sl .ro (l.map bJ.row)]),.sl .full [],.bool false,.int .i64 0,.str [],.int .i64 0,.int .i64 0,.str [],.sl .full [],.str [],.bool false,.int .i64 0]
def rE:Ob:= .box [.int .i64 0,.str [],.sl .full [],.sl .full [],.sl .full [],.bool false,.int .i64 0,.str [],.int .i64 0,.int .i64 0,.str [],.sl .full [],.str [],.bool false,.int .i64 0]
theorem xs0 (L:List bR) (hL:eO L) (s0:RS) (av:dj L s0) (aw:s0.bZ=0):bN prog 119 [.ptr 0 0] [rB L s0] (RT L (uz L s0)):=by
 generalize hM:uz L s0=M
 unfold uz at hM
 have ax:=k6 L hL s0 av DC
 have al:=yK hL DC av
 generalize yG L DC s0=s1 at ax al hM
 have hn:=CP L hL s1 al.cz
 have ah:=al.trans (nf hL al.cz)
 generalize xD L s1=n at hn ah hM
 obtain⟨nm,s2⟩:=n
 simp only at hn ah hM
 have ay:=k6 L hL s2 ah.cz Fv
 have az:=ah.trans (yK hL Fv ah.cz)
 generalize yG L Fv s2=s3 at ay az hM
 obtain⟨X,hX⟩:=eX (rD L 17 [] s3)
 rw[hX]at hM
 have ret: ∀(R:List (List bJ)) (s:RS) (τ:St),(R,s)=X->cw (some (.agg [.int .i64 2,.str nm,.sl .full [],.sl (.app 3) (R.map λl=> [V.sl .ro (l.map bJ.row)]),.sl .full [],.bool false,.int .i64 0,.str [],.int .i64 0,.int .i64 0,.str [],.sl .full [],.str [],.bool false,.int .i64 0])) 1 (RT L M) (rB L s::τ):=λR s τ h=>by
  subst h
  exact pt (st:=⟨2,nm,[],R,[],false,cT,[],false,0⟩) hM
 refine iV 1 func119 ntmps119 results119 λc hc hb=> ?_
 refine zA ?_
 simp[go_sem]
 refine pR ax ?_
 simp[go_sem]
 refine pR hn ?_
 simp[go_sem]
 refine pR ay ?_
 simp[go_sem]
 refine CC 2 3 1 _ dC rfl rfl ?_
 simp only[Bz,Ch]
 refine zI (S:=List (List bJ)×RS) [0,2,3] (λu=> [.ptr 0 0,.ptr 1 0,.ptr 2 0]) (λu=> [rB L u.2,rE,vT nm u.1,.app u.1.length 1]) (λu=>17 - u.1.length) (λu=>u.1.length<=16/\UI L s0 u.2/\rD L (17 - u.1.length) u.1 u.2=X) hc hb ([],s3) ⟨A4 _,az,hX⟩ ?_ ?_
 .exact cd 4 (by simp[go_sem];exact⟨rfl,rfl⟩) rfl (by simp[rB,rE,vT,bT,cQ,cL]) dC (zD sg rfl)
 rintro⟨R,s⟩ ⟨hR,hu,hinv⟩
 simp only at hR hu hinv
 have hs:=hu.cz
 have ho:=hu.bZ.trans aw
 have ai:=jg L hL s hs [40]
 have ad:=Hc L hL s hs R.length 16 (dh L [40] s)
 have ao:=uw (L:=L) (n:=R.length) (fR:=16) (b:=dh L [40] s) (s:=s)
 rw[show 17 - R.length=(16 - R.length)+1 by omega,rD]at hinv
 generalize dh L [40] s=bg at ai ad ao hinv
 generalize jX L R.length 16 bg s=m at ad ao hinv
 by_cases q:m.err=0
 rotate_left
 .have q':(m.err==0)=false:=sU q
  rw[ahf q]at hinv
  rw[q']at ad
  refine zA ?_
  simp[go_sem]
  refine wH [(5,3),(6,3)] 1 4 sm kR kR ?_
  simp[go_sem,vT]
  refine sN ai cB (wK ⟨zC rfl,tV⟩) rfl ?_
  simp[go_sem]
  refine sN ad cB (wK ⟨zC rfl,zC rfl,zC rfl,tV⟩) rfl ?_
  simp[go_sem]
  exact ret _ _ _ hinv
 have q':(m.err==0)=true:=sU q
 obtain⟨he,aD,rfl⟩:=ao q
 rw[ahg q]at hinv
 rw[q']at ad
 have a1:=k6 L hL m hs [40]
 have a6:=hu.trans (yK hL [40] hs)
 generalize yG L [40] m=s4 at a1 a6 hinv
 obtain⟨Y,hY⟩:=eX (fF L 7 [] s4)
 rw[hY]at hinv
 refine zA ?_
 simp[go_sem]
 refine wH [(5,3),(6,3)] 1 4 sm kR kR ?_
 simp[go_sem,vT]
 refine sN ai cB (wK ⟨zC rfl,tV⟩) rfl ?_
 simp[go_sem]
 refine sN ad cB (wK ⟨zC rfl,zC rfl,zC rfl,tV⟩) rfl ?_
 simp[go_sem]
 refine pR a1 ?_
 simp[go_sem]
 refine lE 4 6 dC sg ?_
 refine zI (S:=List bJ×RS) [0,2,3,4] (λu=> [.ptr 0 0,.ptr 1 0,.ptr 2 0,.sl (.app 4) (u.1.map bJ.row)]) (λu=> [rB L u.2,rE,vT nm R,.app R.length 1,.app u.1.length 6]) (λu=>7 - u.1.length) (λu=>u.1.length<=6/\UI L s0 u.2/\fF L (7 - u.1.length) u.1 u.2=Y) hc hb ([],s4) ⟨A4 _,a6,hY⟩ ?_ ?_
 .exact cd 5 (by simp[go_sem];rfl) rfl (by simp[rB,rE,vT,bT,cQ,cL]) dC (zD sg rfl)
 rintro⟨l,t⟩ ⟨hl,an,aa⟩
 simp only at hl an aa
 have ht:=an.cz
 have a7:=an.bZ.trans aw
 have ae:=RF L hL t ht false
 have ab:=Hc L hL t ht l.length 6 (jA L false t)
 have aj:=uw (L:=L) (n:=l.length) (fR:=6) (b:=jA L false t) (s:=t)
 rw[show 7 - l.length=(6 - l.length)+1 by omega,fF]at aa
 generalize jA L false t=aA at ae ab aj aa
 generalize jX L l.length 6 aA t=m2 at ab aj aa
 by_cases q2:m2.err=0
 rotate_left
 .have aq:(m2.err==0)=false:=sU q2
  rw[ahf q2]at aa
  rw[aq]at ab
  have ar:Y.1=false:=by rw[<-aa]
  have au:Y.2.2=m2:=by rw[<-aa]
  rw[ahf (by rw[ar];decide),au]at hinv
  refine zA ?_
  simp[go_sem]
  refine pR ae ?_
  simp[go_sem]
  refine pR ab ?_
  simp[go_sem,vT]
  exact ret _ _ _ hinv
 have aq:(m2.err==0)=true:=sU q2
 obtain⟨aE,aC,rfl⟩:=aj q2
 rw[ahg q2]at aa
 rw[aq]at ab
 have hx:=sP L hL m2 ht a7
 have af:=an.trans (ux hL ht a7)
 generalize iO L m2=x at hx af aa
 by_cases q3:dh L [44] x.2=true
 .rw[ahg q3]at aa
  refine zA ?_
  simp[go_sem]
  refine pR ae ?_
  simp[go_sem]
  refine pR ab ?_
  simp[go_sem]
  refine jK hx cB fu ?_
  simp[go_sem,bJ.bS]
  refine zJ ⟨om,zY rfl⟩ ?_
  simp[go_sem]
  refine pR (xO L hL x.2 af.cz _ q3) ?_
  simp[go_sem]
  refine zH (l++ [x.1],zP x.2) ⟨by simp;omega,⟨by simp;omega,af.trans (yY hL af.cz q3),by simp only[Ap,Br,show 7 - (l.length+1)=6 - l.length by omega];exact aa⟩, ?_⟩
  exact aM 5 (by simp[rB,rE,vT,bT,cQ,cL]) (zD (by simp[go_sem,bJ.bS]) rfl)
 have q3:dh L [44] x.2=false:=sU q3
 rw[ahf (by rw[q3];decide)]at aa
 have ar:Y.1:=by rw[<-aa]
 have au:Y.2.2=x.2:=by rw[<-aa]
 have aB:Y.2.1=l++ [x.1]:=by rw[<-aa]
 rw[ahg ar,au,aB]at hinv
 have a8:=k6 L hL x.2 af.cz [41]
 have ak:=af.trans (yK hL [41] af.cz)
 generalize yG L [41] x.2=s5 at a8 ak hinv
 refine zA ?_
 simp[go_sem]
 refine pR ae ?_
 simp[go_sem]
 refine pR ab ?_
 simp[go_sem]
 refine jK hx cB fu ?_
 simp[go_sem,bJ.bS]
 refine zJ ⟨om,zY rfl⟩ ?_
 simp[go_sem]
 refine pR (wO L hL x.2 af.cz _ q3) ?_
 simp[go_sem]
 refine pR a8 ?_
 simp[go_sem,vT]
 refine zJ ⟨om,zY rfl⟩ ?_
 simp[go_sem]
 by_cases q5:dh L [44] s5=true
 .rw[ahg q5]at hinv
  refine pR (xO L hL s5 ak.cz _ q5) ?_
  simp[go_sem]
  refine zH (R++ [l++ [x.1]],zP s5) ⟨by simp;omega,⟨by simp;omega,ak.trans (yY hL ak.cz q5),by simp only[Ap,Br,show 17 - (R.length+1)=16 - R.length by omega];exact hinv⟩, ?_⟩
  exact cd 4 (by simp[go_sem,bJ.bS]) rfl (by simp[rB,rE,bT,cQ,cL]) dC (zD sg rfl)
 .have q5:dh L [44] s5=false:=sU q5
  rw[ahf (by rw[q5];decide)]at hinv
  refine pR (wO L hL s5 ak.cz _ q5) ?_
  simp[go_sem]
  have hr:=ret (R++ [l++ [x.1]]) s5
  simp[bJ.bS]at hr
  exact hr _ hinv
variable {L:List bR}
def Fw (L:List bR) (s:RS):Bool:=(cC L s).kind==1&&k5 (cC L s).s
def oE:ahP:= [83,69,84]
def qm (L:List bR):Nat->List cm->RS->Bool×List cm×RS
 |0,l,s=>(false,l,s)
 |n+1,l,s=>
  if(jX L l.length 6 (Fw L s) s).err=0 then
   (if dh L [44] (iO L (yG L [61] (xD L s).2)).2=true then qm L n (l++ [⟨(xD L s).1,(iO L (yG L [61] (xD L s).2)).1⟩]) (zP (iO L (yG L [61] (xD L s).2)).2)
   else(true,l++ [⟨(xD L s).1,(iO L (yG L [61] (xD L s).2)).1⟩],(iO L (yG L [61] (xD L s).2)).2))
  else(false,l,jX L l.length 6 (Fw L s) s)
def uA (L:List bR) (s:RS):bW×RS:=
 let n:=xD L s
 let r:=qm L 7 [] (yG L oE n.2)
 if r.1=true then(⟨3,n.1,[],[],r.2.1,(jY L r.2.2).1,(jY L r.2.2).2,[],false,0⟩,oC L r.2.2)
 else(⟨3,n.1,[],[],r.2.1,false,cT,[],false,0⟩,r.2.2)
theorem Nf (hL:eO L): ∀(n:Nat) (l:List cm) (s:RS),dj L s->s.bZ=0->UI L s (qm L n l s).2.2
 |0,_,_,h,_=>UI.refl h
 |n+1,l,s,h,ho=>by
  unfold qm
  split
  .have h1:=nf hL h
   have h2:=h1.trans (yK hL [61] h1.cz)
   have h3:=h2.trans (ux hL h2.cz (h2.bZ.trans ho))
   split
   .have h4:=h3.trans (yY hL h3.cz ‹_›)
    exact h4.trans (Nf hL n _ _ h4.cz (h4.bZ.trans ho))
   .exact h3
  .exact sQ h
theorem xe1 (hL:eO L) {s:RS} (h:dj L s) (ho:s.bZ=0):UI L s (uA L s).2:=by
 unfold uA
 have h1:=nf hL h
 have h2:=h1.trans (yK hL oE h1.cz)
 have h3:=h2.trans (Nf hL 7 [] _ h2.cz (h2.bZ.trans ho))
 simp only
 split
 .exact h3.trans (Fu hL h3.cz (h3.bZ.trans ho))
 .exact h3
def He (nm:ahP) (l:List cm):Ob:= .box [.int .i64 3,.str nm,.sl .full [],.sl .full [],.sl (.app 3) (l.map cm.row),.bool false,.int .i64 0,.str [],.int .i64 0,.int .i64 0,.str [],.sl .full [],.str [],.bool false,.int .i64 0]
theorem xy1 (L:List bR) (hL:eO L) (s0:RS) (aw:dj L s0) (an:s0.bZ=0):bN prog 120 [.ptr 0 0] [rB L s0] (RT L (uA L s0)):=by
 generalize hM:uA L s0=M
 unfold uA at hM
 have hn:=CP L hL s0 aw
 have ai:=nf hL aw
 generalize xD L s0=n at hn ai hM
 obtain⟨nm,s2⟩:=n
 simp only at hn ai hM
 have ax:=k6 L hL s2 ai.cz oE
 have ay:=ai.trans (yK hL oE ai.cz)
 generalize yG L oE s2=s3 at ax ay hM
 obtain⟨X,hX⟩:=eX (qm L 7 [] s3)
 rw[hX]at hM
 refine iV 1 func120 ntmps120 results120 λc hc hb=> ?_
 refine zA ?_
 simp[go_sem]
 refine pR hn ?_
 simp[go_sem]
 refine pR ax ?_
 simp[go_sem]
 refine CC 2 4 7 _ dC rfl rfl ?_
 simp only[Bz,Ch]
 refine zI (S:=List cm×RS) [0,2,3] (λu=> [.ptr 0 0,.ptr 1 0,.ptr 2 0]) (λu=> [rB L u.2,rE,He nm u.1,.app u.1.length 7]) (λu=>7 - u.1.length) (λu=>u.1.length<=6/\UI L s0 u.2/\qm L (7 - u.1.length) u.1 u.2=X) hc hb ([],s3) ⟨A4 _,ay,hX⟩ ?_ ?_
 .exact cd 4 (by simp[go_sem];exact⟨rfl,rfl⟩) rfl (by simp[rB,rE,He,bT,cQ,cL]) dC (zD sg rfl)
 rintro⟨l,s⟩ ⟨hl,hu,hinv⟩
 simp only at hl hu hinv
 have hs:=hu.cz
 have ho:=hu.bZ.trans an
 have ad:=mY L hL s hs
 have aj:=MX (cC L s).s (hL.vP _ (Fp hs))
 have aa:=Hc L hL s hs l.length 6 (Fw L s)
 have aq:=uw (L:=L) (n:=l.length) (fR:=6) (b:=Fw L s) (s:=s)
 rw[show 7 - l.length=(6 - l.length)+1 by omega,qm]at hinv
 generalize ao:Fw L s=bg at aa aq hinv
 unfold Fw at ao
 have ae:=CP L hL s hs
 have ak:=hu.trans (nf hL hs)
 generalize cC L s=tk at ad aj ao
 generalize k5 tk.s=wd at aj ao
 generalize jX L l.length 6 bg s=m at aa aq hinv
 have key:((tk.kind==1)=true/\wd=bg)\/((tk.kind==1)=false/\false=bg):=by
  revert ao
  cases tk.kind==1<;>simp
 by_cases q:m.err=0
 rotate_left
 .have q':(m.err==0)=false:=sU q
  rw[ahf q]at hinv
  rw[q']at aa
  have ar:X.1=false:=by rw[<-hinv]
  have au:X.2.1=l:=by rw[<-hinv]
  have av:X.2.2=m:=by rw[<-hinv]
  rw[ahf (by rw[ar];decide),au,av]at hM
  refine zA ?_
  simp[go_sem]
  refine pR ad ?_
  simp[go_sem,He]
  refine wH [(10,0),(12,3)] 1 5 sm kR kR ?_
  simp[go_sem]
  refine key.elim (λ⟨k1,k2⟩=> ?_) (λ⟨k1,k2⟩=> ?_)
  .simp[go_sem,k1]
   refine pD aj ?_
   simp[go_sem,k2]
   refine sN aa cB (wK ⟨zC rfl,zC rfl,zC rfl,tV⟩) rfl ?_
   simp[go_sem]
   exact pt (st:=⟨3,nm,[],[],l,false,cT,[],false,0⟩) hM
  .rw[<-k2]at aa
   simp[go_sem,k1]
   refine sN aa cB (wK ⟨zC rfl,zC rfl,zC rfl,tV⟩) rfl ?_
   simp[go_sem]
   exact pt (st:=⟨3,nm,[],[],l,false,cT,[],false,0⟩) hM
 have q':(m.err==0)=true:=sU q
 obtain⟨he,az,rfl⟩:=aq q
 rw[ahg q]at hinv
 rw[q']at aa
 generalize xD L m=n1 at ae ak hinv
 obtain⟨af,t1⟩:=n1
 simp only at ae ak hinv
 have al:=k6 L hL t1 ak.cz [61]
 have ah:=ak.trans (yK hL [61] ak.cz)
 generalize yG L [61] t1=t2 at al ah hinv
 have hx:=sP L hL t2 ah.cz (ah.bZ.trans an)
 have ab:=ah.trans (ux hL ah.cz (ah.bZ.trans an))
 generalize iO L t2=x at hx ab hinv
 obtain⟨e,t3⟩:=x
 simp only at ab hinv
 by_cases q3:dh L [44] t3=true
 .rw[ahg q3]at hinv
  refine zA ?_
  simp[go_sem]
  refine pR ad ?_
  simp[go_sem,He]
  refine wH [(10,0),(12,3)] 1 5 sm kR kR ?_
  simp[go_sem]
  refine key.elim (λ⟨k1,k2⟩=> ?_) (λ⟨k1,k2⟩=> ?_)
  .simp[go_sem,k1]
   refine pD aj ?_
   simp[go_sem,k2]
   refine sN aa cB (wK ⟨zC rfl,zC rfl,zC rfl,tV⟩) rfl ?_
   simp[go_sem]
   refine pR ae ?_
   simp[go_sem]
   refine pR al ?_
   simp[go_sem]
   refine jK hx cB fu ?_
   simp[go_sem,bJ.bS]
   refine zJ ⟨om,zY rfl⟩ ?_
   simp[go_sem]
   refine pR (xO L hL t3 ab.cz _ q3) ?_
   simp[go_sem]
   refine zH (l++ [⟨af,e⟩],zP t3) ⟨by simp;omega,⟨by simp;omega,ab.trans (yY hL ab.cz q3),by simp only[Ap,Br,show 7 - (l.length+1)=6 - l.length by omega];exact hinv⟩, ?_⟩
   exact aN 4 (by simp[rB,rE,bT,cQ,cL])
  .rw[<-k2]at aa
   simp[go_sem,k1]
   refine sN aa cB (wK ⟨zC rfl,zC rfl,zC rfl,tV⟩) rfl ?_
   simp[go_sem]
   refine pR ae ?_
   simp[go_sem]
   refine pR al ?_
   simp[go_sem]
   refine jK hx cB fu ?_
   simp[go_sem,bJ.bS]
   refine zJ ⟨om,zY rfl⟩ ?_
   simp[go_sem]
   refine pR (xO L hL t3 ab.cz _ q3) ?_
   simp[go_sem]
   refine zH (l++ [⟨af,e⟩],zP t3) ⟨by simp;omega,⟨by simp;omega,ab.trans (yY hL ab.cz q3),by simp only[Ap,Br,show 7 - (l.length+1)=6 - l.length by omega];exact hinv⟩, ?_⟩
   exact aN 4 (by simp[rB,rE,bT,cQ,cL])
 have q3:dh L [44] t3=false:=sU q3
 rw[ahf (by rw[q3];decide)]at hinv
 have ar:X.1:=by rw[<-hinv]
 have au:X.2.1=l++ [⟨af,e⟩]:=by rw[<-hinv]
 have av:X.2.2=t3:=by rw[<-hinv]
 rw[ahg ar,au,av]at hM
 obtain⟨gw,hw⟩:=M8 L hL t3 ab.cz (ab.bZ.trans an) [rE,.box [.int .i64 3,.str nm,.sl .full [],.sl .full [],.sl (.app 3) (l.map cm.row++ [[.str af,.int .i64 e.kind,.str e.s,.int .i64 e.v.kind,.int .i64 e.v.n,.str e.v.s,.sl .ro (e.args.map bJ.row)]]),.bool false,.int .i64 0,.str [],.int .i64 0,.int .i64 0,.str [],.sl .full [],.str [],.bool false,.int .i64 0],
  .app (l.length+1) 7,.box [.int .i64 tk.kind,.int .i64 tk.place,.str tk.s,.int .i64 tk.n],.box [.str af,.int .i64 e.kind,.str e.s,.int .i64 e.v.kind,.int .i64 e.v.n,.str e.v.s,.sl .ro (e.args.map bJ.row)]] 1 _ _ _ _ _ _ _ _ rfl
 generalize oC L t3=s9 at hw hM
 generalize jY L t3=w9 at hw hM
 have hr:=λτ=>pt (L:=L) (g1:= .full) (g2:= .full) (g3:= .app 3) (g4:=gw) (τ:=τ) (st:=⟨3,nm,[],[],l++ [⟨af,e⟩],w9.1,w9.2,[],false,0⟩) hM
 simp at hr
 refine zA ?_
 simp[go_sem]
 refine pR ad ?_
 simp[go_sem,He]
 refine wH [(10,0),(12,3)] 1 5 sm kR kR ?_
 simp[go_sem]
 refine key.elim (λ⟨k1,k2⟩=> ?_) (λ⟨k1,k2⟩=> ?_)
 .simp[go_sem,k1]
  refine pD aj ?_
  simp[go_sem,k2]
  refine sN aa cB (wK ⟨zC rfl,zC rfl,zC rfl,tV⟩) rfl ?_
  simp[go_sem]
  refine pR ae ?_
  simp[go_sem]
  refine pR al ?_
  simp[go_sem]
  refine jK hx cB fu ?_
  simp[go_sem,bJ.bS]
  refine zJ ⟨om,zY rfl⟩ ?_
  simp[go_sem]
  refine pR (wO L hL t3 ab.cz _ q3) ?_
  simp[go_sem]
  refine Fc hw cB ?_
  rintro r I ⟨rfl,rfl⟩ _
  simp[go_sem]
  exact hr _
 .rw[<-k2]at aa
  simp[go_sem,k1]
  refine sN aa cB (wK ⟨zC rfl,zC rfl,zC rfl,tV⟩) rfl ?_
  simp[go_sem]
  refine pR ae ?_
  simp[go_sem]
  refine pR al ?_
  simp[go_sem]
  refine jK hx cB fu ?_
  simp[go_sem,bJ.bS]
  refine zJ ⟨om,zY rfl⟩ ?_
  simp[go_sem]
  refine pR (wO L hL t3 ab.cz _ q3) ?_
  simp[go_sem]
  refine Fc hw cB ?_
  rintro r I ⟨rfl,rfl⟩ _
  simp[go_sem]
  exact hr _
def DD (c:UInt8):Bool:=decide (c.toNat=9)||(decide (c.toNat=10)||(decide (c.toNat=13)||decide (c.toNat=32)))
theorem DE (c:UInt8) (n:Nat):(((c.toNat:Nat):Int)==(n:Int))=decide (c.toNat=n):=by
 rw[Db]
 simp only[ahm,ahl]
 omega
theorem xb3 (c:UInt8):Pure prog 116 [.int .u8 c.toNat] (.bool (DD c)):=by
 generalize hM:DD c=M
 unfold DD at hM
 have h9:=DE c 9
 have aa:=DE c 10
 have ab:=DE c 13
 have ad:=DE c 32
 simp only[C0]at h9 aa ab ad
 have ret: ∀(r:Bool) (τ:St),r=M->cw (some (.bool r)) 0 (λr I=>r= .bool M/\I= []) τ:=λr τ h=>by subst h;exact wR
 refine iW 0 func116 ntmps116 results116 λc hc hb=>zM ?_
 simp[go_sem]
 repeat' (first
  |(refine xE (λq=> ?_) (λq=> ?_)<;>simp[go_sem,q])
  |(refine zU (λq=> ?_) (λq=> ?_)<;>simp[go_sem,q]))
 all_goals exact ret _ _ (by rw[<-hM];simp_all)
abbrev TR:=bR×Nat×Int
def uB (x:TR):V:= .cy [.agg x.1.row,.int .i64 x.2.1,.int .i64 x.2.2]
theorem JV (x:TR):gA (uB x)=true:=rfl
theorem ng {t:bR} {n:Nat} {M:TR} (h:(t,n,e)=M):cw (some (.cy [.agg [.int .i64 t.kind,.int .i64 t.place,.str t.s,.int .i64 t.n],.int .i64 n,.int .i64 e])) 0 (λr I=>r=uB M/\I= []) τ:=by
 subst h
 exact wR
def nh (v:Int):ahP->Option Int
 | []=>some v
 |c::l=>if wW c=true then(if(9223372036854775807 - ((c.toNat:Int) - 48))/10<v then none else nh (v*10+((c.toNat:Int) - 48)) l)else some v
def qn (at_:Nat) (l:ahP):TR:=
 match nh 0 l with
 |none=>(lF,0,5)
 |some v=>if l8 ((l.dropWhile wW).headD 0)=true then(lF,0,13)else(⟨2,0,[],v⟩,at_+(l.takeWhile wW).length,0)
theorem RJ {c:UInt8} (h:wW c):48<=c.toNat/\c.toNat<=57:=by unfold wW at h;simpa using h
theorem yR8 (s:ahP) (hl:s.length<=maxLen) (a:Nat) (ha:a<=s.length):Pure prog 182 [.str s,.int .i64 a] (uB (qn a (s.drop a))):=by
 generalize hM:qn a (s.drop a)=M
 unfold qn at hM
 unfold maxLen at hl
 have ae:l8 0=false:=dC
 refine iV 0 func182 ntmps182 results182 λc hc hb=> ?_
 refine zA ?_
 simp[go_sem]
 refine zI (S:=Nat×Int) [0,1,4,7] (λu=> [.str s,.int .i64 u.1,.ptr 0 0,.int .i64 u.2]) (λ_=> [.box [.int .i64 0,.int .i64 0,.str [],.int .i64 0]]) (λu=>s.length - u.1)
  (λu=>u.1<=s.length/\0<=u.2/\u.2<=9223372036854775807/\(match nh u.2 (s.drop u.1)with|none=>(lF,0,5)|some v=>if l8 (((s.drop u.1).dropWhile wW).headD 0)=true then(lF,0,13)else((⟨2,0,[],v⟩,u.1+((s.drop u.1).takeWhile wW).length,0):TR))=M) hc hb (a,0) ⟨ha,E1 _,sm,hM⟩ ?_ ?_
 .exact aN 1 (by rfl)
 rintro⟨i,v⟩ ⟨hi,af,ah,hinv⟩
 simp only at hi af ah hinv
 by_cases q:i<s.length
 rotate_left
 .obtain rfl:i=s.length:=om
  rw[Ck]at hinv
  have hinv:(⟨⟨2,0,[],v⟩,s.length,0⟩:TR)=M:=by rw[<-hinv];rfl
  refine zA ?_
  simp[go_sem]
  exact ng (t:=⟨2,0,[],v⟩) hinv
 have ei:=zQ q om
 obtain⟨x,hx⟩:=eX (s[i])
 rw[A5 q,hx]at hinv
 have aa:=G4 x
 have ab:=JH x
 by_cases qd:wW x=true
 rotate_left
 .have qd:wW x=false:=sU qd
  rw[nh,ahf (by rw[qd];decide),List.dropWhile_cons_of_neg (by rw[qd];decide),List.takeWhile_cons_of_neg (by rw[qd];decide)]at hinv
  simp only[List.headD_cons,Ct,D5]at hinv
  rw[qd]at aa
  by_cases ql:l8 x=true
  .simp only[ql,aho]at hinv
   rw[ql]at ab
   refine zA ?_
   simp[go_sem,q,hx]
   refine pC aa ?_
   simp[go_sem,q,hx]
   refine pC ab ?_
   simp[go_sem]
   exact ng (t:=lF) hinv
  .have ql:l8 x=false:=sU ql
   simp only[ql,Cw,ahx]at hinv
   rw[ql]at ab
   refine zA ?_
   simp[go_sem,q,hx]
   refine pC aa ?_
   simp[go_sem,q,hx]
   refine pC ab ?_
   simp[go_sem]
   exact ng (t:=⟨2,0,[],v⟩) hinv
 have hr:=RJ qd
 rw[nh,ahg qd,List.dropWhile_cons_of_pos qd,D6 qd]at hinv
 rw[qd]at aa
 have e1:IntKind.u8.wrap ((x.toNat:Int) - 48)=(x.toNat:Int) - 48:=JG om om
 have e2:IntKind.i64.wrap ((x.toNat:Int) - 48)=(x.toNat:Int) - 48:=bX om om
 have e3:IntKind.i64.wrap (9223372036854775807 - ((x.toNat:Int) - 48))=9223372036854775807 - ((x.toNat:Int) - 48):=bX om om
 obtain⟨d,hd⟩: ∃d:Int,(x.toNat:Int) - 48=d:=⟨_,rfl⟩
 rw[hd]at hinv e1 e2 e3
 have ai:0<=d/\d<=9:=om
 have e4:IntKind.i64.wrap ((9223372036854775807 - d).tdiv 10)=(9223372036854775807 - d)/10:=by
  rw[Int.tdiv_eq_ediv_of_nonneg om,bX om om]
 refine zA ?_
 simp[go_sem,q,hx]
 refine pC aa ?_
 simp[go_sem,q,hx,e1,e2,e3,e4,hd]
 by_cases qg:(9223372036854775807 - d)/10<v
 .have ad:decide ((9223372036854775807 - d)/10<v)=true:=ahi qg
  simp only[qg,aho]at hinv
  simp[go_sem,ad]
  exact ng (t:=lF) hinv
 .have ad:decide ((9223372036854775807 - d)/10<v)=false:=ahh qg
  simp only[qg,ahx]at hinv
  have e5:IntKind.i64.wrap (v*10)=v*10:=bX om om
  have e6:IntKind.i64.wrap (v*10+d)=v*10+d:=bX om om
  simp[go_sem,ad,e5,e6,ei]
  refine zH (i+1,v*10+d) ⟨by simp only;omega,⟨by simp only;omega,by simp only;omega,by simp only;omega, ?_⟩, ?_⟩
  .simp only[Ak]at hinv
   rw[<-hinv]
   simp only[Dv,Dz 1]
  .exact aN 1 (by rfl)
def Fy (i:Nat) (w:ahP):TR:=if 64<w.length then(lF,0,3)else(⟨3,0,w,0⟩,i+1,0)
def k7:Nat->ahP->ahP->TR
 |_,_,[]=>(lF,0,13)
 |i,w,[c]=>if c.toNat=39 then Fy i w else(lF,0,13)
 |i,w,c::c2::l=>if c.toNat=39 then(if c2.toNat=39 then k7 (i+2) (w++ [c2]) l else Fy i w)else k7 (i+1) (w++ [c]) (c2::l)
theorem xd4 (i:Nat) (w:ahP) (c:UInt8) (l:ahP) (h: ¬c.toNat=39):k7 i w (c::l)=k7 (i+1) (w++ [c]) l:=by
 cases l<;>simp_all[k7]
theorem xt2 (s:ahP) (hl:s.length<=maxLen) (a:Nat) (ha:a<s.length):Pure prog 183 [.str s,.int .i64 a] (uB (k7 (a+1) [] (s.drop (a+1)))):=by
 generalize hM:k7 (a+1) [] (s.drop (a+1))=M
 unfold maxLen at hl
 have ea:IntKind.i64.wrap ((a:Int)+1)=((a+1:Nat):Int):=(by grind[zQ])
 refine iV 0 func183 ntmps183 results183 λc hc hb=> ?_
 refine zA ?_
 simp[go_sem,ea]
 refine zI (S:=Nat×ahP) [0,4,7,8] (λu=> [.str s,.ptr 0 0,.str u.2,.int .i64 u.1]) (λ_=> [.box [.int .i64 0,.int .i64 0,.str [],.int .i64 0]]) (λu=>s.length - u.1)
  (λu=>u.1<=s.length/\u.2.length<=u.1/\k7 u.1 u.2 (s.drop u.1)=M) hc hb (a+1,[]) (by grind) ?_ ?_
 .exact cd 1 (by rfl) rfl (by rfl) om (zD (by rfl) rfl)
 rintro⟨i,w⟩ ⟨hi,hw,hinv⟩
 simp only at hi hw hinv
 by_cases q:i<s.length
 rotate_left
 .obtain rfl:i=s.length:=om
  rw[Ck]at hinv
  refine zA ?_
  simp[go_sem]
  exact ng (t:=lF) hinv
 have ei:=zQ q om
 obtain⟨x,hx⟩:=eX (s[i])
 have aa:=DE x 39
 simp only[C0]at aa
 rw[A5 q,hx]at hinv
 by_cases ae:x.toNat=39
 rotate_left
 .rw[ahh ae]at aa
  rw[xd4 _ _ _ _ ae]at hinv
  have ai:(s.take (i+1)).drop i= [x]:=by
   rw[Dd,A0 q,hx,List.drop_append,A9 (by grind),B0,Ca om]
   simp
  refine zA ?_
  simp[go_sem,q,hx,aa,ei]
  refine zJ om ?_
  simp[go_sem,ai]
  refine zJ om ?_
  simp[go_sem,ei]
  refine zH (i+1,w++ [x]) ⟨om,(by grind), ?_⟩
  exact cd 1 (by rfl) rfl (by rfl) om (zD (by rfl) rfl)
 rw[ahi ae]at aa
 by_cases q2:i+1<s.length
 rotate_left
 .have al:s.drop (i+1)= []:=(by grind)
  rw[al,k7,ahg ae]at hinv
  unfold Fy at hinv
  have e1:((i:Int)+1==(s.length:Int))=true:=by grind
  refine zA ?_
  simp[go_sem,q,hx,aa,ei,e1]
  by_cases af:64<w.length
  .have ab:decide ((64:Int)<w.length)=true:=(by grind)
   rw[ahg af]at hinv
   simp[go_sem,ab]
   exact ng (t:=lF) hinv
  .have ab:decide ((64:Int)<w.length)=false:=(by grind)
   rw[ahf af]at hinv
   simp[go_sem,ab,ei]
   exact ng (t:=⟨3,0,w,0⟩) hinv
 have e1:((i:Int)+1==(s.length:Int))=false:=by grind
 have an:=zQ q2 om
 obtain⟨y,hy⟩:=eX (s[i+1])
 have ah:=DE y 39
 simp only[C0]at ah
 have aj:s[i+1]?.getD 0=y:=by grind
 have ak:IntKind.i64.wrap ((i:Int)+1+1)=(i:Int)+2:=by grind
 rw[A5 q2,hy,k7,ahg ae]at hinv
 by_cases qy:y.toNat=39
 rotate_left
 .rw[ahf qy]at hinv
  unfold Fy at hinv
  rw[ahh qy]at ah
  have ad:((y.toNat:Int) !=39)=true:=by grind
  refine zA ?_
  simp[go_sem,q,hx,aa,ei,e1]
  refine zJ om ?_
  simp[go_sem,aj,ad]
  by_cases af:64<w.length
  .have ab:decide ((64:Int)<w.length)=true:=(by grind)
   rw[ahg af]at hinv
   simp[go_sem,ab]
   exact ng (t:=lF) hinv
  .have ab:decide ((64:Int)<w.length)=false:=(by grind)
   rw[ahf af]at hinv
   simp[go_sem,ab,ei]
   exact ng (t:=⟨3,0,w,0⟩) hinv
 rw[ahg qy]at hinv
 rw[ahi qy]at ah
 have ad:((y.toNat:Int) !=39)=false:=by grind
 have ai:(s.take (i+2)).drop (i+1)= [y]:=by
  rw[Dd,A0 q2,hy,List.drop_append,A9 (by grind),B0,Ca om]
  simp
 refine zA ?_
 simp[go_sem,q,hx,aa,ei,e1]
 have et:((i:Int)+2).toNat=i+2:=om
 have ao:IntKind.i64.wrap ((i:Int)+1+1)=((i+2:Nat):Int):=om
 refine zJ om ?_
 simp[go_sem,aj,ad,ei,ak,et]
 refine zJ om ?_
 simp[go_sem,ai]
 refine zJ om ?_
 simp[go_sem,ak]
 refine zH (i+2,w++ [y]) ⟨om,(by grind), ?_⟩
 exact cd 1 (by rfl) rfl (by rfl) om (zD (by rfl) rfl)
def jh (c:UInt8):Bool:=l8 c||wW c
def fi:ahP:= [40,41,44,59,42,61,60,62,43,45,47,37]
def iC (s:ahP) (a:Nat):TR:=
 if l8 (s.getD a 0)=true then(⟨1,0,((s.drop a).takeWhile jh).map yP,0⟩,a+((s.drop a).takeWhile jh).length,0)
 else if wW (s.getD a 0)=true then qn a (s.drop a)
 else if(s.getD a 0).toNat=39 then k7 (a+1) [] (s.drop (a+1))
 else if a+1<s.length/\((s.drop a).take 2= [60,61]\/(s.drop a).take 2= [62,61]\/(s.drop a).take 2= [60,62])then(⟨4,0,(s.drop a).take 2,0⟩,a+2,0)
 else if fi.contains (s.getD a 0)=true then(⟨4,0,[s.getD a 0],0⟩,a+1,0)
 else(lF,0,13)
theorem xL5 (s:ahP) (hl:s.length<=maxLen) (a:Nat) (ha:a<s.length):Pure prog 117 [.str s,.int .i64 a] (uB (iC s a)):=by
 generalize hM:iC s a=M
 have af:=yR8 s hl a om
 have ah:=xt2 s hl a ha
 unfold iC at hM
 unfold maxLen at hl
 have az:s.getD a 0=s[a]:=by grind
 rw[az]at hM
 obtain⟨x,hx⟩:=eX (s[a])
 rw[hx]at hM
 have ab:=JH x
 have ad:=G4 x
 generalize qn a (s.drop a)=n at af hM
 generalize k7 (a+1) [] (s.drop (a+1))=t at ah hM
 have ret: ∀(y:TR) (τ:St),y=M->cw (some (.cy [.agg [.int .i64 y.1.kind,.int .i64 y.1.place,.str y.1.s,.int .i64 y.1.n],.int .i64 y.2.1,.int .i64 y.2.2])) 0 (λr I=>r=uB M/\I= []) τ:=λy τ h=>ng (t:=y.1) h
 refine iV 0 func117 ntmps117 results117 λc hc hb=> ?_
 refine zA ?_
 simp[go_sem,ha,hx]
 by_cases q1:l8 x=true
 .rw[ahg q1]at hM
  rw[q1]at ab
  refine pC ab ?_
  simp[go_sem]
  refine zI (S:=Nat×ahP) [0,1,4,7] (λu=> [.str s,.int .i64 u.1,.ptr 0 0,.str u.2]) (λ_=> [.box [.int .i64 0,.int .i64 0,.str [],.int .i64 0]]) (λu=>s.length - u.1)
   (λu=>u.1<=s.length/\u.2.length<=u.1/\((⟨1,0,u.2++((s.drop u.1).takeWhile jh).map yP,0⟩,u.1+((s.drop u.1).takeWhile jh).length,0):TR)=M) hc hb (a,[]) (by grind) ?_ ?_
  .exact cd 1 (by rfl) rfl (by rfl) om (zD (by rfl) rfl)
  rintro⟨i,w⟩ ⟨hi,hw,hinv⟩
  simp only at hi hw hinv
  by_cases q:i<s.length
  rotate_left
  .obtain rfl:i=s.length:=om
   rw[Ck]at hinv
   simp only[List.takeWhile_nil,Bh,Ax,Ct,D5]at hinv
   refine zA ?_
   simp[go_sem]
   exact ng (t:=⟨1,0,w,0⟩) hinv
  have ei:=zQ q om
  obtain⟨y,hy⟩:=eX (s[i])
  rw[A5 q,hy]at hinv
  have a1:=JH y
  have ae:=G4 y
  have ar:=MW y
  have yes:jh y=true->((⟨1,0,(w++ [yP y])++((s.drop (i+1)).takeWhile jh).map yP,0⟩,i+1+((s.drop (i+1)).takeWhile jh).length,0):TR)=M:=λh=>by
   rw[D6 h]at hinv
   grind
  have no:jh y=false->((⟨1,0,w,0⟩,i,0):TR)=M:=(by grind[List.takeWhile_cons_of_neg])
  have au:Ga [[V.int .u8 ((yP y).toNat:Int)]]:=wV [yP y]
  have av:tW [V.int .u8 ((yP y).toNat:Int)]=yP y:=(List.cons.inj (Gb [yP y])).1
  refine zA ?_
  simp[go_sem,q,hy]
  refine pC a1 ?_
  refine(A6 (l8 y)).elim (λp1=> ?_) (λp1=> ?_)
  .have aw:=yes (by unfold jh;grind)
   simp[go_sem,p1,q,hy]
   refine pC ar ?_
   simp[go_sem]
   refine zJ au ?_
   simp[go_sem,av]
   refine zJ om ?_
   simp[go_sem,ei]
   refine zH (i+1,w++ [yP y]) ⟨om,(by grind), ?_⟩
   exact cd 1 (by rfl) rfl (by rfl) om (zD (by rfl) rfl)
  refine(A6 (wW y)).elim (λp2=> ?_) (λp2=> ?_)
  .have aw:=yes (by unfold jh;grind)
   simp[go_sem,p1,q,hy]
   refine pC ae ?_
   simp[go_sem,p2,q,hy]
   refine pC ar ?_
   simp[go_sem]
   refine zJ au ?_
   simp[go_sem,av]
   refine zJ om ?_
   simp[go_sem,ei]
   refine zH (i+1,w++ [yP y]) ⟨om,(by grind), ?_⟩
   exact cd 1 (by rfl) rfl (by rfl) om (zD (by rfl) rfl)
  .have a6:=no (by unfold jh;grind)
   simp[go_sem,p1,q,hy]
   refine pC ae ?_
   simp[go_sem,p2]
   exact ng (t:=⟨1,0,w,0⟩) a6
 have q1:l8 x=false:=by grind
 rw[ahf om]at hM
 rw[q1]at ab
 refine pC ab ?_
 simp[go_sem,ha,hx]
 by_cases q2:wW x=true
 .rw[ahg q2]at hM
  rw[q2]at ad
  refine pC ad ?_
  simp[go_sem]
  refine zL af cB (yF rfl) (JV _) ?_
  simp[go_sem,uB]
  exact ret _ _ hM
 have q2:wW x=false:=by grind
 rw[ahf om]at hM
 rw[q2]at ad
 refine pC ad ?_
 simp[go_sem,ha,hx]
 have aa:=DE x 39
 simp only[C0]at aa
 by_cases q3:x.toNat=39
 .rw[ahg q3]at hM
  rw[ahi q3]at aa
  simp[go_sem,aa]
  refine zL ah cB (yF rfl) (JV _) ?_
  simp[go_sem,uB]
  exact ret _ _ hM
 rw[ahf q3]at hM
 rw[ahh q3]at aa
 simp[go_sem,aa]
 have ax: ∀(y:UInt8),((y.toNat:Int)==(x.toNat:Int))=(y==x):=λy=>by
  rw[Db]
  simp only[ahm]
  exact⟨λh=>E2.1 om,(by grind)⟩
 have ea:IntKind.i64.wrap ((a:Int)+1)=((a+1:Nat):Int):=(by grind[zQ])
 have ai:(s.take (a+1)).drop a= [x]:=by
  rw[Dd,A0 ha,hx,List.drop_append,A9 (by grind),B0,Ca om]
  simp
 by_cases qa:a+1<s.length
 rotate_left
 .have aj:decide ((a:Int)+1<s.length)=false:=(by grind)
  rw[ahf om]at hM
  simp[go_sem,ea,aj]
  refine zI (S:=Nat) [0,1,4,9] (λk=> [.str s,.int .i64 a,.ptr 0 0,.int .i64 (k:Int)]) (λ_=> [.box [.int .i64 0,.int .i64 0,.str [],.int .i64 0]]) (λk=>12 - k)
   (λk=>k<=12/\(if(fi.drop k).contains x=true then(⟨4,0,[x],0⟩,a+1,0)else(lF,0,13):TR)=M) hc hb 0 ⟨om,hM⟩ ?_ ?_
  .exact cd 1 (by rfl) rfl (by rfl) om (zD (by rfl) rfl)
  rintro k ⟨hk,hinv⟩
  by_cases qk:k<12
  rotate_left
  .obtain rfl:k=12:=om
   refine zA ?_
   simp[go_sem]
   exact ng (t:=lF) hinv
  have ak:k<fi.length:=qk
  have ek:=zQ qk dC
  have al:decide ((k:Int)<12)=true:=(by grind)
  obtain⟨y,hy⟩:=eX (fi[k])
  rw[A5 ak,hy]at hinv
  have an: [40,41,44,59,42,61,60,62,43,45,47,37][k]?.getD (0:UInt8)=y:=by
   have:fi[k]?.getD 0=y:=by grind
   exact this
  refine zA ?_
  simp[go_sem,al]
  refine yL [] 1 sm (by rfl) kR ?_
  simp[go_sem]
  refine zJ om ?_
  simp[go_sem,ha,hx,an,ax]
  by_cases qe:(y==x)=true
  .have ao:y=x:=by grind
   rw[ahg (by simp[ao])]at hinv
   simp[go_sem,qe,ea]
   refine zJ om ?_
   simp[go_sem,ai,ea]
   exact ng (t:=⟨4,0,[x],0⟩) hinv
  .have qe:(y==x)=false:=by grind
   have aq:(y::fi.drop (k+1)).contains x=(fi.drop (k+1)).contains x:=by
    rw[Dh,show(x==y)=false by grind]
    rfl
   rw[aq]at hinv
   simp[go_sem,qe,ek]
   exact zH (k+1) ⟨om,(by grind),cd 1 (by rfl) rfl (by rfl) om (zD (by rfl) rfl)⟩
 have aj:decide ((a:Int)+1<s.length)=true:=(by grind)
 have ay:IntKind.i64.wrap ((a:Int)+2)=(a:Int)+2:=by grind[bX]
 have et:((a:Int)+2).toNat=a+2:=om
 have ae:(s.drop a).take 2=(s.take (a+2)).drop a:=by grind
 rw[ae]at hM
 simp[go_sem,ea,ay,et,aj]
 refine zJ om ?_
 simp[go_sem]
 generalize (s.take (a+2)).drop a=two at hM
 have yes:(two= [60,61]\/two= [62,61]\/two= [60,62])->((⟨4,0,two,0⟩,a+2,0):TR)=M:=(by grind)
 have no: ¬(two= [60,61]\/two= [62,61]\/two= [60,62])->(if fi.contains x=true then(⟨4,0,[x],0⟩,a+1,0)else(lF,0,13):TR)=M:=(by grind)
 clear hM
 by_cases qt:two= [60,61]\/two= [62,61]\/two= [60,62]
 .have hM:=yes qt
  rcases qt with rfl|rfl|rfl
  all_goals simp[go_sem,ay]
  all_goals exact ng (t:=⟨4,0,_,0⟩) hM
 .have hM:=no qt
  have p1:(two== [60,61])=false:=by grind
  have p2:(two== [62,61])=false:=by grind
  have p3:(two== [60,62])=false:=by grind
  clear yes no qt
  simp[go_sem,p1,p2,p3]
  refine zI (S:=Nat) [0,1,4,9] (λk=> [.str s,.int .i64 a,.ptr 0 0,.int .i64 (k:Int)]) (λ_=> [.box [.int .i64 0,.int .i64 0,.str [],.int .i64 0]]) (λk=>12 - k)
   (λk=>k<=12/\(if(fi.drop k).contains x=true then(⟨4,0,[x],0⟩,a+1,0)else(lF,0,13):TR)=M) hc hb 0 (by grind) ?_ ?_
  .exact cd 1 (by rfl) rfl (by rfl) om (zD (by rfl) rfl)
  rintro k ⟨hk,hinv⟩
  by_cases qk:k<12
  rotate_left
  .obtain rfl:k=12:=om
   refine zA ?_
   simp[go_sem]
   exact ng (t:=lF) hinv
  have ak:k<fi.length:=qk
  have ek:=zQ qk dC
  have al:decide ((k:Int)<12)=true:=(by grind)
  obtain⟨y,hy⟩:=eX (fi[k])
  rw[A5 ak,hy]at hinv
  have an: [40,41,44,59,42,61,60,62,43,45,47,37][k]?.getD (0:UInt8)=y:=by
   have:fi[k]?.getD 0=y:=by grind
   simpa
  refine zA ?_
  simp[go_sem,al]
  refine yL [] 1 sm kR kR ?_
  simp[go_sem]
  refine zJ om ?_
  simp[go_sem,ha,hx,an,ax]
  by_cases qe:(y==x)=true
  .have ao:y=x:=by grind
   rw[ahg (by simp[ao])]at hinv
   simp[go_sem,qe,ea]
   refine zJ om ?_
   simp[go_sem,ai,ea]
   exact ng (t:=⟨4,0,[x],0⟩) hinv
  .have qe:(y==x)=false:=by grind
   have aq:(y::fi.drop (k+1)).contains x=(fi.drop (k+1)).contains x:=by
    grind
   rw[aq]at hinv
   simp[go_sem,qe,ek]
   exact zH (k+1) ⟨om,(by grind),cd 1 (by rfl) rfl (by rfl) om (zD (by rfl) rfl)⟩
def ni (s:ahP):Nat->Nat->List bR->List bR×Int
 |0,_,_=>([],0)
 |n+1,a,l=>
  if a<s.length then
   (if DD (s.getD a 0)=true then ni s n (a+1) l
   else if(iC s a).2.2=0 then ni s n (iC s a).2.1 (l++ [{(iC s a).1 with place:=a}])else([],(iC s a).2.2))
  else(l++ [⟨0,s.length,[],0⟩],0)
def jC (s:ahP):List bR×Int:=if 2000<s.length then([],3)else ni s (s.length+1) 0 []
theorem RL: ∀(l:ahP) (v r:Int),0<=v->v<=9223372036854775807->nh v l=some r->0<=r/\r<=9223372036854775807
 | [],v,r,h0,h1,h=>by rw[nh]at h;cases h;exact⟨h0,h1⟩
 |c::l,v,r,h0,h1,h=>by
  rw[nh]at h
  split at h
  .rename_i hd
   have hr:=RJ hd
   split at h
   .cases h
   .exact RL l _ r om om h
  .cases h;exact⟨h0,h1⟩
theorem Ng: ∀(k:Nat) (l:ahP),l.length<=k-> ∀(i:Nat) (w:ahP),(k7 i w l).2.2=0->i<(k7 i w l).2.1/\(k7 i w l).2.1<=i+l.length/\(k7 i w l).1.s.length<=64/\(k7 i w l).1.n=0
 |0,l,hk,i,w,h=>by
  have:l= []:=Aq om
  subst this
  simp[k7]at h
 |k+1,l,hk,i,w,h=>by
  match l,hk with
  | [],_=>simp[k7]at h
  | [c],_=>
   rw[k7]at h⊢
   split at h
   .rename_i hc
    rw[ahg hc]
    unfold Fy at h⊢
    split at h
    .simp at h
    .rename_i aa
     rw[ahf aa]
     exact⟨sm,sm,by simp only;omega,rfl⟩
   .simp at h
  |c::c2::l,hk=>
   rw[k7]at h⊢
   split at h
   .rename_i hc
    rw[ahg hc]
    split at h
    .rename_i ab
     rw[ahg ab]
     have:=Ng k l (by simp at hk;omega) _ _ h
     simp only[Ak]
     omega
    .rename_i ab
     rw[ahf ab]
     unfold Fy at h⊢
     split at h
     .simp at h
     .rename_i aa
      rw[ahf aa]
      exact⟨sm,sm,by simp only;omega,rfl⟩
   .rename_i hc
    rw[ahf hc]
    have:=Ng k (c2::l) (by simp at hk⊢;omega) _ _ h
    simp only[Ak]at this⊢
    omega
theorem Nh {p:UInt8->Bool}: ∀l:ahP,(l.takeWhile p).length<=l.length
 | []=>A7 _
 |c::l=>by
  rw[List.takeWhile_cons]
  have:=Nh (p:=p) l
  split<;>simp only[Ak,Ct]<;>omega
theorem RM {s:ahP} {a:Nat} (ha:a<s.length) (h:(iC s a).2.2=0):a<(iC s a).2.1/\(iC s a).2.1<=s.length/\(iC s a).1.s.length<=s.length+64/\0<=(iC s a).1.n/\(iC s a).1.n<=9223372036854775807:=by
 have aa:s.getD a 0=s[a]:=by rw[Ae,A0 ha];rfl
 have ab:=A5 ha
 unfold iC at h⊢
 rw[aa,ab]at h⊢
 obtain⟨x,hx⟩:=eX (s[a])
 rw[hx]at h⊢
 have hl:(s.drop (a+1)).length=s.length - (a+1):=D7
 generalize s.drop (a+1)=l at h hl⊢
 split at h
 .rename_i q1
  rw[ahg q1]
  have hw:jh x:=by unfold jh;rw[q1];rfl
  have:=Nh (p:=jh) l
  rw[D6 hw]
  simp only[Ak,Ag]
  omega
 rename_i q1
 rw[ahf q1]
 split at h
 .rename_i q2
  rw[ahg q2]
  unfold qn at h⊢
  split at h
  .simp at h
  rename_i r hr
  have ad:=RL _ 0 r (E1 _) dC hr
  split at h
  .simp at h
  rename_i hle
  rw[ahf hle,D6 q2]
  have:=Nh (p:=wW) l
  simp only[Ak,Ct]
  omega
 rename_i q2
 rw[ahf q2]
 split at h
 .rename_i q3
  rw[ahg q3]
  have:=Ng l.length l (A7 _) _ _ h
  omega
 rename_i q3
 rw[ahf q3]
 split at h
 .rename_i q4
  rw[ahg q4]
  simp only[B0]
  omega
 rename_i q4
 rw[ahf q4]
 split at h
 .rename_i q5
  rw[ahg q5]
  simp only[Br]
  omega
 .simp at h
def JW (t:bR):Prop:=t.s.length<=3000/\0<=t.n/\t.n<=9223372036854775807
theorem Ni {s:ahP} (hs:s.length<=2000): ∀(n a:Nat) (l:List bR),s.length<n+a->a<=s.length->l.length<=a->(∀t∈l,JW t)->(ni s n a l).2=0->
  ∃l',(ni s n a l).1=l'++ [⟨0,s.length,[],0⟩]/\l'.length<=s.length/\ ∀t∈l',JW t
 |0,a,l,hf,ha,_,_,_=>by omega
 |n+1,a,l,hf,ha,hl,ht,h=>by
  unfold ni at h⊢
  by_cases q:a<s.length
  rotate_left
  .rw[ahf q]
   exact⟨l,rfl,om,ht⟩
  rw[ahg q]at h⊢
  by_cases q2:DD (s.getD a 0)=true
  .rw[ahg q2]at h⊢
   exact Ni hs n (a+1) l om om om ht h
  rw[ahf q2]at h⊢
  by_cases q3:(iC s a).2.2=0
  .rw[ahg q3]at h⊢
   have ho:=RM q q3
   refine Ni hs n _ _ om om (by simp;omega) (λt aa=> ?_) h
   rw[Al]at aa
   rcases aa with aa|aa
   .exact ht t aa
   .simp only[Af,Be,aht]at aa
    subst aa
    unfold JW
    simp only
    omega
  .rw[ahf q3]at h
   exact absurd h q3
theorem RN {s:ahP} (h:(jC s).2=0):s.length<=2000/\eO (jC s).1/\gC (jC s).1/\1<=(jC s).1.length/\(jC s).1.length<=2001:=by
 unfold jC at h⊢
 split at h
 .simp at h
 rename_i hl
 rw[ahf hl]
 obtain⟨l',h1,h2,h3⟩:=Ni om _ _ _ om (A4 _) (A7 _) (λt ht=>by cases ht) h
 have h4: ∀t∈l'++ [⟨0,s.length,[],0⟩],JW t:=λt ht=>by
  rw[Al]at ht
  rcases ht with ht|ht
  .exact h3 t ht
  .simp only[Af,Be,aht]at ht
   subst ht
   exact⟨A4 _,E1 _,sm⟩
 rw[h1]
 refine⟨om,⟨by simp;omega,λi hi=> ?_,λt ht=> ?_⟩,⟨λt ht=> ?_,λt ht=>(h4 t ht).2⟩,sm,by simp;omega⟩
 .have:i=l'.length:=by simp at hi;omega
  subst this
  rw[Ae,Ar (A7 _),Nat.sub_self]
  rfl
 .have:=(h4 t ht).1;unfold maxLen;omega
 .have:=(h4 t ht).1;omega
def vU (x:List bR×Int):V:= .cy [.sl .ro (x.1.map bR.row),.int .i64 x.2]
theorem Nj {g:Tag} {l:List bR} {M:List bR×Int} (h:(l,e)=M):cw (some (.cy [.sl g (l.map bR.row),.int .i64 e])) 0 (λr I=>r=vU M/\I= []) τ:=by
 subst h
 exact zX (r:= .cy [.sl .ro (l.map bR.row),.int .i64 e]) (yZ ⟨vF,xZ rfl,tV⟩) ⟨rfl,rfl⟩
theorem wn2 (s:ahP) (hl:s.length<=maxLen):Pure prog 63 [.str s] (vU (jC s)):=by
 generalize hM:jC s=M
 unfold jC at hM
 unfold maxLen at hl
 refine iV 0 func63 ntmps63 results63 λc hc hb=> ?_
 refine zA ?_
 simp[go_sem]
 by_cases q0:2000<s.length
 .rw[ahg q0]at hM
  have ad:decide ((2000:Int)<s.length)=true:=ahi om
  simp[go_sem,ad]
  exact Nj (l:= []) hM
 rw[ahf q0]at hM
 have ad:decide ((2000:Int)<s.length)=false:=ahh om
 simp[go_sem,ad]
 refine lE 4 4 dC sg ?_
 refine zI (S:=Nat×List bR) [0,4,5] (λu=> [.str s,.sl (.app 0) (u.2.map bR.row),.int .i64 u.1]) (λu=> [.app u.2.length 4]) (λu=>s.length - u.1)
  (λu=>u.1<=s.length/\u.2.length<=u.1/\ ∃n,s.length<n+u.1/\ni s n u.1 u.2=M) hc hb (0,[]) ⟨A4 _,A7 _,s.length+1,by simp only;omega,hM⟩ ?_ ?_
 .exact aN 1 (by rfl)
 rintro⟨a,l⟩ ⟨ha,af,n,hn,hinv⟩
 simp only at ha af hn hinv
 obtain⟨n,rfl⟩: ∃m,n=m+1:=⟨n - 1,om⟩
 rw[ni]at hinv
 by_cases q:a<s.length
 rotate_left
 .rw[ahf q]at hinv
  refine zA ?_
  simp[go_sem,q]
  refine zJ ⟨om,zY rfl⟩ ?_
  simp[go_sem]
  have hr:=λg τ=>Nj (g:=g) (τ:=τ) hinv
  simp at hr
  exact hr _ _
 rw[ahg q]at hinv
 have ea:=zQ q om
 obtain⟨x,hx⟩:=eX (s[a])
 have ah:s.getD a 0=x:=by rw[Ae,A0 q,hx];rfl
 rw[ah]at hinv
 have aa:=xb3 x
 by_cases q2:DD x=true
 .rw[ahg q2]at hinv
  rw[q2]at aa
  refine zA ?_
  simp[go_sem,q,hx]
  refine pC aa ?_
  simp[go_sem,ea]
  exact zH (a+1,l) ⟨by simp only;omega,⟨by simp only;omega,by simp only;omega,n,by simp only;omega,hinv⟩,aN 1 (by rfl)⟩
 have q2:DD x=false:=sU q2
 rw[ahf (by rw[q2];decide)]at hinv
 rw[q2]at aa
 have ab:=xL5 s (by unfold maxLen;omega) a q
 have cN:=RM q
 generalize iC s a=o at ab cN hinv
 by_cases q3:o.2.2=0
 .rw[ahg q3]at hinv
  have cN:=cN q3
  have ae:(o.2.2 !=0)=false:=sU q3
  refine zA ?_
  simp[go_sem,q,hx]
  refine pC aa ?_
  simp[go_sem]
  refine zL ab cB (yF rfl) (JV _) ?_
  simp[go_sem,uB,ae]
  refine zJ ⟨om,zY rfl⟩ ?_
  simp[go_sem]
  refine zH (o.2.1,l++ [{o.1 with place:=a}]) ⟨by simp only;omega,⟨by simp only;omega,by simp;omega,n,by simp only;omega,hinv⟩, ?_⟩
  exact aN 1 (by rfl)
 .rw[ahf q3]at hinv
  have ae:(o.2.2 !=0)=true:=sU q3
  refine zA ?_
  simp[go_sem,q,hx]
  refine pC aa ?_
  simp[go_sem]
  refine zL ab cB (yF rfl) (JV _) ?_
  simp[go_sem,uB,ae]
  exact Nj (l:= []) hinv
variable {L:List bR}
def JX:ahP:= [83,69,76,69,67,84]
def JY:ahP:= [73,78,83,69,82,84]
def JZ:ahP:= [85,80,68,65,84,69]
def DF:ahP:= [68,69,76,69,84,69]
def k8 (L:List bR) (s:RS):bW×RS:=
 if dh L JX s=true then uy L (zP s)
 else if dh L JY s=true then uz L (zP s)
 else if dh L JZ s=true then uA L (zP s)
 else
  let n:=xD L (yG L qf (yG L DF s))
  (⟨4,n.1,[],[],[],(jY L n.2).1,(jY L n.2).2,[],false,0⟩,oC L n.2)
theorem xc4 (hL:eO L) {s:RS} (h:dj L s) (ho:s.bZ=0):UI L s (uy L s).2:=by
 unfold uy
 have h1:=Nc hL h ho
 have h2:=h1.trans (yK hL qf h1.cz)
 have h3:=h2.trans (nf hL h2.cz)
 have h4:=h3.trans (Fu hL h3.cz (h3.bZ.trans ho))
 have h5:=h4.trans (Nb hL h4.cz)
 exact h5.trans (RG hL h5.cz)
theorem Nk (hL:eO L) {s:RS} (h:dj L s) (ho:s.bZ=0):UI L s (k8 L s).2:=by
 unfold k8
 split
 .have h1:=yY hL h ‹_›
  exact h1.trans (xc4 hL h1.cz (h1.bZ.trans ho))
 split
 .have h1:=yY hL h ‹_›
  exact h1.trans (yY4 hL h1.cz (h1.bZ.trans ho))
 split
 .have h1:=yY hL h ‹_›
  exact h1.trans (xe1 hL h1.cz (h1.bZ.trans ho))
 .have h1:=yK hL DF h
  have h2:=h1.trans (yK hL qf h1.cz)
  have h3:=h2.trans (nf hL h2.cz)
  exact h3.trans (Fu hL h3.cz (h3.bZ.trans ho))
theorem wl8 (L:List bR) (hL:eO L) (s:RS) (hs:dj L s) (ho:s.bZ=0):bN prog 66 [.ptr 0 0] [rB L s] (RT L (k8 L s)):=by
 generalize hM:k8 L s=M
 unfold k8 at hM
 have ret: ∀(x:bW×RS) (τ:St),x=M->cw (some (.agg x.1.row)) 1 (RT L M) (rB L x.2::τ):=λx τ h=>pt (g1:= .ro) (g2:= .ro) (g3:= .ro) (g4:= .ro) (st:=x.1) h
 refine iW 1 func66 ntmps66 results66 λc hc hb=>zM ?_
 simp[go_sem]
 by_cases q1:dh L JX s=true
 .rw[ahg q1]at hM
  have aa:=xw5 L hL (zP s) (hs.next hL q1) ho
  generalize uy L (zP s)=x at aa hM
  refine pR (xO L hL s hs _ q1) ?_
  simp[go_sem]
  refine G5 aa cB fu (Hd _) ?_
  simp[go_sem]
  exact ret x _ hM
 have q1:dh L JX s=false:=sU q1
 rw[ahf (by rw[q1];decide)]at hM
 refine pR (wO L hL s hs _ q1) ?_
 simp[go_sem]
 by_cases q2:dh L JY s=true
 .rw[ahg q2]at hM
  have aa:=xs0 L hL (zP s) (hs.next hL q2) ho
  generalize uz L (zP s)=x at aa hM
  refine pR (xO L hL s hs _ q2) ?_
  simp[go_sem]
  refine G5 aa cB fu (Hd _) ?_
  simp[go_sem]
  exact ret x _ hM
 have q2:dh L JY s=false:=sU q2
 rw[ahf (by rw[q2];decide)]at hM
 refine pR (wO L hL s hs _ q2) ?_
 simp[go_sem]
 by_cases q3:dh L JZ s=true
 .rw[ahg q3]at hM
  have aa:=xy1 L hL (zP s) (hs.next hL q3) ho
  generalize uA L (zP s)=x at aa hM
  refine pR (xO L hL s hs _ q3) ?_
  simp[go_sem]
  refine G5 aa cB fu (Hd _) ?_
  simp[go_sem]
  exact ret x _ hM
 have q3:dh L JZ s=false:=sU q3
 rw[ahf (by rw[q3];decide)]at hM
 refine pR (wO L hL s hs _ q3) ?_
 simp[go_sem]
 have af:=k6 L hL s hs DF
 have ab:=yK hL DF hs
 generalize yG L DF s=s1 at af ab hM
 have ah:=k6 L hL s1 ab.cz qf
 have ad:=ab.trans (yK hL qf ab.cz)
 generalize yG L qf s1=s2 at ah ad hM
 have hn:=CP L hL s2 ad.cz
 have ae:=ad.trans (nf hL ad.cz)
 generalize xD L s2=n at hn ae hM
 obtain⟨nm,s3⟩:=n
 simp only at hn ae hM
 obtain⟨gw,hw⟩:=M8 L hL s3 ae.cz (ae.bZ.trans ho) [rE,.box [.int .i64 4,.str nm,.sl .full [],.sl .full [],.sl .full [],.bool false,.int .i64 0,.str [],.int .i64 0,.int .i64 0,.str [],.sl .full [],.str [],.bool false,.int .i64 0]] 1 _ _ _ _ _ _ _ _ rfl
 generalize oC L s3=s4 at hw hM
 generalize jY L s3=w at hw hM
 refine pR af ?_
 simp[go_sem]
 refine pR ah ?_
 simp[go_sem]
 refine pR hn ?_
 simp[go_sem]
 refine Fc hw cB ?_
 rintro r I ⟨rfl,rfl⟩ _
 simp[go_sem]
 exact pt (st:=⟨4,nm,[],[],[],w.1,w.2,[],false,0⟩) hM
theorem wS {P:Program} {c:Ctx} {f:FuncId} {bY args cc:List V} {o:Ob} {L:List bR} {s:RS} {v:V} {KV:V->St->Prop} (hc:bN P f cc [rB L s] (λr I=>r=v/\I= [rB L s'])) (hb:xF P f)
  (aa:bP (cP (cH [1] (τ.length+2))) cc (args++bY)) (hn:gA v) (hk:KV v (o::rB L s'::τ)):iZ P c (.fn f bY) args (o::rB L s::τ) KV fx:=by
 refine lV 1 hc hb rfl (JJ _ _ _) aa (λr I h=>⟨_,h.2,JJ _ _ _⟩) ?_
 rintro r o2 ⟨rfl,h2⟩
 obtain rfl:o2=rB L s':=sU h2
 rw[yk hn]
 exact hk
theorem RO {P:Program} {c:Ctx} {n:Nat} {f:FuncId} {bY args cc:List V} {o:Ob} {L:List bR} {s:RS} {v:V} {KV:V->St->Prop} (hc:bN P f cc [rB L s] (λr I=>r=v/\I= [rB L s'])) (hb:xF P f)
  (aa:bP (cP (cH [1] (τ.length+2))) cc (args++bY)) (hn:gA v) (hk:KV v (o::rB L s'::τ)):pf P c ⟨2,n,[],none⟩ 3 (.fn f bY) args (o::rB L s::τ) KV fx:=by
 have ab: ∀(N:Nat) (s:RS),yE (cH [1] N) (rB L s)=rB L s:=λN s=>yW (n:=0) (λ_ h=>absurd h (Nat.not_lt_zero _)) (JJ _ _ _)
 have e:xB [1] (o::rB L s::τ) [rB L s']=o::rB L s'::τ:=by
  simp only[xB,Br,Cr,ahJ,Dr,Bj,Ai,Bh,fO,Ax,ab]
  rfl
 refine LV hc hb [1] sm rfl (λi j q h1 h2=> ?_) aa (.inr ?_) ?_
 .match i with
  |0=>simp at h1 h2;subst h1;subst h2;rw[ab];rfl
  |i+1=>simp at h1
 .rw[e];exact Kp.iN (I:=o::rB L s::τ) (id:=1) (o:=rB L s') (.inl sm)
 .rw[e,yk hn];exact hk
theorem mD {N:Nat} {l l':List V} (h:bP (cP (cH [1] N)) l l'):bP (cP (cH [1] N)) (.ptr 0 0::l) (.ptr 1 0::l'):=⟨.inl rfl,h⟩
theorem DG {N:Nat}:bP (cP (cH [1] N)) [.ptr 0 0] [.ptr 1 0]:=mD trivial
variable {L:List bR}
def DH:ahP:= [65,83]
def Hf:ahP:= [79,70]
def Hg:ahP:= [83,89,83,84,69,77]
def Hh:ahP:= [84,73,77,69]
def Nl:ahP:= [66,79,85,78,68]
def Nn:List ahP:= [JX,JY,JZ,DF]
def qo (L:List bR) (s:RS):Bool:= !(dY L s Nn).isEmpty
def rF (L:List bR):Nat->List bW->RS->List bW×RS
 |0,l,s=>(l,s)
 |n+1,l,s=>
  if s.err=0 then
   if(jX L l.length 8 (qo L s) s).err=0 then
    if dh L [59] (k8 L s).2=true then
     if dh L DH (zP (k8 L s).2)=true\/(cC L (zP (k8 L s).2)).kind=0 then(l++ [(k8 L s).1],zP (k8 L s).2)
     else rF L n (l++ [(k8 L s).1]) (zP (k8 L s).2)
    else(l++ [(k8 L s).1],(k8 L s).2)
   else(l,jX L l.length 8 (qo L s) s)
  else(l,s)
def zl (L:List bR) (s:RS):RS:=yG L Hh (yG L Hg (yG L Hf (zP s)))
def sS (L:List bR) (s:RS):(Int×Int)×RS:=
 if dh L DH s=true then
  if dh L Nl (zl L s)=true then((2,(gN L (zP (zl L s))).1),(gN L (zP (zl L s))).2)
  else((1,(gN L (zl L s)).1),(gN L (zl L s)).2)
 else((0,0),s)
def oF (L:List bR) (s:RS):RS:=if s.err=0/\(cC L s).kind≠0 then ix 13 (cC L s).place s else s
def zm:RS:=⟨0,0,0,0⟩
def sV:dR:=⟨0,0,[]⟩
def J0 (L:List bR):dR×Int×Int:=
 let x:=rF L 9 [] zm
 let a:=sS L x.2
 let e:=oF L a.2
 if e.err=0 then(⟨a.1.1,a.1.2,x.1⟩,0,0)else(sV,e.place,e.err)
def rG (s:ahP):dR×Int×Int:=if(jC s).2=0 then J0 (jC s).1 else(sV,0,(jC s).2)
theorem RP (hL:eO L): ∀(n:Nat) (l:List bW) (s:RS),dj L s->s.bZ=0->UI L s (rF L n l s).2
 |0,_,_,h,_=>UI.refl h
 |n+1,l,s,h,ho=>by
  unfold rF
  split
  .split
   .have h1:=Nk hL h ho
    split
    .have h2:=h1.trans (yY hL h1.cz ‹_›)
     split
     .exact h2
     .exact h2.trans (RP hL n _ _ h2.cz (h2.bZ.trans ho))
    .exact h1
   .exact sQ h
  .exact UI.refl h
theorem RQ (hL:eO L) {s:RS} (h:dj L s) (hi:dh L DH s):UI L s (zl L s):=by
 unfold zl
 have h1:=yY hL h hi
 have h2:=h1.trans (yK hL Hf h1.cz)
 have h3:=h2.trans (yK hL Hg h2.cz)
 exact h3.trans (yK hL Hh h3.cz)
theorem RU (hL:eO L) {s:RS} (h:dj L s):UI L s (sS L s).2:=by
 unfold sS
 split
 .rename_i hi
  have h1:=RQ hL h hi
  split
  .have h2:=h1.trans (yY hL h1.cz ‹_›)
   exact h2.trans (M5 hL h2.cz)
  .exact h1.trans (M5 hL h1.cz)
 grind[UI.refl]
def DI (x:dR×Int×Int):V:= .cy [.agg x.1.row,.int .i64 x.2.1,.int .i64 x.2.2]
theorem Np {g:Tag} {l:dR} {p:Int} {M:dR×Int×Int} (h:(l,p,e)=M):cw (some (.cy [.agg [.int .i64 l.mode,.int .i64 l.n,.sl g (l.stmts.map bW.row)],.int .i64 p,.int .i64 e])) 0 (λr I=>r=DI M/\I= []) τ:=by
 subst h
 exact zX (r:= .cy [.agg [.int .i64 l.mode,.int .i64 l.n,.sl .ro (l.stmts.map bW.row)],.int .i64 p,.int .i64 e]) (yZ ⟨wT ⟨zF rfl,zF rfl,zW,tV⟩,xZ rfl,xZ rfl,tV⟩) (by trivial)
def k9 (m n:Int) (l:List bW):Ob:= .box [.int .i64 m,.int .i64 n,.sl (.app 3) (l.map bW.row)]
def qp:Ob:= .box [.int .i64 0,.int .i64 0,.sl .full []]
theorem xS2 (s:ahP) (hl:s.length<=maxLen):Pure prog 26 [.str s] (DI (rG s)):=by
 generalize hM:rG s=M
 unfold rG at hM
 have ah:=wn2 s hl
 have cN:=RN (s:=s)
 generalize jC s=x at ah cN hM
 obtain⟨L,e⟩:=x
 simp only at cN hM
 refine iV 0 func26 ntmps26 results26 λc hc hb=> ?_
 by_cases qe:e=0
 rotate_left
 .rw[ahf qe]at hM
  have ar:(e !=0)=true:=by grind
  refine zA ?_
  simp[go_sem]
  refine pC ah ?_
  simp[go_sem,vU,ar]
  exact Np (l:=sV) hM
 obtain⟨_,hL,hG,aE,aF⟩:=cN qe
 rw[ahg qe]at hM
 have ar:(e !=0)=false:=by grind
 have h0:dj L zm:=⟨by simpa,dC⟩
 unfold J0 at hM
 obtain⟨X,hX⟩:=eX (rF L 9 [] zm)
 rw[hX]at hM
 refine zN (zA ?_)
 simp[go_sem]
 refine zN (zA ?_)
 simp[go_sem]
 refine pC ah ?_
 simp[go_sem,vU]
 refine zN (zA ?_)
 simp[go_sem,ar]
 refine zN (zA ?_)
 simp[go_sem]
 refine zN (zA ?_)
 simp[go_sem]
 refine CC 2 2 15 _ dC rfl rfl ?_
 simp only[Bz,Ch]
 refine nI (S:=List bW×RS) [2,7,8] (λ_=> [.ptr 0 0,.ptr 1 0,.ptr 2 0]) (λu=> [qp,rB L u.2,k9 0 0 u.1,.app u.1.length 15]) (λu=>dj L u.2/\u.2.bZ=0/\u=X) hc hb ?_ ?_
 .refine y4 ?_
  refine zI (S:=List bW×RS) [2,7,8] (λ_=> [.ptr 0 0,.ptr 1 0,.ptr 2 0]) (λu=> [qp,rB L u.2,k9 0 0 u.1,.app u.1.length 15]) (λu=>9 - u.1.length) (λu=>u.1.length<=8/\dj L u.2/\u.2.bZ=0/\rF L (9 - u.1.length) u.1 u.2=X) hc hb ([],zm) (by trivial) ?_ ?_
  .exact cd 4 (by rfl) rfl (by rfl) dC (zD (by rfl) rfl)
  rintro⟨l,s1⟩ ⟨aB,hs,ho,hinv⟩
  simp only at aB hs ho hinv
  rw[show 9 - l.length=(8 - l.length)+1 by omega,rF]at hinv
  by_cases q1:s1.err=0
  rotate_left
  .rw[ahf q1]at hinv
   have ab:(s1.err==0)=false:=by grind
   refine zA ?_
   simp[go_sem,rB,ab]
   exact zH (l,s1) ⟨(by grind),cd 4 (by rfl) rfl (by rfl) dC (zD (by rfl) rfl)⟩
  have ab:(s1.err==0)=true:=by grind
  rw[ahg q1]at hinv
  have ae:=zh L hL s1 hs Nn dC
  have aa:=Hc L hL s1 hs l.length 8 (qo L s1)
  have ao:=uw (L:=L) (n:=l.length) (fR:=8) (b:=qo L s1) (s:=s1)
  have ai:=sQ (L:=L) (n:=l.length) (fR:=8) (b:=qo L s1) hs
  unfold qo at aa ao ai hinv
  generalize dY L s1 Nn=an at ae aa ao ai hinv
  generalize jX L l.length 8 (!an.isEmpty) s1=m at aa ao ai hinv
  by_cases q2:m.err=0
  rotate_left
  .rw[ahf q2]at hinv
   have ad:(m.err==0)=false:=by grind
   rw[ad]at aa
   refine zA ?_
   simp[go_sem,rB,ab]
   refine wS ae cB (mD ⟨zK,tV⟩) rfl ?_
   simp[go_sem,k9]
   refine wS aa cB (mD ⟨zC rfl,zC rfl,zC rfl,tV⟩) rfl ?_
   simp[go_sem,rB]
   exact zH (l,m) ⟨⟨ai.cz,ai.bZ.trans ho,hinv⟩,cd 4 (by rfl) rfl (by rfl) dC (zD (by rfl) rfl)⟩
  have ad:(m.err==0)=true:=by grind
  rw[ad]at aa
  obtain⟨_,aG,rfl⟩:=ao q2
  rw[ahg q2]at hinv
  have au:=wl8 L hL m hs ho
  have aq:=Nk hL hs ho
  generalize k8 L m=x at au aq hinv
  obtain⟨st,s2⟩:=x
  simp only at aq hinv
  have aj:=aq.cz
  have aC:=aq.bZ.trans ho
  by_cases q3:dh L [59] s2=true
  rotate_left
  .have q3:dh L [59] s2=false:=by grind
   rw[ahf om]at hinv
   refine zA ?_
   simp[go_sem,rB,ab]
   refine wS ae cB (mD ⟨zK,tV⟩) rfl ?_
   simp[go_sem,k9]
   refine wS aa cB (mD ⟨zC rfl,zC rfl,zC rfl,tV⟩) rfl ?_
   simp[go_sem]
   refine wH [(3,3)] 2 4 sm (by rfl) kR ?_
   simp[go_sem]
   refine RO au cB DG (Hd _) ?_
   simp[go_sem]
   refine zJ ⟨om,zY rfl⟩ ?_
   simp[go_sem]
   refine wS (wO L hL s2 aj _ q3) cB (mD ⟨zC rfl,tV⟩) rfl ?_
   simp[go_sem,rB]
   exact zH (l++ [st],s2) ⟨(by grind),aM 4 (by rfl) (zD (by rfl) rfl)⟩
  rw[ahg q3]at hinv
  have av:=aj.next hL q3
  have a1:=jg L hL (zP s2) av DH
  have af:=mY L hL (zP s2) av
  generalize dh L DH (zP s2)=ba at a1 hinv
  generalize cC L (zP s2)=tk at af hinv
  refine zA ?_
  simp[go_sem,rB,ab]
  refine wS ae cB (mD ⟨zK,tV⟩) rfl ?_
  simp[go_sem,k9]
  refine wS aa cB (mD ⟨zC rfl,zC rfl,zC rfl,tV⟩) rfl ?_
  simp[go_sem]
  refine wH [(3,3)] 2 4 sm (by rfl) kR ?_
  simp[go_sem]
  refine RO au cB DG (Hd _) ?_
  simp[go_sem]
  refine zJ ⟨om,zY rfl⟩ ?_
  simp[go_sem]
  refine wS (xO L hL s2 aj _ q3) cB (mD ⟨zC rfl,tV⟩) rfl ?_
  simp[go_sem]
  refine wS a1 cB (mD ⟨zC rfl,tV⟩) rfl ?_
  refine(A6 ba).elim (λq4=> ?_) (λq4=> ?_)
  .rw[ahg (.inl q4)]at hinv
   simp[go_sem,q4,rB]
   exact zH (l++ [st],zP s2) ⟨(by trivial),aM 4 (by rfl) (zD (by rfl) rfl)⟩
  simp[go_sem,q4]
  refine wS af cB DG rfl ?_
  by_cases q5:tk.kind=0
  .have aw:(tk.kind==0)=true:=by grind
   rw[ahg (.inr q5)]at hinv
   simp[go_sem,aw,rB]
   exact zH (l++ [st],zP s2) ⟨(by trivial),aM 4 (by rfl) (zD (by rfl) rfl)⟩
  .have aw:(tk.kind==0)=false:=by grind
   rw[ahf (by grind)]at hinv
   simp[go_sem,aw,rB]
   refine zH (l++ [st],zP s2) ⟨by grind,⟨by grind,av,aC,by grind⟩,aM 4 (by rfl) (zD (by rfl) rfl)⟩
 .rintro⟨l,s1⟩ ⟨hs,ho,aD⟩
  simp only at hs ho
  rw[<-aD]at hM
  simp only at hM
  have ax:=RU hL hs
  refine nI (S:=(Int×Int)×RS) [2,7,8] (λ_=> [.ptr 0 0,.ptr 1 0,.ptr 2 0]) (λu=> [qp,rB L u.2,k9 u.1.1 u.1.2 l,.app l.length 15]) (λu=>u=sS L s1) hc hb ?_ ?_
  .obtain⟨A,hA⟩:=eX (sS L s1)
   rw[hA]
   unfold sS zl at hA
   by_cases q1:dh L DH s1=true
   rotate_left
   .have q1:dh L DH s1=false:=by grind
    rw[ahf om]at hA
    refine zA ?_
    simp[go_sem]
    refine wS (wO L hL s1 hs _ q1) cB (mD ⟨zC rfl,tV⟩) rfl ?_
    simp[go_sem]
    exact zH ((0,0),s1) ⟨hA,cd 4 (by rfl) rfl (by rfl) dC (zD (by rfl) rfl)⟩
   rw[ahg q1]at hA
   have a6:=hs.next hL q1
   have a7:=k6 L hL _ a6 Hf
   have ay:=uq hL (w:=Hf) a6
   generalize yG L Hf (zP s1)=u1 at a7 ay hA
   have a8:=k6 L hL _ ay Hg
   have az:=uq hL (w:=Hg) ay
   generalize yG L Hg u1=u2 at a8 az hA
   have aA:=k6 L hL _ az Hh
   have ak:=uq hL (w:=Hh) az
   generalize yG L Hh u2=u3 at aA ak hA
   refine zA ?_
   simp[go_sem]
   refine wS (xO L hL s1 hs _ q1) cB (mD ⟨zC rfl,tV⟩) rfl ?_
   simp[go_sem]
   refine wS a7 cB (mD ⟨zC rfl,tV⟩) rfl ?_
   simp[go_sem]
   refine wS a8 cB (mD ⟨zC rfl,tV⟩) rfl ?_
   simp[go_sem]
   refine wS aA cB (mD ⟨zC rfl,tV⟩) rfl ?_
   simp[go_sem,k9]
   by_cases q2:dh L Nl u3=true
   .rw[ahg q2]at hA
    have al:=Fl L hL _ (ak.next hL q2)
    generalize gN L (zP u3)=nn at al hA
    refine wS (xO L hL u3 ak _ q2) cB (mD ⟨zC rfl,tV⟩) rfl ?_
    simp[go_sem]
    refine wS al cB DG rfl ?_
    simp[go_sem]
    exact zH ((2,nn.1),nn.2) ⟨hA,cd 4 (by rfl) rfl (by rfl) dC (zD (by rfl) rfl)⟩
   .have q2:dh L Nl u3=false:=by grind
    rw[ahf om]at hA
    have al:=Fl L hL _ ak
    generalize gN L u3=nn at al hA
    refine wS (wO L hL u3 ak _ q2) cB (mD ⟨zC rfl,tV⟩) rfl ?_
    simp[go_sem]
    refine wS al cB DG rfl ?_
    simp[go_sem]
    exact zH ((1,nn.1),nn.2) ⟨hA,cd 4 (by rfl) rfl (by rfl) dC (zD (by rfl) rfl)⟩
  .rintro _ rfl
   generalize sS L s1=A at ax hM
   obtain⟨⟨m,n⟩,s2⟩:=A
   simp only at ax hM
   have aj:=ax.cz
   refine nI (S:=RS) [2,7,8] (λ_=> [.ptr 0 0,.ptr 1 0,.ptr 2 0]) (λu=> [qp,rB L u,k9 m n l,.app l.length 15]) (λu=>u=oF L s2) hc hb ?_ ?_
   .have af:=mY L hL s2 aj
    have hf:=zg L s2 13 (cC L s2).place
    obtain⟨E,hE⟩:=eX (oF L s2)
    rw[hE]
    unfold oF at hE
    generalize cC L s2=tk at af hf hE
    generalize ix 13 tk.place s2=f at hf hE
    refine zA ?_
    simp[go_sem,rB]
    by_cases q1:s2.err=0
    rotate_left
    .have ab:(s2.err==0)=false:=by grind
     rw[ahf om]at hE
     simp[go_sem,ab]
     exact zH s2 ⟨hE,cd 4 (by rfl) rfl (by rfl) dC (zD (by rfl) rfl)⟩
    have ab:(s2.err==0)=true:=by grind
    simp[go_sem,ab]
    refine wS af cB DG rfl ?_
    by_cases q2:tk.kind=0
    .have ad:(tk.kind !=0)=false:=by grind
     rw[ahf om]at hE
     simp[go_sem,ad,rB]
     exact zH s2 ⟨hE,cd 4 (by rfl) rfl (by rfl) dC (zD (by rfl) rfl)⟩
    .have ad:(tk.kind !=0)=true:=by grind
     rw[ahg ⟨q1,q2⟩]at hE
     simp[go_sem,ad]
     refine wS af cB DG rfl ?_
     simp[go_sem]
     refine wS hf cB (mD ⟨zC rfl,zC rfl,tV⟩) rfl ?_
     simp[go_sem,rB]
     exact zH f ⟨hE,cd 4 (by rfl) rfl (by rfl) dC (zD (by rfl) rfl)⟩
   .rintro _ rfl
    generalize oF L s2=E at hM
    refine zA ?_
    simp[go_sem,rB]
    by_cases q1:E.err=0
    .have ab:(E.err !=0)=false:=by grind
     rw[ahg q1]at hM
     simp[go_sem,ab,qp,k9]
     exact Np (l:=⟨m,n,l⟩) hM
    .have ab:(E.err !=0)=true:=by grind
     rw[ahf q1]at hM
     simp[go_sem,ab,qp,k9]
     refine wH [(9,3)] 1 4 sm (by rfl) kR ?_
     simp[go_sem]
     exact Np (l:=sV) hM
theorem RV (s:ahP) (hl:s.length<=maxLen):Pure prog 9 [.str s] (.agg (rG s).1.row):=by
 have h:=xS2 s hl
 generalize rG s=x at h⊢
 refine iW 0 func9 ntmps9 results9 λc hc hb=>zM ?_
 simp[go_sem]
 refine pC h ?_
 simp[go_sem,DI]
 exact zX (zC rfl) sm
variable {L:List bR}
structure ja (e:bJ):Prop where
 dU:Good e
 wide:fp e
 size:mb e<=4000
structure kO (st:bW):Prop where
 kind:dp st.kind
 table:st.table.length<=1048576
 items:st.items.length<=12/\ ∀x∈st.items,dp x.kind/\ja x.e
 rows:st.rows.length<=20/\ ∀r∈st.rows,r.length<=12/\ ∀e∈r,ja e
 cD:st.cD.length<=12/\ ∀x∈st.cD,x.name.length<=1048576/\ja x.e
 cE:ja st.cE
 order:st.order.length<=1048576
 bQ:dp st.bQ
structure ki (l:dR):Prop where
 mode:dp l.mode
 n:dp l.n
 stmts:l.stmts.length<=12/\ ∀st∈l.stmts,kO st
theorem RW:ki sV:=⟨dC,dC,dC,λst aa=>by trivial⟩
structure ES (s:RS) (e:bJ):Prop where
 dU:Good e
 wide:fp e
 size:s.err=0->mb e<=2001
theorem ES.mono {s:RS} {e:bJ} (h:ES s e) (u:UI L s s'):ES s' e:=⟨h.dU,h.wide,λq=>h.size (u.err q)⟩
theorem ES.ok {s:RS} {e:bJ} (h:ES s e) (hs:s.err=0):ja e:=⟨h.dU,h.wide,by have:=h.size hs;omega⟩
theorem Hi (s:RS):ES s cT:=⟨RA,Rn rfl,λ_=>dC⟩
theorem Hj (hL:eO L) (hG:gC L) (h2:L.length<=2001) {s:RS} (hs:dj L s) (ho:s.bZ=0):ES (iO L s).2 (iO L s).1:=by
 have h:=M1 hL hs ho
 have k:=M4 hL hG hs ho
 exact⟨k.dU,h.wide,λq=>by have:=k.size q;have:=h.cz.at_;omega⟩
theorem Nq (hG:gC L) {s:RS} (hs:dj L s):dp (gN L s).1:=by
 unfold gN dp
 split
 .have:=hG.num _ (Fp hs);omega
 .simp
structure SS (s:RS) (st:bW):Prop where
 kind:dp st.kind
 table:st.table.length<=1048576
 items:st.items.length<=12/\ ∀x∈st.items,dp x.kind/\ES s x.e
 rows:st.rows.length<=20/\ ∀r∈st.rows,r.length<=12/\ ∀e∈r,ES s e
 cD:st.cD.length<=12/\ ∀x∈st.cD,x.name.length<=1048576/\ES s x.e
 cE:ES s st.cE
 order:st.order.length<=1048576
 bQ:dp st.bQ
theorem SS.mono {s:RS} (h:SS s st) (u:UI L s s'):SS s' st:=
 ⟨h.kind,h.table,⟨h.items.1,λx hx=>⟨(h.items.2 x hx).1,(h.items.2 x hx).2.mono u⟩⟩,⟨h.rows.1,λr hr=>⟨(h.rows.2 r hr).1,λe he=>((h.rows.2 r hr).2 e he).mono u⟩⟩,⟨h.cD.1,λx hx=>⟨(h.cD.2 x hx).1,(h.cD.2 x hx).2.mono u⟩⟩,h.cE.mono u,h.order,h.bQ⟩
theorem SS.ok {s:RS} (h:SS s st) (hs:s.err=0):kO st:=
 ⟨h.kind,h.table,⟨h.items.1,λx hx=>⟨(h.items.2 x hx).1,(h.items.2 x hx).2.ok hs⟩⟩,⟨h.rows.1,λr hr=>⟨(h.rows.2 r hr).1,λe he=>((h.rows.2 r hr).2 e he).ok hs⟩⟩,⟨h.cD.1,λx hx=>⟨(h.cD.2 x hx).1,(h.cD.2 x hx).2.ok hs⟩⟩,h.cE.ok hs,h.order,h.bQ⟩
theorem xU1 {s:RS} (h:(oF L s).err=0):s.err=0:=by
 grind[oF]
section
variable (hL:eO L) (hG:gC L) (h2:L.length<=2001)
include hL hG h2
theorem xV7 {s:RS} (h:dj L s) (ho:s.bZ=0):dp (oD L s).1.kind/\ES (oD L s).2 (oD L s).1.e:=by
 unfold oD
 split
 .grind[dp,Hi]
 split
 .rename_i hi
  have h1:=yY hL h hi
  have h3:=h1.trans (yK hL [40] h1.cz)
  have hx:=Hj hL hG h2 h3.cz (h3.bZ.trans ho)
  exact⟨by grind[dp],hx.mono (yK hL [41] (h3.trans (ux hL h3.cz (h3.bZ.trans ho))).cz)⟩
 grind[dp,Hj]
theorem RX: ∀(n:Nat) (l:List cM) (s:RS),dj L s->s.bZ=0->l.length<=6->(∀x∈l,dp x.kind/\ES s x.e)->
  (sR L n l s).1.length<=12/\ ∀x∈(sR L n l s).1,dp x.kind/\ES (sR L n l s).2 x.e
 |0,l,s,_,_,hl,hx=>(by grind[sR])
 |n+1,l,s,h,ho,hl,hx=>by
  unfold sR
  split
  .rename_i he
   obtain⟨_,h6,_⟩:=uw he
   have hu:=M7 hL h ho
   have hi:=xV7 hL hG h2 h ho
   have ab: ∀x∈l++ [(oD L s).1],dp x.kind/\ES (oD L s).2 x.e:=λx aa=>by
    rw[Al]at aa
    rcases aa with aa|aa
    .exact⟨(hx x aa).1,(hx x aa).2.mono hu⟩
    grind
   split
   .have hn:=yY hL hu.cz ‹_›
    exact RX n _ _ hn.cz ((hu.trans hn).bZ.trans ho) (by grind) (λx aa=>⟨(by grind),(ab x aa).2.mono hn⟩)
   grind
  .exact⟨by grind,λx aa=>⟨(hx x aa).1,(hx x aa).2.mono (sQ h)⟩⟩
theorem xG9 {s:RS} (h:dj L s) (ho:s.bZ=0):(p9 L s).1.length<=12/\ ∀x∈(p9 L s).1,dp x.kind/\ES (p9 L s).2 x.e:=by
 unfold p9
 split
 .simp[dp,Hi]
 grind[RX]
theorem Nr {s:RS} (h:dj L s) (ho:s.bZ=0):ES (oC L s) (jY L s).2:=by
 unfold oC jY
 by_cases q:dh L DA s=true
 .rw[ahg q,ahg q]
  exact Hj hL hG h2 (h.next hL q) ho
 simp_all[Hi]
theorem RY: ∀(n:Nat) (l:List bJ) (s:RS),dj L s->s.bZ=0->l.length<=6->(∀e∈l,ES s e)->
  (fF L n l s).2.1.length<=12/\ ∀e∈(fF L n l s).2.1,ES (fF L n l s).2.2 e
 |0,l,s,_,_,hl,hx=>(by grind[fF])
 |n+1,l,s,h,ho,hl,hx=>by
  unfold fF
  split
  .rename_i he
   obtain⟨_,h6,_⟩:=uw he
   have hu:=ux hL h ho
   have hi:=Hj hL hG h2 h ho
   have ab: ∀x∈l++ [(iO L s).1],ES (iO L s).2 x:=λx aa=>by
    rw[Al]at aa
    rcases aa with aa|aa
    .exact(hx x aa).mono hu
    grind
   split
   .have hn:=yY hL hu.cz ‹_›
    exact RY n _ _ hn.cz ((hu.trans hn).bZ.trans ho) (by grind) (λx aa=>(ab x aa).mono hn)
   grind
  .exact⟨by grind,λx aa=>(hx x aa).mono (sQ h)⟩
theorem RZ: ∀(n:Nat) (R:List (List bJ)) (s:RS),dj L s->s.bZ=0->R.length<=16->(∀r∈R,r.length<=12/\ ∀e∈r,ES s e)->
  (rD L n R s).1.length<=20/\ ∀r∈(rD L n R s).1,r.length<=12/\ ∀e∈r,ES (rD L n R s).2 e
 |0,R,s,_,_,hl,hx=>(by grind[rD])
 |n+1,R,s,h,ho,hl,hx=>by
  unfold rD
  split
  .rename_i he
   obtain⟨_,h6,_⟩:=uw he
   have aa:=yK hL [40] h
   have hr:=RY hL hG h2 7 [] _ aa.cz (aa.bZ.trans ho) sm sm
   have ab:=aa.trans (Nd hL 7 [] _ aa.cz (aa.bZ.trans ho))
   generalize fF L 7 [] (yG L [40] s)=r at hr ab
   split
   .have ad:=yK hL [41] ab.cz
    have ae: ∀y∈R++ [r.2.1],y.length<=12/\ ∀e∈y,ES (yG L [41] r.2.2) e:=λy hy=>by
     rw[Al]at hy
     rcases hy with hy|hy
     .exact⟨(hx y hy).1,λe he=>((hx y hy).2 e he).mono (ab.trans ad)⟩
     .simp only[Af,Be,aht]at hy
      subst hy
      exact⟨hr.1,λe he=>(hr.2 e he).mono ad⟩
    split
    .have hn:=yY hL ad.cz ‹_›
     exact RZ n _ _ hn.cz (((ab.trans ad).trans hn).bZ.trans ho) (by grind) (λy hy=>⟨(ae y hy).1,λe he=>((ae y hy).2 e he).mono hn⟩)
    grind
   .exact⟨by grind,λy hy=>⟨(hx y hy).1,λe he=>((hx y hy).2 e he).mono ab⟩⟩
  .exact⟨by grind,λy hy=>⟨(hx y hy).1,λe he=>((hx y hy).2 e he).mono (sQ h)⟩⟩
theorem R1: ∀(n:Nat) (l:List cm) (s:RS),dj L s->s.bZ=0->l.length<=6->(∀x∈l,x.name.length<=1048576/\ES s x.e)->
  (qm L n l s).2.1.length<=12/\ ∀x∈(qm L n l s).2.1,x.name.length<=1048576/\ES (qm L n l s).2.2 x.e
 |0,l,s,_,_,hl,hx=>(by grind[qm])
 |n+1,l,s,h,ho,hl,hx=>by
  unfold qm
  split
  .rename_i he
   obtain⟨_,h6,_⟩:=uw he
   have af:=vR hG h
   have ab:=nf hL h
   have aa:=ab.trans (yK hL [61] ab.cz)
   have hi:=Hj hL hG h2 aa.cz (aa.bZ.trans ho)
   have hu:=aa.trans (ux hL aa.cz (aa.bZ.trans ho))
   generalize iO L (yG L [61] (xD L s).2)=x at hi hu
   have ad: ∀y∈l++ [⟨(xD L s).1,x.1⟩],y.name.length<=1048576/\ES x.2 y.e:=λy hy=>by
    rw[Al]at hy
    rcases hy with hy|hy
    .exact⟨(hx y hy).1,(hx y hy).2.mono hu⟩
    grind
   split
   .have hn:=yY hL hu.cz ‹_›
    exact R1 n _ _ hn.cz ((hu.trans hn).bZ.trans ho) (by grind) (λy hy=>⟨(ad y hy).1,(ad y hy).2.mono hn⟩)
   grind
  .exact⟨by grind,λx ae=>⟨(hx x ae).1,(hx x ae).2.mono (sQ h)⟩⟩
theorem xc3 {s:RS} (h:dj L s) (ho:s.bZ=0):SS (uy L s).2 (uy L s).1:=by
 unfold uy
 simp only
 have hx:=xG9 hL hG h2 h ho
 have h1:=Nc hL h ho
 generalize p9 L s=x at hx h1
 have u2:=yK hL qf h1.cz
 have aa:=vR hG (h1.trans u2).cz
 have u3:=nf hL (h1.trans u2).cz
 generalize xD L (yG L qf x.2)=n at aa u3
 have hw:=Nr hL hG h2 u3.cz ((h1.trans (u2.trans u3)).bZ.trans ho)
 have u4:=Fu hL u3.cz ((h1.trans (u2.trans u3)).bZ.trans ho)
 have u5:=Nb hL u4.cz
 have ab:(zj L (oC L n.2)).1.1.length<=1048576:=by
  unfold zj
  split
  .rename_i hi
   have v1:=yY hL u4.cz hi
   have v2:=v1.trans (yK hL qh v1.cz)
   split
   .exact vR hG v2.cz
   split
   .exact vR hG v2.cz
   .exact vR hG v2.cz
  simp
 generalize zj L (oC L n.2)=o at u5 ab
 have u6:=RG hL u5.cz
 have ad:dp (zk L o.2).1:=by
  unfold zk
  split
  .exact Nq hG (u5.cz.next hL ‹_›)
  grind[dp]
 generalize zk L o.2=l at u6 ad
 have u:=u2.trans (u3.trans (u4.trans (u5.trans u6)))
 exact⟨by grind[dp],aa,⟨hx.1,λx ae=>⟨(by grind),(hx.2 x ae).2.mono u⟩⟩,sm,sm,hw.mono (u5.trans u6),ab,ad⟩
theorem yY3 {s:RS} (h:dj L s) (ho:s.bZ=0):SS (uz L s).2 (uz L s).1:=by
 unfold uz
 have u1:=yK hL DC h
 have aa:=vR hG u1.cz
 have u2:=u1.trans (nf hL u1.cz)
 generalize xD L (yG L DC s)=n at aa u2
 have u3:=u2.trans (yK hL Fv u2.cz)
 have hr:=RZ hL hG h2 17 [] _ u3.cz (u3.bZ.trans ho) sm sm
 exact⟨by grind[dp],aa,sm,hr,sm,Hi _,sm,by grind[dp]⟩
theorem xe0 {s:RS} (h:dj L s) (ho:s.bZ=0):SS (uA L s).2 (uA L s).1:=by
 unfold uA
 have aa:=vR hG h
 have u2:=nf hL h
 generalize xD L s=n at aa u2
 have u3:=u2.trans (yK hL oE u2.cz)
 have hr:=R1 hL hG h2 7 [] _ u3.cz (u3.bZ.trans ho) sm sm
 have u4:=u3.trans (Nf hL 7 [] _ u3.cz (u3.bZ.trans ho))
 simp only
 generalize qm L 7 [] (yG L oE n.2)=r at hr u4
 split
 .have hw:=Nr hL hG h2 u4.cz (u4.bZ.trans ho)
  have u5:=Fu hL u4.cz (u4.bZ.trans ho)
  exact⟨by grind[dp],aa,sm,sm,⟨hr.1,λx hx=>⟨(by grind),(hr.2 x hx).2.mono u5⟩⟩,hw,sm,by grind[dp]⟩
 .exact⟨by grind[dp],aa,sm,sm,hr,Hi _,sm,by grind[dp]⟩
theorem wa3 {s:RS} (h:dj L s) (ho:s.bZ=0):SS (k8 L s).2 (k8 L s).1:=by
 unfold k8
 split
 .exact xc3 hL hG h2 (h.next hL ‹_›) ho
 split
 .exact yY3 hL hG h2 (h.next hL ‹_›) ho
 split
 .exact xe0 hL hG h2 (h.next hL ‹_›) ho
 .have u1:=yK hL DF h
  have u2:=u1.trans (yK hL qf u1.cz)
  have aa:=vR hG u2.cz
  have u3:=u2.trans (nf hL u2.cz)
  exact⟨by grind[dp],aa,sm,sm,sm,Nr hL hG h2 u3.cz (u3.bZ.trans ho),sm,by grind[dp]⟩
theorem R2: ∀(n:Nat) (l:List bW) (s:RS),dj L s->s.bZ=0->l.length<=8->(∀x∈l,SS s x)->
  (rF L n l s).1.length<=8/\ ∀x∈(rF L n l s).1,SS (rF L n l s).2 x
 |0,l,s,_,_,hl,hx=>⟨hl,hx⟩
 |n+1,l,s,h,ho,hl,hx=>by
  unfold rF
  split
  .split
   .rename_i he
    obtain⟨_,h8,_⟩:=uw he
    have hu:=Nk hL h ho
    have hi:=wa3 hL hG h2 h ho
    have ad: ∀x∈l++ [(k8 L s).1],SS (k8 L s).2 x:=λx aa=>by
     rw[Al]at aa
     rcases aa with aa|aa
     .exact(hx x aa).mono hu
     .simp only[Af,Be,aht]at aa
      subst aa
      exact hi
    have ab:(l++ [(k8 L s).1]).length<=8:=by simp;omega
    split
    .have hn:=yY hL hu.cz ‹_›
     have ae:=λx aa=>(ad x aa).mono hn
     split
     .exact⟨ab,ae⟩
     .exact R2 n _ _ hn.cz ((hu.trans hn).bZ.trans ho) ab ae
    .exact⟨ab,ad⟩
   .exact⟨hl,λx aa=>(hx x aa).mono (sQ h)⟩
  grind
theorem xY2 (h1:1<=L.length):ki (J0 L).1:=by
 have h0:dj L zm:=⟨by simpa,dC⟩
 unfold J0
 simp only
 have hs:=R2 hL hG h2 9 [] zm h0 rfl sm sm
 have hu:=RP hL 9 [] zm h0 rfl
 generalize rF L 9 [] zm=x at hs hu
 have ha:=RU hL hu.cz
 have hm:dp (sS L x.2).1.1/\dp (sS L x.2).1.2:=by
  unfold sS
  split
  .rename_i hi
   have v1:=RQ hL hu.cz hi
   split
   .exact⟨by grind[dp],Nq hG (v1.cz.next hL ‹_›)⟩
   .exact⟨by grind[dp],Nq hG v1.cz⟩
  grind[dp]
 generalize sS L x.2=a at ha hm
 split
 .rename_i he
  have h3:=ha.err (xU1 he)
  exact⟨hm.1,hm.2,by grind,λst aa=>(hs.2 st aa).ok h3⟩
 grind[RW]
end
theorem R3 (s:ahP):ki (rG s).1:=by
 unfold rG
 split
 all_goals simp_all[RN,xY2,RW]
theorem yT4 (l:List bJ) (i:Nat) (h:i<l.length):mC (l.drop i)=mb l[i]+mC (l.drop (i+1)):=by
 rw[A5 h,mC]
theorem yK9 (l:List bJ) (i:Nat) (h:i<l.length):wJ (l.drop i)=max (wZ l[i]) (wJ (l.drop (i+1))):=by
 rw[A5 h,wJ]
theorem Ns (e:bJ):1<=mb e:=by rw[Fo];omega
theorem J4 (e:bJ):1<=wZ e:=by rw[uo];omega
def R4 (e:bJ) (deep n:Int) (r:V) (I:St):Prop:=r= .bool (decide ((wZ e:Int)+deep<=65))/\ ∃m:Int,I= [.box [.int .i64 m]]/\n<=m/\m<=n+mb e
theorem R5: ∀(k:Nat) (e:bJ) (deep n:Int),wZ e<=k->fp e->0<=n->n+mb e<=4096->0<=deep->deep<=1000000->bN prog 201 [.agg e.row,.int .i64 deep,.ptr 0 0] [.box [.int .i64 n]] (R4 e deep n)
 |0,e,_,_,h,_,_,_,_,_=>by have:=J4 e;omega
 |k+1,e,deep,n,h,hw,au,an,av,aw=>by
  have ih:=R5 k
  have ao:=uo e
  have ah:=Fo e
  obtain⟨M,hM⟩:=eX (decide ((wZ e:Int)+deep<=65))
  unfold R4
  rw[hM]
  obtain⟨args,aa⟩:=eX e.args
  have hlen:=hw.len
  have ae:=hw.sub
  rw[aa]at ao ah hlen ae
  have e1:IntKind.i64.wrap (n+1)=n+1:=bX om om
  have e2:IntKind.i64.wrap (deep+1)=deep+1:=bX om om
  obtain⟨sz,aq⟩:=eX (mb e)
  rw[aq]at ah an⊢
  have ret: ∀(b:Bool) (m:Int) (τ:St),b=M->n<=m->m<=n+sz->cw (some (.bool b)) 1 (λr I=>r= .bool M/\ ∃m:Int,I= [.box [.int .i64 m]]/\n<=m/\m<=n+sz) (.box [.int .i64 m]::τ):=λb m τ h1 h2 h3=>by
   subst h1
   exact yX 1 rfl rfl (by rfl) (A7 _) (zC rfl) ⟨rfl,m,rfl,h2,h3⟩
  refine iV 1 func201 ntmps201 results201 λc hc hb=> ?_
  refine zA ?_
  simp[go_sem,e1]
  by_cases q1:64<deep
  .have af:decide (64<deep)=true:=ahi q1
   have hM:false=M:=by rw[<-hM];exact(ahh om).symm
   simp[go_sem,af]
   exact ret _ _ _ hM om om
  have af:decide (64<deep)=false:=ahh q1
  have ar:decide (4096<n+1)=false:=ahh om
  simp[go_sem,af,ar,aa]
  refine zI (S:=Nat×Int) [1,2,23,24,25] (λu=> [.int .i64 deep,.ptr 0 0,.sl .ro (args.map bJ.row),.int .i64 args.length,.int .i64 (u.1:Int)]) (λu=> [.box [.int .i64 u.2]]) (λu=>args.length - u.1)
   (λu=>u.1<=args.length/\n<=u.2/\u.2+mC (args.drop u.1)<=n+sz/\decide ((wJ (args.drop u.1):Int)+(deep+1)<=65)=M) hc hb (0,n+1)
   ⟨A4 _,by simp only;omega,by simp only[Bj];omega,by rw[<-hM,Bj];exact decide_eq_decide.2 om⟩ ?_ ?_
  .exact aN 1 (by rfl)
  rintro⟨i,m⟩ ⟨hi,ai,ad,hinv⟩
  simp only at hi ai ad hinv
  by_cases q:i<args.length
  rotate_left
  .rw[A9 om]at hinv ad
   have hinv:true=M:=by rw[<-hinv,wJ];exact(ahi om).symm
   refine zA ?_
   simp[go_sem,q]
   exact ret _ _ _ hinv ai (by rw[mC]at ad;omega)
  have ei:=zQ q om
  have aj:=yT4 args i q
  have ak:=yK9 args i q
  obtain⟨x,hx⟩:=eX (args[i])
  have al:x∈args:=hx▸A8 q
  have ax:=CR args x al
  rw[hx]at aj ak
  rw[aj]at ad
  rw[ak]at hinv
  have ab:=ih x (deep+1) m om (ae x al) om om om om
  by_cases q3:(wZ x:Int)+(deep+1)<=65
  .refine zA ?_
   simp[go_sem,q,hx,e2]
   refine lV 0 ab cB rfl (by rfl) ⟨.inl (by simp[go_sem,dF,dK,de,di]),zC rfl,.inl rfl,tV⟩ (λr I h=>by
    obtain⟨_,m2,rfl,_⟩:=h
    exact⟨_,rfl,rfl⟩) ?_
   rintro r o2 ⟨rfl,m2,h1,h2,h3⟩
   obtain rfl:o2= .box [.int .i64 m2]:=sU h1
   rw[ahi q3]
   simp[go_sem,ei]
   refine zH (i+1,m2) ⟨by simp only;omega,⟨by simp only;omega,by simp only;omega,by simp only;omega, ?_⟩, ?_⟩
   .rw[<-hinv]
    show decide ((wJ (args.drop (i+1)):Int)+(deep+1)<=65)=_
    exact decide_eq_decide.2 om
   .exact aN 1 (by rfl)
  .have hinv:false=M:=by rw[<-hinv];exact(ahh om).symm
   refine zA ?_
   simp[go_sem,q,hx,e2]
   refine lV 0 ab cB rfl (by rfl) ⟨.inl (by simp[go_sem,dF,dK,de,di]),zC rfl,.inl rfl,tV⟩ (λr I h=>by
    obtain⟨_,m2,rfl,_⟩:=h
    exact⟨_,rfl,rfl⟩) ?_
   rintro r o2 ⟨rfl,m2,h1,h2,h3⟩
   obtain rfl:o2= .box [.int .i64 m2]:=sU h1
   rw[ahh q3]
   simp[go_sem]
   exact ret _ _ _ hinv om om
def J5 (e:bJ):Bool:=e.kind==3&&e.s== [65,78,68]&&e.args.length==2
def sW:Nat->List bJ->List bJ->List bJ
 |0,_,l=>l
 |_+1,[],l=>l
 |n+1,e::q,l=>if J5 e=true then sW n (q++e.args) l else sW n q (l++ [e])
def nK (st:bW):List bJ:=if st.dM=true then sW 4096 [st.cE] []else []
theorem R6 (l:List bJ):eI 6 (l.map bJ.row):=lU λe=>by rw[bJ.bS];rfl
theorem R7 (st:bW):Pure prog 168 [.agg st.row] (.sl .ro ((nK st).map bJ.row)):=by
 generalize hM:nK st=M
 have ret: ∀(r:List bJ) (g:Tag) (I:St),r=M->cw (some (.sl g (r.map bJ.row))) 0 (λr s=>r= .sl .ro (M.map bJ.row)/\s= []) I:=λr g I h=>by subst h;exact zX zK ⟨rfl,rfl⟩
 unfold nK at hM
 refine iV 0 func168 ntmps168 results168 λc hc hb=> ?_
 refine y5 26 dC ?_
 refine zA ?_
 simp[go_sem]
 by_cases hf:st.dM=true
 rotate_left
 .have ad:st.dM=false:=sU hf
  rw[ahf hf]at hM
  simp[go_sem,ad]
  exact ret [] _ _ hM
 rw[ahg hf]at hM
 simp[go_sem,hf]
 refine Yx 4 6 [st.cE.row] dC (R6 [st.cE]) sg ?_
 refine lE 3 6 dC sg ?_
 refine zI (S:=Nat×List bJ×List bJ) [3,4,5,100026] (λu=> [.sl (.app 1) (u.2.2.map bJ.row),.sl (.app 0) (u.2.1.map bJ.row),.int .i64 u.1,.cy []]) (λu=> [.app u.2.1.length 6,.app u.2.2.length 6]) (λu=>4096 - u.1)
  (λu=>u.1<=4096/\u.2.1.length<=1+u.1/\u.2.2.length<=u.1/\sW (4096 - u.1) u.2.1 u.2.2=M) hc hb (0,[st.cE],[]) ⟨A4 _,sm,sm,hM⟩ ?_ ?_
 .exact CA [1,2] dC rfl ⟨by simp[go_sem,yE],by simp[go_sem,yE],tV⟩ ⟨.inl (by simp[go_sem,dF,dK,de,di,cH]),.inl (by simp[go_sem,dF,dK,de,di,cH]),zC rfl,zC rfl,tV⟩
 rintro⟨n,q,l⟩ ⟨hn,ab,ae,hinv⟩
 simp only at hn ab ae hinv
 cases q with
 |nil=>
  have hl:l=M:=by rw[<-hinv];cases h:4096 - n<;>rfl
  refine zA ?_
  simp[go_sem]
  exact ret l _ _ hl
 |cons e q=>
 by_cases af:n<4096
 rotate_left
 .have hl:l=M:=by rw[<-hinv,show 4096 - n=0 by omega];rfl
  have hd:decide ((n:Int)<4096)=false:=ahh om
  refine zA ?_
  simp[go_sem,hd]
  exact ret l _ _ hl
 have hd:decide ((n:Int)<4096)=true:=ahi om
 rw[show 4096 - n=(4096 - (n+1))+1 by omega,sW]at hinv
 have ei:IntKind.i64.wrap ((n:Int)+1)=((n+1:Nat):Int):=by rw[bX om om];omega
 refine zA ?_
 simp[go_sem,hd]
 refine zJ om ?_
 simp[go_sem]
 by_cases hA:J5 e=true
 .rw[ahg hA]at hinv
  have aa:=hA
  unfold J5 at aa
  simp only[Ab,ahm]at aa
  obtain⟨⟨q1,q2⟩,q3⟩:=aa
  simp[go_sem,q1,q2,q3]
  refine zJ ⟨by simp at ab;omega,R6 _⟩ ?_
  simp[go_sem,ei]
  refine zH (n+1,q++e.args,l) ⟨by simp only;omega,⟨by simp only;omega,by simp at ab⊢;omega,by simp only;omega,hinv⟩, ?_⟩
  exact CA [3,1] dC rfl ⟨by simp[go_sem,yE,q3],by simp[go_sem,yE],tV⟩ ⟨.inl (by simp[go_sem,dF,dK,de,di,cH]),.inl (by simp[go_sem,dF,dK,de,di,cH]),zC rfl,zC rfl,tV⟩
 .have aa:(e.kind==3&&e.s== [65,78,68]&&e.args.length==2)=false:=by simpa[J5]using hA
  rw[ahf hA]at hinv
  have key:(e.kind==3)=false\/((e.kind==3)=true/\(e.s== [65,78,68])=false)\/((e.kind==3)=true/\(e.s== [65,78,68])=true/\((e.args.length:Int)==2)=false):=by
   revert aa
   have e3:((e.args.length:Int)==2)=(e.args.length==2):=by
    rw[Db];simp;omega
   rw[e3]
   cases e.kind==3<;>cases e.s== [65,78,68]<;>cases e.args.length==2<;>simp
  refine key.elim (λq1=> ?_) λkey=>key.elim (λq1=> ?_) λq1=> ?_
  all_goals simp[go_sem,q1]
  all_goals refine zJ ⟨om,zY rfl⟩ ?_
  all_goals simp[go_sem,ei]
  all_goals refine zH (n+1,q,l++ [e]) ⟨by simp only;omega,⟨by simp only;omega,by simp at ab⊢;omega,by simp;omega,hinv⟩, ?_⟩
  all_goals exact CA [3,1] dC rfl ⟨by simp[go_sem,yE],by simp[go_sem,yE],tV⟩ ⟨.inl (by simp[go_sem,dF,dK,de,di,cH]),.inl (by simp[go_sem,dF,dK,de,di,cH]),zC rfl,zC rfl,tV⟩
def J6:V:= .cy [.str [],.agg [.int .i64 0,.int .i64 0,.str []],.bool false]
def nM (e:bJ) (name:ahP):Option (ahP×bK):=
 match e.kind==3,e.args with
 |true,[a,b]=>
  if b.kind=2 then(if b.s=name/\a.kind=1/\a.v.kind≠0 then some (JC e.s,a.v)else none)
  else if a.kind=2/\a.s=name/\b.kind=1/\b.v.kind≠0 then some (e.s,b.v)else none
 |_,_=>none
def nj:Option (ahP×bK)->V
 |none=>J6
 |some (s,v)=> .cy [.str s,.agg v.row,.bool true]
theorem R8 (e:bJ) (name:ahP):Pure prog 169 [.agg e.row,.str name] (nj (nM e name)):=by
 generalize hM:nM e name=M
 have no: ∀(I:St),none=M->cw (some J6) 0 (λr s=>r=nj M/\s= []) I:=λI h=>by subst h;exact wR
 have yes: ∀(s:ahP) (v:bK) (I:St),some (s,v)=M->cw (some (.cy [.str s,.agg v.row,.bool true])) 0 (λr s=>r=nj M/\s= []) I:=λs v I h=>by subst h;exact wR
 unfold nM at hM
 refine iW 0 func169 ntmps169 results169 λc hc hb=>zM ?_
 simp[go_sem]
 by_cases q1:e.kind=3
 rotate_left
 .have ab:(e.kind !=3)=true:=sU q1
  have aa:(e.kind==3)=false:=sU q1
  simp only[aa]at hM
  simp[go_sem,ab]
  exact no _ hM
 have ab:(e.kind !=3)=false:=sU q1
 have aa:(e.kind==3)=true:=sU q1
 simp only[aa]at hM
 obtain⟨k,hk⟩:=eX e.kind
 simp[go_sem,ab]
 by_cases q2:e.args.length=2
 rotate_left
 .have ad:((e.args.length:Int) !=2)=true:=by simpa using (show ¬(e.args.length:Int)=2 by omega)
  simp[go_sem,ad]
  refine no _ ?_
  rw[<-hM]
  split
  .rename_i h;rw[h]at q2;exact absurd rfl q2
  .rfl
 have ad:((e.args.length:Int) !=2)=false:=by simpa using (show(e.args.length:Int)=2 by omega)
 simp[go_sem,ad]
 obtain⟨a,b,af⟩: ∃a b,e.args= [a,b]:=by
  match e.args,q2 with
  | [a,b],_=>exact⟨a,b,rfl⟩
 simp only[af]at hM
 refine Yw [(12,3),(13,3)] 1 10 sm kR (by rw[hc];exact A4 _) hb kR rfl (by repeat' (first|exact sF.n9|refine sF.fm ?_ (by simp[iL,jq,cQ,cL]))) (by simp only[Cr,ahJ];exact rfl) (by simp only[Dr,Bj];exact rfl) ?_
 simp[go_sem,af]
 refine⟨by repeat' (first|exact sF.n9|refine sF.fm ?_ (by simp[iL,jq,cQ,cL])), ?_⟩
 by_cases q3:b.kind=2
 .have ae:(b.kind==2)=true:=sU q3
  rw[ahg q3]at hM
  simp[go_sem,ae]
  refine mV [(0,2),(1,2),(3,0),(4,3),(5,3)] 2 sm kR kR ?_
  simp[go_sem]
  refine pD (ZK e.s) ?_
  have q4:(b.kind !=2)=false:=sU q3
  simp[go_sem,q4]
  repeat' (first
   |(refine xE (λq=> ?_) (λq=> ?_)<;>simp[go_sem,q])
   |(refine zU (λq=> ?_) (λq=> ?_)<;>simp[go_sem,q])
   |(refine mV [(2,2),(4,3)] 1 sm kR kR ?_;simp[go_sem]))
  all_goals first|exact no _ (by rw[<-hM];simp_all)|exact yes _ _ _ (by rw[<-hM];simp_all)
 .have ae:(b.kind==2)=false:=sU q3
  rw[ahf q3]at hM
  simp[go_sem,ae]
  repeat' (first
   |(refine xE (λq=> ?_) (λq=> ?_)<;>simp[go_sem,q])
   |(refine zU (λq=> ?_) (λq=> ?_)<;>simp[go_sem,q])
   |(refine mV [(2,2),(4,3)] 1 sm kR kR ?_;simp[go_sem]))
  all_goals first|exact no _ (by rw[<-hM];simp_all)|exact yes _ _ _ (by rw[<-hM];simp_all)
end Go.Proofs.YtplackkccmeioaaGreat
namespace Go.Proofs.YtplackkccmeioaaGreat.R
open Go Go.Vx Go.Proofs.Tryz
set_option maxRecDepth 100000
def gj (l:ahP):V:= .sl .ro (zR l)
theorem zV (l:ahP):(zR l).length=l.length:=by simp[zR]
theorem DJ (l:ahP):eI 1 (zR l):=λr hr=>by
 obtain⟨x,_,rfl⟩:=Ac.1 hr
 rfl
def qu (l:ahP):V:= .sl (.app 0) (zR l)
def qv (l:ahP):St:= [.app l.length 1]
abbrev du:Nat:=1000000000
theorem Nt (b:ahP) (n:Nat) (hb:b.length<=du) (hn:n<=du):bN prog 255 [gj b,.int .i64 n] [] λr s=>r=qu b/\s=qv b:=by
 refine iW 0 func255 ntmps255 results255 λc hc hb=>zM ?_
 simp[go_sem,gj,zV]
 have e1:IntKind.i64.wrap ((b.length:Int)+n)=((b.length+n:Nat):Int):=by rw[bX (by unfold du at*;omega) (by unfold du at*;omega)];omega
 simp[go_sem,e1]
 refine zJ ⟨om,by unfold du at*;omega⟩ ?_
 simp[go_sem,zV]
 refine zJ ⟨by unfold du at*;omega,DJ b⟩ ?_
 simp[go_sem]
 exact ud 1 rfl rfl om (lR rfl) ⟨rfl,rfl⟩
def fj (v:Nat):ahP:=if v<128 then [UInt8.ofNat v]else UInt8.ofNat (v%128+128)::fj (v/128)
termination_by v
decreasing_by omega
theorem Hk {v:Nat} (h:v<128):fj v= [UInt8.ofNat v]:=by rw[fj,ahg h]
theorem J7 {v:Nat} (h: ¬v<128):fj v=UInt8.ofNat (v%128+128)::fj (v/128):=by rw[fj,ahf h]
theorem R9: ∀(k v:Nat),v<128^(k+1)->(fj v).length<=k+1
 |0,v,h=>by rw[Hk om];simp
 |k+1,v,h=>by
  by_cases hv:v<128
  .rw[Hk hv];simp
  .rw[J7 hv,Ak]
   have:=R9 k (v/128) (by rw[C4 om];rwa [ahO]at h)
   omega
theorem Hl {v:Nat} (h:v<18446744073709551616):(fj v).length<=10:=R9 9 v om
structure Nu where
 out:ahP
 v:Nat
theorem dL {n:Int} (h:0<=n) (h2:n<=18446744073709551615):IntKind.u64.wrap n=n:=by
 unfold IntKind.wrap
 simp[IntKind.bits,IntKind.signed]
 omega
theorem Fz (n:Nat):IntKind.u8.wrap (n:Int)=((UInt8.ofNat n).toNat:Int):=by
 unfold IntKind.wrap
 simp[IntKind.bits,IntKind.signed]
theorem wk8:((List.range 256).all λm=>jc .or .u8 (m:Int) 128==((m%128+128:Nat):Int))=true:=by rfl
theorem wr1 (v:Nat):jc .or .u8 (IntKind.u8.wrap (v:Int)) 128=((UInt8.ofNat (v%128+128)).toNat:Int):=by
 have h:=Am.1 wk8 (v%256) (by grind)
 simp_all[Fz];omega
theorem Nv (b:ahP) (v0:Nat) (aa:b.length<=du) (hv:v0<18446744073709551616):bN prog 214 [gj b,.int .u64 v0] [] λr s=>r=qu (b++fj v0)/\s=qv (b++fj v0):=by
 refine iV 0 func214 ntmps214 results214 λc hc hb=> ?_
 refine zA ?_
 simp[go_sem]
 refine Jk (Nt b 10 aa dC) cB (yF rfl) ?_
 rintro r s ⟨rfl,rfl⟩
 simp[go_sem]
 refine zI (S:=Nu) [1,5] (λs=> [.int .u64 s.v,qu s.out]) (λs=>qv s.out) (λs=>s.v) (λs=>s.v<18446744073709551616/\s.out++fj s.v=b++fj v0) hc hb ⟨b,v0⟩ (by grind) ?_ ?_
 .exact cd 1 rfl rfl rfl om (zD (by rfl) rfl)
 rintro⟨out,v⟩ ⟨ab,hs⟩
 simp only at ab hs
 have hlen:out.length<=du+10:=by
  have:=ahj List.length hs
  grind[Hl]
 refine zA ?_
 simp[go_sem,qu,qv]
 refine zU (λh=> ?_) (λh=> ?_)
 .have h: ¬v<128:=by grind
  have u1:=wr1 v
  simp[go_sem,u1]
  refine zJ ⟨zV out,by simp_all[zV,du];omega,zY rfl⟩ ?_
  have e5:(v:Int).fdiv 128=(v:Int)/128:=(by grind)
  simp[go_sem,e5]
  rw[J7 h]at hs
  refine zH ⟨out++ [UInt8.ofNat (v%128+128)],v/128⟩ ⟨by grind,(by grind),cd 1 sm rfl rfl om (zD (by simp[go_sem,zR]) rfl)⟩
 .have h:v<128:=by grind
  simp[go_sem,zV,Fz]
  refine zJ ⟨by grind,zY rfl⟩ ?_
  simp[go_sem]
  rw[Hk h]at hs
  have ad:b.length+(fj v0).length=out.length+1:=by
   have:=ahj List.length hs
   grind
  rw[<-hs]
  exact ud 1 rfl rfl om (lR rfl) (by simp[zR];omega)
theorem wg6 (b t:ahP) (aa:b.length<=du) (ht:t.length<=du):bN prog 260 [gj b,gj t] [] λr s=>r=qu (b++fj t.length++t)/\s=qv (b++fj t.length++t):=by
 refine iW 0 func260 ntmps260 results260 λc hc hb=>zM ?_
 have e1:IntKind.u64.wrap (t.length:Int)=(t.length:Int):=dL om (by grind)
 simp[go_sem,gj,zV,e1]
 refine Jk (Nv b t.length aa (by grind)) cB (yF rfl) ?_
 rintro r s ⟨rfl,rfl⟩
 have ab:=Hl (v:=t.length) (by grind)
 simp[go_sem,qu,qv,zV]
 refine zJ (by simp_all[du,DJ];omega) ?_
 simp[go_sem]
 exact ud 1 rfl rfl om (lR rfl) (by grind[zR])
def ji (n:Int):Nat:=if 0<=n then(2*n).toNat else(-2*n - 1).toNat
theorem Sa {n:Int} (h:dp n):ji n<18446744073709551616:=by
 grind[ji,dp]
theorem Sb (ek:Nat) (es:Option (List Pk)) (a b:Int):mz .shr ek es (.int .i64 a) (.int .u64 b)= .ec (0<=b) (.int .i64 (a.fdiv (2^(min b.toNat 64)))):=rfl
theorem wr6 {x:Int} (h:0<=x) (h2:x<=18446744073709551615):jc .xor .u64 x 0=x:=by
 obtain⟨m,rfl⟩:=Dt h
 show IntKind.u64.wrap ((BitVec.ofInt 64 (m:Int)^^^BitVec.ofInt 64 0).toNat:Int)=m
 have e:BitVec.ofInt 64 (0:Int)=0#64:=rfl
 grind[dL]
theorem wr7 {x:Int} (h:0<=x) (h2:x<=18446744073709551615):jc .xor .u64 x 18446744073709551615=18446744073709551615 - x:=by
 obtain⟨m,rfl⟩:=Dt h
 show IntKind.u64.wrap ((BitVec.ofInt 64 (m:Int)^^^BitVec.ofInt 64 18446744073709551615).toNat:Int)=_
 have e:BitVec.ofInt 64 (18446744073709551615:Int)=BitVec.allOnes 64:=by rfl
 rw[e,BitVec.xor_allOnes,ahs,BitVec.toNat_not,ahw,Cy om]
 grind[dL]
theorem wn9 (n:Int) (hn:dp n):Pure prog 259 [.int .i64 n] (.int .u64 (ji n)):=by
 refine iW 0 func259 ntmps259 results259 λc hc hb=>zM ?_
 unfold dp at hn
 rcases Int.lt_or_le n 0 with h|h
 .have e1:IntKind.u64.wrap n=n+18446744073709551616:=by grind[IntKind.wrap_u64]
  have e2:IntKind.u64.wrap ((n+18446744073709551616)*2)=2*n+18446744073709551616:=by grind[IntKind.wrap_u64]
  have e3:n.fdiv 9223372036854775808= -1:=by grind
  have e4:IntKind.u64.wrap (-1)=18446744073709551615:=by rfl
  have e5:jc .xor .u64 (2*n+18446744073709551616) 18446744073709551615=((ji n:Nat):Int):=by
   rw[wr7 om om,ji,ahf om];omega
  simp[go_sem,e1,e2,Sb,e3,e4,e5]
  exact zX (zC rfl) sm
 .have e1:IntKind.u64.wrap n=n:=(by grind[dL])
  have e2:IntKind.u64.wrap (n*2)=2*n:=by grind[dL]
  have e3:n.fdiv 9223372036854775808=0:=by grind
  have e4:IntKind.u64.wrap 0=0:=(by rfl)
  have e5:jc .xor .u64 (2*n) 0=((ji n:Nat):Int):=by
   rw[wr6 om om,ji,ahg h];omega
  simp[go_sem,e1,e2,Sb,e3,e4,e5]
  exact zX (zC rfl) sm
end Go.Proofs.YtplackkccmeioaaGreat.R
namespace Go.Vx
open Go
theorem bN.loose {P:Program} {f:FuncId} {args:List V} {I:St} {R R':V->St->Prop} (h:bN P f args I R) (hR: ∀r s,R r s->pO I.length R' r s):bN P f args I R':=by
 intro w L J ab hm ha
 refine(h w L J ab hm ha).mono ?_
 rintro e w' ⟨v,r,L',I',J',he,hr,hl,ae,ak⟩
 obtain⟨v1,I1,pick,I2,r2,af,hp,ah,ai⟩:=hR _ _ hr
 obtain⟨L2,J2,aa,_,_,ad,_⟩:=af.ok ae (xs:= [v]) (by trivial)
 refine⟨v,r2,L2,I2,_,he,ai, ?_,aa.pick hp hm.len,xx (hp.je aa.len) ah ad⟩
 rw[hp.len]
 rcases Bx pick.length I.length with aj|al
 .have:=(A3.1 (hp.id pick.length aj)).1
  omega
 omega
end Go.Vx
namespace Go.Proofs.YtplackkccmeioaaGreat.R
open Go Go.Vx Go.Proofs.Tryz
set_option maxRecDepth 100000
theorem Nw {f:FuncId} {args:List V} {l:ahP} (h:bN prog f args [] λr s=>r=qu l/\s=qv l):Pure prog f args (gj l):=h.loose λr s q=>by
 obtain⟨rfl,rfl⟩:=q
 have h:cw (some (qu l)) 0 (λr s=>r=gj l/\s= []) (qv l):=zX zK (by trivial)
 obtain⟨x,h1,h2⟩:=h
 grind
def ep (v:bK):Bool:=
 if v.kind=0 then decide (v.n=0)&&v.s.isEmpty else if v.kind=1 then(decide (v.n=0)||decide (v.n=1))&&v.s.isEmpty
 else if v.kind=2 then v.s.isEmpty else if v.kind=3 then decide (v.n=0)&&decide (v.s.length<=64)else false
theorem FA (v:bK):Pure prog 195 [.agg v.row] (.bool (ep v)):=by
 obtain⟨k,n,s⟩:=v
 refine iW 0 func195 ntmps195 results195 λc hc hb=>zM ?_
 simp[go_sem]
 have yes: ∀(r b:Bool) (I:St),r=b->cw (some (.bool r)) 0 (λr s=>r= .bool b/\s= []) I:=λr b I h=>by subst h;exact zX (zC rfl) sm
 repeat' (first|(refine xE (λq=> ?_) (λq=> ?_)<;>simp[go_sem,q])|(refine zU (λq=> ?_) (λq=> ?_)<;>simp[go_sem,q])|(refine yes _ _ _ ?_))
 all_goals grind[ep]
def kj (v:bK):ahP:=
 if ep v=true then
  UInt8.ofNat v.kind.toNat::(if v.kind=1 then [UInt8.ofNat v.n.toNat]else if v.kind=2 then fj (ji v.n)else if v.kind=3 then fj v.s.length++v.s else [])
 else []
theorem zf {ρ:Nat->Nat} {g:Tag} {rows ee:List (List V)} (h:ee=rows):cP ρ (.sl .ro ee) (.sl g rows):=by grind[zK]
theorem uC {b l:ahP} {g:Tag} {rows:List (List V)} {I:St} (h:zR (b++l)=rows):cw (some (.sl g rows)) 0 (λr s=>r=gj (b++l)/\s= []) I:=by subst h;exact zX zK (by trivial)
theorem xS3 (b:ahP) (v:bK) (hv:v.ok) (aa:b.length<=du - 1) (hs:v.s.length<=du):Pure prog 215 [gj b,.agg v.row] (gj (b++kj v)):=by
 refine iW 0 func215 ntmps215 results215 λc hc hb=>zM ?_
 obtain⟨k,n,s⟩:=v
 have hn:=hv.n
 simp only at hs hn
 simp[go_sem,gj,zV]
 refine zJ ⟨by grind,by simp[eI],DJ b⟩ ?_
 simp[go_sem]
 refine pC (FA ⟨k,n,s⟩) ?_
 simp[go_sem]
 refine zU (λh=> ?_) (λh=> ?_)
 .simp[go_sem]
  refine uC ?_
  grind[kj]
 have h:ep ⟨k,n,s⟩:=by grind
 have hk:k=0\/k=1\/k=2\/k=3:=by
  grind[ep]
 simp[go_sem,zV]
 refine zJ ⟨by grind,zY rfl⟩ ?_
 have w0:IntKind.u8.wrap 0=0:=by rfl
 have w1:IntKind.u8.wrap 1=1:=by rfl
 have w2:IntKind.u8.wrap 2=2:=by rfl
 have w3:IntKind.u8.wrap 3=3:=by rfl
 rcases hk with rfl|rfl|rfl|rfl
 .simp[go_sem]
  refine uC ?_
  grind[kj,zR]
 .have h1:n=0\/n=1:=by
   grind[ep]
  simp[go_sem]
  refine zJ ⟨zV b,by simp_all[zV];omega,zY rfl⟩ ?_
  simp[go_sem]
  refine uC ?_
  rcases h1 with rfl|rfl<;>simp[kj,h,zR,w0,w1]
 .simp[go_sem]
  refine pC (wn9 n hn) ?_
  simp[go_sem]
  refine zL (Nw (Nv (b++ [2]) (ji n) (by grind) (Sa hn))) cB ⟨zf (by grind[zR]),zC rfl,tV⟩ rfl ?_
  simp[go_sem]
  refine uC ?_
  grind[kj]
 .simp[go_sem]
  refine zL (Nw (wg6 (b++ [3]) s (by grind) hs)) cB ⟨zf (by grind[zR]),zC rfl,tV⟩ rfl ?_
  simp[go_sem]
  refine uC ?_
  grind[kj]
end Go.Proofs.YtplackkccmeioaaGreat.R
namespace Go.Proofs.YtplackkccmeioaaGreat.R
open Go Go.Vx Go.Proofs.Tryz
set_option maxRecDepth 100000
structure iP (row:List bK):Prop where
 len:row.length<=20
 s: ∀v∈row,v.s.length<=500
 ok: ∀v∈row,v.ok
theorem xa9 {v:bK} (hn:dp v.n) (h:v.s.length<=500):(kj v).length<=520:=by
 unfold kj
 have h1:=Hl (Sa hn)
 have h2:=Hl (v:=v.s.length) om
 (repeat' split)<;>simp<;>omega
theorem Sc: ∀{l:List bK},(∀v∈l,v.s.length<=500)->(∀v∈l,v.ok)->(l.flatMap kj).length<=520*l.length
 | [],_,_=>by simp
 |v::l,h,ho=>by
  have h1:=xa9 (ho v sm).n (h v sm)
  have h2:=Sc (l:=l) (λx hx=>h x (by simp[hx])) (λx hx=>ho x (by simp[hx]))
  simp only[By,Ap,Ak]
  omega
def sX (row:List bK) (i:Nat):ahP:=fj row.length++(row.take i).flatMap kj
def xI (row:List bK):ahP:=sX row row.length
theorem Sd {row:List bK} (h:iP row) (i:Nat):(sX row i).length<=20000:=by
 have h1:=Hl (v:=row.length) (by have:=h.len;omega)
 have h2:=Sc (l:=row.take i) (λv hv=>h.s v (Bp hv)) (λv hv=>h.ok v (Bp hv))
 have h3:=h.len
 have h4:(row.take i).length<=row.length:=by simp;exact Nat.min_le_right _ _
 unfold sX
 rw[Ap]
 omega
theorem yX2 {row:List bK} {i:Nat} (h:i<row.length):sX row (i+1)=sX row i++kj row[i]:=by
 unfold sX
 rw[Ah h,ahD,Ce]
 simp
theorem Se (row:List bK) (h:iP row):Pure prog 153 [.sl .ro (row.map bK.row)] (.str (xI row)):=by
 refine iV 0 func153 ntmps153 results153 λc hc hb=> ?_
 refine zA ?_
 have hl:=h.len
 have e1:IntKind.u64.wrap (row.length:Int)=(row.length:Int):=dL om om
 simp[go_sem,e1]
 refine zL (Nw (Nv [] row.length dC om)) cB ⟨zf rfl,zC rfl,tV⟩ rfl ?_
 simp[go_sem]
 refine zI (S:=Nat) [3,10,11,12] (λi=> [gj (sX row i),.sl .ro (row.map bK.row),.int .i64 row.length,.int .i64 i]) (λ_=> []) (λi=>row.length - i) (λi=>i<=row.length) hc hb 0 (A4 _) ?_ ?_
 .exact ia rfl (zO (by simp[go_sem,sX]) rfl)
 intro i hi
 refine zA ?_
 simp[go_sem]
 refine zU (λq=> ?_) (λq=> ?_)
 .have q:i<row.length:=sU q
  obtain⟨v,hv⟩:=eX (row[i])
  have hm:v∈row:=hv▸A8 q
  simp[go_sem,q,hv]
  have h2:=Sd h i
  have h3:=h.s v hm
  refine pC (xS3 (sX row i) v (h.ok v hm) (by unfold du;omega) (by unfold du;omega)) ?_
  simp[go_sem,zQ q om]
  refine zH (i+1) ⟨om,q,ia rfl (zO (by simp[go_sem,yX2 q,hv]) rfl)⟩
 .have q:i=row.length:=by
   have: ¬i<row.length:=sU q
   omega
  subst q
  simp[go_sem,gj]
  refine zJ (wV _) ?_
  simp[go_sem,Gb]
  exact wR
end Go.Proofs.YtplackkccmeioaaGreat.R
