/-
  Contracts of functions that the claimed statement reaches, each proved over trees (the library Vx); used by the theorem at the end of the claim.
  Conditions: as each theorem states them.
-/
import Derived.Test.YtefbicjgbaaieaaGreatMAI
import Derived.Test.YtefbicjgbaaieaaGreatMAE
set_option maxHeartbeats 8000000
namespace Go.Proofs.YtefbicjgbaaieaaGreat
open Go Go.Vx Go.Proofs.Tryz
set_option maxRecDepth 100000
variable {L:List bJ}
variable {τ:St}{s':RS}{st:bQ}{e:Int}
def ja (L:List bJ) (s:RS):Bool×bH:=if cC L uW s=true then(true,(gq L (zJ s)).1)else(false,dh)
theorem Y5 (L:List bJ) (s:RS) (a b:List V): ∃g:Tag,Jd L s a b (.box (a++ [.bool false,.int .i64 0,.str [],.int .i64 0,.int .i64 0,.str [],.sl .full []]++b))=
  .box (a++ [.bool (ja L s).1,.int .i64 (ja L s).2.kind,.str (ja L s).2.s,.int .i64 (ja L s).2.v.kind,.int .i64 (ja L s).2.v.n,.str (ja L s).2.v.s,.sl g ((ja L s).2.args.map bH.row)]++b):=by
 unfold Jd ja
 by_cases q:cC L uW s=true
 .exact⟨.ro,by rw[afb q,afb q];simp[jo]⟩
 .exact⟨.full,by rw[afa q,afa q];rfl⟩
theorem Mo (L:List bJ) (hL:ee L) (s:RS) (hs:cP L s) (ho:s.bS=0) (τ:St) (j:Nat) (c0 c1 c2 c3 c4 aa ab ad:V) (hj:τ[j]? =some (.box [c0,c1,c2,c3,c4,.bool false,.int .i64 0,.str [],.int .i64 0,.int .i64 0,.str [],.sl .full [],aa,ab,ad])):
  ∃g:Tag,bK prog 139 [.ptr 0 0,.ptr (j+1) 0] (rB L s::τ) (λr U=>r= .cm []/\U=rB L (lP L s)::τ.set j (.box [c0,c1,c2,c3,c4,.bool (ja L s).1,.int .i64 (ja L s).2.kind,.str (ja L s).2.s,.int .i64 (ja L s).2.v.kind,.int .i64 (ja L s).2.v.n,.str (ja L s).2.v.s,.sl g ((ja L s).2.args.map bH.row),aa,ab,ad])):=by
 obtain⟨g,hg⟩:=Y5 L s [c0,c1,c2,c3,c4] [aa,ab,ad]
 refine⟨g, ?_⟩
 have:=Y2 L hL s hs ho τ j c0 c1 c2 c3 c4 _ _ _ _ _ _ _ aa ab ad hj
 simp only[Ap,Bp]at hg
 rw[hg]at this
 exact this
def nY:afE:= [70,82,79,77]
def Gx:afE:= [79,82,68,69,82]
def nr:afE:= [66,89]
def uX:afE:= [65,83,67]
def Je:afE:= [68,69,83,67]
def tE:afE:= [76,73,77,73,84]
def rW (L:List bJ) (s:RS):(afE×Bool)×RS:=
 if cC L Gx s=true then
  if cC L uX (yN L (zV L nr (zJ s))).2=true then(((yN L (zV L nr (zJ s))).1,false),zJ (yN L (zV L nr (zJ s))).2)
  else if cC L Je (yN L (zV L nr (zJ s))).2=true then(((yN L (zV L nr (zJ s))).1,true),zJ (yN L (zV L nr (zJ s))).2)
  else(((yN L (zV L nr (zJ s))).1,false),(yN L (zV L nr (zJ s))).2)
 else(([],false),s)
def rX (L:List bJ) (s:RS):Int×RS:=if cC L tE s=true then fR L (zJ s)else(-1,s)
theorem Mq (hL:ee L) {s:RS} (h:cP L s):UI L s (rW L s).2:=by
 unfold rW
 split
 .rename_i hi
  have h1:=yW hL h hi
  have h2:=h1.trans (yC hL nr h1.cd)
  have h3:=h2.trans (mI hL h2.cd)
  split
  .exact h3.trans (yW hL h3.cd ‹_›)
  split
  .exact h3.trans (yW hL h3.cd ‹_›)
  .exact h3
 .exact UI.refl h
theorem Q3 (hL:ee L) {s:RS} (h:cP L s):UI L s (rX L s).2:=by
 unfold rX
 split
 .rename_i hi
  have h1:=yW hL h hi
  exact h1.trans (Mm hL h1.cd)
 .exact UI.refl h
def pL (L:List bJ) (s:RS):bQ×RS:=
 let x:=nq L s
 let n:=yN L (zV L nY x.2)
 let w:=ja L n.2
 let o:=rW L (lP L n.2)
 let l:=rX L o.2
 (⟨1,n.1,x.1,[],[],w.1,w.2,o.1.1,o.1.2,l.1⟩,l.2)
theorem Q4 (hL:ee L): ∀(n:Nat) (l:List cx) (s:RS),cP L s->s.bS=0->UI L s (nX L n l s).2
 |0,_,_,h,_=>UI.refl h
 |n+1,l,s,h,ho=>by
  unfold nX
  split
  .rename_i he
   have h1:=Mn hL h ho
   split
   .have h2:=h1.trans (yW hL h1.cd ‹_›)
    exact h2.trans (Q4 hL n _ _ h2.cd (h2.bS.trans ho))
   .exact h1
  .exact rV h
theorem Mr (hL:ee L) {s:RS} (h:cP L s) (ho:s.bS=0):UI L s (nq L s).2:=by
 unfold nq
 split
 .exact yW hL h ‹_›
 .exact Q4 hL 7 [] s h ho
def RT (L:List bJ) (x:bQ×RS):V->St->Prop:=λr U=>r= .agg x.1.row/\U= [rB L x.2]
theorem oQ {g1 g2 g3 g4:Tag} {s:RS} {M:bQ×RS} (h:(st,s)=M):
  cj (some (.agg [.int .i64 st.kind,.str st.table,.sl g1 (st.items.map cx.row),.sl g2 (st.rows.map λl=> [V.sl .ro (l.map bH.row)]),.sl g3 (st.cu.map bY.row),.bool st.dq,.int .i64 st.ct.kind,.str st.ct.s,.int .i64 st.ct.v.kind,.int .i64 st.ct.v.n,.str st.ct.v.s,.sl g4 (st.ct.args.map bH.row),.str st.order,.bool st.down,.int .i64 st.dg])) 1 (RT L M) (rB L s::τ):=by
 subst h
 exact xF (L:=L) (r:= .agg st.row) (xx ⟨zU rfl,zU rfl,yX,yX,yX,zU rfl,zU rfl,zU rfl,zU rfl,zU rfl,zU rfl,yX,zU rfl,zU rfl,zU rfl,tV⟩) ⟨rfl,rfl⟩
theorem Gy (st:bQ):gR (.agg st.row)=true:=rfl
theorem Y6 (L:List bJ) (hL:ee L) (s:RS) (hs:cP L s) (ho:s.bS=0):bK prog 135 [.ptr 0 0] [rB L s] (RT L (pL L s)):=by
 generalize hM:pL L s=M
 unfold pL at hM
 have hx:=Y4 L hL s hs ho
 have af:=Mr hL hs ho
 generalize nq L s=x at hx af hM
 obtain⟨xl,s1⟩:=x
 simp only at hx af hM
 have hm:=kQ L hL s1 af.cd nY
 have ag:=af.trans (yC hL nY af.cd)
 generalize zV L nY s1=s2 at hm ag hM
 have hn:=BH L hL s2 ag.cd
 have ad:=ag.trans (mI hL ag.cd)
 generalize yN L s2=n at hn ad hM
 obtain⟨nm,s3⟩:=n
 simp only at hn ad hM
 obtain⟨gw,hw⟩:=Mo L hL s3 ad.cd (ad.bS.trans ho) [.box [.int .i64 0,.str [],.sl .full [],.sl .full [],.sl .full [],.bool false,.int .i64 0,.str [],.int .i64 0,.int .i64 0,.str [],.sl .full [],.str [],.bool false,.int .i64 0],.box [.int .i64 1,.str nm,.sl .ro (xl.map cx.row),.sl .full [],.sl .full [],.bool false,.int .i64 0,.str [],.int .i64 0,.int .i64 0,.str [],.sl .full [],.str [],.bool false,.int .i64 (-1)]] 1 _ _ _ _ _ _ _ _ rfl
 have ae:=ad.trans (EE hL ad.cd (ad.bS.trans ho))
 generalize lP L s3=s4 at hw ae hM
 generalize ja L s3=w at hw hM
 obtain⟨wb,we⟩:=w
 simp only[Bv,Cl]at hw hM
 have ah:=Mq hL ae.cd
 generalize hO:rW L s4=o at ah hM
 obtain⟨⟨on,od⟩,s5⟩:=o
 simp only at ah hM
 have aa:=ae.trans ah
 generalize hl:rX L s5=l at hM
 obtain⟨ll,s6⟩:=l
 simp only at hM
 unfold rW at hO
 unfold rX at hl
 refine iW 1 func135 ntmps135 results135 λc hc hb=>zL ?_
 simp[go_sem]
 refine pR hx ?_
 simp[go_sem]
 refine pR hm ?_
 simp[go_sem]
 refine pR hn ?_
 simp[go_sem]
 refine F1 hw cB ?_
 rintro r U ⟨rfl,rfl⟩ _
 simp[go_sem]
 by_cases qO:cC L Gx s4=true
 rotate_left
 .have qO:cC L Gx s4=false:=sU qO
  rw[afa (by rw[qO];decide)]at hO
  obtain⟨⟨rfl,rfl⟩,rfl⟩:([]=on/\false=od)/\s4=s5:=sU hO
  refine pR (wO L hL s4 ae.cd _ qO) ?_
  simp[go_sem]
  by_cases qL:cC L tE s4=true
  .rw[afb qL]at hl
   have ab:=Ey L hL (zJ s4) (aa.cd.next hL qL)
   rw[hl]at ab
   refine pR (xK L hL s4 aa.cd _ qL) ?_
   simp[go_sem]
   refine pR ab ?_
   simp[go_sem]
   exact oQ (st:=⟨1,nm,xl,[],[],wb,we,_,_,ll⟩) hM
  .have qL:cC L tE s4=false:=sU qL
   rw[afa (by rw[qL];decide)]at hl
   obtain⟨rfl,rfl⟩: -1=ll/\s4=s6:=sU hl
   refine pR (wO L hL s4 aa.cd _ qL) ?_
   simp[go_sem]
   exact oQ (st:=⟨1,nm,xl,[],[],wb,we,_,_,-1⟩) hM
 rw[afb qO]at hO
 have h1:=yW hL ae.cd qO
 have ak:=kQ L hL _ h1.cd nr
 have h2:=yC hL nr h1.cd
 generalize zV L nr (zJ s4)=t1 at ak h2 hO
 have ai:=BH L hL _ h2.cd
 have h3:=mI hL h2.cd
 generalize yN L t1=n2 at ai h3 hO
 obtain⟨aj,t2⟩:=n2
 simp only at ai h3 hO
 refine pR (xK L hL s4 ae.cd _ qO) ?_
 simp[go_sem]
 refine pR ak ?_
 simp[go_sem]
 refine pR ai ?_
 simp[go_sem]
 by_cases qA:cC L uX t2=true
 .rw[afb qA]at hO
  obtain⟨⟨rfl,rfl⟩,rfl⟩:(aj=on/\false=od)/\zJ t2=s5:=sU hO
  refine pR (xK L hL t2 h3.cd _ qA) ?_
  simp[go_sem]
  by_cases qL:cC L tE (zJ t2)=true
  .rw[afb qL]at hl
   have ab:=Ey L hL (zJ (zJ t2)) (aa.cd.next hL qL)
   rw[hl]at ab
   refine pR (xK L hL (zJ t2) aa.cd _ qL) ?_
   simp[go_sem]
   refine pR ab ?_
   simp[go_sem]
   exact oQ (st:=⟨1,nm,xl,[],[],wb,we,_,_,ll⟩) hM
  .have qL:cC L tE (zJ t2)=false:=sU qL
   rw[afa (by rw[qL];decide)]at hl
   obtain⟨rfl,rfl⟩: -1=ll/\(zJ t2)=s6:=sU hl
   refine pR (wO L hL (zJ t2) aa.cd _ qL) ?_
   simp[go_sem]
   exact oQ (st:=⟨1,nm,xl,[],[],wb,we,_,_,-1⟩) hM
 have qA:cC L uX t2=false:=sU qA
 rw[afa (by rw[qA];decide)]at hO
 refine pR (wO L hL t2 h3.cd _ qA) ?_
 simp[go_sem]
 by_cases qD:cC L Je t2=true
 .rw[afb qD]at hO
  obtain⟨⟨rfl,rfl⟩,rfl⟩:(aj=on/\true=od)/\zJ t2=s5:=sU hO
  refine pR (xK L hL t2 h3.cd _ qD) ?_
  simp[go_sem]
  by_cases qL:cC L tE (zJ t2)=true
  .rw[afb qL]at hl
   have ab:=Ey L hL (zJ (zJ t2)) (aa.cd.next hL qL)
   rw[hl]at ab
   refine pR (xK L hL (zJ t2) aa.cd _ qL) ?_
   simp[go_sem]
   refine pR ab ?_
   simp[go_sem]
   exact oQ (st:=⟨1,nm,xl,[],[],wb,we,_,_,ll⟩) hM
  .have qL:cC L tE (zJ t2)=false:=sU qL
   rw[afa (by rw[qL];decide)]at hl
   obtain⟨rfl,rfl⟩: -1=ll/\(zJ t2)=s6:=sU hl
   refine pR (wO L hL (zJ t2) aa.cd _ qL) ?_
   simp[go_sem]
   exact oQ (st:=⟨1,nm,xl,[],[],wb,we,_,_,-1⟩) hM
 .have qD:cC L Je t2=false:=sU qD
  rw[afa (by rw[qD];decide)]at hO
  obtain⟨⟨rfl,rfl⟩,rfl⟩:(aj=on/\false=od)/\t2=s5:=sU hO
  refine pR (wO L hL t2 h3.cd _ qD) ?_
  simp[go_sem]
  by_cases qL:cC L tE t2=true
  .rw[afb qL]at hl
   have ab:=Ey L hL (zJ t2) (aa.cd.next hL qL)
   rw[hl]at ab
   refine pR (xK L hL t2 aa.cd _ qL) ?_
   simp[go_sem]
   refine pR ab ?_
   simp[go_sem]
   exact oQ (st:=⟨1,nm,xl,[],[],wb,we,_,_,ll⟩) hM
  .have qL:cC L tE t2=false:=sU qL
   rw[afa (by rw[qL];decide)]at hl
   obtain⟨rfl,rfl⟩: -1=ll/\t2=s6:=sU hl
   refine pR (wO L hL t2 aa.cd _ qL) ?_
   simp[go_sem]
   exact oQ (st:=⟨1,nm,xl,[],[],wb,we,_,_,-1⟩) hM
variable {L:List bJ}
def eF (L:List bJ):Nat->List bH->RS->Bool×List bH×RS
 |0,l,s=>(false,l,s)
 |n+1,l,s=>
  if(ir L l.length 6 (gW L false s) s).err=0 then
   (if cC L [44] (gq L s).2=true then eF L n (l++ [(gq L s).1]) (zJ (gq L s).2)else(true,l++ [(gq L s).1],(gq L s).2))
  else(false,l,ir L l.length 6 (gW L false s) s)
def ns (L:List bJ):Nat->List (List bH)->RS->List (List bH)×RS
 |0,R,s=>(R,s)
 |n+1,R,s=>
  if(ir L R.length 16 (cC L [40] s) s).err=0 then
   (if(eF L 7 [] (zV L [40] s)).1=true then
    (if cC L [44] (zV L [41] (eF L 7 [] (zV L [40] s)).2.2)=true then ns L n (R++ [(eF L 7 [] (zV L [40] s)).2.1]) (zJ (zV L [41] (eF L 7 [] (zV L [40] s)).2.2))
    else(R++ [(eF L 7 [] (zV L [40] s)).2.1],zV L [41] (eF L 7 [] (zV L [40] s)).2.2))
   else(R,(eF L 7 [] (zV L [40] s)).2.2))
  else(R,ir L R.length 16 (cC L [40] s) s)
def yg:afE:= [73,78,84,79]
def BR:afE:= [86,65,76,85,69,83]
def pM (L:List bJ) (s:RS):bQ×RS:=
 let n:=yN L (zV L yg s)
 let r:=ns L 17 [] (zV L BR n.2)
 (⟨2,n.1,[],r.1,[],false,dh,[],false,0⟩,r.2)
theorem Ms (hL:ee L): ∀(n:Nat) (l:List bH) (s:RS),cP L s->s.bS=0->UI L s (eF L n l s).2.2
 |0,_,_,h,_=>UI.refl h
 |n+1,l,s,h,ho=>by
  unfold eF
  split
  .have h1:=tD hL h ho
   split
   .have h2:=h1.trans (yW hL h1.cd ‹_›)
    exact h2.trans (Ms hL n _ _ h2.cd (h2.bS.trans ho))
   .exact h1
  .exact rV h
theorem Q5 (hL:ee L): ∀(n:Nat) (R:List (List bH)) (s:RS),cP L s->s.bS=0->UI L s (ns L n R s).2
 |0,_,_,h,_=>UI.refl h
 |n+1,R,s,h,ho=>by
  unfold ns
  split
  .have h1:=yC hL [40] h
   have h2:=h1.trans (Ms hL 7 [] _ h1.cd (h1.bS.trans ho))
   split
   .have h3:=h2.trans (yC hL [41] h2.cd)
    split
    .have h4:=h3.trans (yW hL h3.cd ‹_›)
     exact h4.trans (Q5 hL n _ _ h4.cd (h4.bS.trans ho))
    .exact h3
   .exact h2
  .exact rV h
theorem Y7 (hL:ee L) {s:RS} (h:cP L s) (ho:s.bS=0):UI L s (pM L s).2:=by
 unfold pM
 have h1:=yC hL yg h
 have h2:=h1.trans (mI hL h1.cd)
 have h3:=h2.trans (yC hL BR h2.cd)
 exact h3.trans (Q5 hL 17 [] _ h3.cd (h3.bS.trans ho))
def uY (nm:afE) (R:List (List bH)):Ob:= .box [.int .i64 2,.str nm,.sl .full [],.sl (.app 3) (R.map λl=> [V.sl .ro (l.map bH.row)]),.sl .full [],.bool false,.int .i64 0,.str [],.int .i64 0,.int .i64 0,.str [],.sl .full [],.str [],.bool false,.int .i64 0]
def qC:Ob:= .box [.int .i64 0,.str [],.sl .full [],.sl .full [],.sl .full [],.bool false,.int .i64 0,.str [],.int .i64 0,.int .i64 0,.str [],.sl .full [],.str [],.bool false,.int .i64 0]
theorem Y8 (L:List bJ) (hL:ee L) (s0:RS) (au:cP L s0) (av:s0.bS=0):bK prog 136 [.ptr 0 0] [rB L s0] (RT L (pM L s0)):=by
 generalize hM:pM L s0=M
 unfold pM at hM
 have aw:=kQ L hL s0 au yg
 have ak:=yC hL yg au
 generalize zV L yg s0=s1 at aw ak hM
 have hn:=BH L hL s1 ak.cd
 have ag:=ak.trans (mI hL ak.cd)
 generalize yN L s1=n at hn ag hM
 obtain⟨nm,s2⟩:=n
 simp only at hn ag hM
 have ax:=kQ L hL s2 ag.cd BR
 have ay:=ag.trans (yC hL BR ag.cd)
 generalize zV L BR s2=s3 at ax ay hM
 obtain⟨X,hX⟩:=eX (ns L 17 [] s3)
 rw[hX]at hM
 have ret: ∀(R:List (List bH)) (s:RS) (τ:St),(R,s)=X->cj (some (.agg [.int .i64 2,.str nm,.sl .full [],.sl (.app 3) (R.map λl=> [V.sl .ro (l.map bH.row)]),.sl .full [],.bool false,.int .i64 0,.str [],.int .i64 0,.int .i64 0,.str [],.sl .full [],.str [],.bool false,.int .i64 0])) 1 (RT L M) (rB L s::τ):=λR s τ h=>by
  subst h
  exact oQ (st:=⟨2,nm,[],R,[],false,dh,[],false,0⟩) hM
 refine iV 1 func136 ntmps136 results136 λc hc hb=> ?_
 refine zA ?_
 simp[go_sem]
 refine pR aw ?_
 simp[go_sem]
 refine pR hn ?_
 simp[go_sem]
 refine pR ax ?_
 simp[go_sem]
 refine F0 2 3 1 _ dc rfl rfl ?_
 simp only[Bv,Cl]
 refine zH (S:=List (List bH)×RS) [0,2,3] (λu=> [.ptr 0 0,.ptr 1 0,.ptr 2 0]) (λu=> [rB L u.2,qC,uY nm u.1,.app u.1.length 1]) (λu=>17 - u.1.length) (λu=>u.1.length<=16/\UI L s0 u.2/\ns L (17 - u.1.length) u.1 u.2=X) hc hb ([],s3) ⟨A5 _,ay,hX⟩ ?_ ?_
 .exact ca 4 (by simp[go_sem];exact⟨rfl,rfl⟩) rfl (by simp[rB,qC,uY,bP,cK,cG]) dc (zD sg rfl)
 rintro⟨R,s⟩ ⟨hR,hu,hinv⟩
 simp only at hR hu hinv
 have hs:=hu.cd
 have ho:=hu.bS.trans av
 have ah:=iM L hL s hs [40]
 have ad:=Gw L hL s hs R.length 16 (cC L [40] s)
 have an:=tC (L:=L) (n:=R.length) (fC:=16) (b:=cC L [40] s) (s:=s)
 rw[show 17 - R.length=(16 - R.length)+1 by omega,ns]at hinv
 generalize cC L [40] s=bg at ah ad an hinv
 generalize ir L R.length 16 bg s=m at ad an hinv
 by_cases q:m.err=0
 rotate_left
 .have q':(m.err==0)=false:=sU q
  rw[afa q]at hinv
  rw[q']at ad
  refine zA ?_
  simp[go_sem]
  refine oL [(5,3),(6,3)] 1 4 sm kR kR ?_
  simp[go_sem,uY]
  refine rT ah cB (wI ⟨zC rfl,tV⟩) rfl ?_
  simp[go_sem]
  refine rT ad cB (wI ⟨zC rfl,zC rfl,zC rfl,tV⟩) rfl ?_
  simp[go_sem]
  exact ret _ _ _ hinv
 have q':(m.err==0)=true:=sU q
 obtain⟨he,aC,rfl⟩:=an q
 rw[afb q]at hinv
 rw[q']at ad
 have az:=kQ L hL m hs [40]
 have a1:=hu.trans (yC hL [40] hs)
 generalize zV L [40] m=s4 at az a1 hinv
 obtain⟨Y,hY⟩:=eX (eF L 7 [] s4)
 rw[hY]at hinv
 refine zA ?_
 simp[go_sem]
 refine oL [(5,3),(6,3)] 1 4 sm kR kR ?_
 simp[go_sem,uY]
 refine rT ah cB (wI ⟨zC rfl,tV⟩) rfl ?_
 simp[go_sem]
 refine rT ad cB (wI ⟨zC rfl,zC rfl,zC rfl,tV⟩) rfl ?_
 simp[go_sem]
 refine pR az ?_
 simp[go_sem]
 refine rL 4 6 dc sg ?_
 refine zH (S:=List bH×RS) [0,2,3,4] (λu=> [.ptr 0 0,.ptr 1 0,.ptr 2 0,.sl (.app 4) (u.1.map bH.row)]) (λu=> [rB L u.2,qC,uY nm R,.app R.length 1,.app u.1.length 6]) (λu=>7 - u.1.length) (λu=>u.1.length<=6/\UI L s0 u.2/\eF L (7 - u.1.length) u.1 u.2=Y) hc hb ([],s4) ⟨A5 _,a1,hY⟩ ?_ ?_
 .exact ca 5 (by simp[go_sem];rfl) rfl (by simp[rB,qC,uY,bP,cK,cG]) dc (zD sg rfl)
 rintro⟨l,t⟩ ⟨hl,al,aa⟩
 simp only at hl al aa
 have ht:=al.cd
 have a6:=al.bS.trans av
 have ae:=Q2 L hL t ht false
 have ab:=Gw L hL t ht l.length 6 (gW L false t)
 have ai:=tC (L:=L) (n:=l.length) (fC:=6) (b:=gW L false t) (s:=t)
 rw[show 7 - l.length=(6 - l.length)+1 by omega,eF]at aa
 generalize gW L false t=a8 at ae ab ai aa
 generalize ir L l.length 6 a8 t=m2 at ab ai aa
 by_cases q2:m2.err=0
 rotate_left
 .have ao:(m2.err==0)=false:=sU q2
  rw[afa q2]at aa
  rw[ao]at ab
  have aq:Y.1=false:=by rw[<-aa]
  have ar:Y.2.2=m2:=by rw[<-aa]
  rw[afa (by rw[aq];decide),ar]at hinv
  refine zA ?_
  simp[go_sem]
  refine pR ae ?_
  simp[go_sem]
  refine pR ab ?_
  simp[go_sem,uY]
  exact ret _ _ _ hinv
 have ao:(m2.err==0)=true:=sU q2
 obtain⟨aD,aB,rfl⟩:=ai q2
 rw[afb q2]at aa
 rw[ao]at ab
 have hx:=rU L hL m2 ht a6
 have af:=al.trans (tD hL ht a6)
 generalize gq L m2=x at hx af aa
 by_cases q3:cC L [44] x.2=true
 .rw[afb q3]at aa
  refine zA ?_
  simp[go_sem]
  refine pR ae ?_
  simp[go_sem]
  refine pR ab ?_
  simp[go_sem]
  refine jy hx cB fb ?_
  simp[go_sem,bH.bN]
  refine zI ⟨om,zX rfl⟩ ?_
  simp[go_sem]
  refine pR (xK L hL x.2 af.cd _ q3) ?_
  simp[go_sem]
  refine zG (l++ [x.1],zJ x.2) ⟨by simp;omega,⟨by simp;omega,af.trans (yW hL af.cd q3),by simp only[Ah,Bf,show 7 - (l.length+1)=6 - l.length by omega];exact aa⟩, ?_⟩
  exact aM 5 (by simp[rB,qC,uY,bP,cK,cG]) (zD (by simp[go_sem,bH.bN]) rfl)
 have q3:cC L [44] x.2=false:=sU q3
 rw[afa (by rw[q3];decide)]at aa
 have aq:Y.1:=by rw[<-aa]
 have ar:Y.2.2=x.2:=by rw[<-aa]
 have aA:Y.2.1=l++ [x.1]:=by rw[<-aa]
 rw[afb aq,ar,aA]at hinv
 have a7:=kQ L hL x.2 af.cd [41]
 have aj:=af.trans (yC hL [41] af.cd)
 generalize zV L [41] x.2=s5 at a7 aj hinv
 refine zA ?_
 simp[go_sem]
 refine pR ae ?_
 simp[go_sem]
 refine pR ab ?_
 simp[go_sem]
 refine jy hx cB fb ?_
 simp[go_sem,bH.bN]
 refine zI ⟨om,zX rfl⟩ ?_
 simp[go_sem]
 refine pR (wO L hL x.2 af.cd _ q3) ?_
 simp[go_sem]
 refine pR a7 ?_
 simp[go_sem,uY]
 refine zI ⟨om,zX rfl⟩ ?_
 simp[go_sem]
 by_cases q5:cC L [44] s5=true
 .rw[afb q5]at hinv
  refine pR (xK L hL s5 aj.cd _ q5) ?_
  simp[go_sem]
  refine zG (R++ [l++ [x.1]],zJ s5) ⟨by simp;omega,⟨by simp;omega,aj.trans (yW hL aj.cd q5),by simp only[Ah,Bf,show 17 - (R.length+1)=16 - R.length by omega];exact hinv⟩, ?_⟩
  exact ca 4 (by simp[go_sem,bH.bN]) rfl (by simp[rB,qC,bP,cK,cG]) dc (zD sg rfl)
 .have q5:cC L [44] s5=false:=sU q5
  rw[afa (by rw[q5];decide)]at hinv
  refine pR (wO L hL s5 aj.cd _ q5) ?_
  simp[go_sem]
  have hr:=ret (R++ [l++ [x.1]]) s5
  simp[bH.bN]at hr
  exact hr _ hinv
variable {L:List bJ}
def uZ (L:List bJ) (s:RS):Bool:=(bV L s).kind==1&&j8 (bV L s).s
def mJ:afE:= [83,69,84]
def kC (L:List bJ):Nat->List bY->RS->Bool×List bY×RS
 |0,l,s=>(false,l,s)
 |n+1,l,s=>
  if(ir L l.length 6 (uZ L s) s).err=0 then
   (if cC L [44] (gq L (zV L [61] (yN L s).2)).2=true then kC L n (l++ [⟨(yN L s).1,(gq L (zV L [61] (yN L s).2)).1⟩]) (zJ (gq L (zV L [61] (yN L s).2)).2)
   else(true,l++ [⟨(yN L s).1,(gq L (zV L [61] (yN L s).2)).1⟩],(gq L (zV L [61] (yN L s).2)).2))
  else(false,l,ir L l.length 6 (uZ L s) s)
def pN (L:List bJ) (s:RS):bQ×RS:=
 let n:=yN L s
 let r:=kC L 7 [] (zV L mJ n.2)
 if r.1=true then(⟨3,n.1,[],[],r.2.1,(ja L r.2.2).1,(ja L r.2.2).2,[],false,0⟩,lP L r.2.2)
 else(⟨3,n.1,[],[],r.2.1,false,dh,[],false,0⟩,r.2.2)
theorem Mt (hL:ee L): ∀(n:Nat) (l:List bY) (s:RS),cP L s->s.bS=0->UI L s (kC L n l s).2.2
 |0,_,_,h,_=>UI.refl h
 |n+1,l,s,h,ho=>by
  unfold kC
  split
  .have h1:=mI hL h
   have h2:=h1.trans (yC hL [61] h1.cd)
   have h3:=h2.trans (tD hL h2.cd (h2.bS.trans ho))
   split
   .have h4:=h3.trans (yW hL h3.cd ‹_›)
    exact h4.trans (Mt hL n _ _ h4.cd (h4.bS.trans ho))
   .exact h3
  .exact rV h
theorem Y9 (hL:ee L) {s:RS} (h:cP L s) (ho:s.bS=0):UI L s (pN L s).2:=by
 unfold pN
 have h1:=mI hL h
 have h2:=h1.trans (yC hL mJ h1.cd)
 have h3:=h2.trans (Mt hL 7 [] _ h2.cd (h2.bS.trans ho))
 simp only
 split
 .exact h3.trans (EE hL h3.cd (h3.bS.trans ho))
 .exact h3
def Gz (nm:afE) (l:List bY):Ob:= .box [.int .i64 3,.str nm,.sl .full [],.sl .full [],.sl (.app 3) (l.map bY.row),.bool false,.int .i64 0,.str [],.int .i64 0,.int .i64 0,.str [],.sl .full [],.str [],.bool false,.int .i64 0]
theorem Za (L:List bJ) (hL:ee L) (s0:RS) (av:cP L s0) (al:s0.bS=0):bK prog 137 [.ptr 0 0] [rB L s0] (RT L (pN L s0)):=by
 generalize hM:pN L s0=M
 unfold pN at hM
 have hn:=BH L hL s0 av
 have ah:=mI hL av
 generalize yN L s0=n at hn ah hM
 obtain⟨nm,s2⟩:=n
 simp only at hn ah hM
 have aw:=kQ L hL s2 ah.cd mJ
 have ax:=ah.trans (yC hL mJ ah.cd)
 generalize zV L mJ s2=s3 at aw ax hM
 obtain⟨X,hX⟩:=eX (kC L 7 [] s3)
 rw[hX]at hM
 refine iV 1 func137 ntmps137 results137 λc hc hb=> ?_
 refine zA ?_
 simp[go_sem]
 refine pR hn ?_
 simp[go_sem]
 refine pR aw ?_
 simp[go_sem]
 refine F0 2 4 7 _ dc rfl rfl ?_
 simp only[Bv,Cl]
 refine zH (S:=List bY×RS) [0,2,3] (λu=> [.ptr 0 0,.ptr 1 0,.ptr 2 0]) (λu=> [rB L u.2,qC,Gz nm u.1,.app u.1.length 7]) (λu=>7 - u.1.length) (λu=>u.1.length<=6/\UI L s0 u.2/\kC L (7 - u.1.length) u.1 u.2=X) hc hb ([],s3) ⟨A5 _,ax,hX⟩ ?_ ?_
 .exact ca 4 (by simp[go_sem];exact⟨rfl,rfl⟩) rfl (by simp[rB,qC,Gz,bP,cK,cG]) dc (zD sg rfl)
 rintro⟨l,s⟩ ⟨hl,hu,hinv⟩
 simp only at hl hu hinv
 have hs:=hu.cd
 have ho:=hu.bS.trans al
 have ad:=mG L hL s hs
 have ai:=Mg (bV L s).s (hL.uQ _ (EB hs))
 have aa:=Gw L hL s hs l.length 6 (uZ L s)
 have ao:=tC (L:=L) (n:=l.length) (fC:=6) (b:=uZ L s) (s:=s)
 rw[show 7 - l.length=(6 - l.length)+1 by omega,kC]at hinv
 generalize an:uZ L s=bg at aa ao hinv
 unfold uZ at an
 have ae:=BH L hL s hs
 have aj:=hu.trans (mI hL hs)
 generalize bV L s=tk at ad ai an
 generalize j8 tk.s=wd at ai an
 generalize ir L l.length 6 bg s=m at aa ao hinv
 have key:((tk.kind==1)=true/\wd=bg)\/((tk.kind==1)=false/\false=bg):=by
  revert an
  cases tk.kind==1<;>simp
 by_cases q:m.err=0
 rotate_left
 .have q':(m.err==0)=false:=sU q
  rw[afa q]at hinv
  rw[q']at aa
  have aq:X.1=false:=by rw[<-hinv]
  have ar:X.2.1=l:=by rw[<-hinv]
  have au:X.2.2=m:=by rw[<-hinv]
  rw[afa (by rw[aq];decide),ar,au]at hM
  refine zA ?_
  simp[go_sem]
  refine pR ad ?_
  simp[go_sem,Gz]
  refine oL [(10,0),(12,3)] 1 5 sm kR kR ?_
  simp[go_sem]
  refine key.elim (λ⟨k1,k2⟩=> ?_) (λ⟨k1,k2⟩=> ?_)
  .simp[go_sem,k1]
   refine pD ai ?_
   simp[go_sem,k2]
   refine rT aa cB (wI ⟨zC rfl,zC rfl,zC rfl,tV⟩) rfl ?_
   simp[go_sem]
   exact oQ (st:=⟨3,nm,[],[],l,false,dh,[],false,0⟩) hM
  .rw[<-k2]at aa
   simp[go_sem,k1]
   refine rT aa cB (wI ⟨zC rfl,zC rfl,zC rfl,tV⟩) rfl ?_
   simp[go_sem]
   exact oQ (st:=⟨3,nm,[],[],l,false,dh,[],false,0⟩) hM
 have q':(m.err==0)=true:=sU q
 obtain⟨he,ay,rfl⟩:=ao q
 rw[afb q]at hinv
 rw[q']at aa
 generalize yN L m=n1 at ae aj hinv
 obtain⟨af,t1⟩:=n1
 simp only at ae aj hinv
 have ak:=kQ L hL t1 aj.cd [61]
 have ag:=aj.trans (yC hL [61] aj.cd)
 generalize zV L [61] t1=t2 at ak ag hinv
 have hx:=rU L hL t2 ag.cd (ag.bS.trans al)
 have ab:=ag.trans (tD hL ag.cd (ag.bS.trans al))
 generalize gq L t2=x at hx ab hinv
 obtain⟨e,t3⟩:=x
 simp only at ab hinv
 by_cases q3:cC L [44] t3=true
 .rw[afb q3]at hinv
  refine zA ?_
  simp[go_sem]
  refine pR ad ?_
  simp[go_sem,Gz]
  refine oL [(10,0),(12,3)] 1 5 sm kR kR ?_
  simp[go_sem]
  refine key.elim (λ⟨k1,k2⟩=> ?_) (λ⟨k1,k2⟩=> ?_)
  .simp[go_sem,k1]
   refine pD ai ?_
   simp[go_sem,k2]
   refine rT aa cB (wI ⟨zC rfl,zC rfl,zC rfl,tV⟩) rfl ?_
   simp[go_sem]
   refine pR ae ?_
   simp[go_sem]
   refine pR ak ?_
   simp[go_sem]
   refine jy hx cB fb ?_
   simp[go_sem,bH.bN]
   refine zI ⟨om,zX rfl⟩ ?_
   simp[go_sem]
   refine pR (xK L hL t3 ab.cd _ q3) ?_
   simp[go_sem]
   refine zG (l++ [⟨af,e⟩],zJ t3) ⟨by simp;omega,⟨by simp;omega,ab.trans (yW hL ab.cd q3),by simp only[Ah,Bf,show 7 - (l.length+1)=6 - l.length by omega];exact hinv⟩, ?_⟩
   exact aN 4 (by simp[rB,qC,bP,cK,cG])
  .rw[<-k2]at aa
   simp[go_sem,k1]
   refine rT aa cB (wI ⟨zC rfl,zC rfl,zC rfl,tV⟩) rfl ?_
   simp[go_sem]
   refine pR ae ?_
   simp[go_sem]
   refine pR ak ?_
   simp[go_sem]
   refine jy hx cB fb ?_
   simp[go_sem,bH.bN]
   refine zI ⟨om,zX rfl⟩ ?_
   simp[go_sem]
   refine pR (xK L hL t3 ab.cd _ q3) ?_
   simp[go_sem]
   refine zG (l++ [⟨af,e⟩],zJ t3) ⟨by simp;omega,⟨by simp;omega,ab.trans (yW hL ab.cd q3),by simp only[Ah,Bf,show 7 - (l.length+1)=6 - l.length by omega];exact hinv⟩, ?_⟩
   exact aN 4 (by simp[rB,qC,bP,cK,cG])
 have q3:cC L [44] t3=false:=sU q3
 rw[afa (by rw[q3];decide)]at hinv
 have aq:X.1:=by rw[<-hinv]
 have ar:X.2.1=l++ [⟨af,e⟩]:=by rw[<-hinv]
 have au:X.2.2=t3:=by rw[<-hinv]
 rw[afb aq,ar,au]at hM
 obtain⟨gw,hw⟩:=Mo L hL t3 ab.cd (ab.bS.trans al) [qC,.box [.int .i64 3,.str nm,.sl .full [],.sl .full [],.sl (.app 3) (l.map bY.row++ [[.str af,.int .i64 e.kind,.str e.s,.int .i64 e.v.kind,.int .i64 e.v.n,.str e.v.s,.sl .ro (e.args.map bH.row)]]),.bool false,.int .i64 0,.str [],.int .i64 0,.int .i64 0,.str [],.sl .full [],.str [],.bool false,.int .i64 0],
  .app (l.length+1) 7,.box [.int .i64 tk.kind,.int .i64 tk.place,.str tk.s,.int .i64 tk.n],.box [.str af,.int .i64 e.kind,.str e.s,.int .i64 e.v.kind,.int .i64 e.v.n,.str e.v.s,.sl .ro (e.args.map bH.row)]] 1 _ _ _ _ _ _ _ _ rfl
 generalize lP L t3=s9 at hw hM
 generalize ja L t3=w9 at hw hM
 have hr:=λτ=>oQ (L:=L) (g1:= .full) (g2:= .full) (g3:= .app 3) (g4:=gw) (τ:=τ) (st:=⟨3,nm,[],[],l++ [⟨af,e⟩],w9.1,w9.2,[],false,0⟩) hM
 simp at hr
 refine zA ?_
 simp[go_sem]
 refine pR ad ?_
 simp[go_sem,Gz]
 refine oL [(10,0),(12,3)] 1 5 sm kR kR ?_
 simp[go_sem]
 refine key.elim (λ⟨k1,k2⟩=> ?_) (λ⟨k1,k2⟩=> ?_)
 .simp[go_sem,k1]
  refine pD ai ?_
  simp[go_sem,k2]
  refine rT aa cB (wI ⟨zC rfl,zC rfl,zC rfl,tV⟩) rfl ?_
  simp[go_sem]
  refine pR ae ?_
  simp[go_sem]
  refine pR ak ?_
  simp[go_sem]
  refine jy hx cB fb ?_
  simp[go_sem,bH.bN]
  refine zI ⟨om,zX rfl⟩ ?_
  simp[go_sem]
  refine pR (wO L hL t3 ab.cd _ q3) ?_
  simp[go_sem]
  refine F1 hw cB ?_
  rintro r U ⟨rfl,rfl⟩ _
  simp[go_sem]
  exact hr _
 .rw[<-k2]at aa
  simp[go_sem,k1]
  refine rT aa cB (wI ⟨zC rfl,zC rfl,zC rfl,tV⟩) rfl ?_
  simp[go_sem]
  refine pR ae ?_
  simp[go_sem]
  refine pR ak ?_
  simp[go_sem]
  refine jy hx cB fb ?_
  simp[go_sem,bH.bN]
  refine zI ⟨om,zX rfl⟩ ?_
  simp[go_sem]
  refine pR (wO L hL t3 ab.cd _ q3) ?_
  simp[go_sem]
  refine F1 hw cB ?_
  rintro r U ⟨rfl,rfl⟩ _
  simp[go_sem]
  exact hr _
def tF (c:UInt8):Bool:=decide (c.toNat=9)||(decide (c.toNat=10)||(decide (c.toNat=13)||decide (c.toNat=32)))
theorem BS (c:UInt8) (n:Nat):(((c.toNat:Nat):Int)==(n:Int))=decide (c.toNat=n):=by
 rw[Bool.eq_iff_iff]
 simp only[afh,afe]
 omega
theorem Zb (c:UInt8):Pure prog 133 [.int .u8 c.toNat] (.bool (tF c)):=by
 generalize hM:tF c=M
 unfold tF at hM
 have h9:=BS c 9
 have aa:=BS c 10
 have ab:=BS c 13
 have ad:=BS c 32
 simp only[Bx]at h9 aa ab ad
 have ret: ∀(r:Bool) (τ:St),r=M->cj (some (.bool r)) 0 (λr U=>r= .bool M/\U= []) τ:=λr τ h=>by subst h;exact wR
 refine iW 0 func133 ntmps133 results133 λc hc hb=>zL ?_
 simp[go_sem]
 repeat' (first
  |(refine xD (λq=> ?_) (λq=> ?_)<;>simp[go_sem,q])
  |(refine zS (λq=> ?_) (λq=> ?_)<;>simp[go_sem,q]))
 all_goals exact ret _ _ (by rw[<-hM];simp_all)
abbrev TR:=bJ×Nat×Int
def tG (x:TR):V:= .cm [.agg x.1.row,.int .i64 x.2.1,.int .i64 x.2.2]
theorem Jf (x:TR):gR (tG x)=true:=rfl
theorem mK {t:bJ} {n:Nat} {M:TR} (h:(t,n,e)=M):cj (some (.cm [.agg [.int .i64 t.kind,.int .i64 t.place,.str t.s,.int .i64 t.n],.int .i64 n,.int .i64 e])) 0 (λr U=>r=tG M/\U= []) τ:=by
 subst h
 exact wR
def jq (v:Int):afE->Option Int
 | []=>some v
 |c::l=>if xN c=true then(if(9223372036854775807 - ((c.toNat:Int) - 48))/10<v then none else jq (v*10+((c.toNat:Int) - 48)) l)else some v
def kf (at_:Nat) (l:afE):TR:=
 match jq 0 l with
 |none=>(xA,0,5)
 |some v=>if wM ((l.dropWhile xN).headD 0)=true then(xA,0,13)else(⟨2,0,[],v⟩,at_+(l.takeWhile xN).length,0)
theorem Zc (s:afE) (i:Nat):(s.drop i).headD 0=s.getD i 0:=by
 rw[List.headD_eq_head?_getD,List.head?_drop,A9]
theorem Q6 {c:UInt8} (h:xN c):48<=c.toNat/\c.toNat<=57:=by unfold xN at h;simpa using h
theorem Zd (s:afE) (hl:s.length<=maxLen) (a:Nat) (ha:a<=s.length):Pure prog 206 [.str s,.int .i64 a] (tG (kf a (s.drop a))):=by
 generalize hM:kf a (s.drop a)=M
 unfold kf at hM
 unfold maxLen at hl
 have ae:wM 0=false:=dc
 refine iV 0 func206 ntmps206 results206 λc hc hb=> ?_
 refine zA ?_
 simp[go_sem]
 refine zH (S:=Nat×Int) [0,1,4,7] (λu=> [.str s,.int .i64 u.1,.ptr 0 0,.int .i64 u.2]) (λ_=> [.box [.int .i64 0,.int .i64 0,.str [],.int .i64 0]]) (λu=>s.length - u.1)
  (λu=>u.1<=s.length/\0<=u.2/\u.2<=9223372036854775807/\(match jq u.2 (s.drop u.1)with|none=>(xA,0,5)|some v=>if wM (((s.drop u.1).dropWhile xN).headD 0)=true then(xA,0,13)else((⟨2,0,[],v⟩,u.1+((s.drop u.1).takeWhile xN).length,0):TR))=M) hc hb (a,0) ⟨ha,Int.le_refl _,sm,hM⟩ ?_ ?_
 .exact aN 1 (by rfl)
 rintro⟨i,v⟩ ⟨hi,af,ag,hinv⟩
 simp only at hi af ag hinv
 by_cases q:i<s.length
 rotate_left
 .obtain rfl:i=s.length:=om
  rw[Cd]at hinv
  have hinv:(⟨⟨2,0,[],v⟩,s.length,0⟩:TR)=M:=by rw[<-hinv];rfl
  refine zA ?_
  simp[go_sem]
  exact mK (t:=⟨2,0,[],v⟩) hinv
 have ei:=zR q om
 obtain⟨x,hx⟩:=eX (s[i])
 rw[A2 q,hx]at hinv
 have aa:=Gm x
 have ab:=IX x
 by_cases qd:xN x=true
 rotate_left
 .have qd:xN x=false:=sU qd
  rw[jq,afa (by rw[qd];decide),List.dropWhile_cons_of_neg (by rw[qd];decide),List.takeWhile_cons_of_neg (by rw[qd];decide)]at hinv
  simp only[List.headD_cons,D4,D2]at hinv
  rw[qd]at aa
  by_cases ql:wM x=true
  .simp only[ql,afj]at hinv
   rw[ql]at ab
   refine zA ?_
   simp[go_sem,q,hx]
   refine pC aa ?_
   simp[go_sem,q,hx]
   refine pC ab ?_
   simp[go_sem]
   exact mK (t:=xA) hinv
  .have ql:wM x=false:=sU ql
   simp only[ql,Ck,afs]at hinv
   rw[ql]at ab
   refine zA ?_
   simp[go_sem,q,hx]
   refine pC aa ?_
   simp[go_sem,q,hx]
   refine pC ab ?_
   simp[go_sem]
   exact mK (t:=⟨2,0,[],v⟩) hinv
 have hr:=Q6 qd
 rw[jq,afb qd,List.dropWhile_cons_of_pos qd,Cv qd]at hinv
 rw[qd]at aa
 have e1:IntKind.u8.wrap ((x.toNat:Int) - 48)=(x.toNat:Int) - 48:=IW om om
 have e2:IntKind.i64.wrap ((x.toNat:Int) - 48)=(x.toNat:Int) - 48:=bR om om
 have e3:IntKind.i64.wrap (9223372036854775807 - ((x.toNat:Int) - 48))=9223372036854775807 - ((x.toNat:Int) - 48):=bR om om
 obtain⟨d,hd⟩: ∃d:Int,(x.toNat:Int) - 48=d:=⟨_,rfl⟩
 rw[hd]at hinv e1 e2 e3
 have ah:0<=d/\d<=9:=om
 have e4:IntKind.i64.wrap ((9223372036854775807 - d).tdiv 10)=(9223372036854775807 - d)/10:=by
  rw[Int.tdiv_eq_ediv_of_nonneg om,bR om om]
 refine zA ?_
 simp[go_sem,q,hx]
 refine pC aa ?_
 simp[go_sem,q,hx,e1,e2,e3,e4,hd]
 by_cases qg:(9223372036854775807 - d)/10<v
 .have ad:decide ((9223372036854775807 - d)/10<v)=true:=afd qg
  simp only[qg,afj]at hinv
  simp[go_sem,ad]
  exact mK (t:=xA) hinv
 .have ad:decide ((9223372036854775807 - d)/10<v)=false:=afc qg
  simp only[qg,afs]at hinv
  have e5:IntKind.i64.wrap (v*10)=v*10:=bR om om
  have e6:IntKind.i64.wrap (v*10+d)=v*10+d:=bR om om
  simp[go_sem,ad,e5,e6,ei]
  refine zG (i+1,v*10+d) ⟨by simp only;omega,⟨by simp only;omega,by simp only;omega,by simp only;omega, ?_⟩, ?_⟩
  .simp only[Ab]at hinv
   rw[<-hinv]
   simp only[Dp,Dw 1]
  .exact aN 1 (by rfl)
def yh (i:Nat) (w:afE):TR:=if 64<w.length then(xA,0,3)else(⟨3,0,w,0⟩,i+1,0)
def xS:Nat->afE->afE->TR
 |_,_,[]=>(xA,0,13)
 |i,w,[c]=>if c.toNat=39 then yh i w else(xA,0,13)
 |i,w,c::c2::l=>if c.toNat=39 then(if c2.toNat=39 then xS (i+2) (w++ [c2]) l else yh i w)else xS (i+1) (w++ [c]) (c2::l)
theorem Ze (i:Nat) (w:afE) (c:UInt8) (l:afE) (h: ¬c.toNat=39):xS i w (c::l)=xS (i+1) (w++ [c]) l:=by
 cases l<;>simp_all[xS]
theorem Zf (s:afE) (hl:s.length<=maxLen) (a:Nat) (ha:a<s.length):Pure prog 207 [.str s,.int .i64 a] (tG (xS (a+1) [] (s.drop (a+1)))):=by
 generalize hM:xS (a+1) [] (s.drop (a+1))=M
 unfold maxLen at hl
 have ea:IntKind.i64.wrap ((a:Int)+1)=((a+1:Nat):Int):=(by grind[zR])
 refine iV 0 func207 ntmps207 results207 λc hc hb=> ?_
 refine zA ?_
 simp[go_sem,ea]
 refine zH (S:=Nat×afE) [0,4,7,8] (λu=> [.str s,.ptr 0 0,.str u.2,.int .i64 u.1]) (λ_=> [.box [.int .i64 0,.int .i64 0,.str [],.int .i64 0]]) (λu=>s.length - u.1)
  (λu=>u.1<=s.length/\u.2.length<=u.1/\xS u.1 u.2 (s.drop u.1)=M) hc hb (a+1,[]) (by grind) ?_ ?_
 .exact ca 1 (by rfl) rfl (by rfl) om (zD (by rfl) rfl)
 rintro⟨i,w⟩ ⟨hi,hw,hinv⟩
 simp only at hi hw hinv
 by_cases q:i<s.length
 rotate_left
 .obtain rfl:i=s.length:=om
  rw[Cd]at hinv
  refine zA ?_
  simp[go_sem]
  exact mK (t:=xA) hinv
 have ei:=zR q om
 obtain⟨x,hx⟩:=eX (s[i])
 have aa:=BS x 39
 simp only[Bx]at aa
 rw[A2 q,hx]at hinv
 by_cases ae:x.toNat=39
 rotate_left
 .rw[afc ae]at aa
  rw[Ze _ _ _ _ ae]at hinv
  have ah:(s.take (i+1)).drop i= [x]:=by
   rw[Cp,A0 q,hx,Dz,A8 (by grind),Cx,Dd om]
   simp
  refine zA ?_
  simp[go_sem,q,hx,aa,ei]
  refine zI om ?_
  simp[go_sem,ah]
  refine zI om ?_
  simp[go_sem,ei]
  refine zG (i+1,w++ [x]) ⟨om,(by grind), ?_⟩
  exact ca 1 (by rfl) rfl (by rfl) om (zD (by rfl) rfl)
 rw[afd ae]at aa
 by_cases q2:i+1<s.length
 rotate_left
 .have ak:s.drop (i+1)= []:=(by grind)
  rw[ak,xS,afb ae]at hinv
  unfold yh at hinv
  have e1:((i:Int)+1==(s.length:Int))=true:=by grind
  refine zA ?_
  simp[go_sem,q,hx,aa,ei,e1]
  by_cases af:64<w.length
  .have ab:decide ((64:Int)<w.length)=true:=(by grind)
   rw[afb af]at hinv
   simp[go_sem,ab]
   exact mK (t:=xA) hinv
  .have ab:decide ((64:Int)<w.length)=false:=(by grind)
   rw[afa af]at hinv
   simp[go_sem,ab,ei]
   exact mK (t:=⟨3,0,w,0⟩) hinv
 have e1:((i:Int)+1==(s.length:Int))=false:=by grind
 have al:=zR q2 om
 obtain⟨y,hy⟩:=eX (s[i+1])
 have ag:=BS y 39
 simp only[Bx]at ag
 have ai:s[i+1]?.getD 0=y:=by grind
 have aj:IntKind.i64.wrap ((i:Int)+1+1)=(i:Int)+2:=by grind
 rw[A2 q2,hy,xS,afb ae]at hinv
 by_cases qy:y.toNat=39
 rotate_left
 .rw[afa qy]at hinv
  unfold yh at hinv
  rw[afc qy]at ag
  have ad:((y.toNat:Int) !=39)=true:=by grind
  refine zA ?_
  simp[go_sem,q,hx,aa,ei,e1]
  refine zI om ?_
  simp[go_sem,ai,ad]
  by_cases af:64<w.length
  .have ab:decide ((64:Int)<w.length)=true:=(by grind)
   rw[afb af]at hinv
   simp[go_sem,ab]
   exact mK (t:=xA) hinv
  .have ab:decide ((64:Int)<w.length)=false:=(by grind)
   rw[afa af]at hinv
   simp[go_sem,ab,ei]
   exact mK (t:=⟨3,0,w,0⟩) hinv
 rw[afb qy]at hinv
 rw[afd qy]at ag
 have ad:((y.toNat:Int) !=39)=false:=by grind
 have ah:(s.take (i+2)).drop (i+1)= [y]:=by
  rw[Cp,A0 q2,hy,Dz,A8 (by grind),Cx,Dd om]
  simp
 refine zA ?_
 simp[go_sem,q,hx,aa,ei,e1]
 have et:((i:Int)+2).toNat=i+2:=om
 have an:IntKind.i64.wrap ((i:Int)+1+1)=((i+2:Nat):Int):=om
 refine zI om ?_
 simp[go_sem,ai,ad,ei,aj,et]
 refine zI om ?_
 simp[go_sem,ah]
 refine zI om ?_
 simp[go_sem,aj]
 refine zG (i+2,w++ [y]) ⟨om,(by grind), ?_⟩
 exact ca 1 (by rfl) rfl (by rfl) om (zD (by rfl) rfl)
def gX (c:UInt8):Bool:=wM c||xN c
def eG:afE:= [40,41,44,59,42,61,60,62,43,45,47,37]
def gr (s:afE) (a:Nat):TR:=
 if wM (s.getD a 0)=true then(⟨1,0,((s.drop a).takeWhile gX).map yG,0⟩,a+((s.drop a).takeWhile gX).length,0)
 else if xN (s.getD a 0)=true then kf a (s.drop a)
 else if(s.getD a 0).toNat=39 then xS (a+1) [] (s.drop (a+1))
 else if a+1<s.length/\((s.drop a).take 2= [60,61]\/(s.drop a).take 2= [62,61]\/(s.drop a).take 2= [60,62])then(⟨4,0,(s.drop a).take 2,0⟩,a+2,0)
 else if eG.contains (s.getD a 0)=true then(⟨4,0,[s.getD a 0],0⟩,a+1,0)
 else(xA,0,13)
theorem Zg (s:afE) (hl:s.length<=maxLen) (a:Nat) (ha:a<s.length):Pure prog 134 [.str s,.int .i64 a] (tG (gr s a)):=by
 generalize hM:gr s a=M
 have af:=Zd s hl a om
 have ag:=Zf s hl a ha
 unfold gr at hM
 unfold maxLen at hl
 have ay:s.getD a 0=s[a]:=by grind
 rw[ay]at hM
 obtain⟨x,hx⟩:=eX (s[a])
 rw[hx]at hM
 have ab:=IX x
 have ad:=Gm x
 generalize kf a (s.drop a)=n at af hM
 generalize xS (a+1) [] (s.drop (a+1))=t at ag hM
 have ret: ∀(y:TR) (τ:St),y=M->cj (some (.cm [.agg [.int .i64 y.1.kind,.int .i64 y.1.place,.str y.1.s,.int .i64 y.1.n],.int .i64 y.2.1,.int .i64 y.2.2])) 0 (λr U=>r=tG M/\U= []) τ:=λy τ h=>mK (t:=y.1) h
 refine iV 0 func134 ntmps134 results134 λc hc hb=> ?_
 refine zA ?_
 simp[go_sem,ha,hx]
 by_cases q1:wM x=true
 .rw[afb q1]at hM
  rw[q1]at ab
  refine pC ab ?_
  simp[go_sem]
  refine zH (S:=Nat×afE) [0,1,4,7] (λu=> [.str s,.int .i64 u.1,.ptr 0 0,.str u.2]) (λ_=> [.box [.int .i64 0,.int .i64 0,.str [],.int .i64 0]]) (λu=>s.length - u.1)
   (λu=>u.1<=s.length/\u.2.length<=u.1/\((⟨1,0,u.2++((s.drop u.1).takeWhile gX).map yG,0⟩,u.1+((s.drop u.1).takeWhile gX).length,0):TR)=M) hc hb (a,[]) (by grind) ?_ ?_
  .exact ca 1 (by rfl) rfl (by rfl) om (zD (by rfl) rfl)
  rintro⟨i,w⟩ ⟨hi,hw,hinv⟩
  simp only at hi hw hinv
  by_cases q:i<s.length
  rotate_left
  .obtain rfl:i=s.length:=om
   rw[Cd]at hinv
   simp only[List.takeWhile_nil,Bk,B6,D4,D2]at hinv
   refine zA ?_
   simp[go_sem]
   exact mK (t:=⟨1,0,w,0⟩) hinv
  have ei:=zR q om
  obtain⟨y,hy⟩:=eX (s[i])
  rw[A2 q,hy]at hinv
  have az:=IX y
  have ae:=Gm y
  have aq:=Mf y
  have yes:gX y=true->((⟨1,0,(w++ [yG y])++((s.drop (i+1)).takeWhile gX).map yG,0⟩,i+1+((s.drop (i+1)).takeWhile gX).length,0):TR)=M:=λh=>by
   rw[Cv h]at hinv
   grind
  have no:gX y=false->((⟨1,0,w,0⟩,i,0):TR)=M:=(by grind[List.takeWhile_cons_of_neg])
  have ar:Ft [[V.int .u8 ((yG y).toNat:Int)]]:=wY [yG y]
  have au:sS [V.int .u8 ((yG y).toNat:Int)]=yG y:=(List.cons.inj (Fu [yG y])).1
  refine zA ?_
  simp[go_sem,q,hy]
  refine pC az ?_
  refine(A4 (wM y)).elim (λp1=> ?_) (λp1=> ?_)
  .have av:=yes (by unfold gX;grind)
   simp[go_sem,p1,q,hy]
   refine pC aq ?_
   simp[go_sem]
   refine zI ar ?_
   simp[go_sem,au]
   refine zI om ?_
   simp[go_sem,ei]
   refine zG (i+1,w++ [yG y]) ⟨om,(by grind), ?_⟩
   exact ca 1 (by rfl) rfl (by rfl) om (zD (by rfl) rfl)
  refine(A4 (xN y)).elim (λp2=> ?_) (λp2=> ?_)
  .have av:=yes (by unfold gX;grind)
   simp[go_sem,p1,q,hy]
   refine pC ae ?_
   simp[go_sem,p2,q,hy]
   refine pC aq ?_
   simp[go_sem]
   refine zI ar ?_
   simp[go_sem,au]
   refine zI om ?_
   simp[go_sem,ei]
   refine zG (i+1,w++ [yG y]) ⟨om,(by grind), ?_⟩
   exact ca 1 (by rfl) rfl (by rfl) om (zD (by rfl) rfl)
  .have a1:=no (by unfold gX;grind)
   simp[go_sem,p1,q,hy]
   refine pC ae ?_
   simp[go_sem,p2]
   exact mK (t:=⟨1,0,w,0⟩) a1
 have q1:wM x=false:=by grind
 rw[afa om]at hM
 rw[q1]at ab
 refine pC ab ?_
 simp[go_sem,ha,hx]
 by_cases q2:xN x=true
 .rw[afb q2]at hM
  rw[q2]at ad
  refine pC ad ?_
  simp[go_sem]
  refine zM af cB (zZ rfl) (Jf _) ?_
  simp[go_sem,tG]
  exact ret _ _ hM
 have q2:xN x=false:=by grind
 rw[afa om]at hM
 rw[q2]at ad
 refine pC ad ?_
 simp[go_sem,ha,hx]
 have aa:=BS x 39
 simp only[Bx]at aa
 by_cases q3:x.toNat=39
 .rw[afb q3]at hM
  rw[afd q3]at aa
  simp[go_sem,aa]
  refine zM ag cB (zZ rfl) (Jf _) ?_
  simp[go_sem,tG]
  exact ret _ _ hM
 rw[afa q3]at hM
 rw[afc q3]at aa
 simp[go_sem,aa]
 have aw: ∀(y:UInt8),((y.toNat:Int)==(x.toNat:Int))=(y==x):=λy=>by
  rw[Bool.eq_iff_iff]
  simp only[afh]
  exact⟨λh=>UInt8.toNat_inj.1 om,(by grind)⟩
 have ea:IntKind.i64.wrap ((a:Int)+1)=((a+1:Nat):Int):=(by grind[zR])
 have ah:(s.take (a+1)).drop a= [x]:=by
  rw[Cp,A0 ha,hx,Dz,A8 (by grind),Cx,Dd om]
  simp
 by_cases qa:a+1<s.length
 rotate_left
 .have ai:decide ((a:Int)+1<s.length)=false:=(by grind)
  rw[afa om]at hM
  simp[go_sem,ea,ai]
  refine zH (S:=Nat) [0,1,4,9] (λk=> [.str s,.int .i64 a,.ptr 0 0,.int .i64 (k:Int)]) (λ_=> [.box [.int .i64 0,.int .i64 0,.str [],.int .i64 0]]) (λk=>12 - k)
   (λk=>k<=12/\(if(eG.drop k).contains x=true then(⟨4,0,[x],0⟩,a+1,0)else(xA,0,13):TR)=M) hc hb 0 ⟨om,hM⟩ ?_ ?_
  .exact ca 1 (by rfl) rfl (by rfl) om (zD (by rfl) rfl)
  rintro k ⟨hk,hinv⟩
  by_cases qk:k<12
  rotate_left
  .obtain rfl:k=12:=om
   refine zA ?_
   simp[go_sem]
   exact mK (t:=xA) hinv
  have aj:k<eG.length:=qk
  have ek:=zR qk dc
  have ak:decide ((k:Int)<12)=true:=(by grind)
  obtain⟨y,hy⟩:=eX (eG[k])
  rw[A2 aj,hy]at hinv
  have al: [40,41,44,59,42,61,60,62,43,45,47,37][k]?.getD (0:UInt8)=y:=by
   have:eG[k]?.getD 0=y:=by grind
   exact this
  refine zA ?_
  simp[go_sem,ak]
  refine yV [] 1 sm (by rfl) kR ?_
  simp[go_sem]
  refine zI om ?_
  simp[go_sem,ha,hx,al,aw]
  by_cases qe:(y==x)=true
  .have an:y=x:=by grind
   rw[afb (by simp[an])]at hinv
   simp[go_sem,qe,ea]
   refine zI om ?_
   simp[go_sem,ah,ea]
   exact mK (t:=⟨4,0,[x],0⟩) hinv
  .have qe:(y==x)=false:=by grind
   have ao:(y::eG.drop (k+1)).contains x=(eG.drop (k+1)).contains x:=by
    rw[Ds,show(x==y)=false by grind]
    rfl
   rw[ao]at hinv
   simp[go_sem,qe,ek]
   exact zG (k+1) ⟨om,(by grind),ca 1 (by rfl) rfl (by rfl) om (zD (by rfl) rfl)⟩
 have ai:decide ((a:Int)+1<s.length)=true:=(by grind)
 have ax:IntKind.i64.wrap ((a:Int)+2)=(a:Int)+2:=by grind[bR]
 have et:((a:Int)+2).toNat=a+2:=om
 have ae:(s.drop a).take 2=(s.take (a+2)).drop a:=by grind
 rw[ae]at hM
 simp[go_sem,ea,ax,et,ai]
 refine zI om ?_
 simp[go_sem]
 generalize (s.take (a+2)).drop a=two at hM
 have yes:(two= [60,61]\/two= [62,61]\/two= [60,62])->((⟨4,0,two,0⟩,a+2,0):TR)=M:=(by grind)
 have no: ¬(two= [60,61]\/two= [62,61]\/two= [60,62])->(if eG.contains x=true then(⟨4,0,[x],0⟩,a+1,0)else(xA,0,13):TR)=M:=(by grind)
 clear hM
 by_cases qt:two= [60,61]\/two= [62,61]\/two= [60,62]
 .have hM:=yes qt
  rcases qt with rfl|rfl|rfl
  all_goals simp[go_sem,ax]
  all_goals exact mK (t:=⟨4,0,_,0⟩) hM
 .have hM:=no qt
  have p1:(two== [60,61])=false:=by grind
  have p2:(two== [62,61])=false:=by grind
  have p3:(two== [60,62])=false:=by grind
  clear yes no qt
  simp[go_sem,p1,p2,p3]
  refine zH (S:=Nat) [0,1,4,9] (λk=> [.str s,.int .i64 a,.ptr 0 0,.int .i64 (k:Int)]) (λ_=> [.box [.int .i64 0,.int .i64 0,.str [],.int .i64 0]]) (λk=>12 - k)
   (λk=>k<=12/\(if(eG.drop k).contains x=true then(⟨4,0,[x],0⟩,a+1,0)else(xA,0,13):TR)=M) hc hb 0 (by grind) ?_ ?_
  .exact ca 1 (by rfl) rfl (by rfl) om (zD (by rfl) rfl)
  rintro k ⟨hk,hinv⟩
  by_cases qk:k<12
  rotate_left
  .obtain rfl:k=12:=om
   refine zA ?_
   simp[go_sem]
   exact mK (t:=xA) hinv
  have aj:k<eG.length:=qk
  have ek:=zR qk dc
  have ak:decide ((k:Int)<12)=true:=(by grind)
  obtain⟨y,hy⟩:=eX (eG[k])
  rw[A2 aj,hy]at hinv
  have al: [40,41,44,59,42,61,60,62,43,45,47,37][k]?.getD (0:UInt8)=y:=by
   have:eG[k]?.getD 0=y:=by grind
   simpa
  refine zA ?_
  simp[go_sem,ak]
  refine yV [] 1 sm kR kR ?_
  simp[go_sem]
  refine zI om ?_
  simp[go_sem,ha,hx,al,aw]
  by_cases qe:(y==x)=true
  .have an:y=x:=by grind
   rw[afb (by simp[an])]at hinv
   simp[go_sem,qe,ea]
   refine zI om ?_
   simp[go_sem,ah,ea]
   exact mK (t:=⟨4,0,[x],0⟩) hinv
  .have qe:(y==x)=false:=by grind
   have ao:(y::eG.drop (k+1)).contains x=(eG.drop (k+1)).contains x:=by
    grind
   rw[ao]at hinv
   simp[go_sem,qe,ek]
   exact zG (k+1) ⟨om,(by grind),ca 1 (by rfl) rfl (by rfl) om (zD (by rfl) rfl)⟩
def kT (s:afE):Nat->Nat->List bJ->List bJ×Int
 |0,_,_=>([],0)
 |n+1,a,l=>
  if a<s.length then
   (if tF (s.getD a 0)=true then kT s n (a+1) l
   else if(gr s a).2.2=0 then kT s n (gr s a).2.1 (l++ [{(gr s a).1 with place:=a}])else([],(gr s a).2.2))
  else(l++ [⟨0,s.length,[],0⟩],0)
def iu (s:afE):List bJ×Int:=if 2000<s.length then([],3)else kT s (s.length+1) 0 []
theorem Q7: ∀(l:afE) (v r:Int),0<=v->v<=9223372036854775807->jq v l=some r->0<=r/\r<=9223372036854775807
 | [],v,r,h0,h1,h=>by rw[jq]at h;cases h;exact⟨h0,h1⟩
 |c::l,v,r,h0,h1,h=>by
  rw[jq]at h
  split at h
  .rename_i hd
   have hr:=Q6 hd
   split at h
   .cases h
   .exact Q7 l _ r om om h
  .cases h;exact⟨h0,h1⟩
theorem Mu: ∀(k:Nat) (l:afE),l.length<=k-> ∀(i:Nat) (w:afE),(xS i w l).2.2=0->i<(xS i w l).2.1/\(xS i w l).2.1<=i+l.length/\(xS i w l).1.s.length<=64/\(xS i w l).1.n=0
 |0,l,hk,i,w,h=>by
  have:l= []:=B5 om
  subst this
  simp[xS]at h
 |k+1,l,hk,i,w,h=>by
  match l,hk with
  | [],_=>simp[xS]at h
  | [c],_=>
   rw[xS]at h⊢
   split at h
   .rename_i hc
    rw[afb hc]
    unfold yh at h⊢
    split at h
    .simp at h
    .rename_i aa
     rw[afa aa]
     exact⟨sm,sm,by simp only;omega,rfl⟩
   .simp at h
  |c::c2::l,hk=>
   rw[xS]at h⊢
   split at h
   .rename_i hc
    rw[afb hc]
    split at h
    .rename_i ab
     rw[afb ab]
     have:=Mu k l (by simp at hk;omega) _ _ h
     simp only[Ab]
     omega
    .rename_i ab
     rw[afa ab]
     unfold yh at h⊢
     split at h
     .simp at h
     .rename_i aa
      rw[afa aa]
      exact⟨sm,sm,by simp only;omega,rfl⟩
   .rename_i hc
    rw[afa hc]
    have:=Mu k (c2::l) (by simp at hk⊢;omega) _ _ h
    simp only[Ab]at this⊢
    omega
theorem Mw {p:UInt8->Bool}: ∀l:afE,(l.takeWhile p).length<=l.length
 | []=>A3 _
 |c::l=>by
  rw[afx]
  have:=Mw (p:=p) l
  split<;>simp only[Ab,D4]<;>omega
theorem Jg {s:afE} {a:Nat} (ha:a<s.length) (h:(gr s a).2.2=0):a<(gr s a).2.1/\(gr s a).2.1<=s.length/\(gr s a).1.s.length<=s.length+64/\0<=(gr s a).1.n/\(gr s a).1.n<=9223372036854775807:=by
 have aa:s.getD a 0=s[a]:=by rw[A9,A0 ha];rfl
 have ab:=A2 ha
 unfold gr at h⊢
 rw[aa,ab]at h⊢
 obtain⟨x,hx⟩:=eX (s[a])
 rw[hx]at h⊢
 have hl:(s.drop (a+1)).length=s.length - (a+1):=C7
 generalize s.drop (a+1)=l at h hl⊢
 split at h
 .rename_i q1
  rw[afb q1]
  have hw:gX x:=by unfold gX;rw[q1];rfl
  have:=Mw (p:=gX) l
  rw[Cv hw]
  simp only[Ab,Bb]
  omega
 rename_i q1
 rw[afa q1]
 split at h
 .rename_i q2
  rw[afb q2]
  unfold kf at h⊢
  split at h
  .simp at h
  rename_i r hr
  have ad:=Q7 _ 0 r (Int.le_refl _) dc hr
  split at h
  .simp at h
  rename_i hle
  rw[afa hle,Cv q2]
  have:=Mw (p:=xN) l
  simp only[Ab,D4]
  omega
 rename_i q2
 rw[afa q2]
 split at h
 .rename_i q3
  rw[afb q3]
  have:=Mu l.length l (A3 _) _ _ h
  omega
 rename_i q3
 rw[afa q3]
 split at h
 .rename_i q4
  rw[afb q4]
  simp only[Cx]
  omega
 rename_i q4
 rw[afa q4]
 split at h
 .rename_i q5
  rw[afb q5]
  simp only[Bf]
  omega
 .simp at h
def Jh (t:bJ):Prop:=t.s.length<=3000/\0<=t.n/\t.n<=9223372036854775807
theorem Mx {s:afE} (hs:s.length<=2000): ∀(n a:Nat) (l:List bJ),s.length<n+a->a<=s.length->l.length<=a->(∀t∈l,Jh t)->(kT s n a l).2=0->
  ∃l',(kT s n a l).1=l'++ [⟨0,s.length,[],0⟩]/\l'.length<=s.length/\ ∀t∈l',Jh t
 |0,a,l,hf,ha,_,_,_=>by omega
 |n+1,a,l,hf,ha,hl,ht,h=>by
  unfold kT at h⊢
  by_cases q:a<s.length
  rotate_left
  .rw[afa q]
   exact⟨l,rfl,om,ht⟩
  rw[afb q]at h⊢
  by_cases q2:tF (s.getD a 0)=true
  .rw[afb q2]at h⊢
   exact Mx hs n (a+1) l om om om ht h
  rw[afa q2]at h⊢
  by_cases q3:(gr s a).2.2=0
  .rw[afb q3]at h⊢
   have ho:=Jg q q3
   refine Mx hs n _ _ om om (by simp;omega) (λt aa=> ?_) h
   rw[Ar]at aa
   rcases aa with aa|aa
   .exact ht t aa
   .simp only[Ae,B4,afn]at aa
    subst aa
    unfold Jh
    simp only
    omega
  .rw[afa q3]at h
   exact absurd h q3
theorem Q8 {s:afE} (h:(iu s).2=0):s.length<=2000/\ee (iu s).1/\fZ (iu s).1/\1<=(iu s).1.length/\(iu s).1.length<=2001:=by
 unfold iu at h⊢
 split at h
 .simp at h
 rename_i hl
 rw[afa hl]
 obtain⟨l',h1,h2,h3⟩:=Mx om _ _ _ om (A5 _) (A3 _) (λt ht=>by cases ht) h
 have h4: ∀t∈l'++ [⟨0,s.length,[],0⟩],Jh t:=λt ht=>by
  rw[Ar]at ht
  rcases ht with ht|ht
  .exact h3 t ht
  .simp only[Ae,B4,afn]at ht
   subst ht
   exact⟨A5 _,Int.le_refl _,sm⟩
 rw[h1]
 refine⟨om,⟨by simp;omega,λi hi=> ?_,λt ht=> ?_⟩,⟨λt ht=> ?_,λt ht=>(h4 t ht).2⟩,sm,by simp;omega⟩
 .have:i=l'.length:=by simp at hi;omega
  subst this
  rw[A9,Ay (A3 _),Nat.sub_self]
  rfl
 .have:=(h4 t ht).1;unfold maxLen;omega
 .have:=(h4 t ht).1;omega
def u7 (x:List bJ×Int):V:= .cm [.sl .ro (x.1.map bJ.row),.int .i64 x.2]
theorem My {g:Tag} {l:List bJ} {M:List bJ×Int} (h:(l,e)=M):cj (some (.cm [.sl g (l.map bJ.row),.int .i64 e])) 0 (λr U=>r=u7 M/\U= []) τ:=by
 subst h
 exact yL (r:= .cm [.sl .ro (l.map bJ.row),.int .i64 e]) (wK ⟨xw,mf rfl,tV⟩) ⟨rfl,rfl⟩
theorem Zh (s:afE) (hl:s.length<=maxLen):Pure prog 70 [.str s] (u7 (iu s)):=by
 generalize hM:iu s=M
 unfold iu at hM
 unfold maxLen at hl
 refine iV 0 func70 ntmps70 results70 λc hc hb=> ?_
 refine zA ?_
 simp[go_sem]
 by_cases q0:2000<s.length
 .rw[afb q0]at hM
  have ad:decide ((2000:Int)<s.length)=true:=afd om
  simp[go_sem,ad]
  exact My (l:= []) hM
 rw[afa q0]at hM
 have ad:decide ((2000:Int)<s.length)=false:=afc om
 simp[go_sem,ad]
 refine rL 4 4 dc sg ?_
 refine zH (S:=Nat×List bJ) [0,4,5] (λu=> [.str s,.sl (.app 0) (u.2.map bJ.row),.int .i64 u.1]) (λu=> [.app u.2.length 4]) (λu=>s.length - u.1)
  (λu=>u.1<=s.length/\u.2.length<=u.1/\ ∃n,s.length<n+u.1/\kT s n u.1 u.2=M) hc hb (0,[]) ⟨A5 _,A3 _,s.length+1,by simp only;omega,hM⟩ ?_ ?_
 .exact aN 1 (by rfl)
 rintro⟨a,l⟩ ⟨ha,af,n,hn,hinv⟩
 simp only at ha af hn hinv
 obtain⟨n,rfl⟩: ∃m,n=m+1:=⟨n - 1,om⟩
 rw[kT]at hinv
 by_cases q:a<s.length
 rotate_left
 .rw[afa q]at hinv
  refine zA ?_
  simp[go_sem,q]
  refine zI ⟨om,zX rfl⟩ ?_
  simp[go_sem]
  have hr:=λg τ=>My (g:=g) (τ:=τ) hinv
  simp at hr
  exact hr _ _
 rw[afb q]at hinv
 have ea:=zR q om
 obtain⟨x,hx⟩:=eX (s[a])
 have ag:s.getD a 0=x:=by rw[A9,A0 q,hx];rfl
 rw[ag]at hinv
 have aa:=Zb x
 by_cases q2:tF x=true
 .rw[afb q2]at hinv
  rw[q2]at aa
  refine zA ?_
  simp[go_sem,q,hx]
  refine pC aa ?_
  simp[go_sem,ea]
  exact zG (a+1,l) ⟨by simp only;omega,⟨by simp only;omega,by simp only;omega,n,by simp only;omega,hinv⟩,aN 1 (by rfl)⟩
 have q2:tF x=false:=sU q2
 rw[afa (by rw[q2];decide)]at hinv
 rw[q2]at aa
 have ab:=Zg s (by unfold maxLen;omega) a q
 have cH:=Jg q
 generalize gr s a=o at ab cH hinv
 by_cases q3:o.2.2=0
 .rw[afb q3]at hinv
  have cH:=cH q3
  have ae:(o.2.2 !=0)=false:=sU q3
  refine zA ?_
  simp[go_sem,q,hx]
  refine pC aa ?_
  simp[go_sem]
  refine zM ab cB (zZ rfl) (Jf _) ?_
  simp[go_sem,tG,ae]
  refine zI ⟨om,zX rfl⟩ ?_
  simp[go_sem]
  refine zG (o.2.1,l++ [{o.1 with place:=a}]) ⟨by simp only;omega,⟨by simp only;omega,by simp;omega,n,by simp only;omega,hinv⟩, ?_⟩
  exact aN 1 (by rfl)
 .rw[afa q3]at hinv
  have ae:(o.2.2 !=0)=true:=sU q3
  refine zA ?_
  simp[go_sem,q,hx]
  refine pC aa ?_
  simp[go_sem]
  refine zM ab cB (zZ rfl) (Jf _) ?_
  simp[go_sem,tG,ae]
  exact My (l:= []) hinv
variable {L:List bJ}
def EF:afE:= [83,69,76,69,67,84]
def EG:afE:= [73,78,83,69,82,84]
def EH:afE:= [85,80,68,65,84,69]
def yi:afE:= [68,69,76,69,84,69]
def iN (L:List bJ) (s:RS):bQ×RS:=
 if cC L EF s=true then pL L (zJ s)
 else if cC L EG s=true then pM L (zJ s)
 else if cC L EH s=true then pN L (zJ s)
 else
  let n:=yN L (zV L nY (zV L yi s))
  (⟨4,n.1,[],[],[],(ja L n.2).1,(ja L n.2).2,[],false,0⟩,lP L n.2)
theorem Zi (hL:ee L) {s:RS} (h:cP L s) (ho:s.bS=0):UI L s (pL L s).2:=by
 unfold pL
 have h1:=Mr hL h ho
 have h2:=h1.trans (yC hL nY h1.cd)
 have h3:=h2.trans (mI hL h2.cd)
 have h4:=h3.trans (EE hL h3.cd (h3.bS.trans ho))
 have h5:=h4.trans (Mq hL h4.cd)
 exact h5.trans (Q3 hL h5.cd)
theorem Mz (hL:ee L) {s:RS} (h:cP L s) (ho:s.bS=0):UI L s (iN L s).2:=by
 unfold iN
 split
 .have h1:=yW hL h ‹_›
  exact h1.trans (Zi hL h1.cd (h1.bS.trans ho))
 split
 .have h1:=yW hL h ‹_›
  exact h1.trans (Y7 hL h1.cd (h1.bS.trans ho))
 split
 .have h1:=yW hL h ‹_›
  exact h1.trans (Y9 hL h1.cd (h1.bS.trans ho))
 .have h1:=yC hL yi h
  have h2:=h1.trans (yC hL nY h1.cd)
  have h3:=h2.trans (mI hL h2.cd)
  exact h3.trans (EE hL h3.cd (h3.bS.trans ho))
theorem Zj (L:List bJ) (hL:ee L) (s:RS) (hs:cP L s) (ho:s.bS=0):bK prog 73 [.ptr 0 0] [rB L s] (RT L (iN L s)):=by
 generalize hM:iN L s=M
 unfold iN at hM
 have ret: ∀(x:bQ×RS) (τ:St),x=M->cj (some (.agg x.1.row)) 1 (RT L M) (rB L x.2::τ):=λx τ h=>oQ (g1:= .ro) (g2:= .ro) (g3:= .ro) (g4:= .ro) (st:=x.1) h
 refine iW 1 func73 ntmps73 results73 λc hc hb=>zL ?_
 simp[go_sem]
 by_cases q1:cC L EF s=true
 .rw[afb q1]at hM
  have aa:=Y6 L hL (zJ s) (hs.next hL q1) ho
  generalize pL L (zJ s)=x at aa hM
  refine pR (xK L hL s hs _ q1) ?_
  simp[go_sem]
  refine Gn aa cB fb (Gy _) ?_
  simp[go_sem]
  exact ret x _ hM
 have q1:cC L EF s=false:=sU q1
 rw[afa (by rw[q1];decide)]at hM
 refine pR (wO L hL s hs _ q1) ?_
 simp[go_sem]
 by_cases q2:cC L EG s=true
 .rw[afb q2]at hM
  have aa:=Y8 L hL (zJ s) (hs.next hL q2) ho
  generalize pM L (zJ s)=x at aa hM
  refine pR (xK L hL s hs _ q2) ?_
  simp[go_sem]
  refine Gn aa cB fb (Gy _) ?_
  simp[go_sem]
  exact ret x _ hM
 have q2:cC L EG s=false:=sU q2
 rw[afa (by rw[q2];decide)]at hM
 refine pR (wO L hL s hs _ q2) ?_
 simp[go_sem]
 by_cases q3:cC L EH s=true
 .rw[afb q3]at hM
  have aa:=Za L hL (zJ s) (hs.next hL q3) ho
  generalize pN L (zJ s)=x at aa hM
  refine pR (xK L hL s hs _ q3) ?_
  simp[go_sem]
  refine Gn aa cB fb (Gy _) ?_
  simp[go_sem]
  exact ret x _ hM
 have q3:cC L EH s=false:=sU q3
 rw[afa (by rw[q3];decide)]at hM
 refine pR (wO L hL s hs _ q3) ?_
 simp[go_sem]
 have af:=kQ L hL s hs yi
 have ab:=yC hL yi hs
 generalize zV L yi s=s1 at af ab hM
 have ag:=kQ L hL s1 ab.cd nY
 have ad:=ab.trans (yC hL nY ab.cd)
 generalize zV L nY s1=s2 at ag ad hM
 have hn:=BH L hL s2 ad.cd
 have ae:=ad.trans (mI hL ad.cd)
 generalize yN L s2=n at hn ae hM
 obtain⟨nm,s3⟩:=n
 simp only at hn ae hM
 obtain⟨gw,hw⟩:=Mo L hL s3 ae.cd (ae.bS.trans ho) [qC,.box [.int .i64 4,.str nm,.sl .full [],.sl .full [],.sl .full [],.bool false,.int .i64 0,.str [],.int .i64 0,.int .i64 0,.str [],.sl .full [],.str [],.bool false,.int .i64 0]] 1 _ _ _ _ _ _ _ _ rfl
 generalize lP L s3=s4 at hw hM
 generalize ja L s3=w at hw hM
 refine pR af ?_
 simp[go_sem]
 refine pR ag ?_
 simp[go_sem]
 refine pR hn ?_
 simp[go_sem]
 refine F1 hw cB ?_
 rintro r U ⟨rfl,rfl⟩ _
 simp[go_sem]
 exact oQ (st:=⟨4,nm,[],[],[],w.1,w.2,[],false,0⟩) hM
theorem wS {P:Program} {c:Ctx} {f:FuncId} {bU args bZ:List V} {o:Ob} {L:List bJ} {s:RS} {v:V} {KV:V->St->Prop} (hc:bK P f bZ [rB L s] (λr U=>r=v/\U= [rB L s'])) (hb:wE P f)
  (aa:bL (cF (cz [1] (τ.length+2))) bZ (args++bU)) (hn:gR v) (hk:KV v (o::rB L s'::τ)):iZ P c (.fn f bU) args (o::rB L s::τ) KV fx:=by
 refine lF 1 hc hb rfl (IZ _ _ _) aa (λr U h=>⟨_,h.2,IZ _ _ _⟩) ?_
 rintro r o2 ⟨rfl,h2⟩
 obtain rfl:o2=rB L s':=sU h2
 rw[xg hn]
 exact hk
theorem Q9 {P:Program} {c:Ctx} {n:Nat} {f:FuncId} {bU args bZ:List V} {o:Ob} {L:List bJ} {s:RS} {v:V} {KV:V->St->Prop} (hc:bK P f bZ [rB L s] (λr U=>r=v/\U= [rB L s'])) (hb:wE P f)
  (aa:bL (cF (cz [1] (τ.length+2))) bZ (args++bU)) (hn:gR v) (hk:KV v (o::rB L s'::τ)):pz P c ⟨2,n,[],none⟩ 3 (.fn f bU) args (o::rB L s::τ) KV fx:=by
 have ab: ∀(N:Nat) (s:RS),yF (cz [1] N) (rB L s)=rB L s:=λN s=>xH (n:=0) (λ_ h=>absurd h (Nat.not_lt_zero _)) (IZ _ _ _)
 have e:xQ [1] (o::rB L s::τ) [rB L s']=o::rB L s'::τ:=by
  simp only[xQ,Bf,Bl,Cy,Br,Az,Ai,Bk,fQ,B6,ab]
  rfl
 refine PA hc hb [1] sm rfl (λi j q h1 h2=> ?_) aa (.inr ?_) ?_
 .match i with
  |0=>simp at h1 h2;subst h1;subst h2;rw[ab];rfl
  |i+1=>simp at h1
 .rw[e];exact Kp.im (U:=o::rB L s::τ) (id:=1) (o:=rB L s') (.inl sm)
 .rw[e,xg hn];exact hk
theorem mg {N:Nat} {l l':List V} (h:bL (cF (cz [1] N)) l l'):bL (cF (cz [1] N)) (.ptr 0 0::l) (.ptr 1 0::l'):=⟨.inl rfl,h⟩
theorem BT {N:Nat}:bL (cF (cz [1] N)) [.ptr 0 0] [.ptr 1 0]:=mg trivial
variable {L:List bJ}
def qE:afE:= [65,83]
def GA:afE:= [79,70]
def GB:afE:= [83,89,83,84,69,77]
def GC:afE:= [84,73,77,69]
def MA:afE:= [66,79,85,78,68]
def MB:List afE:= [EF,EG,EH,yi]
def nZ (L:List bJ) (s:RS):Bool:= !(dm L s MB).isEmpty
def mh (L:List bJ):Nat->List bQ->RS->List bQ×RS
 |0,l,s=>(l,s)
 |n+1,l,s=>
  if s.err=0 then
   if(ir L l.length 8 (nZ L s) s).err=0 then
    if cC L [59] (iN L s).2=true then
     if cC L qE (zJ (iN L s).2)=true\/(bV L (zJ (iN L s).2)).kind=0 then(l++ [(iN L s).1],zJ (iN L s).2)
     else mh L n (l++ [(iN L s).1]) (zJ (iN L s).2)
    else(l++ [(iN L s).1],(iN L s).2)
   else(l,ir L l.length 8 (nZ L s) s)
  else(l,s)
def yj (L:List bJ) (s:RS):RS:=zV L GC (zV L GB (zV L GA (zJ s)))
def pO (L:List bJ) (s:RS):(Int×Int)×RS:=
 if cC L qE s=true then
  if cC L MA (yj L s)=true then((2,(fR L (zJ (yj L s))).1),(fR L (zJ (yj L s))).2)
  else((1,(fR L (yj L s)).1),(fR L (yj L s)).2)
 else((0,0),s)
def lQ (L:List bJ) (s:RS):RS:=if s.err=0/\(bV L s).kind≠0 then wL 13 (bV L s).place s else s
def oR:RS:=⟨0,0,0,0⟩
def rY:fj:=⟨0,0,[]⟩
def GD (L:List bJ):fj×Int×Int:=
 let x:=mh L 9 [] oR
 let a:=pO L x.2
 let e:=lQ L a.2
 if e.err=0 then(⟨a.1.1,a.1.2,x.1⟩,0,0)else(rY,e.place,e.err)
def lR (s:afE):fj×Int×Int:=if(iu s).2=0 then GD (iu s).1 else(rY,0,(iu s).2)
theorem Ra (hL:ee L): ∀(n:Nat) (l:List bQ) (s:RS),cP L s->s.bS=0->UI L s (mh L n l s).2
 |0,_,_,h,_=>UI.refl h
 |n+1,l,s,h,ho=>by
  unfold mh
  split
  .split
   .have h1:=Mz hL h ho
    split
    .have h2:=h1.trans (yW hL h1.cd ‹_›)
     split
     .exact h2
     .exact h2.trans (Ra hL n _ _ h2.cd (h2.bS.trans ho))
    .exact h1
   .exact rV h
  .exact UI.refl h
theorem Rb (hL:ee L) {s:RS} (h:cP L s) (hi:cC L qE s):UI L s (yj L s):=by
 unfold yj
 have h1:=yW hL h hi
 have h2:=h1.trans (yC hL GA h1.cd)
 have h3:=h2.trans (yC hL GB h2.cd)
 exact h3.trans (yC hL GC h3.cd)
theorem Rc (hL:ee L) {s:RS} (h:cP L s):UI L s (pO L s).2:=by
 unfold pO
 split
 .rename_i hi
  have h1:=Rb hL h hi
  split
  .have h2:=h1.trans (yW hL h1.cd ‹_›)
   exact h2.trans (Mm hL h2.cd)
  .exact h1.trans (Mm hL h1.cd)
 grind[UI.refl]
def BU (x:fj×Int×Int):V:= .cm [.agg x.1.row,.int .i64 x.2.1,.int .i64 x.2.2]
theorem MC {g:Tag} {l:fj} {p:Int} {M:fj×Int×Int} (h:(l,p,e)=M):cj (some (.cm [.agg [.int .i64 l.mode,.int .i64 l.n,.sl g (l.stmts.map bQ.row)],.int .i64 p,.int .i64 e])) 0 (λr U=>r=BU M/\U= []) τ:=by
 subst h
 exact yL (r:= .cm [.agg [.int .i64 l.mode,.int .i64 l.n,.sl .ro (l.stmts.map bQ.row)],.int .i64 p,.int .i64 e]) (wK ⟨oK ⟨zU rfl,zU rfl,yX,tV⟩,mf rfl,mf rfl,tV⟩) (by trivial)
def kU (m n:Int) (l:List bQ):Ob:= .box [.int .i64 m,.int .i64 n,.sl (.app 3) (l.map bQ.row)]
def pP:Ob:= .box [.int .i64 0,.int .i64 0,.sl .full []]
theorem Zk (s:afE) (hl:s.length<=maxLen):Pure prog 36 [.str s] (BU (lR s)):=by
 generalize hM:lR s=M
 unfold lR at hM
 have ag:=Zh s hl
 have cH:=Q8 (s:=s)
 generalize iu s=x at ag cH hM
 obtain⟨L,e⟩:=x
 simp only at cH hM
 refine iV 0 func36 ntmps36 results36 λc hc hb=> ?_
 by_cases qe:e=0
 rotate_left
 .rw[afa qe]at hM
  have aq:(e !=0)=true:=by grind
  refine zA ?_
  simp[go_sem]
  refine pC ag ?_
  simp[go_sem,u7,aq]
  exact MC (l:=rY) hM
 obtain⟨_,hL,hG,aD,aE⟩:=cH qe
 rw[afb qe]at hM
 have aq:(e !=0)=false:=by grind
 have h0:cP L oR:=⟨by simpa,dc⟩
 unfold GD at hM
 obtain⟨X,hX⟩:=eX (mh L 9 [] oR)
 rw[hX]at hM
 refine zO (zA ?_)
 simp[go_sem]
 refine zO (zA ?_)
 simp[go_sem]
 refine pC ag ?_
 simp[go_sem,u7]
 refine zO (zA ?_)
 simp[go_sem,aq]
 refine zO (zA ?_)
 simp[go_sem]
 refine zO (zA ?_)
 simp[go_sem]
 refine F0 2 2 15 _ dc rfl rfl ?_
 simp only[Bv,Cl]
 refine nM (S:=List bQ×RS) [2,7,8] (λ_=> [.ptr 0 0,.ptr 1 0,.ptr 2 0]) (λu=> [pP,rB L u.2,kU 0 0 u.1,.app u.1.length 15]) (λu=>cP L u.2/\u.2.bS=0/\u=X) hc hb ?_ ?_
 .refine qp ?_
  refine zH (S:=List bQ×RS) [2,7,8] (λ_=> [.ptr 0 0,.ptr 1 0,.ptr 2 0]) (λu=> [pP,rB L u.2,kU 0 0 u.1,.app u.1.length 15]) (λu=>9 - u.1.length) (λu=>u.1.length<=8/\cP L u.2/\u.2.bS=0/\mh L (9 - u.1.length) u.1 u.2=X) hc hb ([],oR) (by trivial) ?_ ?_
  .exact ca 4 (by rfl) rfl (by rfl) dc (zD (by rfl) rfl)
  rintro⟨l,s1⟩ ⟨aA,hs,ho,hinv⟩
  simp only at aA hs ho hinv
  rw[show 9 - l.length=(8 - l.length)+1 by omega,mh]at hinv
  by_cases q1:s1.err=0
  rotate_left
  .rw[afa q1]at hinv
   have ab:(s1.err==0)=false:=by grind
   refine zA ?_
   simp[go_sem,rB,ab]
   exact zG (l,s1) ⟨(by grind),ca 4 (by rfl) rfl (by rfl) dc (zD (by rfl) rfl)⟩
  have ab:(s1.err==0)=true:=by grind
  rw[afb q1]at hinv
  have ae:=ye L hL s1 hs MB dc
  have aa:=Gw L hL s1 hs l.length 8 (nZ L s1)
  have al:=tC (L:=L) (n:=l.length) (fC:=8) (b:=nZ L s1) (s:=s1)
  have ah:=rV (L:=L) (n:=l.length) (fC:=8) (b:=nZ L s1) hs
  unfold nZ at aa al ah hinv
  generalize dm L s1 MB=an at ae aa al ah hinv
  generalize ir L l.length 8 (!an.isEmpty) s1=m at aa al ah hinv
  by_cases q2:m.err=0
  rotate_left
  .rw[afa q2]at hinv
   have ad:(m.err==0)=false:=by grind
   rw[ad]at aa
   refine zA ?_
   simp[go_sem,rB,ab]
   refine wS ae cB (mg ⟨zK,tV⟩) rfl ?_
   simp[go_sem,kU]
   refine wS aa cB (mg ⟨zC rfl,zC rfl,zC rfl,tV⟩) rfl ?_
   simp[go_sem,rB]
   exact zG (l,m) ⟨⟨ah.cd,ah.bS.trans ho,hinv⟩,ca 4 (by rfl) rfl (by rfl) dc (zD (by rfl) rfl)⟩
  have ad:(m.err==0)=true:=by grind
  rw[ad]at aa
  obtain⟨_,aF,rfl⟩:=al q2
  rw[afb q2]at hinv
  have ar:=Zj L hL m hs ho
  have ao:=Mz hL hs ho
  generalize iN L m=x at ar ao hinv
  obtain⟨st,s2⟩:=x
  simp only at ao hinv
  have ai:=ao.cd
  have aB:=ao.bS.trans ho
  by_cases q3:cC L [59] s2=true
  rotate_left
  .have q3:cC L [59] s2=false:=by grind
   rw[afa om]at hinv
   refine zA ?_
   simp[go_sem,rB,ab]
   refine wS ae cB (mg ⟨zK,tV⟩) rfl ?_
   simp[go_sem,kU]
   refine wS aa cB (mg ⟨zC rfl,zC rfl,zC rfl,tV⟩) rfl ?_
   simp[go_sem]
   refine oL [(3,3)] 2 4 sm (by rfl) kR ?_
   simp[go_sem]
   refine Q9 ar cB BT (Gy _) ?_
   simp[go_sem]
   refine zI ⟨om,zX rfl⟩ ?_
   simp[go_sem]
   refine wS (wO L hL s2 ai _ q3) cB (mg ⟨zC rfl,tV⟩) rfl ?_
   simp[go_sem,rB]
   exact zG (l++ [st],s2) ⟨(by grind),aM 4 (by rfl) (zD (by rfl) rfl)⟩
  rw[afb q3]at hinv
  have au:=ai.next hL q3
  have az:=iM L hL (zJ s2) au qE
  have af:=mG L hL (zJ s2) au
  generalize cC L qE (zJ s2)=ba at az hinv
  generalize bV L (zJ s2)=tk at af hinv
  refine zA ?_
  simp[go_sem,rB,ab]
  refine wS ae cB (mg ⟨zK,tV⟩) rfl ?_
  simp[go_sem,kU]
  refine wS aa cB (mg ⟨zC rfl,zC rfl,zC rfl,tV⟩) rfl ?_
  simp[go_sem]
  refine oL [(3,3)] 2 4 sm (by rfl) kR ?_
  simp[go_sem]
  refine Q9 ar cB BT (Gy _) ?_
  simp[go_sem]
  refine zI ⟨om,zX rfl⟩ ?_
  simp[go_sem]
  refine wS (xK L hL s2 ai _ q3) cB (mg ⟨zC rfl,tV⟩) rfl ?_
  simp[go_sem]
  refine wS az cB (mg ⟨zC rfl,tV⟩) rfl ?_
  refine(A4 ba).elim (λq4=> ?_) (λq4=> ?_)
  .rw[afb (.inl q4)]at hinv
   simp[go_sem,q4,rB]
   exact zG (l++ [st],zJ s2) ⟨(by trivial),aM 4 (by rfl) (zD (by rfl) rfl)⟩
  simp[go_sem,q4]
  refine wS af cB BT rfl ?_
  by_cases q5:tk.kind=0
  .have av:(tk.kind==0)=true:=by grind
   rw[afb (.inr q5)]at hinv
   simp[go_sem,av,rB]
   exact zG (l++ [st],zJ s2) ⟨(by trivial),aM 4 (by rfl) (zD (by rfl) rfl)⟩
  .have av:(tk.kind==0)=false:=by grind
   rw[afa (by grind)]at hinv
   simp[go_sem,av,rB]
   refine zG (l++ [st],zJ s2) ⟨by grind,⟨by grind,au,aB,by grind⟩,aM 4 (by rfl) (zD (by rfl) rfl)⟩
 .rintro⟨l,s1⟩ ⟨hs,ho,aC⟩
  simp only at hs ho
  rw[<-aC]at hM
  simp only at hM
  have aw:=Rc hL hs
  refine nM (S:=(Int×Int)×RS) [2,7,8] (λ_=> [.ptr 0 0,.ptr 1 0,.ptr 2 0]) (λu=> [pP,rB L u.2,kU u.1.1 u.1.2 l,.app l.length 15]) (λu=>u=pO L s1) hc hb ?_ ?_
  .obtain⟨A,hA⟩:=eX (pO L s1)
   rw[hA]
   unfold pO yj at hA
   by_cases q1:cC L qE s1=true
   rotate_left
   .have q1:cC L qE s1=false:=by grind
    rw[afa om]at hA
    refine zA ?_
    simp[go_sem]
    refine wS (wO L hL s1 hs _ q1) cB (mg ⟨zC rfl,tV⟩) rfl ?_
    simp[go_sem]
    exact zG ((0,0),s1) ⟨hA,ca 4 (by rfl) rfl (by rfl) dc (zD (by rfl) rfl)⟩
   rw[afb q1]at hA
   have a1:=hs.next hL q1
   have a6:=kQ L hL _ a1 GA
   have ax:=tq hL (w:=GA) a1
   generalize zV L GA (zJ s1)=u1 at a6 ax hA
   have a7:=kQ L hL _ ax GB
   have ay:=tq hL (w:=GB) ax
   generalize zV L GB u1=u2 at a7 ay hA
   have a8:=kQ L hL _ ay GC
   have aj:=tq hL (w:=GC) ay
   generalize zV L GC u2=u3 at a8 aj hA
   refine zA ?_
   simp[go_sem]
   refine wS (xK L hL s1 hs _ q1) cB (mg ⟨zC rfl,tV⟩) rfl ?_
   simp[go_sem]
   refine wS a6 cB (mg ⟨zC rfl,tV⟩) rfl ?_
   simp[go_sem]
   refine wS a7 cB (mg ⟨zC rfl,tV⟩) rfl ?_
   simp[go_sem]
   refine wS a8 cB (mg ⟨zC rfl,tV⟩) rfl ?_
   simp[go_sem,kU]
   by_cases q2:cC L MA u3=true
   .rw[afb q2]at hA
    have ak:=Ey L hL _ (aj.next hL q2)
    generalize fR L (zJ u3)=nn at ak hA
    refine wS (xK L hL u3 aj _ q2) cB (mg ⟨zC rfl,tV⟩) rfl ?_
    simp[go_sem]
    refine wS ak cB BT rfl ?_
    simp[go_sem]
    exact zG ((2,nn.1),nn.2) ⟨hA,ca 4 (by rfl) rfl (by rfl) dc (zD (by rfl) rfl)⟩
   .have q2:cC L MA u3=false:=by grind
    rw[afa om]at hA
    have ak:=Ey L hL _ aj
    generalize fR L u3=nn at ak hA
    refine wS (wO L hL u3 aj _ q2) cB (mg ⟨zC rfl,tV⟩) rfl ?_
    simp[go_sem]
    refine wS ak cB BT rfl ?_
    simp[go_sem]
    exact zG ((1,nn.1),nn.2) ⟨hA,ca 4 (by rfl) rfl (by rfl) dc (zD (by rfl) rfl)⟩
  .rintro _ rfl
   generalize pO L s1=A at aw hM
   obtain⟨⟨m,n⟩,s2⟩:=A
   simp only at aw hM
   have ai:=aw.cd
   refine nM (S:=RS) [2,7,8] (λ_=> [.ptr 0 0,.ptr 1 0,.ptr 2 0]) (λu=> [pP,rB L u,kU m n l,.app l.length 15]) (λu=>u=lQ L s2) hc hb ?_ ?_
   .have af:=mG L hL s2 ai
    have hf:=yd L s2 13 (bV L s2).place
    obtain⟨E,hE⟩:=eX (lQ L s2)
    rw[hE]
    unfold lQ at hE
    generalize bV L s2=tk at af hf hE
    generalize wL 13 tk.place s2=f at hf hE
    refine zA ?_
    simp[go_sem,rB]
    by_cases q1:s2.err=0
    rotate_left
    .have ab:(s2.err==0)=false:=by grind
     rw[afa om]at hE
     simp[go_sem,ab]
     exact zG s2 ⟨hE,ca 4 (by rfl) rfl (by rfl) dc (zD (by rfl) rfl)⟩
    have ab:(s2.err==0)=true:=by grind
    simp[go_sem,ab]
    refine wS af cB BT rfl ?_
    by_cases q2:tk.kind=0
    .have ad:(tk.kind !=0)=false:=by grind
     rw[afa om]at hE
     simp[go_sem,ad,rB]
     exact zG s2 ⟨hE,ca 4 (by rfl) rfl (by rfl) dc (zD (by rfl) rfl)⟩
    .have ad:(tk.kind !=0)=true:=by grind
     rw[afb ⟨q1,q2⟩]at hE
     simp[go_sem,ad]
     refine wS af cB BT rfl ?_
     simp[go_sem]
     refine wS hf cB (mg ⟨zC rfl,zC rfl,tV⟩) rfl ?_
     simp[go_sem,rB]
     exact zG f ⟨hE,ca 4 (by rfl) rfl (by rfl) dc (zD (by rfl) rfl)⟩
   .rintro _ rfl
    generalize lQ L s2=E at hM
    refine zA ?_
    simp[go_sem,rB]
    by_cases q1:E.err=0
    .have ab:(E.err !=0)=false:=by grind
     rw[afb q1]at hM
     simp[go_sem,ab,pP,kU]
     exact MC (l:=⟨m,n,l⟩) hM
    .have ab:(E.err !=0)=true:=by grind
     rw[afa q1]at hM
     simp[go_sem,ab,pP,kU]
     refine oL [(9,3)] 1 4 sm (by rfl) kR ?_
     simp[go_sem]
     exact MC (l:=rY) hM
theorem Ji (s:afE) (hl:s.length<=maxLen):Pure prog 14 [.str s] (.agg (lR s).1.row):=by
 have h:=Zk s hl
 generalize lR s=x at h⊢
 refine iW 0 func14 ntmps14 results14 λc hc hb=>zL ?_
 simp[go_sem]
 refine pC h ?_
 simp[go_sem,BU]
 exact yL (zC rfl) sm
variable {L:List bJ}
structure jL (e:bH):Prop where
 dD:Good e
 wide:eU e
 size:mH e<=4000
structure kg (st:bQ):Prop where
 kind:db st.kind
 table:st.table.length<=1048576
 items:st.items.length<=12/\ ∀x∈st.items,db x.kind/\jL x.e
 rows:st.rows.length<=20/\ ∀r∈st.rows,r.length<=12/\ ∀e∈r,jL e
 cu:st.cu.length<=12/\ ∀x∈st.cu,x.name.length<=1048576/\jL x.e
 ct:jL st.ct
 order:st.order.length<=1048576
 dg:db st.dg
structure nu (l:fj):Prop where
 mode:db l.mode
 n:db l.n
 stmts:l.stmts.length<=12/\ ∀st∈l.stmts,kg st
theorem Re:nu rY:=⟨dc,dc,dc,λst aa=>by trivial⟩
structure ES (s:RS) (e:bH):Prop where
 dD:Good e
 wide:eU e
 size:s.err=0->mH e<=2001
theorem ES.mono {s:RS} {e:bH} (h:ES s e) (u:UI L s s'):ES s' e:=⟨h.dD,h.wide,λq=>h.size (u.err q)⟩
theorem ES.ok {s:RS} {e:bH} (h:ES s e) (hs:s.err=0):jL e:=⟨h.dD,h.wide,by have:=h.size hs;omega⟩
theorem GF (s:RS):ES s dh:=⟨QX,QK rfl,λ_=>dc⟩
theorem GG (hL:ee L) (hG:fZ L) (h2:L.length<=2001) {s:RS} (hs:cP L s) (ho:s.bS=0):ES (gq L s).2 (gq L s).1:=by
 have h:=Mk hL hs ho
 have k:=Ml hL hG hs ho
 exact⟨k.dD,h.wide,λq=>by have:=k.size q;have:=h.cd.at_;omega⟩
theorem MD (hG:fZ L) {s:RS} (hs:cP L s):db (fR L s).1:=by
 unfold fR db
 split
 .have:=hG.num _ (EB hs);omega
 .simp
structure SS (s:RS) (st:bQ):Prop where
 kind:db st.kind
 table:st.table.length<=1048576
 items:st.items.length<=12/\ ∀x∈st.items,db x.kind/\ES s x.e
 rows:st.rows.length<=20/\ ∀r∈st.rows,r.length<=12/\ ∀e∈r,ES s e
 cu:st.cu.length<=12/\ ∀x∈st.cu,x.name.length<=1048576/\ES s x.e
 ct:ES s st.ct
 order:st.order.length<=1048576
 dg:db st.dg
theorem SS.mono {s:RS} (h:SS s st) (u:UI L s s'):SS s' st:=
 ⟨h.kind,h.table,⟨h.items.1,λx hx=>⟨(h.items.2 x hx).1,(h.items.2 x hx).2.mono u⟩⟩,⟨h.rows.1,λr hr=>⟨(h.rows.2 r hr).1,λe he=>((h.rows.2 r hr).2 e he).mono u⟩⟩,⟨h.cu.1,λx hx=>⟨(h.cu.2 x hx).1,(h.cu.2 x hx).2.mono u⟩⟩,h.ct.mono u,h.order,h.dg⟩
theorem SS.ok {s:RS} (h:SS s st) (hs:s.err=0):kg st:=
 ⟨h.kind,h.table,⟨h.items.1,λx hx=>⟨(h.items.2 x hx).1,(h.items.2 x hx).2.ok hs⟩⟩,⟨h.rows.1,λr hr=>⟨(h.rows.2 r hr).1,λe he=>((h.rows.2 r hr).2 e he).ok hs⟩⟩,⟨h.cu.1,λx hx=>⟨(h.cu.2 x hx).1,(h.cu.2 x hx).2.ok hs⟩⟩,h.ct.ok hs,h.order,h.dg⟩
theorem Zl {s:RS} (h:(lQ L s).err=0):s.err=0:=by
 grind[lQ]
section
variable (hL:ee L) (hG:fZ L) (h2:L.length<=2001)
include hL hG h2
theorem Zm {s:RS} (h:cP L s) (ho:s.bS=0):db (kS L s).1.kind/\ES (kS L s).2 (kS L s).1.e:=by
 unfold kS
 split
 .grind[db,GF]
 split
 .rename_i hi
  have h1:=yW hL h hi
  have h3:=h1.trans (yC hL [40] h1.cd)
  have hx:=GG hL hG h2 h3.cd (h3.bS.trans ho)
  exact⟨by grind[db],hx.mono (yC hL [41] (h3.trans (tD hL h3.cd (h3.bS.trans ho))).cd)⟩
 grind[db,GG]
theorem Rf: ∀(n:Nat) (l:List cx) (s:RS),cP L s->s.bS=0->l.length<=6->(∀x∈l,db x.kind/\ES s x.e)->
  (nX L n l s).1.length<=12/\ ∀x∈(nX L n l s).1,db x.kind/\ES (nX L n l s).2 x.e
 |0,l,s,_,_,hl,hx=>(by grind[nX])
 |n+1,l,s,h,ho,hl,hx=>by
  unfold nX
  split
  .rename_i he
   obtain⟨_,h6,_⟩:=tC he
   have hu:=Mn hL h ho
   have hi:=Zm hL hG h2 h ho
   have ab: ∀x∈l++ [(kS L s).1],db x.kind/\ES (kS L s).2 x.e:=λx aa=>by
    rw[Ar]at aa
    rcases aa with aa|aa
    .exact⟨(hx x aa).1,(hx x aa).2.mono hu⟩
    grind
   split
   .have hn:=yW hL hu.cd ‹_›
    exact Rf n _ _ hn.cd ((hu.trans hn).bS.trans ho) (by grind) (λx aa=>⟨(by grind),(ab x aa).2.mono hn⟩)
   grind
  .exact⟨by grind,λx aa=>⟨(hx x aa).1,(hx x aa).2.mono (rV h)⟩⟩
theorem Zn {s:RS} (h:cP L s) (ho:s.bS=0):(nq L s).1.length<=12/\ ∀x∈(nq L s).1,db x.kind/\ES (nq L s).2 x.e:=by
 unfold nq
 split
 .simp[db,GF]
 grind[Rf]
theorem ME {s:RS} (h:cP L s) (ho:s.bS=0):ES (lP L s) (ja L s).2:=by
 unfold lP ja
 by_cases q:cC L uW s=true
 .rw[afb q,afb q]
  exact GG hL hG h2 (h.next hL q) ho
 simp_all[GF]
theorem Rg: ∀(n:Nat) (l:List bH) (s:RS),cP L s->s.bS=0->l.length<=6->(∀e∈l,ES s e)->
  (eF L n l s).2.1.length<=12/\ ∀e∈(eF L n l s).2.1,ES (eF L n l s).2.2 e
 |0,l,s,_,_,hl,hx=>(by grind[eF])
 |n+1,l,s,h,ho,hl,hx=>by
  unfold eF
  split
  .rename_i he
   obtain⟨_,h6,_⟩:=tC he
   have hu:=tD hL h ho
   have hi:=GG hL hG h2 h ho
   have ab: ∀x∈l++ [(gq L s).1],ES (gq L s).2 x:=λx aa=>by
    rw[Ar]at aa
    rcases aa with aa|aa
    .exact(hx x aa).mono hu
    grind
   split
   .have hn:=yW hL hu.cd ‹_›
    exact Rg n _ _ hn.cd ((hu.trans hn).bS.trans ho) (by grind) (λx aa=>(ab x aa).mono hn)
   grind
  .exact⟨by grind,λx aa=>(hx x aa).mono (rV h)⟩
theorem Rh: ∀(n:Nat) (R:List (List bH)) (s:RS),cP L s->s.bS=0->R.length<=16->(∀r∈R,r.length<=12/\ ∀e∈r,ES s e)->
  (ns L n R s).1.length<=20/\ ∀r∈(ns L n R s).1,r.length<=12/\ ∀e∈r,ES (ns L n R s).2 e
 |0,R,s,_,_,hl,hx=>(by grind[ns])
 |n+1,R,s,h,ho,hl,hx=>by
  unfold ns
  split
  .rename_i he
   obtain⟨_,h6,_⟩:=tC he
   have aa:=yC hL [40] h
   have hr:=Rg hL hG h2 7 [] _ aa.cd (aa.bS.trans ho) sm sm
   have ab:=aa.trans (Ms hL 7 [] _ aa.cd (aa.bS.trans ho))
   generalize eF L 7 [] (zV L [40] s)=r at hr ab
   split
   .have ad:=yC hL [41] ab.cd
    have ae: ∀y∈R++ [r.2.1],y.length<=12/\ ∀e∈y,ES (zV L [41] r.2.2) e:=λy hy=>by
     rw[Ar]at hy
     rcases hy with hy|hy
     .exact⟨(hx y hy).1,λe he=>((hx y hy).2 e he).mono (ab.trans ad)⟩
     .simp only[Ae,B4,afn]at hy
      subst hy
      exact⟨hr.1,λe he=>(hr.2 e he).mono ad⟩
    split
    .have hn:=yW hL ad.cd ‹_›
     exact Rh n _ _ hn.cd (((ab.trans ad).trans hn).bS.trans ho) (by grind) (λy hy=>⟨(ae y hy).1,λe he=>((ae y hy).2 e he).mono hn⟩)
    grind
   .exact⟨by grind,λy hy=>⟨(hx y hy).1,λe he=>((hx y hy).2 e he).mono ab⟩⟩
  .exact⟨by grind,λy hy=>⟨(hx y hy).1,λe he=>((hx y hy).2 e he).mono (rV h)⟩⟩
theorem Ri: ∀(n:Nat) (l:List bY) (s:RS),cP L s->s.bS=0->l.length<=6->(∀x∈l,x.name.length<=1048576/\ES s x.e)->
  (kC L n l s).2.1.length<=12/\ ∀x∈(kC L n l s).2.1,x.name.length<=1048576/\ES (kC L n l s).2.2 x.e
 |0,l,s,_,_,hl,hx=>(by grind[kC])
 |n+1,l,s,h,ho,hl,hx=>by
  unfold kC
  split
  .rename_i he
   obtain⟨_,h6,_⟩:=tC he
   have af:=uT hG h
   have ab:=mI hL h
   have aa:=ab.trans (yC hL [61] ab.cd)
   have hi:=GG hL hG h2 aa.cd (aa.bS.trans ho)
   have hu:=aa.trans (tD hL aa.cd (aa.bS.trans ho))
   generalize gq L (zV L [61] (yN L s).2)=x at hi hu
   have ad: ∀y∈l++ [⟨(yN L s).1,x.1⟩],y.name.length<=1048576/\ES x.2 y.e:=λy hy=>by
    rw[Ar]at hy
    rcases hy with hy|hy
    .exact⟨(hx y hy).1,(hx y hy).2.mono hu⟩
    grind
   split
   .have hn:=yW hL hu.cd ‹_›
    exact Ri n _ _ hn.cd ((hu.trans hn).bS.trans ho) (by grind) (λy hy=>⟨(ad y hy).1,(ad y hy).2.mono hn⟩)
   grind
  .exact⟨by grind,λx ae=>⟨(hx x ae).1,(hx x ae).2.mono (rV h)⟩⟩
theorem Zo {s:RS} (h:cP L s) (ho:s.bS=0):SS (pL L s).2 (pL L s).1:=by
 unfold pL
 simp only
 have hx:=Zn hL hG h2 h ho
 have h1:=Mr hL h ho
 generalize nq L s=x at hx h1
 have u2:=yC hL nY h1.cd
 have aa:=uT hG (h1.trans u2).cd
 have u3:=mI hL (h1.trans u2).cd
 generalize yN L (zV L nY x.2)=n at aa u3
 have hw:=ME hL hG h2 u3.cd ((h1.trans (u2.trans u3)).bS.trans ho)
 have u4:=EE hL u3.cd ((h1.trans (u2.trans u3)).bS.trans ho)
 have u5:=Mq hL u4.cd
 have ab:(rW L (lP L n.2)).1.1.length<=1048576:=by
  unfold rW
  split
  .rename_i hi
   have v1:=yW hL u4.cd hi
   have v2:=v1.trans (yC hL nr v1.cd)
   split
   .exact uT hG v2.cd
   split
   .exact uT hG v2.cd
   .exact uT hG v2.cd
  simp
 generalize rW L (lP L n.2)=o at u5 ab
 have u6:=Q3 hL u5.cd
 have ad:db (rX L o.2).1:=by
  unfold rX
  split
  .exact MD hG (u5.cd.next hL ‹_›)
  grind[db]
 generalize rX L o.2=l at u6 ad
 have u:=u2.trans (u3.trans (u4.trans (u5.trans u6)))
 exact⟨by grind[db],aa,⟨hx.1,λx ae=>⟨(by grind),(hx.2 x ae).2.mono u⟩⟩,sm,sm,hw.mono (u5.trans u6),ab,ad⟩
theorem Zp {s:RS} (h:cP L s) (ho:s.bS=0):SS (pM L s).2 (pM L s).1:=by
 unfold pM
 have u1:=yC hL yg h
 have aa:=uT hG u1.cd
 have u2:=u1.trans (mI hL u1.cd)
 generalize yN L (zV L yg s)=n at aa u2
 have u3:=u2.trans (yC hL BR u2.cd)
 have hr:=Rh hL hG h2 17 [] _ u3.cd (u3.bS.trans ho) sm sm
 exact⟨by grind[db],aa,sm,hr,sm,GF _,sm,by grind[db]⟩
theorem Zq {s:RS} (h:cP L s) (ho:s.bS=0):SS (pN L s).2 (pN L s).1:=by
 unfold pN
 have aa:=uT hG h
 have u2:=mI hL h
 generalize yN L s=n at aa u2
 have u3:=u2.trans (yC hL mJ u2.cd)
 have hr:=Ri hL hG h2 7 [] _ u3.cd (u3.bS.trans ho) sm sm
 have u4:=u3.trans (Mt hL 7 [] _ u3.cd (u3.bS.trans ho))
 simp only
 generalize kC L 7 [] (zV L mJ n.2)=r at hr u4
 split
 .have hw:=ME hL hG h2 u4.cd (u4.bS.trans ho)
  have u5:=EE hL u4.cd (u4.bS.trans ho)
  exact⟨by grind[db],aa,sm,sm,⟨hr.1,λx hx=>⟨(by grind),(hr.2 x hx).2.mono u5⟩⟩,hw,sm,by grind[db]⟩
 .exact⟨by grind[db],aa,sm,sm,hr,GF _,sm,by grind[db]⟩
theorem Zr {s:RS} (h:cP L s) (ho:s.bS=0):SS (iN L s).2 (iN L s).1:=by
 unfold iN
 split
 .exact Zo hL hG h2 (h.next hL ‹_›) ho
 split
 .exact Zp hL hG h2 (h.next hL ‹_›) ho
 split
 .exact Zq hL hG h2 (h.next hL ‹_›) ho
 .have u1:=yC hL yi h
  have u2:=u1.trans (yC hL nY u1.cd)
  have aa:=uT hG u2.cd
  have u3:=u2.trans (mI hL u2.cd)
  exact⟨by grind[db],aa,sm,sm,sm,ME hL hG h2 u3.cd (u3.bS.trans ho),sm,by grind[db]⟩
theorem Rj: ∀(n:Nat) (l:List bQ) (s:RS),cP L s->s.bS=0->l.length<=8->(∀x∈l,SS s x)->
  (mh L n l s).1.length<=8/\ ∀x∈(mh L n l s).1,SS (mh L n l s).2 x
 |0,l,s,_,_,hl,hx=>⟨hl,hx⟩
 |n+1,l,s,h,ho,hl,hx=>by
  unfold mh
  split
  .split
   .rename_i he
    obtain⟨_,h8,_⟩:=tC he
    have hu:=Mz hL h ho
    have hi:=Zr hL hG h2 h ho
    have ad: ∀x∈l++ [(iN L s).1],SS (iN L s).2 x:=λx aa=>by
     rw[Ar]at aa
     rcases aa with aa|aa
     .exact(hx x aa).mono hu
     .simp only[Ae,B4,afn]at aa
      subst aa
      exact hi
    have ab:(l++ [(iN L s).1]).length<=8:=by simp;omega
    split
    .have hn:=yW hL hu.cd ‹_›
     have ae:=λx aa=>(ad x aa).mono hn
     split
     .exact⟨ab,ae⟩
     .exact Rj n _ _ hn.cd ((hu.trans hn).bS.trans ho) ab ae
    .exact⟨ab,ad⟩
   .exact⟨hl,λx aa=>(hx x aa).mono (rV h)⟩
  grind
theorem Zs (h1:1<=L.length):nu (GD L).1:=by
 have h0:cP L oR:=⟨by simpa,dc⟩
 unfold GD
 simp only
 have hs:=Rj hL hG h2 9 [] oR h0 rfl sm sm
 have hu:=Ra hL 9 [] oR h0 rfl
 generalize mh L 9 [] oR=x at hs hu
 have ha:=Rc hL hu.cd
 have hm:db (pO L x.2).1.1/\db (pO L x.2).1.2:=by
  unfold pO
  split
  .rename_i hi
   have v1:=Rb hL hu.cd hi
   split
   .exact⟨by grind[db],MD hG (v1.cd.next hL ‹_›)⟩
   .exact⟨by grind[db],MD hG v1.cd⟩
  grind[db]
 generalize pO L x.2=a at ha hm
 split
 .rename_i he
  have h3:=ha.err (Zl he)
  exact⟨hm.1,hm.2,by grind,λst aa=>(hs.2 st aa).ok h3⟩
 grind[Re]
end
theorem Jj (s:afE):nu (lR s).1:=by
 unfold lR
 split
 all_goals simp_all[Q8,Zs,Re]
theorem Zt (l:List bH) (i:Nat) (h:i<l.length):oP (l.drop i)=mH l[i]+oP (l.drop (i+1)):=by
 rw[A2 h,oP]
theorem Zu (l:List bH) (i:Nat) (h:i<l.length):wH (l.drop i)=max (gF l[i]) (wH (l.drop (i+1))):=by
 rw[A2 h,wH]
theorem Zv (e:bH):1<=mH e:=by rw[Gs];omega
theorem Jk (e:bH):1<=gF e:=by rw[tm];omega
def Rk (e:bH) (deep n:Int) (r:V) (U:St):Prop:=r= .bool (decide ((gF e:Int)+deep<=65))/\ ∃m:Int,U= [.box [.int .i64 m]]/\n<=m/\m<=n+mH e
theorem Rm: ∀(k:Nat) (e:bH) (deep n:Int),gF e<=k->eU e->0<=n->n+mH e<=4096->0<=deep->deep<=1000000->bK prog 252 [.agg e.row,.int .i64 deep,.ptr 0 0] [.box [.int .i64 n]] (Rk e deep n)
 |0,e,_,_,h,_,_,_,_,_=>by have:=Jk e;omega
 |k+1,e,deep,n,h,hw,ar,al,au,av=>by
  have ih:=Rm k
  have an:=tm e
  have ag:=Gs e
  obtain⟨M,hM⟩:=eX (decide ((gF e:Int)+deep<=65))
  unfold Rk
  rw[hM]
  obtain⟨args,aa⟩:=eX e.args
  have hlen:=hw.len
  have ae:=hw.sub
  rw[aa]at an ag hlen ae
  have e1:IntKind.i64.wrap (n+1)=n+1:=bR om om
  have e2:IntKind.i64.wrap (deep+1)=deep+1:=bR om om
  obtain⟨sz,ao⟩:=eX (mH e)
  rw[ao]at ag al⊢
  have ret: ∀(b:Bool) (m:Int) (τ:St),b=M->n<=m->m<=n+sz->cj (some (.bool b)) 1 (λr U=>r= .bool M/\ ∃m:Int,U= [.box [.int .i64 m]]/\n<=m/\m<=n+sz) (.box [.int .i64 m]::τ):=λb m τ h1 h2 h3=>by
   subst h1
   exact xM 1 rfl rfl (by rfl) (A3 _) (zC rfl) ⟨rfl,m,rfl,h2,h3⟩
  refine iV 1 func252 ntmps252 results252 λc hc hb=> ?_
  refine zA ?_
  simp[go_sem,e1]
  by_cases q1:64<deep
  .have af:decide (64<deep)=true:=afd q1
   have hM:false=M:=by rw[<-hM];exact(afc om).symm
   simp[go_sem,af]
   exact ret _ _ _ hM om om
  have af:decide (64<deep)=false:=afc q1
  have aq:decide (4096<n+1)=false:=afc om
  simp[go_sem,af,aq,aa]
  refine zH (S:=Nat×Int) [1,2,23,24,25] (λu=> [.int .i64 deep,.ptr 0 0,.sl .ro (args.map bH.row),.int .i64 args.length,.int .i64 (u.1:Int)]) (λu=> [.box [.int .i64 u.2]]) (λu=>args.length - u.1)
   (λu=>u.1<=args.length/\n<=u.2/\u.2+oP (args.drop u.1)<=n+sz/\decide ((wH (args.drop u.1):Int)+(deep+1)<=65)=M) hc hb (0,n+1)
   ⟨A5 _,by simp only;omega,by simp only[Az];omega,by rw[<-hM,Az];exact decide_eq_decide.2 om⟩ ?_ ?_
  .exact aN 1 (by rfl)
  rintro⟨i,m⟩ ⟨hi,ah,ad,hinv⟩
  simp only at hi ah ad hinv
  by_cases q:i<args.length
  rotate_left
  .rw[A8 om]at hinv ad
   have hinv:true=M:=by rw[<-hinv,wH];exact(afd om).symm
   refine zA ?_
   simp[go_sem,q]
   exact ret _ _ _ hinv ah (by rw[oP]at ad;omega)
  have ei:=zR q om
  have ai:=Zt args i q
  have aj:=Zu args i q
  obtain⟨x,hx⟩:=eX (args[i])
  have ak:x∈args:=hx▸Aa q
  have aw:=BJ args x ak
  rw[hx]at ai aj
  rw[ai]at ad
  rw[aj]at hinv
  have ab:=ih x (deep+1) m om (ae x ak) om om om om
  by_cases q3:(gF x:Int)+(deep+1)<=65
  .refine zA ?_
   simp[go_sem,q,hx,e2]
   refine lF 0 ab cB rfl (by rfl) ⟨.inl (by simp[go_sem,dy,dL,dv,du]),zC rfl,.inl rfl,tV⟩ (λr U h=>by
    obtain⟨_,m2,rfl,_⟩:=h
    exact⟨_,rfl,rfl⟩) ?_
   rintro r o2 ⟨rfl,m2,h1,h2,h3⟩
   obtain rfl:o2= .box [.int .i64 m2]:=sU h1
   rw[afd q3]
   simp[go_sem,ei]
   refine zG (i+1,m2) ⟨by simp only;omega,⟨by simp only;omega,by simp only;omega,by simp only;omega, ?_⟩, ?_⟩
   .rw[<-hinv]
    show decide ((wH (args.drop (i+1)):Int)+(deep+1)<=65)=_
    exact decide_eq_decide.2 om
   .exact aN 1 (by rfl)
  .have hinv:false=M:=by rw[<-hinv];exact(afc om).symm
   refine zA ?_
   simp[go_sem,q,hx,e2]
   refine lF 0 ab cB rfl (by rfl) ⟨.inl (by simp[go_sem,dy,dL,dv,du]),zC rfl,.inl rfl,tV⟩ (λr U h=>by
    obtain⟨_,m2,rfl,_⟩:=h
    exact⟨_,rfl,rfl⟩) ?_
   rintro r o2 ⟨rfl,m2,h1,h2,h3⟩
   obtain rfl:o2= .box [.int .i64 m2]:=sU h1
   rw[afc q3]
   simp[go_sem]
   exact ret _ _ _ hinv om om
def Jl (e:bH):Bool:=e.kind==3&&e.s== [65,78,68]&&e.args.length==2
def rZ:Nat->List bH->List bH->List bH
 |0,_,l=>l
 |_+1,[],l=>l
 |n+1,e::q,l=>if Jl e=true then rZ n (q++e.args) l else rZ n q (l++ [e])
def nv (st:bQ):List bH:=if st.dq=true then rZ 4096 [st.ct] []else []
theorem Rn (l:List bH):eS 6 (l.map bH.row):=AT λe=>by rw[bH.bN];rfl
theorem Ro (st:bQ):Pure prog 109 [.agg st.row] (.sl .ro ((nv st).map bH.row)):=by
 generalize hM:nv st=M
 have ret: ∀(r:List bH) (g:Tag) (U:St),r=M->cj (some (.sl g (r.map bH.row))) 0 (λr s=>r= .sl .ro (M.map bH.row)/\s= []) U:=λr g U h=>by subst h;exact yL zK ⟨rfl,rfl⟩
 unfold nv at hM
 refine iV 0 func109 ntmps109 results109 λc hc hb=> ?_
 refine AR 26 dc ?_
 refine zA ?_
 simp[go_sem]
 by_cases hf:st.dq=true
 rotate_left
 .have ad:st.dq=false:=sU hf
  rw[afa hf]at hM
  simp[go_sem,ad]
  exact ret [] _ _ hM
 rw[afb hf]at hM
 simp[go_sem,hf]
 refine W1 4 6 [st.ct.row] dc (Rn [st.ct]) sg ?_
 refine rL 3 6 dc sg ?_
 refine zH (S:=Nat×List bH×List bH) [3,4,5,100026] (λu=> [.sl (.app 1) (u.2.2.map bH.row),.sl (.app 0) (u.2.1.map bH.row),.int .i64 u.1,.cm []]) (λu=> [.app u.2.1.length 6,.app u.2.2.length 6]) (λu=>4096 - u.1)
  (λu=>u.1<=4096/\u.2.1.length<=1+u.1/\u.2.2.length<=u.1/\rZ (4096 - u.1) u.2.1 u.2.2=M) hc hb (0,[st.ct],[]) ⟨A5 _,sm,sm,hM⟩ ?_ ?_
 .exact AQ [1,2] dc rfl ⟨by simp[go_sem,yF],by simp[go_sem,yF],tV⟩ ⟨.inl (by simp[go_sem,dy,dL,dv,du,cz]),.inl (by simp[go_sem,dy,dL,dv,du,cz]),zC rfl,zC rfl,tV⟩
 rintro⟨n,q,l⟩ ⟨hn,ab,ae,hinv⟩
 simp only at hn ab ae hinv
 cases q with
 |nil=>
  have hl:l=M:=by rw[<-hinv];cases h:4096 - n<;>rfl
  refine zA ?_
  simp[go_sem]
  exact ret l _ _ hl
 |cons e q=>
 by_cases af:n<4096
 rotate_left
 .have hl:l=M:=by rw[<-hinv,show 4096 - n=0 by omega];rfl
  have hd:decide ((n:Int)<4096)=false:=afc om
  refine zA ?_
  simp[go_sem,hd]
  exact ret l _ _ hl
 have hd:decide ((n:Int)<4096)=true:=afd om
 rw[show 4096 - n=(4096 - (n+1))+1 by omega,rZ]at hinv
 have ei:IntKind.i64.wrap ((n:Int)+1)=((n+1:Nat):Int):=by rw[bR om om];omega
 refine zA ?_
 simp[go_sem,hd]
 refine zI om ?_
 simp[go_sem]
 by_cases hA:Jl e=true
 .rw[afb hA]at hinv
  have aa:=hA
  unfold Jl at aa
  simp only[A6,afh]at aa
  obtain⟨⟨q1,q2⟩,q3⟩:=aa
  simp[go_sem,q1,q2,q3]
  refine zI ⟨by simp at ab;omega,Rn _⟩ ?_
  simp[go_sem,ei]
  refine zG (n+1,q++e.args,l) ⟨by simp only;omega,⟨by simp only;omega,by simp at ab⊢;omega,by simp only;omega,hinv⟩, ?_⟩
  exact AQ [3,1] dc rfl ⟨by simp[go_sem,yF,q3],by simp[go_sem,yF],tV⟩ ⟨.inl (by simp[go_sem,dy,dL,dv,du,cz]),.inl (by simp[go_sem,dy,dL,dv,du,cz]),zC rfl,zC rfl,tV⟩
 .have aa:(e.kind==3&&e.s== [65,78,68]&&e.args.length==2)=false:=by simpa[Jl]using hA
  rw[afa hA]at hinv
  have key:(e.kind==3)=false\/((e.kind==3)=true/\(e.s== [65,78,68])=false)\/((e.kind==3)=true/\(e.s== [65,78,68])=true/\((e.args.length:Int)==2)=false):=by
   revert aa
   have e3:((e.args.length:Int)==2)=(e.args.length==2):=by
    rw[Bool.eq_iff_iff];simp;omega
   rw[e3]
   cases e.kind==3<;>cases e.s== [65,78,68]<;>cases e.args.length==2<;>simp
  refine key.elim (λq1=> ?_) λkey=>key.elim (λq1=> ?_) λq1=> ?_
  all_goals simp[go_sem,q1]
  all_goals refine zI ⟨om,zX rfl⟩ ?_
  all_goals simp[go_sem,ei]
  all_goals refine zG (n+1,q,l++ [e]) ⟨by simp only;omega,⟨by simp only;omega,by simp at ab⊢;omega,by simp;omega,hinv⟩, ?_⟩
  all_goals exact AQ [3,1] dc rfl ⟨by simp[go_sem,yF],by simp[go_sem,yF],tV⟩ ⟨.inl (by simp[go_sem,dy,dL,dv,du,cz]),.inl (by simp[go_sem,dy,dL,dv,du,cz]),zC rfl,zC rfl,tV⟩
def Jm:V:= .cm [.str [],.agg [.int .i64 0,.int .i64 0,.str []],.bool false]
def n5 (e:bH) (name:afE):Option (afE×bG):=
 match e.kind==3,e.args with
 |true,[a,b]=>
  if b.kind=2 then(if b.s=name/\a.kind=1/\a.v.kind≠0 then some (IS e.s,a.v)else none)
  else if a.kind=2/\a.s=name/\b.kind=1/\b.v.kind≠0 then some (e.s,b.v)else none
 |_,_=>none
def mL:Option (afE×bG)->V
 |none=>Jm
 |some (s,v)=> .cm [.str s,.agg v.row,.bool true]
theorem Rq (e:bH) (name:afE):Pure prog 110 [.agg e.row,.str name] (mL (n5 e name)):=by
 generalize hM:n5 e name=M
 have no: ∀(U:St),none=M->cj (some Jm) 0 (λr s=>r=mL M/\s= []) U:=λU h=>by subst h;exact wR
 have yes: ∀(s:afE) (v:bG) (U:St),some (s,v)=M->cj (some (.cm [.str s,.agg v.row,.bool true])) 0 (λr s=>r=mL M/\s= []) U:=λs v U h=>by subst h;exact wR
 unfold n5 at hM
 refine iW 0 func110 ntmps110 results110 λc hc hb=>zL ?_
 simp[go_sem]
 by_cases q1:e.kind=3
 rotate_left
 .have ab:(e.kind !=3)=true:=sU q1
  have aa:(e.kind==3)=false:=sU q1
  simp only[aa]at hM
  simp[go_sem,ab]
  exact no _ hM
 have ab:(e.kind !=3)=false:=sU q1
 have aa:(e.kind==3)=true:=sU q1
 simp only[aa]at hM
 obtain⟨k,hk⟩:=eX e.kind
 simp[go_sem,ab]
 by_cases q2:e.args.length=2
 rotate_left
 .have ad:((e.args.length:Int) !=2)=true:=by simpa using (show ¬(e.args.length:Int)=2 by omega)
  simp[go_sem,ad]
  refine no _ ?_
  rw[<-hM]
  split
  .rename_i h;rw[h]at q2;exact absurd rfl q2
  .rfl
 have ad:((e.args.length:Int) !=2)=false:=by simpa using (show(e.args.length:Int)=2 by omega)
 simp[go_sem,ad]
 obtain⟨a,b,af⟩: ∃a b,e.args= [a,b]:=by
  match e.args,q2 with
  | [a,b],_=>exact⟨a,b,rfl⟩
 simp only[af]at hM
 refine PX [(12,3),(13,3)] 1 10 sm kR (by rw[hc];exact A5 _) hb kR rfl (by repeat' (first|exact jS.jC|refine jS.dK ?_ (by simp[fW,j6,cK,cG]))) (by simp only[Bl,Cy];exact rfl) (by simp only[Br,Az];exact rfl) ?_
 simp[go_sem,af]
 refine⟨by repeat' (first|exact jS.jC|refine jS.dK ?_ (by simp[fW,j6,cK,cG])), ?_⟩
 by_cases q3:b.kind=2
 .have ae:(b.kind==2)=true:=sU q3
  rw[afb q3]at hM
  simp[go_sem,ae]
  refine nR [(0,2),(1,2),(3,0),(4,3),(5,3)] 2 sm kR kR ?_
  simp[go_sem]
  refine pD (Ys e.s) ?_
  have q4:(b.kind !=2)=false:=sU q3
  simp[go_sem,q4]
  repeat' (first
   |(refine xD (λq=> ?_) (λq=> ?_)<;>simp[go_sem,q])
   |(refine zS (λq=> ?_) (λq=> ?_)<;>simp[go_sem,q])
   |(refine nR [(2,2),(4,3)] 1 sm kR kR ?_;simp[go_sem]))
  all_goals first|exact no _ (by rw[<-hM];simp_all)|exact yes _ _ _ (by rw[<-hM];simp_all)
 .have ae:(b.kind==2)=false:=sU q3
  rw[afa q3]at hM
  simp[go_sem,ae]
  repeat' (first
   |(refine xD (λq=> ?_) (λq=> ?_)<;>simp[go_sem,q])
   |(refine zS (λq=> ?_) (λq=> ?_)<;>simp[go_sem,q])
   |(refine nR [(2,2),(4,3)] 1 sm kR kR ?_;simp[go_sem]))
  all_goals first|exact no _ (by rw[<-hM];simp_all)|exact yes _ _ _ (by rw[<-hM];simp_all)
end Go.Proofs.YtefbicjgbaaieaaGreat
namespace Go.Proofs.YtefbicjgbaaieaaGreat.R
open Go Go.Vx Go.Proofs.Tryz
set_option maxRecDepth 100000
def fJ (l:afE):V:= .sl .ro (zP l)
theorem zT (l:afE):(zP l).length=l.length:=by simp[zP]
theorem BV (l:afE):eS 1 (zP l):=λr hr=>by
 obtain⟨x,_,rfl⟩:=Ac.1 hr
 rfl
def pQ (l:afE):V:= .sl (.app 0) (zP l)
def pS (l:afE):St:= [.app l.length 1]
abbrev cZ:Nat:=1000000000
theorem MF (b:afE) (n:Nat) (hb:b.length<=cZ) (hn:n<=cZ):bK prog 279 [fJ b,.int .i64 n] [] λr s=>r=pQ b/\s=pS b:=by
 refine iW 0 func279 ntmps279 results279 λc hc hb=>zL ?_
 simp[go_sem,fJ,zT]
 have e1:IntKind.i64.wrap ((b.length:Int)+n)=((b.length+n:Nat):Int):=by rw[bR (by unfold cZ at*;omega) (by unfold cZ at*;omega)];omega
 simp[go_sem,e1]
 refine zI ⟨om,by unfold cZ at*;omega⟩ ?_
 simp[go_sem,zT]
 refine zI ⟨by unfold cZ at*;omega,BV b⟩ ?_
 simp[go_sem]
 exact rC 1 rfl rfl om (s8 rfl) ⟨rfl,rfl⟩
def eP (v:Nat):afE:=if v<128 then [UInt8.ofNat v]else UInt8.ofNat (v%128+128)::eP (v/128)
termination_by v
decreasing_by omega
theorem GH {v:Nat} (h:v<128):eP v= [UInt8.ofNat v]:=by rw[eP,afb h]
theorem Jn {v:Nat} (h: ¬v<128):eP v=UInt8.ofNat (v%128+128)::eP (v/128):=by rw[eP,afa h]
theorem Rr: ∀(k v:Nat),v<128^(k+1)->(eP v).length<=k+1
 |0,v,h=>by rw[GH om];simp
 |k+1,v,h=>by
  by_cases hv:v<128
  .rw[GH hv];simp
  .rw[Jn hv,Ab]
   have:=Rr k (v/128) (by rw[C2 om];rwa [afC]at h)
   omega
theorem GI {v:Nat} (h:v<18446744073709551616):(eP v).length<=10:=Rr 9 v om
structure MG where
 out:afE
 v:Nat
theorem dt {n:Int} (h:0<=n) (h2:n<=18446744073709551615):IntKind.u64.wrap n=n:=by
 unfold IntKind.wrap
 simp[IntKind.bits,IntKind.signed]
 omega
theorem EI (n:Nat):IntKind.u8.wrap (n:Int)=((UInt8.ofNat n).toNat:Int):=by
 unfold IntKind.wrap
 simp[IntKind.bits,IntKind.signed]
theorem Zw:((List.range 256).all λm=>jv .or .u8 (m:Int) 128==((m%128+128:Nat):Int))=true:=by rfl
theorem Zx (v:Nat):jv .or .u8 (IntKind.u8.wrap (v:Int)) 128=((UInt8.ofNat (v%128+128)).toNat:Int):=by
 have h:=Ad.1 Zw (v%256) (by grind)
 simp_all[EI];omega
theorem MH (b:afE) (v0:Nat) (aa:b.length<=cZ) (hv:v0<18446744073709551616):bK prog 223 [fJ b,.int .u64 v0] [] λr s=>r=pQ (b++eP v0)/\s=pS (b++eP v0):=by
 refine iV 0 func223 ntmps223 results223 λc hc hb=> ?_
 refine zA ?_
 simp[go_sem]
 refine Ix (MF b 10 aa dc) cB (zZ rfl) ?_
 rintro r s ⟨rfl,rfl⟩
 simp[go_sem]
 refine zH (S:=MG) [1,5] (λs=> [.int .u64 s.v,pQ s.out]) (λs=>pS s.out) (λs=>s.v) (λs=>s.v<18446744073709551616/\s.out++eP s.v=b++eP v0) hc hb ⟨b,v0⟩ (by grind) ?_ ?_
 .exact ca 1 rfl rfl rfl om (zD (by rfl) rfl)
 rintro⟨out,v⟩ ⟨ab,hs⟩
 simp only at ab hs
 have hlen:out.length<=cZ+10:=by
  have:=aff List.length hs
  grind[GI]
 refine zA ?_
 simp[go_sem,pQ,pS]
 refine zS (λh=> ?_) (λh=> ?_)
 .have h: ¬v<128:=by grind
  have u1:=Zx v
  simp[go_sem,u1]
  refine zI ⟨zT out,by simp_all[zT,cZ];omega,zX rfl⟩ ?_
  have e5:(v:Int).fdiv 128=(v:Int)/128:=(by grind)
  simp[go_sem,e5]
  rw[Jn h]at hs
  refine zG ⟨out++ [UInt8.ofNat (v%128+128)],v/128⟩ ⟨by grind,(by grind),ca 1 sm rfl rfl om (zD (by simp[go_sem,zP]) rfl)⟩
 .have h:v<128:=by grind
  simp[go_sem,zT,EI]
  refine zI ⟨by grind,zX rfl⟩ ?_
  simp[go_sem]
  rw[GH h]at hs
  have ad:b.length+(eP v0).length=out.length+1:=by
   have:=aff List.length hs
   grind
  rw[<-hs]
  exact rC 1 rfl rfl om (s8 rfl) (by simp[zP];omega)
theorem Zy (b t:afE) (aa:b.length<=cZ) (ht:t.length<=cZ):bK prog 281 [fJ b,fJ t] [] λr s=>r=pQ (b++eP t.length++t)/\s=pS (b++eP t.length++t):=by
 refine iW 0 func281 ntmps281 results281 λc hc hb=>zL ?_
 have e1:IntKind.u64.wrap (t.length:Int)=(t.length:Int):=dt om (by grind)
 simp[go_sem,fJ,zT,e1]
 refine Ix (MH b t.length aa (by grind)) cB (zZ rfl) ?_
 rintro r s ⟨rfl,rfl⟩
 have ab:=GI (v:=t.length) (by grind)
 simp[go_sem,pQ,pS,zT]
 refine zI (by simp_all[cZ,BV];omega) ?_
 simp[go_sem]
 exact rC 1 rfl rfl om (s8 rfl) (by grind[zP])
def iO (n:Int):Nat:=if 0<=n then(2*n).toNat else(-2*n - 1).toNat
theorem Rs {n:Int} (h:db n):iO n<18446744073709551616:=by
 grind[iO,db]
theorem Rt (ek:Nat) (es:Option (List Pk)) (a b:Int):na .shr ek es (.int .i64 a) (.int .u64 b)= .dW (0<=b) (.int .i64 (a.fdiv (2^(min b.toNat 64)))):=rfl
theorem Zz {x:Int} (h:0<=x) (h2:x<=18446744073709551615):jv .xor .u64 x 0=x:=by
 obtain⟨m,rfl⟩:=Do h
 show IntKind.u64.wrap ((BitVec.ofInt 64 (m:Int)^^^BitVec.ofInt 64 0).toNat:Int)=m
 have e:BitVec.ofInt 64 (0:Int)=0#64:=rfl
 grind[dt]
theorem ZA {x:Int} (h:0<=x) (h2:x<=18446744073709551615):jv .xor .u64 x 18446744073709551615=18446744073709551615 - x:=by
 obtain⟨m,rfl⟩:=Do h
 show IntKind.u64.wrap ((BitVec.ofInt 64 (m:Int)^^^BitVec.ofInt 64 18446744073709551615).toNat:Int)=_
 have e:BitVec.ofInt 64 (18446744073709551615:Int)=BitVec.allOnes 64:=by rfl
 rw[e,BitVec.xor_allOnes,afo,BitVec.toNat_not,afr,Cm om]
 grind[dt]
theorem ZB (n:Int) (hn:db n):Pure prog 280 [.int .i64 n] (.int .u64 (iO n)):=by
 refine iW 0 func280 ntmps280 results280 λc hc hb=>zL ?_
 unfold db at hn
 rcases Int.lt_or_le n 0 with h|h
 .have e1:IntKind.u64.wrap n=n+18446744073709551616:=by grind[IntKind.wrap_u64]
  have e2:IntKind.u64.wrap ((n+18446744073709551616)*2)=2*n+18446744073709551616:=by grind[IntKind.wrap_u64]
  have e3:n.fdiv 9223372036854775808= -1:=by grind
  have e4:IntKind.u64.wrap (-1)=18446744073709551615:=by rfl
  have e5:jv .xor .u64 (2*n+18446744073709551616) 18446744073709551615=((iO n:Nat):Int):=by
   rw[ZA om om,iO,afa om];omega
  simp[go_sem,e1,e2,Rt,e3,e4,e5]
  exact yL (zC rfl) sm
 .have e1:IntKind.u64.wrap n=n:=(by grind[dt])
  have e2:IntKind.u64.wrap (n*2)=2*n:=by grind[dt]
  have e3:n.fdiv 9223372036854775808=0:=by grind
  have e4:IntKind.u64.wrap 0=0:=(by rfl)
  have e5:jv .xor .u64 (2*n) 0=((iO n:Nat):Int):=by
   rw[Zz om om,iO,afb h];omega
  simp[go_sem,e1,e2,Rt,e3,e4,e5]
  exact yL (zC rfl) sm
end Go.Proofs.YtefbicjgbaaieaaGreat.R
namespace Go.Vx
open Go
theorem bK.loose {P:Program} {f:FuncId} {args:List V} {U:St} {R R':V->St->Prop} (h:bK P f args U R) (hR: ∀r s,R r s->pn U.length R' r s):bK P f args U R':=by
 intro w L I ab hm ha
 refine(h w L I ab hm ha).mono ?_
 rintro e w' ⟨v,r,L',U',I',he,hr,hl,ae,aj⟩
 obtain⟨v1,U1,pick,U2,r2,af,hp,ag,ah⟩:=hR _ _ hr
 obtain⟨L2,I2,aa,_,_,ad,_⟩:=af.ok ae (xs:= [v]) (by trivial)
 refine⟨v,r2,L2,U2,_,he,ah, ?_,aa.pick hp hm.len,vY (hp.iH aa.len) ag ad⟩
 rw[hp.len]
 rcases Bo pick.length U.length with ai|ak
 .have:=(A1.1 (hp.id pick.length ai)).1
  omega
 omega
end Go.Vx
namespace Go.Proofs.YtefbicjgbaaieaaGreat.R
open Go Go.Vx Go.Proofs.Tryz
set_option maxRecDepth 100000
theorem MI {f:FuncId} {args:List V} {l:afE} (h:bK prog f args [] λr s=>r=pQ l/\s=pS l):Pure prog f args (fJ l):=h.loose λr s q=>by
 obtain⟨rfl,rfl⟩:=q
 have h:cj (some (pQ l)) 0 (λr s=>r=fJ l/\s= []) (pS l):=yL zK (by trivial)
 obtain⟨x,h1,h2⟩:=h
 grind
def dO (v:bG):Bool:=
 if v.kind=0 then decide (v.n=0)&&v.s.isEmpty else if v.kind=1 then(decide (v.n=0)||decide (v.n=1))&&v.s.isEmpty
 else if v.kind=2 then v.s.isEmpty else if v.kind=3 then decide (v.n=0)&&decide (v.s.length<=64)else false
theorem EJ (v:bG):Pure prog 177 [.agg v.row] (.bool (dO v)):=by
 obtain⟨k,n,s⟩:=v
 refine iW 0 func177 ntmps177 results177 λc hc hb=>zL ?_
 simp[go_sem]
 have yes: ∀(r b:Bool) (U:St),r=b->cj (some (.bool r)) 0 (λr s=>r= .bool b/\s= []) U:=λr b U h=>by subst h;exact yL (zC rfl) sm
 repeat' (first|(refine xD (λq=> ?_) (λq=> ?_)<;>simp[go_sem,q])|(refine zS (λq=> ?_) (λq=> ?_)<;>simp[go_sem,q])|(refine yes _ _ _ ?_))
 all_goals grind[dO]
def jT (v:bG):afE:=
 if dO v=true then
  UInt8.ofNat v.kind.toNat::(if v.kind=1 then [UInt8.ofNat v.n.toNat]else if v.kind=2 then eP (iO v.n)else if v.kind=3 then eP v.s.length++v.s else [])
 else []
theorem yc {ρ:Nat->Nat} {g:Tag} {rows eY:List (List V)} (h:eY=rows):cF ρ (.sl .ro eY) (.sl g rows):=by grind[zK]
theorem tH {b l:afE} {g:Tag} {rows:List (List V)} {U:St} (h:zP (b++l)=rows):cj (some (.sl g rows)) 0 (λr s=>r=fJ (b++l)/\s= []) U:=by subst h;exact yL zK (by trivial)
theorem ZC (b:afE) (v:bG) (hv:v.ok) (aa:b.length<=cZ - 1) (hs:v.s.length<=cZ):Pure prog 224 [fJ b,.agg v.row] (fJ (b++jT v)):=by
 refine iW 0 func224 ntmps224 results224 λc hc hb=>zL ?_
 obtain⟨k,n,s⟩:=v
 have hn:=hv.n
 simp only at hs hn
 simp[go_sem,fJ,zT]
 refine zI ⟨by grind,by simp[eS],BV b⟩ ?_
 simp[go_sem]
 refine pC (EJ ⟨k,n,s⟩) ?_
 simp[go_sem]
 refine zS (λh=> ?_) (λh=> ?_)
 .simp[go_sem]
  refine tH ?_
  grind[jT]
 have h:dO ⟨k,n,s⟩:=by grind
 have hk:k=0\/k=1\/k=2\/k=3:=by
  grind[dO]
 simp[go_sem,zT]
 refine zI ⟨by grind,zX rfl⟩ ?_
 have w0:IntKind.u8.wrap 0=0:=by rfl
 have w1:IntKind.u8.wrap 1=1:=by rfl
 have w2:IntKind.u8.wrap 2=2:=by rfl
 have w3:IntKind.u8.wrap 3=3:=by rfl
 rcases hk with rfl|rfl|rfl|rfl
 .simp[go_sem]
  refine tH ?_
  grind[jT,zP]
 .have h1:n=0\/n=1:=by
   grind[dO]
  simp[go_sem]
  refine zI ⟨zT b,by simp_all[zT];omega,zX rfl⟩ ?_
  simp[go_sem]
  refine tH ?_
  rcases h1 with rfl|rfl<;>simp[jT,h,zP,w0,w1]
 .simp[go_sem]
  refine pC (ZB n hn) ?_
  simp[go_sem]
  refine zM (MI (MH (b++ [2]) (iO n) (by grind) (Rs hn))) cB ⟨yc (by grind[zP]),zC rfl,tV⟩ rfl ?_
  simp[go_sem]
  refine tH ?_
  grind[jT]
 .simp[go_sem]
  refine zM (MI (Zy (b++ [3]) s (by grind) hs)) cB ⟨yc (by grind[zP]),zC rfl,tV⟩ rfl ?_
  simp[go_sem]
  refine tH ?_
  grind[jT]
end Go.Proofs.YtefbicjgbaaieaaGreat.R
namespace Go.Proofs.YtefbicjgbaaieaaGreat.R
open Go Go.Vx Go.Proofs.Tryz
set_option maxRecDepth 100000
structure iv (row:List bG):Prop where
 len:row.length<=20
 s: ∀v∈row,v.s.length<=500
 ok: ∀v∈row,v.ok
theorem ZD {v:bG} (hn:db v.n) (h:v.s.length<=500):(jT v).length<=520:=by
 unfold jT
 have h1:=GI (Rs hn)
 have h2:=GI (v:=v.s.length) om
 (repeat' split)<;>simp<;>omega
theorem Ru: ∀{l:List bG},(∀v∈l,v.s.length<=500)->(∀v∈l,v.ok)->(l.flatMap jT).length<=520*l.length
 | [],_,_=>by simp
 |v::l,h,ho=>by
  have h1:=ZD (ho v sm).n (h v sm)
  have h2:=Ru (l:=l) (λx hx=>h x (by simp[hx])) (λx hx=>ho x (by simp[hx]))
  simp only[Ch,Ah,Ab]
  omega
def qF (row:List bG) (i:Nat):afE:=eP row.length++(row.take i).flatMap jT
def yP (row:List bG):afE:=qF row row.length
theorem MJ {row:List bG} (h:iv row) (i:Nat):(qF row i).length<=20000:=by
 have h1:=GI (v:=row.length) (by have:=h.len;omega)
 have h2:=Ru (l:=row.take i) (λv hv=>h.s v (D1 hv)) (λv hv=>h.ok v (D1 hv))
 have h3:=h.len
 have h4:(row.take i).length<=row.length:=by simp;exact Nat.min_le_right _ _
 unfold qF
 rw[Ah]
 omega
theorem ZE {row:List bG} {i:Nat} (h:i<row.length):qF row (i+1)=qF row i++jT row[i]:=by
 unfold qF
 rw[Ce h,afw,Bu]
 simp
theorem Rv (row:List bG) (h:iv row):Pure prog 150 [.sl .ro (row.map bG.row)] (.str (yP row)):=by
 refine iV 0 func150 ntmps150 results150 λc hc hb=> ?_
 refine zA ?_
 have hl:=h.len
 have e1:IntKind.u64.wrap (row.length:Int)=(row.length:Int):=dt om om
 simp[go_sem,e1]
 refine zM (MI (MH [] row.length dc om)) cB ⟨yc rfl,zC rfl,tV⟩ rfl ?_
 simp[go_sem]
 refine zH (S:=Nat) [3,10,11,12] (λi=> [fJ (qF row i),.sl .ro (row.map bG.row),.int .i64 row.length,.int .i64 i]) (λ_=> []) (λi=>row.length - i) (λi=>i<=row.length) hc hb 0 (A5 _) ?_ ?_
 .exact gV rfl (zN (by simp[go_sem,qF]) rfl)
 intro i hi
 refine zA ?_
 simp[go_sem]
 refine zS (λq=> ?_) (λq=> ?_)
 .have q:i<row.length:=sU q
  obtain⟨v,hv⟩:=eX (row[i])
  have hm:v∈row:=hv▸Aa q
  simp[go_sem,q,hv]
  have h2:=MJ h i
  have h3:=h.s v hm
  refine pC (ZC (qF row i) v (h.ok v hm) (by unfold cZ;omega) (by unfold cZ;omega)) ?_
  simp[go_sem,zR q om]
  refine zG (i+1) ⟨om,q,gV rfl (zN (by simp[go_sem,ZE q,hv]) rfl)⟩
 .have q:i=row.length:=by
   have: ¬i<row.length:=sU q
   omega
  subst q
  simp[go_sem,fJ]
  refine zI (wY _) ?_
  simp[go_sem,Fu]
  exact wR
end Go.Proofs.YtefbicjgbaaieaaGreat.R
