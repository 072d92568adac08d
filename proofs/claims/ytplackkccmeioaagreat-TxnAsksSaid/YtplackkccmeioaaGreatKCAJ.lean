/-
  Contracts of functions that the claimed statement reaches, each proved over trees (the library Vx); used by the theorem at the end of the claim.
  Conditions: as each theorem states them.
-/
import Derived.Test.YtplackkccmeioaaGreatKCAI
import Derived.Test.YtplackkccmeioaaGreatKCAE
set_option maxHeartbeats 8000000
namespace Go.Proofs.YtplackkccmeioaaGreat
open Go Go.Vx Go.Proofs.Tryz
set_option maxRecDepth 100000
variable {L:List bR}
variable {τ:St}{s':RS}{st:bW}{e:Int}
def kj (L:List bR) (s:RS):Bool×bJ:=if dt L Ef s=true then(true,(iZ L (zR s)).1)else(false,de)
theorem wq3 (L:List bR) (s:RS) (a b:List V): ∃g:Tag,KE L s a b (.box (a++ [.bool false,.int .i64 0,.str [],.int .i64 0,.int .i64 0,.str [],.sl .full []]++b))=
  .box (a++ [.bool (kj L s).1,.int .i64 (kj L s).2.kind,.str (kj L s).2.s,.int .i64 (kj L s).2.v.kind,.int .i64 (kj L s).2.v.n,.str (kj L s).2.v.s,.sl g ((kj L s).2.args.map bJ.row)]++b):=by
 unfold KE kj
 by_cases q:dt L Ef s=true
 .exact⟨.ro,by rw[aiv q,aiv q];simp[jR]⟩
 .exact⟨.full,by rw[aiu q,aiu q];rfl⟩
theorem NY (L:List bR) (hL:eR L) (s:RS) (hs:dv L s) (ho:s.bZ=0) (τ:St) (j:Nat) (c0 c1 c2 c3 c4 aa ab ad:V) (hj:τ[j]? =some (.box [c0,c1,c2,c3,c4,.bool false,.int .i64 0,.str [],.int .i64 0,.int .i64 0,.str [],.sl .full [],aa,ab,ad])):
  ∃g:Tag,bN prog 122 [.ptr 0 0,.ptr (j+1) 0] (rB L s::τ) (λr I=>r= .cy []/\I=rB L (pa L s)::τ.set j (.box [c0,c1,c2,c3,c4,.bool (kj L s).1,.int .i64 (kj L s).2.kind,.str (kj L s).2.s,.int .i64 (kj L s).2.v.kind,.int .i64 (kj L s).2.v.n,.str (kj L s).2.v.s,.sl g ((kj L s).2.args.map bJ.row),aa,ab,ad])):=by
 obtain⟨g,hg⟩:=wq3 L s [c0,c1,c2,c3,c4] [aa,ab,ad]
 refine⟨g, ?_⟩
 have:=wg0 L hL s hs ho τ j c0 c1 c2 c3 c4 _ _ _ _ _ _ _ aa ab ad hj
 simp only[Bt,C7]at hg
 rw[hg]at this
 exact this
def qT:aiZ:= [70,82,79,77]
def NZ:aiZ:= [79,82,68,69,82]
def qU:aiZ:= [66,89]
def Eg:aiZ:= [65,83,67]
def N0:aiZ:= [68,69,83,67]
def w7:aiZ:= [76,73,77,73,84]
def AS (L:List bR) (s:RS):(aiZ×Bool)×RS:=
 if dt L NZ s=true then
  if dt L Eg (xC L (yI L qU (zR s))).2=true then(((xC L (yI L qU (zR s))).1,false),zR (xC L (yI L qU (zR s))).2)
  else if dt L N0 (xC L (yI L qU (zR s))).2=true then(((xC L (yI L qU (zR s))).1,true),zR (xC L (yI L qU (zR s))).2)
  else(((xC L (yI L qU (zR s))).1,false),(xC L (yI L qU (zR s))).2)
 else(([],false),s)
def AT (L:List bR) (s:RS):Int×RS:=if dt L w7 s=true then hZ L (zR s)else(-1,s)
theorem N3 (hL:eR L) {s:RS} (h:dv L s):UI L s (AS L s).2:=by
 unfold AS
 split
 .rename_i hi
  have h1:=xA hL h hi
  have h2:=h1.trans (yM hL qU h1.cz)
  have h3:=h2.trans (nG hL h2.cz)
  split
  .exact h3.trans (xA hL h3.cz ‹_›)
  split
  .exact h3.trans (xA hL h3.cz ‹_›)
  .exact h3
 .exact UI.refl h
theorem SI (hL:eR L) {s:RS} (h:dv L s):UI L s (AT L s).2:=by
 unfold AT
 split
 .rename_i hi
  have h1:=xA hL h hi
  exact h1.trans (NV hL h1.cz)
 .exact UI.refl h
def uY (L:List bR) (s:RS):bW×RS:=
 let x:=qS L s
 let n:=xC L (yI L qT x.2)
 let w:=kj L n.2
 let o:=AS L (pa L n.2)
 let l:=AT L o.2
 (⟨1,n.1,x.1,[],[],w.1,w.2,o.1.1,o.1.2,l.1⟩,l.2)
theorem SJ (hL:eR L): ∀(n:Nat) (l:List cP) (s:RS),dv L s->s.bZ=0->UI L s (tE L n l s).2
 |0,_,_,h,_=>UI.refl h
 |n+1,l,s,h,ho=>by
  unfold tE
  split
  .rename_i he
   have h1:=NX hL h ho
   split
   .have h2:=h1.trans (xA hL h1.cz ‹_›)
    exact h2.trans (SJ hL n _ _ h2.cz (h2.bZ.trans ho))
   .exact h1
  .exact tD h
theorem N4 (hL:eR L) {s:RS} (h:dv L s) (ho:s.bZ=0):UI L s (qS L s).2:=by
 unfold qS
 split
 .exact xA hL h ‹_›
 .exact SJ hL 7 [] s h ho
def RT (L:List bR) (x:bW×RS):V->St->Prop:=λr I=>r= .agg x.1.row/\I= [rB L x.2]
theorem pW {g1 g2 g3 g4:Tag} {s:RS} {M:bW×RS} (h:(st,s)=M):
  cx (some (.agg [.int .i64 st.kind,.str st.table,.sl g1 (st.items.map cP.row),.sl g2 (st.rows.map λl=> [V.sl .ro (l.map bJ.row)]),.sl g3 (st.cD.map cp.row),.bool st.dO,.int .i64 st.cA.kind,.str st.cA.s,.int .i64 st.cA.v.kind,.int .i64 st.cA.v.n,.str st.cA.v.s,.sl g4 (st.cA.args.map bJ.row),.str st.order,.bool st.down,.int .i64 st.bT])) 1 (RT L M) (rB L s::τ):=by
 subst h
 exact xN (L:=L) (r:= .agg st.row) (wN ⟨zF rfl,zF rfl,zX,zX,zX,zF rfl,zF rfl,zF rfl,zF rfl,zF rfl,zF rfl,zX,zF rfl,zF rfl,zF rfl,tV⟩) ⟨rfl,rfl⟩
theorem HT (st:bW):gK (.agg st.row)=true:=rfl
theorem xz4 (L:List bR) (hL:eR L) (s:RS) (hs:dv L s) (ho:s.bZ=0):bN prog 118 [.ptr 0 0] [rB L s] (RT L (uY L s)):=by
 generalize hM:uY L s=M
 unfold uY at hM
 have hx:=xZ2 L hL s hs ho
 have af:=N4 hL hs ho
 generalize qS L s=x at hx af hM
 obtain⟨xl,s1⟩:=x
 simp only at hx af hM
 have hm:=lv L hL s1 af.cz qT
 have ah:=af.trans (yM hL qT af.cz)
 generalize yI L qT s1=s2 at hm ah hM
 have hn:=DT L hL s2 ah.cz
 have ad:=ah.trans (nG hL ah.cz)
 generalize xC L s2=n at hn ad hM
 obtain⟨nm,s3⟩:=n
 simp only at hn ad hM
 obtain⟨gw,hw⟩:=NY L hL s3 ad.cz (ad.bZ.trans ho) [.box [.int .i64 0,.str [],.sl .full [],.sl .full [],.sl .full [],.bool false,.int .i64 0,.str [],.int .i64 0,.int .i64 0,.str [],.sl .full [],.str [],.bool false,.int .i64 0],.box [.int .i64 1,.str nm,.sl .ro (xl.map cP.row),.sl .full [],.sl .full [],.bool false,.int .i64 0,.str [],.int .i64 0,.int .i64 0,.str [],.sl .full [],.str [],.bool false,.int .i64 (-1)]] 1 _ _ _ _ _ _ _ _ rfl
 have ae:=ad.trans (F6 hL ad.cz (ad.bZ.trans ho))
 generalize pa L s3=s4 at hw ae hM
 generalize kj L s3=w at hw hM
 obtain⟨wb,we⟩:=w
 simp only[By,Cf]at hw hM
 have ai:=N3 hL ae.cz
 generalize hO:AS L s4=o at ai hM
 obtain⟨⟨on,od⟩,s5⟩:=o
 simp only at ai hM
 have aa:=ae.trans ai
 generalize hl:AT L s5=l at hM
 obtain⟨ll,s6⟩:=l
 simp only at hM
 unfold AS at hO
 unfold AT at hl
 refine iW 1 func118 ntmps118 results118 λc hc hb=>zM ?_
 simp[go_sem]
 refine pR hx ?_
 simp[go_sem]
 refine pR hm ?_
 simp[go_sem]
 refine pR hn ?_
 simp[go_sem]
 refine FR hw cB ?_
 rintro r I ⟨rfl,rfl⟩ _
 simp[go_sem]
 by_cases qO:dt L NZ s4=true
 rotate_left
 .have qO:dt L NZ s4=false:=sU qO
  rw[aiu (by rw[qO];decide)]at hO
  obtain⟨⟨rfl,rfl⟩,rfl⟩:([]=on/\false=od)/\s4=s5:=sU hO
  refine pR (wS L hL s4 ae.cz _ qO) ?_
  simp[go_sem]
  by_cases qL:dt L w7 s4=true
  .rw[aiv qL]at hl
   have ab:=F0 L hL (zR s4) (aa.cz.next hL qL)
   rw[hl]at ab
   refine pR (xS L hL s4 aa.cz _ qL) ?_
   simp[go_sem]
   refine pR ab ?_
   simp[go_sem]
   exact pW (st:=⟨1,nm,xl,[],[],wb,we,_,_,ll⟩) hM
  .have qL:dt L w7 s4=false:=sU qL
   rw[aiu (by rw[qL];decide)]at hl
   obtain⟨rfl,rfl⟩: -1=ll/\s4=s6:=sU hl
   refine pR (wS L hL s4 aa.cz _ qL) ?_
   simp[go_sem]
   exact pW (st:=⟨1,nm,xl,[],[],wb,we,_,_,-1⟩) hM
 rw[aiv qO]at hO
 have h1:=xA hL ae.cz qO
 have al:=lv L hL _ h1.cz qU
 have h2:=yM hL qU h1.cz
 generalize yI L qU (zR s4)=t1 at al h2 hO
 have aj:=DT L hL _ h2.cz
 have h3:=nG hL h2.cz
 generalize xC L t1=n2 at aj h3 hO
 obtain⟨ak,t2⟩:=n2
 simp only at aj h3 hO
 refine pR (xS L hL s4 ae.cz _ qO) ?_
 simp[go_sem]
 refine pR al ?_
 simp[go_sem]
 refine pR aj ?_
 simp[go_sem]
 by_cases qA:dt L Eg t2=true
 .rw[aiv qA]at hO
  obtain⟨⟨rfl,rfl⟩,rfl⟩:(ak=on/\false=od)/\zR t2=s5:=sU hO
  refine pR (xS L hL t2 h3.cz _ qA) ?_
  simp[go_sem]
  by_cases qL:dt L w7 (zR t2)=true
  .rw[aiv qL]at hl
   have ab:=F0 L hL (zR (zR t2)) (aa.cz.next hL qL)
   rw[hl]at ab
   refine pR (xS L hL (zR t2) aa.cz _ qL) ?_
   simp[go_sem]
   refine pR ab ?_
   simp[go_sem]
   exact pW (st:=⟨1,nm,xl,[],[],wb,we,_,_,ll⟩) hM
  .have qL:dt L w7 (zR t2)=false:=sU qL
   rw[aiu (by rw[qL];decide)]at hl
   obtain⟨rfl,rfl⟩: -1=ll/\(zR t2)=s6:=sU hl
   refine pR (wS L hL (zR t2) aa.cz _ qL) ?_
   simp[go_sem]
   exact pW (st:=⟨1,nm,xl,[],[],wb,we,_,_,-1⟩) hM
 have qA:dt L Eg t2=false:=sU qA
 rw[aiu (by rw[qA];decide)]at hO
 refine pR (wS L hL t2 h3.cz _ qA) ?_
 simp[go_sem]
 by_cases qD:dt L N0 t2=true
 .rw[aiv qD]at hO
  obtain⟨⟨rfl,rfl⟩,rfl⟩:(ak=on/\true=od)/\zR t2=s5:=sU hO
  refine pR (xS L hL t2 h3.cz _ qD) ?_
  simp[go_sem]
  by_cases qL:dt L w7 (zR t2)=true
  .rw[aiv qL]at hl
   have ab:=F0 L hL (zR (zR t2)) (aa.cz.next hL qL)
   rw[hl]at ab
   refine pR (xS L hL (zR t2) aa.cz _ qL) ?_
   simp[go_sem]
   refine pR ab ?_
   simp[go_sem]
   exact pW (st:=⟨1,nm,xl,[],[],wb,we,_,_,ll⟩) hM
  .have qL:dt L w7 (zR t2)=false:=sU qL
   rw[aiu (by rw[qL];decide)]at hl
   obtain⟨rfl,rfl⟩: -1=ll/\(zR t2)=s6:=sU hl
   refine pR (wS L hL (zR t2) aa.cz _ qL) ?_
   simp[go_sem]
   exact pW (st:=⟨1,nm,xl,[],[],wb,we,_,_,-1⟩) hM
 .have qD:dt L N0 t2=false:=sU qD
  rw[aiu (by rw[qD];decide)]at hO
  obtain⟨⟨rfl,rfl⟩,rfl⟩:(ak=on/\false=od)/\t2=s5:=sU hO
  refine pR (wS L hL t2 h3.cz _ qD) ?_
  simp[go_sem]
  by_cases qL:dt L w7 t2=true
  .rw[aiv qL]at hl
   have ab:=F0 L hL (zR t2) (aa.cz.next hL qL)
   rw[hl]at ab
   refine pR (xS L hL t2 aa.cz _ qL) ?_
   simp[go_sem]
   refine pR ab ?_
   simp[go_sem]
   exact pW (st:=⟨1,nm,xl,[],[],wb,we,_,_,ll⟩) hM
  .have qL:dt L w7 t2=false:=sU qL
   rw[aiu (by rw[qL];decide)]at hl
   obtain⟨rfl,rfl⟩: -1=ll/\t2=s6:=sU hl
   refine pR (wS L hL t2 aa.cz _ qL) ?_
   simp[go_sem]
   exact pW (st:=⟨1,nm,xl,[],[],wb,we,_,_,-1⟩) hM
variable {L:List bR}
def fP (L:List bR):Nat->List bJ->RS->Bool×List bJ×RS
 |0,l,s=>(false,l,s)
 |n+1,l,s=>
  if(ki L l.length 6 (jQ L false s) s).err=0 then
   (if dt L [44] (iZ L s).2=true then fP L n (l++ [(iZ L s).1]) (zR (iZ L s).2)else(true,l++ [(iZ L s).1],(iZ L s).2))
  else(false,l,ki L l.length 6 (jQ L false s) s)
def rX (L:List bR):Nat->List (List bJ)->RS->List (List bJ)×RS
 |0,R,s=>(R,s)
 |n+1,R,s=>
  if(ki L R.length 16 (dt L [40] s) s).err=0 then
   (if(fP L 7 [] (yI L [40] s)).1=true then
    (if dt L [44] (yI L [41] (fP L 7 [] (yI L [40] s)).2.2)=true then rX L n (R++ [(fP L 7 [] (yI L [40] s)).2.1]) (zR (yI L [41] (fP L 7 [] (yI L [40] s)).2.2))
    else(R++ [(fP L 7 [] (yI L [40] s)).2.1],yI L [41] (fP L 7 [] (yI L [40] s)).2.2))
   else(R,(fP L 7 [] (yI L [40] s)).2.2))
  else(R,ki L R.length 16 (dt L [40] s) s)
def Eh:aiZ:= [73,78,84,79]
def F7:aiZ:= [86,65,76,85,69,83]
def uZ (L:List bR) (s:RS):bW×RS:=
 let n:=xC L (yI L Eh s)
 let r:=rX L 17 [] (yI L F7 n.2)
 (⟨2,n.1,[],r.1,[],false,de,[],false,0⟩,r.2)
theorem N5 (hL:eR L): ∀(n:Nat) (l:List bJ) (s:RS),dv L s->s.bZ=0->UI L s (fP L n l s).2.2
 |0,_,_,h,_=>UI.refl h
 |n+1,l,s,h,ho=>by
  unfold fP
  split
  .have h1:=uX hL h ho
   split
   .have h2:=h1.trans (xA hL h1.cz ‹_›)
    exact h2.trans (N5 hL n _ _ h2.cz (h2.bZ.trans ho))
   .exact h1
  .exact tD h
theorem SK (hL:eR L): ∀(n:Nat) (R:List (List bJ)) (s:RS),dv L s->s.bZ=0->UI L s (rX L n R s).2
 |0,_,_,h,_=>UI.refl h
 |n+1,R,s,h,ho=>by
  unfold rX
  split
  .have h1:=yM hL [40] h
   have h2:=h1.trans (N5 hL 7 [] _ h1.cz (h1.bZ.trans ho))
   split
   .have h3:=h2.trans (yM hL [41] h2.cz)
    split
    .have h4:=h3.trans (xA hL h3.cz ‹_›)
     exact h4.trans (SK hL n _ _ h4.cz (h4.bZ.trans ho))
    .exact h3
   .exact h2
  .exact tD h
theorem yZ8 (hL:eR L) {s:RS} (h:dv L s) (ho:s.bZ=0):UI L s (uZ L s).2:=by
 unfold uZ
 have h1:=yM hL Eh h
 have h2:=h1.trans (nG hL h1.cz)
 have h3:=h2.trans (yM hL F7 h2.cz)
 exact h3.trans (SK hL 17 [] _ h3.cz (h3.bZ.trans ho))
def xa (nm:aiZ) (R:List (List bJ)):Ob:= .box [.int .i64 2,.str nm,.sl .full [],.sl (.app 3) (R.map λl=> [V.sl .ro (l.map bJ.row)]),.sl .full [],.bool false,.int .i64 0,.str [],.int .i64 0,.int .i64 0,.str [],.sl .full [],.str [],.bool false,.int .i64 0]
def rY:Ob:= .box [.int .i64 0,.str [],.sl .full [],.sl .full [],.sl .full [],.bool false,.int .i64 0,.str [],.int .i64 0,.int .i64 0,.str [],.sl .full [],.str [],.bool false,.int .i64 0]
theorem xu5 (L:List bR) (hL:eR L) (s0:RS) (av:dv L s0) (aw:s0.bZ=0):bN prog 119 [.ptr 0 0] [rB L s0] (RT L (uZ L s0)):=by
 generalize hM:uZ L s0=M
 unfold uZ at hM
 have ax:=lv L hL s0 av Eh
 have al:=yM hL Eh av
 generalize yI L Eh s0=s1 at ax al hM
 have hn:=DT L hL s1 al.cz
 have ah:=al.trans (nG hL al.cz)
 generalize xC L s1=n at hn ah hM
 obtain⟨nm,s2⟩:=n
 simp only at hn ah hM
 have ay:=lv L hL s2 ah.cz F7
 have az:=ah.trans (yM hL F7 ah.cz)
 generalize yI L F7 s2=s3 at ay az hM
 obtain⟨X,hX⟩:=eX (rX L 17 [] s3)
 rw[hX]at hM
 have ret: ∀(R:List (List bJ)) (s:RS) (τ:St),(R,s)=X->cx (some (.agg [.int .i64 2,.str nm,.sl .full [],.sl (.app 3) (R.map λl=> [V.sl .ro (l.map bJ.row)]),.sl .full [],.bool false,.int .i64 0,.str [],.int .i64 0,.int .i64 0,.str [],.sl .full [],.str [],.bool false,.int .i64 0])) 1 (RT L M) (rB L s::τ):=λR s τ h=>by
  subst h
  exact pW (st:=⟨2,nm,[],R,[],false,de,[],false,0⟩) hM
 refine iV 1 func119 ntmps119 results119 λc hc hb=> ?_
 refine zA ?_
 simp[go_sem]
 refine pR ax ?_
 simp[go_sem]
 refine pR hn ?_
 simp[go_sem]
 refine pR ay ?_
 simp[go_sem]
 refine DH 2 3 1 _ dC rfl rfl ?_
 simp only[By,Cf]
 refine zH (S:=List (List bJ)×RS) [0,2,3] (λu=> [.ptr 0 0,.ptr 1 0,.ptr 2 0]) (λu=> [rB L u.2,rY,xa nm u.1,.app u.1.length 1]) (λu=>17 - u.1.length) (λu=>u.1.length<=16/\UI L s0 u.2/\rX L (17 - u.1.length) u.1 u.2=X) hc hb ([],s3) ⟨A3 _,az,hX⟩ ?_ ?_
 .exact cc 4 (by simp[go_sem];exact⟨rfl,rfl⟩) rfl (by simp[rB,rY,xa,bS,cN,cL]) dC (zD sg rfl)
 rintro⟨R,s⟩ ⟨hR,hu,hinv⟩
 simp only at hR hu hinv
 have hs:=hu.cz
 have ho:=hu.bZ.trans aw
 have ai:=jw L hL s hs [40]
 have ad:=HS L hL s hs R.length 16 (dt L [40] s)
 have ao:=uW (L:=L) (n:=R.length) (fZ:=16) (b:=dt L [40] s) (s:=s)
 rw[show 17 - R.length=(16 - R.length)+1 by omega,rX]at hinv
 generalize dt L [40] s=bg at ai ad ao hinv
 generalize ki L R.length 16 bg s=m at ad ao hinv
 by_cases q:m.err=0
 rotate_left
 .have q':(m.err==0)=false:=sU q
  rw[aiu q]at hinv
  rw[q']at ad
  refine zA ?_
  simp[go_sem]
  refine wJ [(5,3),(6,3)] 1 4 sm kR kR ?_
  simp[go_sem,xa]
  refine tw ai cB (wM ⟨zC rfl,tV⟩) rfl ?_
  simp[go_sem]
  refine tw ad cB (wM ⟨zC rfl,zC rfl,zC rfl,tV⟩) rfl ?_
  simp[go_sem]
  exact ret _ _ _ hinv
 have q':(m.err==0)=true:=sU q
 obtain⟨he,aD,rfl⟩:=ao q
 rw[aiv q]at hinv
 rw[q']at ad
 have a1:=lv L hL m hs [40]
 have a6:=hu.trans (yM hL [40] hs)
 generalize yI L [40] m=s4 at a1 a6 hinv
 obtain⟨Y,hY⟩:=eX (fP L 7 [] s4)
 rw[hY]at hinv
 refine zA ?_
 simp[go_sem]
 refine wJ [(5,3),(6,3)] 1 4 sm kR kR ?_
 simp[go_sem,xa]
 refine tw ai cB (wM ⟨zC rfl,tV⟩) rfl ?_
 simp[go_sem]
 refine tw ad cB (wM ⟨zC rfl,zC rfl,zC rfl,tV⟩) rfl ?_
 simp[go_sem]
 refine pR a1 ?_
 simp[go_sem]
 refine lU 4 6 dC sg ?_
 refine zH (S:=List bJ×RS) [0,2,3,4] (λu=> [.ptr 0 0,.ptr 1 0,.ptr 2 0,.sl (.app 4) (u.1.map bJ.row)]) (λu=> [rB L u.2,rY,xa nm R,.app R.length 1,.app u.1.length 6]) (λu=>7 - u.1.length) (λu=>u.1.length<=6/\UI L s0 u.2/\fP L (7 - u.1.length) u.1 u.2=Y) hc hb ([],s4) ⟨A3 _,a6,hY⟩ ?_ ?_
 .exact cc 5 (by simp[go_sem];rfl) rfl (by simp[rB,rY,xa,bS,cN,cL]) dC (zD sg rfl)
 rintro⟨l,t⟩ ⟨hl,an,aa⟩
 simp only at hl an aa
 have ht:=an.cz
 have a7:=an.bZ.trans aw
 have ae:=SH L hL t ht false
 have ab:=HS L hL t ht l.length 6 (jQ L false t)
 have aj:=uW (L:=L) (n:=l.length) (fZ:=6) (b:=jQ L false t) (s:=t)
 rw[show 7 - l.length=(6 - l.length)+1 by omega,fP]at aa
 generalize jQ L false t=aA at ae ab aj aa
 generalize ki L l.length 6 aA t=m2 at ab aj aa
 by_cases q2:m2.err=0
 rotate_left
 .have aq:(m2.err==0)=false:=sU q2
  rw[aiu q2]at aa
  rw[aq]at ab
  have ar:Y.1=false:=by rw[<-aa]
  have au:Y.2.2=m2:=by rw[<-aa]
  rw[aiu (by rw[ar];decide),au]at hinv
  refine zA ?_
  simp[go_sem]
  refine pR ae ?_
  simp[go_sem]
  refine pR ab ?_
  simp[go_sem,xa]
  exact ret _ _ _ hinv
 have aq:(m2.err==0)=true:=sU q2
 obtain⟨aE,aC,rfl⟩:=aj q2
 rw[aiv q2]at aa
 rw[aq]at ab
 have hx:=tC L hL m2 ht a7
 have af:=an.trans (uX hL ht a7)
 generalize iZ L m2=x at hx af aa
 by_cases q3:dt L [44] x.2=true
 .rw[aiv q3]at aa
  refine zA ?_
  simp[go_sem]
  refine pR ae ?_
  simp[go_sem]
  refine pR ab ?_
  simp[go_sem]
  refine jZ hx cB fK ?_
  simp[go_sem,bJ.bQ]
  refine zJ ⟨om,zY rfl⟩ ?_
  simp[go_sem]
  refine pR (xS L hL x.2 af.cz _ q3) ?_
  simp[go_sem]
  refine zI (l++ [x.1],zR x.2) ⟨by simp;omega,⟨by simp;omega,af.trans (xA hL af.cz q3),by simp only[An,Bm,show 7 - (l.length+1)=6 - l.length by omega];exact aa⟩, ?_⟩
  exact aM 5 (by simp[rB,rY,xa,bS,cN,cL]) (zD (by simp[go_sem,bJ.bQ]) rfl)
 have q3:dt L [44] x.2=false:=sU q3
 rw[aiu (by rw[q3];decide)]at aa
 have ar:Y.1:=by rw[<-aa]
 have au:Y.2.2=x.2:=by rw[<-aa]
 have aB:Y.2.1=l++ [x.1]:=by rw[<-aa]
 rw[aiv ar,au,aB]at hinv
 have a8:=lv L hL x.2 af.cz [41]
 have ak:=af.trans (yM hL [41] af.cz)
 generalize yI L [41] x.2=s5 at a8 ak hinv
 refine zA ?_
 simp[go_sem]
 refine pR ae ?_
 simp[go_sem]
 refine pR ab ?_
 simp[go_sem]
 refine jZ hx cB fK ?_
 simp[go_sem,bJ.bQ]
 refine zJ ⟨om,zY rfl⟩ ?_
 simp[go_sem]
 refine pR (wS L hL x.2 af.cz _ q3) ?_
 simp[go_sem]
 refine pR a8 ?_
 simp[go_sem,xa]
 refine zJ ⟨om,zY rfl⟩ ?_
 simp[go_sem]
 by_cases q5:dt L [44] s5=true
 .rw[aiv q5]at hinv
  refine pR (xS L hL s5 ak.cz _ q5) ?_
  simp[go_sem]
  refine zI (R++ [l++ [x.1]],zR s5) ⟨by simp;omega,⟨by simp;omega,ak.trans (xA hL ak.cz q5),by simp only[An,Bm,show 17 - (R.length+1)=16 - R.length by omega];exact hinv⟩, ?_⟩
  exact cc 4 (by simp[go_sem,bJ.bQ]) rfl (by simp[rB,rY,bS,cN,cL]) dC (zD sg rfl)
 .have q5:dt L [44] s5=false:=sU q5
  rw[aiu (by rw[q5];decide)]at hinv
  refine pR (wS L hL s5 ak.cz _ q5) ?_
  simp[go_sem]
  have hr:=ret (R++ [l++ [x.1]]) s5
  simp[bJ.bQ]at hr
  exact hr _ hinv
variable {L:List bR}
def F8 (L:List bR) (s:RS):Bool:=(cE L s).kind==1&&lu (cE L s).s
def pc:aiZ:= [83,69,84]
def qV (L:List bR):Nat->List cp->RS->Bool×List cp×RS
 |0,l,s=>(false,l,s)
 |n+1,l,s=>
  if(ki L l.length 6 (F8 L s) s).err=0 then
   (if dt L [44] (iZ L (yI L [61] (xC L s).2)).2=true then qV L n (l++ [⟨(xC L s).1,(iZ L (yI L [61] (xC L s).2)).1⟩]) (zR (iZ L (yI L [61] (xC L s).2)).2)
   else(true,l++ [⟨(xC L s).1,(iZ L (yI L [61] (xC L s).2)).1⟩],(iZ L (yI L [61] (xC L s).2)).2))
  else(false,l,ki L l.length 6 (F8 L s) s)
def u7 (L:List bR) (s:RS):bW×RS:=
 let n:=xC L s
 let r:=qV L 7 [] (yI L pc n.2)
 if r.1=true then(⟨3,n.1,[],[],r.2.1,(kj L r.2.2).1,(kj L r.2.2).2,[],false,0⟩,pa L r.2.2)
 else(⟨3,n.1,[],[],r.2.1,false,de,[],false,0⟩,r.2.2)
theorem N6 (hL:eR L): ∀(n:Nat) (l:List cp) (s:RS),dv L s->s.bZ=0->UI L s (qV L n l s).2.2
 |0,_,_,h,_=>UI.refl h
 |n+1,l,s,h,ho=>by
  unfold qV
  split
  .have h1:=nG hL h
   have h2:=h1.trans (yM hL [61] h1.cz)
   have h3:=h2.trans (uX hL h2.cz (h2.bZ.trans ho))
   split
   .have h4:=h3.trans (xA hL h3.cz ‹_›)
    exact h4.trans (N6 hL n _ _ h4.cz (h4.bZ.trans ho))
   .exact h3
  .exact tD h
theorem xg9 (hL:eR L) {s:RS} (h:dv L s) (ho:s.bZ=0):UI L s (u7 L s).2:=by
 unfold u7
 have h1:=nG hL h
 have h2:=h1.trans (yM hL pc h1.cz)
 have h3:=h2.trans (N6 hL 7 [] _ h2.cz (h2.bZ.trans ho))
 simp only
 split
 .exact h3.trans (F6 hL h3.cz (h3.bZ.trans ho))
 .exact h3
def HU (nm:aiZ) (l:List cp):Ob:= .box [.int .i64 3,.str nm,.sl .full [],.sl .full [],.sl (.app 3) (l.map cp.row),.bool false,.int .i64 0,.str [],.int .i64 0,.int .i64 0,.str [],.sl .full [],.str [],.bool false,.int .i64 0]
theorem xB1 (L:List bR) (hL:eR L) (s0:RS) (aw:dv L s0) (an:s0.bZ=0):bN prog 120 [.ptr 0 0] [rB L s0] (RT L (u7 L s0)):=by
 generalize hM:u7 L s0=M
 unfold u7 at hM
 have hn:=DT L hL s0 aw
 have ai:=nG hL aw
 generalize xC L s0=n at hn ai hM
 obtain⟨nm,s2⟩:=n
 simp only at hn ai hM
 have ax:=lv L hL s2 ai.cz pc
 have ay:=ai.trans (yM hL pc ai.cz)
 generalize yI L pc s2=s3 at ax ay hM
 obtain⟨X,hX⟩:=eX (qV L 7 [] s3)
 rw[hX]at hM
 refine iV 1 func120 ntmps120 results120 λc hc hb=> ?_
 refine zA ?_
 simp[go_sem]
 refine pR hn ?_
 simp[go_sem]
 refine pR ax ?_
 simp[go_sem]
 refine DH 2 4 7 _ dC rfl rfl ?_
 simp only[By,Cf]
 refine zH (S:=List cp×RS) [0,2,3] (λu=> [.ptr 0 0,.ptr 1 0,.ptr 2 0]) (λu=> [rB L u.2,rY,HU nm u.1,.app u.1.length 7]) (λu=>7 - u.1.length) (λu=>u.1.length<=6/\UI L s0 u.2/\qV L (7 - u.1.length) u.1 u.2=X) hc hb ([],s3) ⟨A3 _,ay,hX⟩ ?_ ?_
 .exact cc 4 (by simp[go_sem];exact⟨rfl,rfl⟩) rfl (by simp[rB,rY,HU,bS,cN,cL]) dC (zD sg rfl)
 rintro⟨l,s⟩ ⟨hl,hu,hinv⟩
 simp only at hl hu hinv
 have hs:=hu.cz
 have ho:=hu.bZ.trans an
 have ad:=nB L hL s hs
 have aj:=NO (cE L s).s (hL.wx _ (F2 hs))
 have aa:=HS L hL s hs l.length 6 (F8 L s)
 have aq:=uW (L:=L) (n:=l.length) (fZ:=6) (b:=F8 L s) (s:=s)
 rw[show 7 - l.length=(6 - l.length)+1 by omega,qV]at hinv
 generalize ao:F8 L s=bg at aa aq hinv
 unfold F8 at ao
 have ae:=DT L hL s hs
 have ak:=hu.trans (nG hL hs)
 generalize cE L s=tk at ad aj ao
 generalize lu tk.s=wd at aj ao
 generalize ki L l.length 6 bg s=m at aa aq hinv
 have key:((tk.kind==1)=true/\wd=bg)\/((tk.kind==1)=false/\false=bg):=by
  revert ao
  cases tk.kind==1<;>simp
 by_cases q:m.err=0
 rotate_left
 .have q':(m.err==0)=false:=sU q
  rw[aiu q]at hinv
  rw[q']at aa
  have ar:X.1=false:=by rw[<-hinv]
  have au:X.2.1=l:=by rw[<-hinv]
  have av:X.2.2=m:=by rw[<-hinv]
  rw[aiu (by rw[ar];decide),au,av]at hM
  refine zA ?_
  simp[go_sem]
  refine pR ad ?_
  simp[go_sem,HU]
  refine wJ [(10,0),(12,3)] 1 5 sm kR kR ?_
  simp[go_sem]
  refine key.elim (λ⟨k1,k2⟩=> ?_) (λ⟨k1,k2⟩=> ?_)
  .simp[go_sem,k1]
   refine pD aj ?_
   simp[go_sem,k2]
   refine tw aa cB (wM ⟨zC rfl,zC rfl,zC rfl,tV⟩) rfl ?_
   simp[go_sem]
   exact pW (st:=⟨3,nm,[],[],l,false,de,[],false,0⟩) hM
  .rw[<-k2]at aa
   simp[go_sem,k1]
   refine tw aa cB (wM ⟨zC rfl,zC rfl,zC rfl,tV⟩) rfl ?_
   simp[go_sem]
   exact pW (st:=⟨3,nm,[],[],l,false,de,[],false,0⟩) hM
 have q':(m.err==0)=true:=sU q
 obtain⟨he,az,rfl⟩:=aq q
 rw[aiv q]at hinv
 rw[q']at aa
 generalize xC L m=n1 at ae ak hinv
 obtain⟨af,t1⟩:=n1
 simp only at ae ak hinv
 have al:=lv L hL t1 ak.cz [61]
 have ah:=ak.trans (yM hL [61] ak.cz)
 generalize yI L [61] t1=t2 at al ah hinv
 have hx:=tC L hL t2 ah.cz (ah.bZ.trans an)
 have ab:=ah.trans (uX hL ah.cz (ah.bZ.trans an))
 generalize iZ L t2=x at hx ab hinv
 obtain⟨e,t3⟩:=x
 simp only at ab hinv
 by_cases q3:dt L [44] t3=true
 .rw[aiv q3]at hinv
  refine zA ?_
  simp[go_sem]
  refine pR ad ?_
  simp[go_sem,HU]
  refine wJ [(10,0),(12,3)] 1 5 sm kR kR ?_
  simp[go_sem]
  refine key.elim (λ⟨k1,k2⟩=> ?_) (λ⟨k1,k2⟩=> ?_)
  .simp[go_sem,k1]
   refine pD aj ?_
   simp[go_sem,k2]
   refine tw aa cB (wM ⟨zC rfl,zC rfl,zC rfl,tV⟩) rfl ?_
   simp[go_sem]
   refine pR ae ?_
   simp[go_sem]
   refine pR al ?_
   simp[go_sem]
   refine jZ hx cB fK ?_
   simp[go_sem,bJ.bQ]
   refine zJ ⟨om,zY rfl⟩ ?_
   simp[go_sem]
   refine pR (xS L hL t3 ab.cz _ q3) ?_
   simp[go_sem]
   refine zI (l++ [⟨af,e⟩],zR t3) ⟨by simp;omega,⟨by simp;omega,ab.trans (xA hL ab.cz q3),by simp only[An,Bm,show 7 - (l.length+1)=6 - l.length by omega];exact hinv⟩, ?_⟩
   exact aN 4 (by simp[rB,rY,bS,cN,cL])
  .rw[<-k2]at aa
   simp[go_sem,k1]
   refine tw aa cB (wM ⟨zC rfl,zC rfl,zC rfl,tV⟩) rfl ?_
   simp[go_sem]
   refine pR ae ?_
   simp[go_sem]
   refine pR al ?_
   simp[go_sem]
   refine jZ hx cB fK ?_
   simp[go_sem,bJ.bQ]
   refine zJ ⟨om,zY rfl⟩ ?_
   simp[go_sem]
   refine pR (xS L hL t3 ab.cz _ q3) ?_
   simp[go_sem]
   refine zI (l++ [⟨af,e⟩],zR t3) ⟨by simp;omega,⟨by simp;omega,ab.trans (xA hL ab.cz q3),by simp only[An,Bm,show 7 - (l.length+1)=6 - l.length by omega];exact hinv⟩, ?_⟩
   exact aN 4 (by simp[rB,rY,bS,cN,cL])
 have q3:dt L [44] t3=false:=sU q3
 rw[aiu (by rw[q3];decide)]at hinv
 have ar:X.1:=by rw[<-hinv]
 have au:X.2.1=l++ [⟨af,e⟩]:=by rw[<-hinv]
 have av:X.2.2=t3:=by rw[<-hinv]
 rw[aiv ar,au,av]at hM
 obtain⟨gw,hw⟩:=NY L hL t3 ab.cz (ab.bZ.trans an) [rY,.box [.int .i64 3,.str nm,.sl .full [],.sl .full [],.sl (.app 3) (l.map cp.row++ [[.str af,.int .i64 e.kind,.str e.s,.int .i64 e.v.kind,.int .i64 e.v.n,.str e.v.s,.sl .ro (e.args.map bJ.row)]]),.bool false,.int .i64 0,.str [],.int .i64 0,.int .i64 0,.str [],.sl .full [],.str [],.bool false,.int .i64 0],
  .app (l.length+1) 7,.box [.int .i64 tk.kind,.int .i64 tk.place,.str tk.s,.int .i64 tk.n],.box [.str af,.int .i64 e.kind,.str e.s,.int .i64 e.v.kind,.int .i64 e.v.n,.str e.v.s,.sl .ro (e.args.map bJ.row)]] 1 _ _ _ _ _ _ _ _ rfl
 generalize pa L t3=s9 at hw hM
 generalize kj L t3=w9 at hw hM
 have hr:=λτ=>pW (L:=L) (g1:= .full) (g2:= .full) (g3:= .app 3) (g4:=gw) (τ:=τ) (st:=⟨3,nm,[],[],l++ [⟨af,e⟩],w9.1,w9.2,[],false,0⟩) hM
 simp at hr
 refine zA ?_
 simp[go_sem]
 refine pR ad ?_
 simp[go_sem,HU]
 refine wJ [(10,0),(12,3)] 1 5 sm kR kR ?_
 simp[go_sem]
 refine key.elim (λ⟨k1,k2⟩=> ?_) (λ⟨k1,k2⟩=> ?_)
 .simp[go_sem,k1]
  refine pD aj ?_
  simp[go_sem,k2]
  refine tw aa cB (wM ⟨zC rfl,zC rfl,zC rfl,tV⟩) rfl ?_
  simp[go_sem]
  refine pR ae ?_
  simp[go_sem]
  refine pR al ?_
  simp[go_sem]
  refine jZ hx cB fK ?_
  simp[go_sem,bJ.bQ]
  refine zJ ⟨om,zY rfl⟩ ?_
  simp[go_sem]
  refine pR (wS L hL t3 ab.cz _ q3) ?_
  simp[go_sem]
  refine FR hw cB ?_
  rintro r I ⟨rfl,rfl⟩ _
  simp[go_sem]
  exact hr _
 .rw[<-k2]at aa
  simp[go_sem,k1]
  refine tw aa cB (wM ⟨zC rfl,zC rfl,zC rfl,tV⟩) rfl ?_
  simp[go_sem]
  refine pR ae ?_
  simp[go_sem]
  refine pR al ?_
  simp[go_sem]
  refine jZ hx cB fK ?_
  simp[go_sem,bJ.bQ]
  refine zJ ⟨om,zY rfl⟩ ?_
  simp[go_sem]
  refine pR (wS L hL t3 ab.cz _ q3) ?_
  simp[go_sem]
  refine FR hw cB ?_
  rintro r I ⟨rfl,rfl⟩ _
  simp[go_sem]
  exact hr _
def Ei (c:UInt8):Bool:=decide (c.toNat=9)||(decide (c.toNat=10)||(decide (c.toNat=13)||decide (c.toNat=32)))
theorem Ej (c:UInt8) (n:Nat):(((c.toNat:Nat):Int)==(n:Int))=decide (c.toNat=n):=by
 rw[D9]
 simp only[aiB,aiA]
 omega
theorem xc6 (c:UInt8):Pure prog 116 [.int .u8 c.toNat] (.bool (Ei c)):=by
 generalize hM:Ei c=M
 unfold Ei at hM
 have h9:=Ej c 9
 have aa:=Ej c 10
 have ab:=Ej c 13
 have ad:=Ej c 32
 simp only[Bz]at h9 aa ab ad
 have ret: ∀(r:Bool) (τ:St),r=M->cx (some (.bool r)) 0 (λr I=>r= .bool M/\I= []) τ:=λr τ h=>by subst h;exact wR
 refine iW 0 func116 ntmps116 results116 λc hc hb=>zM ?_
 simp[go_sem]
 repeat' (first
  |(refine xD (λq=> ?_) (λq=> ?_)<;>simp[go_sem,q])
  |(refine zV (λq=> ?_) (λq=> ?_)<;>simp[go_sem,q]))
 all_goals exact ret _ _ (by rw[<-hM];simp_all)
abbrev TR:=bR×Nat×Int
def u9 (x:TR):V:= .cy [.agg x.1.row,.int .i64 x.2.1,.int .i64 x.2.2]
theorem KF (x:TR):gK (u9 x)=true:=rfl
theorem nH {t:bR} {n:Nat} {M:TR} (h:(t,n,e)=M):cx (some (.cy [.agg [.int .i64 t.kind,.int .i64 t.place,.str t.s,.int .i64 t.n],.int .i64 n,.int .i64 e])) 0 (λr I=>r=u9 M/\I= []) τ:=by
 subst h
 exact wR
def nI (v:Int):aiZ->Option Int
 | []=>some v
 |c::l=>if jO c=true then(if(9223372036854775807 - ((c.toNat:Int) - 48))/10<v then none else nI (v*10+((c.toNat:Int) - 48)) l)else some v
def qW (at_:Nat) (l:aiZ):TR:=
 match nI 0 l with
 |none=>(lV,0,5)
 |some v=>if mC ((l.dropWhile jO).headD 0)=true then(lV,0,13)else(⟨2,0,[],v⟩,at_+(l.takeWhile jO).length,0)
theorem SL {c:UInt8} (h:jO c):48<=c.toNat/\c.toNat<=57:=by unfold jO at h;simpa using h
theorem yQ6 (s:aiZ) (hl:s.length<=maxLen) (a:Nat) (ha:a<=s.length):Pure prog 182 [.str s,.int .i64 a] (u9 (qW a (s.drop a))):=by
 generalize hM:qW a (s.drop a)=M
 unfold qW at hM
 unfold maxLen at hl
 have ae:mC 0=false:=dC
 refine iV 0 func182 ntmps182 results182 λc hc hb=> ?_
 refine zA ?_
 simp[go_sem]
 refine zH (S:=Nat×Int) [0,1,4,7] (λu=> [.str s,.int .i64 u.1,.ptr 0 0,.int .i64 u.2]) (λ_=> [.box [.int .i64 0,.int .i64 0,.str [],.int .i64 0]]) (λu=>s.length - u.1)
  (λu=>u.1<=s.length/\0<=u.2/\u.2<=9223372036854775807/\(match nI u.2 (s.drop u.1)with|none=>(lV,0,5)|some v=>if mC (((s.drop u.1).dropWhile jO).headD 0)=true then(lV,0,13)else((⟨2,0,[],v⟩,u.1+((s.drop u.1).takeWhile jO).length,0):TR))=M) hc hb (a,0) ⟨ha,E5 _,sm,hM⟩ ?_ ?_
 .exact aN 1 (by rfl)
 rintro⟨i,v⟩ ⟨hi,af,ah,hinv⟩
 simp only at hi af ah hinv
 by_cases q:i<s.length
 rotate_left
 .obtain rfl:i=s.length:=om
  rw[Cj]at hinv
  have hinv:(⟨⟨2,0,[],v⟩,s.length,0⟩:TR)=M:=by rw[<-hinv];rfl
  refine zA ?_
  simp[go_sem]
  exact nH (t:=⟨2,0,[],v⟩) hinv
 have ei:=zQ q om
 obtain⟨x,hx⟩:=eX (s[i])
 rw[A5 q,hx]at hinv
 have aa:=HK x
 have ab:=Kr x
 by_cases qd:jO x=true
 rotate_left
 .have qd:jO x=false:=sU qd
  rw[nI,aiu (by rw[qd];decide),List.dropWhile_cons_of_neg (by rw[qd];decide),List.takeWhile_cons_of_neg (by rw[qd];decide)]at hinv
  simp only[List.headD_cons,Cs,D3]at hinv
  rw[qd]at aa
  by_cases ql:mC x=true
  .simp only[ql,aiE]at hinv
   rw[ql]at ab
   refine zA ?_
   simp[go_sem,q,hx]
   refine pC aa ?_
   simp[go_sem,q,hx]
   refine pC ab ?_
   simp[go_sem]
   exact nH (t:=lV) hinv
  .have ql:mC x=false:=sU ql
   simp only[ql,Cu,aiL]at hinv
   rw[ql]at ab
   refine zA ?_
   simp[go_sem,q,hx]
   refine pC aa ?_
   simp[go_sem,q,hx]
   refine pC ab ?_
   simp[go_sem]
   exact nH (t:=⟨2,0,[],v⟩) hinv
 have hr:=SL qd
 rw[nI,aiv qd,List.dropWhile_cons_of_pos qd,D5 qd]at hinv
 rw[qd]at aa
 have e1:IntKind.u8.wrap ((x.toNat:Int) - 48)=(x.toNat:Int) - 48:=Kq om om
 have e2:IntKind.i64.wrap ((x.toNat:Int) - 48)=(x.toNat:Int) - 48:=bX om om
 have e3:IntKind.i64.wrap (9223372036854775807 - ((x.toNat:Int) - 48))=9223372036854775807 - ((x.toNat:Int) - 48):=bX om om
 obtain⟨d,hd⟩: ∃d:Int,(x.toNat:Int) - 48=d:=⟨_,rfl⟩
 rw[hd]at hinv e1 e2 e3
 have ai:0<=d/\d<=9:=om
 have e4:IntKind.i64.wrap ((9223372036854775807 - d).tdiv 10)=(9223372036854775807 - d)/10:=by
  rw[Dn om,bX om om]
 refine zA ?_
 simp[go_sem,q,hx]
 refine pC aa ?_
 simp[go_sem,q,hx,e1,e2,e3,e4,hd]
 by_cases qg:(9223372036854775807 - d)/10<v
 .have ad:decide ((9223372036854775807 - d)/10<v)=true:=aix qg
  simp only[qg,aiE]at hinv
  simp[go_sem,ad]
  exact nH (t:=lV) hinv
 .have ad:decide ((9223372036854775807 - d)/10<v)=false:=aiw qg
  simp only[qg,aiL]at hinv
  have e5:IntKind.i64.wrap (v*10)=v*10:=bX om om
  have e6:IntKind.i64.wrap (v*10+d)=v*10+d:=bX om om
  simp[go_sem,ad,e5,e6,ei]
  refine zI (i+1,v*10+d) ⟨by simp only;omega,⟨by simp only;omega,by simp only;omega,by simp only;omega, ?_⟩, ?_⟩
  .simp only[Ah]at hinv
   rw[<-hinv]
   simp only[Dy,E1 1]
  .exact aN 1 (by rfl)
def F9 (i:Nat) (w:aiZ):TR:=if 64<w.length then(lV,0,3)else(⟨3,0,w,0⟩,i+1,0)
def lx:Nat->aiZ->aiZ->TR
 |_,_,[]=>(lV,0,13)
 |i,w,[c]=>if c.toNat=39 then F9 i w else(lV,0,13)
 |i,w,c::c2::l=>if c.toNat=39 then(if c2.toNat=39 then lx (i+2) (w++ [c2]) l else F9 i w)else lx (i+1) (w++ [c]) (c2::l)
theorem xf1 (i:Nat) (w:aiZ) (c:UInt8) (l:aiZ) (h: ¬c.toNat=39):lx i w (c::l)=lx (i+1) (w++ [c]) l:=by
 cases l<;>simp_all[lx]
theorem xv6 (s:aiZ) (hl:s.length<=maxLen) (a:Nat) (ha:a<s.length):Pure prog 183 [.str s,.int .i64 a] (u9 (lx (a+1) [] (s.drop (a+1)))):=by
 generalize hM:lx (a+1) [] (s.drop (a+1))=M
 unfold maxLen at hl
 have ea:IntKind.i64.wrap ((a:Int)+1)=((a+1:Nat):Int):=(by grind[zQ])
 refine iV 0 func183 ntmps183 results183 λc hc hb=> ?_
 refine zA ?_
 simp[go_sem,ea]
 refine zH (S:=Nat×aiZ) [0,4,7,8] (λu=> [.str s,.ptr 0 0,.str u.2,.int .i64 u.1]) (λ_=> [.box [.int .i64 0,.int .i64 0,.str [],.int .i64 0]]) (λu=>s.length - u.1)
  (λu=>u.1<=s.length/\u.2.length<=u.1/\lx u.1 u.2 (s.drop u.1)=M) hc hb (a+1,[]) (by grind) ?_ ?_
 .exact cc 1 (by rfl) rfl (by rfl) om (zD (by rfl) rfl)
 rintro⟨i,w⟩ ⟨hi,hw,hinv⟩
 simp only at hi hw hinv
 by_cases q:i<s.length
 rotate_left
 .obtain rfl:i=s.length:=om
  rw[Cj]at hinv
  refine zA ?_
  simp[go_sem]
  exact nH (t:=lV) hinv
 have ei:=zQ q om
 obtain⟨x,hx⟩:=eX (s[i])
 have aa:=Ej x 39
 simp only[Bz]at aa
 rw[A5 q,hx]at hinv
 by_cases ae:x.toNat=39
 rotate_left
 .rw[aiw ae]at aa
  rw[xf1 _ _ _ _ ae]at hinv
  have ai:(s.take (i+1)).drop i= [x]:=by
   rw[Cp,A0 q,hx,List.drop_append,A9 (by grind),Az,C8 om]
   simp
  refine zA ?_
  simp[go_sem,q,hx,aa,ei]
  refine zJ om ?_
  simp[go_sem,ai]
  refine zJ om ?_
  simp[go_sem,ei]
  refine zI (i+1,w++ [x]) ⟨om,(by grind), ?_⟩
  exact cc 1 (by rfl) rfl (by rfl) om (zD (by rfl) rfl)
 rw[aix ae]at aa
 by_cases q2:i+1<s.length
 rotate_left
 .have al:s.drop (i+1)= []:=(by grind)
  rw[al,lx,aiv ae]at hinv
  unfold F9 at hinv
  have e1:((i:Int)+1==(s.length:Int))=true:=by grind
  refine zA ?_
  simp[go_sem,q,hx,aa,ei,e1]
  by_cases af:64<w.length
  .have ab:decide ((64:Int)<w.length)=true:=(by grind)
   rw[aiv af]at hinv
   simp[go_sem,ab]
   exact nH (t:=lV) hinv
  .have ab:decide ((64:Int)<w.length)=false:=(by grind)
   rw[aiu af]at hinv
   simp[go_sem,ab,ei]
   exact nH (t:=⟨3,0,w,0⟩) hinv
 have e1:((i:Int)+1==(s.length:Int))=false:=by grind
 have an:=zQ q2 om
 obtain⟨y,hy⟩:=eX (s[i+1])
 have ah:=Ej y 39
 simp only[Bz]at ah
 have aj:s[i+1]?.getD 0=y:=by grind
 have ak:IntKind.i64.wrap ((i:Int)+1+1)=(i:Int)+2:=by grind
 rw[A5 q2,hy,lx,aiv ae]at hinv
 by_cases qy:y.toNat=39
 rotate_left
 .rw[aiu qy]at hinv
  unfold F9 at hinv
  rw[aiw qy]at ah
  have ad:((y.toNat:Int) !=39)=true:=by grind
  refine zA ?_
  simp[go_sem,q,hx,aa,ei,e1]
  refine zJ om ?_
  simp[go_sem,aj,ad]
  by_cases af:64<w.length
  .have ab:decide ((64:Int)<w.length)=true:=(by grind)
   rw[aiv af]at hinv
   simp[go_sem,ab]
   exact nH (t:=lV) hinv
  .have ab:decide ((64:Int)<w.length)=false:=(by grind)
   rw[aiu af]at hinv
   simp[go_sem,ab,ei]
   exact nH (t:=⟨3,0,w,0⟩) hinv
 rw[aiv qy]at hinv
 rw[aix qy]at ah
 have ad:((y.toNat:Int) !=39)=false:=by grind
 have ai:(s.take (i+2)).drop (i+1)= [y]:=by
  rw[Cp,A0 q2,hy,List.drop_append,A9 (by grind),Az,C8 om]
  simp
 refine zA ?_
 simp[go_sem,q,hx,aa,ei,e1]
 have et:((i:Int)+2).toNat=i+2:=om
 have ao:IntKind.i64.wrap ((i:Int)+1+1)=((i+2:Nat):Int):=om
 refine zJ om ?_
 simp[go_sem,aj,ad,ei,ak,et]
 refine zJ om ?_
 simp[go_sem,ai]
 refine zJ om ?_
 simp[go_sem,ak]
 refine zI (i+2,w++ [y]) ⟨om,(by grind), ?_⟩
 exact cc 1 (by rfl) rfl (by rfl) om (zD (by rfl) rfl)
def jx (c:UInt8):Bool:=mC c||jO c
def fr:aiZ:= [40,41,44,59,42,61,60,62,43,45,47,37]
def iL (s:aiZ) (a:Nat):TR:=
 if mC (s.getD a 0)=true then(⟨1,0,((s.drop a).takeWhile jx).map yP,0⟩,a+((s.drop a).takeWhile jx).length,0)
 else if jO (s.getD a 0)=true then qW a (s.drop a)
 else if(s.getD a 0).toNat=39 then lx (a+1) [] (s.drop (a+1))
 else if a+1<s.length/\((s.drop a).take 2= [60,61]\/(s.drop a).take 2= [62,61]\/(s.drop a).take 2= [60,62])then(⟨4,0,(s.drop a).take 2,0⟩,a+2,0)
 else if fr.contains (s.getD a 0)=true then(⟨4,0,[s.getD a 0],0⟩,a+1,0)
 else(lV,0,13)
theorem xO5 (s:aiZ) (hl:s.length<=maxLen) (a:Nat) (ha:a<s.length):Pure prog 117 [.str s,.int .i64 a] (u9 (iL s a)):=by
 generalize hM:iL s a=M
 have af:=yQ6 s hl a om
 have ah:=xv6 s hl a ha
 unfold iL at hM
 unfold maxLen at hl
 have az:s.getD a 0=s[a]:=by grind
 rw[az]at hM
 obtain⟨x,hx⟩:=eX (s[a])
 rw[hx]at hM
 have ab:=Kr x
 have ad:=HK x
 generalize qW a (s.drop a)=n at af hM
 generalize lx (a+1) [] (s.drop (a+1))=t at ah hM
 have ret: ∀(y:TR) (τ:St),y=M->cx (some (.cy [.agg [.int .i64 y.1.kind,.int .i64 y.1.place,.str y.1.s,.int .i64 y.1.n],.int .i64 y.2.1,.int .i64 y.2.2])) 0 (λr I=>r=u9 M/\I= []) τ:=λy τ h=>nH (t:=y.1) h
 refine iV 0 func117 ntmps117 results117 λc hc hb=> ?_
 refine zA ?_
 simp[go_sem,ha,hx]
 by_cases q1:mC x=true
 .rw[aiv q1]at hM
  rw[q1]at ab
  refine pC ab ?_
  simp[go_sem]
  refine zH (S:=Nat×aiZ) [0,1,4,7] (λu=> [.str s,.int .i64 u.1,.ptr 0 0,.str u.2]) (λ_=> [.box [.int .i64 0,.int .i64 0,.str [],.int .i64 0]]) (λu=>s.length - u.1)
   (λu=>u.1<=s.length/\u.2.length<=u.1/\((⟨1,0,u.2++((s.drop u.1).takeWhile jx).map yP,0⟩,u.1+((s.drop u.1).takeWhile jx).length,0):TR)=M) hc hb (a,[]) (by grind) ?_ ?_
  .exact cc 1 (by rfl) rfl (by rfl) om (zD (by rfl) rfl)
  rintro⟨i,w⟩ ⟨hi,hw,hinv⟩
  simp only at hi hw hinv
  by_cases q:i<s.length
  rotate_left
  .obtain rfl:i=s.length:=om
   rw[Cj]at hinv
   simp only[List.takeWhile_nil,Bq,Ay,Cs,D3]at hinv
   refine zA ?_
   simp[go_sem]
   exact nH (t:=⟨1,0,w,0⟩) hinv
  have ei:=zQ q om
  obtain⟨y,hy⟩:=eX (s[i])
  rw[A5 q,hy]at hinv
  have a1:=Kr y
  have ae:=HK y
  have ar:=NN y
  have yes:jx y=true->((⟨1,0,(w++ [yP y])++((s.drop (i+1)).takeWhile jx).map yP,0⟩,i+1+((s.drop (i+1)).takeWhile jx).length,0):TR)=M:=λh=>by
   rw[D5 h]at hinv
   grind
  have no:jx y=false->((⟨1,0,w,0⟩,i,0):TR)=M:=(by grind[List.takeWhile_cons_of_neg])
  have au:GS [[V.int .u8 ((yP y).toNat:Int)]]:=xR [yP y]
  have av:uy [V.int .u8 ((yP y).toNat:Int)]=yP y:=(List.cons.inj (GU [yP y])).1
  refine zA ?_
  simp[go_sem,q,hy]
  refine pC a1 ?_
  refine(A6 (mC y)).elim (λp1=> ?_) (λp1=> ?_)
  .have aw:=yes (by unfold jx;grind)
   simp[go_sem,p1,q,hy]
   refine pC ar ?_
   simp[go_sem]
   refine zJ au ?_
   simp[go_sem,av]
   refine zJ om ?_
   simp[go_sem,ei]
   refine zI (i+1,w++ [yP y]) ⟨om,(by grind), ?_⟩
   exact cc 1 (by rfl) rfl (by rfl) om (zD (by rfl) rfl)
  refine(A6 (jO y)).elim (λp2=> ?_) (λp2=> ?_)
  .have aw:=yes (by unfold jx;grind)
   simp[go_sem,p1,q,hy]
   refine pC ae ?_
   simp[go_sem,p2,q,hy]
   refine pC ar ?_
   simp[go_sem]
   refine zJ au ?_
   simp[go_sem,av]
   refine zJ om ?_
   simp[go_sem,ei]
   refine zI (i+1,w++ [yP y]) ⟨om,(by grind), ?_⟩
   exact cc 1 (by rfl) rfl (by rfl) om (zD (by rfl) rfl)
  .have a6:=no (by unfold jx;grind)
   simp[go_sem,p1,q,hy]
   refine pC ae ?_
   simp[go_sem,p2]
   exact nH (t:=⟨1,0,w,0⟩) a6
 have q1:mC x=false:=by grind
 rw[aiu om]at hM
 rw[q1]at ab
 refine pC ab ?_
 simp[go_sem,ha,hx]
 by_cases q2:jO x=true
 .rw[aiv q2]at hM
  rw[q2]at ad
  refine pC ad ?_
  simp[go_sem]
  refine zL af cB (yG rfl) (KF _) ?_
  simp[go_sem,u9]
  exact ret _ _ hM
 have q2:jO x=false:=by grind
 rw[aiu om]at hM
 rw[q2]at ad
 refine pC ad ?_
 simp[go_sem,ha,hx]
 have aa:=Ej x 39
 simp only[Bz]at aa
 by_cases q3:x.toNat=39
 .rw[aiv q3]at hM
  rw[aix q3]at aa
  simp[go_sem,aa]
  refine zL ah cB (yG rfl) (KF _) ?_
  simp[go_sem,u9]
  exact ret _ _ hM
 rw[aiu q3]at hM
 rw[aiw q3]at aa
 simp[go_sem,aa]
 have ax: ∀(y:UInt8),((y.toNat:Int)==(x.toNat:Int))=(y==x):=λy=>by
  rw[D9]
  simp only[aiB]
  exact⟨λh=>E6.1 om,(by grind)⟩
 have ea:IntKind.i64.wrap ((a:Int)+1)=((a+1:Nat):Int):=(by grind[zQ])
 have ai:(s.take (a+1)).drop a= [x]:=by
  rw[Cp,A0 ha,hx,List.drop_append,A9 (by grind),Az,C8 om]
  simp
 by_cases qa:a+1<s.length
 rotate_left
 .have aj:decide ((a:Int)+1<s.length)=false:=(by grind)
  rw[aiu om]at hM
  simp[go_sem,ea,aj]
  refine zH (S:=Nat) [0,1,4,9] (λk=> [.str s,.int .i64 a,.ptr 0 0,.int .i64 (k:Int)]) (λ_=> [.box [.int .i64 0,.int .i64 0,.str [],.int .i64 0]]) (λk=>12 - k)
   (λk=>k<=12/\(if(fr.drop k).contains x=true then(⟨4,0,[x],0⟩,a+1,0)else(lV,0,13):TR)=M) hc hb 0 ⟨om,hM⟩ ?_ ?_
  .exact cc 1 (by rfl) rfl (by rfl) om (zD (by rfl) rfl)
  rintro k ⟨hk,hinv⟩
  by_cases qk:k<12
  rotate_left
  .obtain rfl:k=12:=om
   refine zA ?_
   simp[go_sem]
   exact nH (t:=lV) hinv
  have ak:k<fr.length:=qk
  have ek:=zQ qk dC
  have al:decide ((k:Int)<12)=true:=(by grind)
  obtain⟨y,hy⟩:=eX (fr[k])
  rw[A5 ak,hy]at hinv
  have an: [40,41,44,59,42,61,60,62,43,45,47,37][k]?.getD (0:UInt8)=y:=by
   have:fr[k]?.getD 0=y:=by grind
   exact this
  refine zA ?_
  simp[go_sem,al]
  refine yE [] 1 sm (by rfl) kR ?_
  simp[go_sem]
  refine zJ om ?_
  simp[go_sem,ha,hx,an,ax]
  by_cases qe:(y==x)=true
  .have ao:y=x:=by grind
   rw[aiv (by simp[ao])]at hinv
   simp[go_sem,qe,ea]
   refine zJ om ?_
   simp[go_sem,ai,ea]
   exact nH (t:=⟨4,0,[x],0⟩) hinv
  .have qe:(y==x)=false:=by grind
   have aq:(y::fr.drop (k+1)).contains x=(fr.drop (k+1)).contains x:=by
    rw[Dh,show(x==y)=false by grind]
    rfl
   rw[aq]at hinv
   simp[go_sem,qe,ek]
   exact zI (k+1) ⟨om,(by grind),cc 1 (by rfl) rfl (by rfl) om (zD (by rfl) rfl)⟩
 have aj:decide ((a:Int)+1<s.length)=true:=(by grind)
 have ay:IntKind.i64.wrap ((a:Int)+2)=(a:Int)+2:=by grind[bX]
 have et:((a:Int)+2).toNat=a+2:=om
 have ae:(s.drop a).take 2=(s.take (a+2)).drop a:=by grind
 rw[ae]at hM
 simp[go_sem,ea,ay,et,aj]
 refine zJ om ?_
 simp[go_sem]
 generalize (s.take (a+2)).drop a=two at hM
 have yes:(two= [60,61]\/two= [62,61]\/two= [60,62])->((⟨4,0,two,0⟩,a+2,0):TR)=M:=(by grind)
 have no: ¬(two= [60,61]\/two= [62,61]\/two= [60,62])->(if fr.contains x=true then(⟨4,0,[x],0⟩,a+1,0)else(lV,0,13):TR)=M:=(by grind)
 clear hM
 by_cases qt:two= [60,61]\/two= [62,61]\/two= [60,62]
 .have hM:=yes qt
  rcases qt with rfl|rfl|rfl
  all_goals simp[go_sem,ay]
  all_goals exact nH (t:=⟨4,0,_,0⟩) hM
 .have hM:=no qt
  have p1:(two== [60,61])=false:=by grind
  have p2:(two== [62,61])=false:=by grind
  have p3:(two== [60,62])=false:=by grind
  clear yes no qt
  simp[go_sem,p1,p2,p3]
  refine zH (S:=Nat) [0,1,4,9] (λk=> [.str s,.int .i64 a,.ptr 0 0,.int .i64 (k:Int)]) (λ_=> [.box [.int .i64 0,.int .i64 0,.str [],.int .i64 0]]) (λk=>12 - k)
   (λk=>k<=12/\(if(fr.drop k).contains x=true then(⟨4,0,[x],0⟩,a+1,0)else(lV,0,13):TR)=M) hc hb 0 (by grind) ?_ ?_
  .exact cc 1 (by rfl) rfl (by rfl) om (zD (by rfl) rfl)
  rintro k ⟨hk,hinv⟩
  by_cases qk:k<12
  rotate_left
  .obtain rfl:k=12:=om
   refine zA ?_
   simp[go_sem]
   exact nH (t:=lV) hinv
  have ak:k<fr.length:=qk
  have ek:=zQ qk dC
  have al:decide ((k:Int)<12)=true:=(by grind)
  obtain⟨y,hy⟩:=eX (fr[k])
  rw[A5 ak,hy]at hinv
  have an: [40,41,44,59,42,61,60,62,43,45,47,37][k]?.getD (0:UInt8)=y:=by
   have:fr[k]?.getD 0=y:=by grind
   simpa
  refine zA ?_
  simp[go_sem,al]
  refine yE [] 1 sm kR kR ?_
  simp[go_sem]
  refine zJ om ?_
  simp[go_sem,ha,hx,an,ax]
  by_cases qe:(y==x)=true
  .have ao:y=x:=by grind
   rw[aiv (by simp[ao])]at hinv
   simp[go_sem,qe,ea]
   refine zJ om ?_
   simp[go_sem,ai,ea]
   exact nH (t:=⟨4,0,[x],0⟩) hinv
  .have qe:(y==x)=false:=by grind
   have aq:(y::fr.drop (k+1)).contains x=(fr.drop (k+1)).contains x:=by
    grind
   rw[aq]at hinv
   simp[go_sem,qe,ek]
   exact zI (k+1) ⟨om,(by grind),cc 1 (by rfl) rfl (by rfl) om (zD (by rfl) rfl)⟩
def nJ (s:aiZ):Nat->Nat->List bR->List bR×Int
 |0,_,_=>([],0)
 |n+1,a,l=>
  if a<s.length then
   (if Ei (s.getD a 0)=true then nJ s n (a+1) l
   else if(iL s a).2.2=0 then nJ s n (iL s a).2.1 (l++ [{(iL s a).1 with place:=a}])else([],(iL s a).2.2))
  else(l++ [⟨0,s.length,[],0⟩],0)
def jS (s:aiZ):List bR×Int:=if 2000<s.length then([],3)else nJ s (s.length+1) 0 []
theorem SM: ∀(l:aiZ) (v r:Int),0<=v->v<=9223372036854775807->nI v l=some r->0<=r/\r<=9223372036854775807
 | [],v,r,h0,h1,h=>by rw[nI]at h;cases h;exact⟨h0,h1⟩
 |c::l,v,r,h0,h1,h=>by
  rw[nI]at h
  split at h
  .rename_i hd
   have hr:=SL hd
   split at h
   .cases h
   .exact SM l _ r om om h
  .cases h;exact⟨h0,h1⟩
theorem N7: ∀(k:Nat) (l:aiZ),l.length<=k-> ∀(i:Nat) (w:aiZ),(lx i w l).2.2=0->i<(lx i w l).2.1/\(lx i w l).2.1<=i+l.length/\(lx i w l).1.s.length<=64/\(lx i w l).1.n=0
 |0,l,hk,i,w,h=>by
  have:l= []:=As om
  subst this
  simp[lx]at h
 |k+1,l,hk,i,w,h=>by
  match l,hk with
  | [],_=>simp[lx]at h
  | [c],_=>
   rw[lx]at h⊢
   split at h
   .rename_i hc
    rw[aiv hc]
    unfold F9 at h⊢
    split at h
    .simp at h
    .rename_i aa
     rw[aiu aa]
     exact⟨sm,sm,by simp only;omega,rfl⟩
   .simp at h
  |c::c2::l,hk=>
   rw[lx]at h⊢
   split at h
   .rename_i hc
    rw[aiv hc]
    split at h
    .rename_i ab
     rw[aiv ab]
     have:=N7 k l (by simp at hk;omega) _ _ h
     simp only[Ah]
     omega
    .rename_i ab
     rw[aiu ab]
     unfold F9 at h⊢
     split at h
     .simp at h
     .rename_i aa
      rw[aiu aa]
      exact⟨sm,sm,by simp only;omega,rfl⟩
   .rename_i hc
    rw[aiu hc]
    have:=N7 k (c2::l) (by simp at hk⊢;omega) _ _ h
    simp only[Ah]at this⊢
    omega
theorem N8 {p:UInt8->Bool}: ∀l:aiZ,(l.takeWhile p).length<=l.length
 | []=>A7 _
 |c::l=>by
  rw[List.takeWhile_cons]
  have:=N8 (p:=p) l
  split<;>simp only[Ah,Cs]<;>omega
theorem SN {s:aiZ} {a:Nat} (ha:a<s.length) (h:(iL s a).2.2=0):a<(iL s a).2.1/\(iL s a).2.1<=s.length/\(iL s a).1.s.length<=s.length+64/\0<=(iL s a).1.n/\(iL s a).1.n<=9223372036854775807:=by
 have aa:s.getD a 0=s[a]:=by rw[Al,A0 ha];rfl
 have ab:=A5 ha
 unfold iL at h⊢
 rw[aa,ab]at h⊢
 obtain⟨x,hx⟩:=eX (s[a])
 rw[hx]at h⊢
 have hl:(s.drop (a+1)).length=s.length - (a+1):=D6
 generalize s.drop (a+1)=l at h hl⊢
 split at h
 .rename_i q1
  rw[aiv q1]
  have hw:jx x:=by unfold jx;rw[q1];rfl
  have:=N8 (p:=jx) l
  rw[D5 hw]
  simp only[Ah,Ag]
  omega
 rename_i q1
 rw[aiu q1]
 split at h
 .rename_i q2
  rw[aiv q2]
  unfold qW at h⊢
  split at h
  .simp at h
  rename_i r hr
  have ad:=SM _ 0 r (E5 _) dC hr
  split at h
  .simp at h
  rename_i hle
  rw[aiu hle,D5 q2]
  have:=N8 (p:=jO) l
  simp only[Ah,Cs]
  omega
 rename_i q2
 rw[aiu q2]
 split at h
 .rename_i q3
  rw[aiv q3]
  have:=N7 l.length l (A7 _) _ _ h
  omega
 rename_i q3
 rw[aiu q3]
 split at h
 .rename_i q4
  rw[aiv q4]
  simp only[Az]
  omega
 rename_i q4
 rw[aiu q4]
 split at h
 .rename_i q5
  rw[aiv q5]
  simp only[Bm]
  omega
 .simp at h
def KG (t:bR):Prop:=t.s.length<=3000/\0<=t.n/\t.n<=9223372036854775807
theorem N9 {s:aiZ} (hs:s.length<=2000): ∀(n a:Nat) (l:List bR),s.length<n+a->a<=s.length->l.length<=a->(∀t∈l,KG t)->(nJ s n a l).2=0->
  ∃l',(nJ s n a l).1=l'++ [⟨0,s.length,[],0⟩]/\l'.length<=s.length/\ ∀t∈l',KG t
 |0,a,l,hf,ha,_,_,_=>by omega
 |n+1,a,l,hf,ha,hl,ht,h=>by
  unfold nJ at h⊢
  by_cases q:a<s.length
  rotate_left
  .rw[aiu q]
   exact⟨l,rfl,om,ht⟩
  rw[aiv q]at h⊢
  by_cases q2:Ei (s.getD a 0)=true
  .rw[aiv q2]at h⊢
   exact N9 hs n (a+1) l om om om ht h
  rw[aiu q2]at h⊢
  by_cases q3:(iL s a).2.2=0
  .rw[aiv q3]at h⊢
   have ho:=SN q q3
   refine N9 hs n _ _ om om (by simp;omega) (λt aa=> ?_) h
   rw[Af]at aa
   rcases aa with aa|aa
   .exact ht t aa
   .simp only[Ae,Bf,aiJ]at aa
    subst aa
    unfold KG
    simp only
    omega
  .rw[aiu q3]at h
   exact absurd h q3
theorem SO {s:aiZ} (h:(jS s).2=0):s.length<=2000/\eR (jS s).1/\gN (jS s).1/\1<=(jS s).1.length/\(jS s).1.length<=2001:=by
 unfold jS at h⊢
 split at h
 .simp at h
 rename_i hl
 rw[aiu hl]
 obtain⟨l',h1,h2,h3⟩:=N9 om _ _ _ om (A3 _) (A7 _) (λt ht=>by cases ht) h
 have h4: ∀t∈l'++ [⟨0,s.length,[],0⟩],KG t:=λt ht=>by
  rw[Af]at ht
  rcases ht with ht|ht
  .exact h3 t ht
  .simp only[Ae,Bf,aiJ]at ht
   subst ht
   exact⟨A3 _,E5 _,sm⟩
 rw[h1]
 refine⟨om,⟨by simp;omega,λi hi=> ?_,λt ht=> ?_⟩,⟨λt ht=> ?_,λt ht=>(h4 t ht).2⟩,sm,by simp;omega⟩
 .have:i=l'.length:=by simp at hi;omega
  subst this
  rw[Al,Au (A7 _),Nat.sub_self]
  rfl
 .have:=(h4 t ht).1;unfold maxLen;omega
 .have:=(h4 t ht).1;omega
def xb (x:List bR×Int):V:= .cy [.sl .ro (x.1.map bR.row),.int .i64 x.2]
theorem Oa {g:Tag} {l:List bR} {M:List bR×Int} (h:(l,e)=M):cx (some (.cy [.sl g (l.map bR.row),.int .i64 e])) 0 (λr I=>r=xb M/\I= []) τ:=by
 subst h
 exact zW (r:= .cy [.sl .ro (l.map bR.row),.int .i64 e]) (yW ⟨uL,xV rfl,tV⟩) ⟨rfl,rfl⟩
theorem wr0 (s:aiZ) (hl:s.length<=maxLen):Pure prog 63 [.str s] (xb (jS s)):=by
 generalize hM:jS s=M
 unfold jS at hM
 unfold maxLen at hl
 refine iV 0 func63 ntmps63 results63 λc hc hb=> ?_
 refine zA ?_
 simp[go_sem]
 by_cases q0:2000<s.length
 .rw[aiv q0]at hM
  have ad:decide ((2000:Int)<s.length)=true:=aix om
  simp[go_sem,ad]
  exact Oa (l:= []) hM
 rw[aiu q0]at hM
 have ad:decide ((2000:Int)<s.length)=false:=aiw om
 simp[go_sem,ad]
 refine lU 4 4 dC sg ?_
 refine zH (S:=Nat×List bR) [0,4,5] (λu=> [.str s,.sl (.app 0) (u.2.map bR.row),.int .i64 u.1]) (λu=> [.app u.2.length 4]) (λu=>s.length - u.1)
  (λu=>u.1<=s.length/\u.2.length<=u.1/\ ∃n,s.length<n+u.1/\nJ s n u.1 u.2=M) hc hb (0,[]) ⟨A3 _,A7 _,s.length+1,by simp only;omega,hM⟩ ?_ ?_
 .exact aN 1 (by rfl)
 rintro⟨a,l⟩ ⟨ha,af,n,hn,hinv⟩
 simp only at ha af hn hinv
 obtain⟨n,rfl⟩: ∃m,n=m+1:=⟨n - 1,om⟩
 rw[nJ]at hinv
 by_cases q:a<s.length
 rotate_left
 .rw[aiu q]at hinv
  refine zA ?_
  simp[go_sem,q]
  refine zJ ⟨om,zY rfl⟩ ?_
  simp[go_sem]
  have hr:=λg τ=>Oa (g:=g) (τ:=τ) hinv
  simp at hr
  exact hr _ _
 rw[aiv q]at hinv
 have ea:=zQ q om
 obtain⟨x,hx⟩:=eX (s[a])
 have ah:s.getD a 0=x:=by rw[Al,A0 q,hx];rfl
 rw[ah]at hinv
 have aa:=xc6 x
 by_cases q2:Ei x=true
 .rw[aiv q2]at hinv
  rw[q2]at aa
  refine zA ?_
  simp[go_sem,q,hx]
  refine pC aa ?_
  simp[go_sem,ea]
  exact zI (a+1,l) ⟨by simp only;omega,⟨by simp only;omega,by simp only;omega,n,by simp only;omega,hinv⟩,aN 1 (by rfl)⟩
 have q2:Ei x=false:=sU q2
 rw[aiu (by rw[q2];decide)]at hinv
 rw[q2]at aa
 have ab:=xO5 s (by unfold maxLen;omega) a q
 have cQ:=SN q
 generalize iL s a=o at ab cQ hinv
 by_cases q3:o.2.2=0
 .rw[aiv q3]at hinv
  have cQ:=cQ q3
  have ae:(o.2.2 !=0)=false:=sU q3
  refine zA ?_
  simp[go_sem,q,hx]
  refine pC aa ?_
  simp[go_sem]
  refine zL ab cB (yG rfl) (KF _) ?_
  simp[go_sem,u9,ae]
  refine zJ ⟨om,zY rfl⟩ ?_
  simp[go_sem]
  refine zI (o.2.1,l++ [{o.1 with place:=a}]) ⟨by simp only;omega,⟨by simp only;omega,by simp;omega,n,by simp only;omega,hinv⟩, ?_⟩
  exact aN 1 (by rfl)
 .rw[aiu q3]at hinv
  have ae:(o.2.2 !=0)=true:=sU q3
  refine zA ?_
  simp[go_sem,q,hx]
  refine pC aa ?_
  simp[go_sem]
  refine zL ab cB (yG rfl) (KF _) ?_
  simp[go_sem,u9,ae]
  exact Oa (l:= []) hinv
variable {L:List bR}
def KH:aiZ:= [83,69,76,69,67,84]
def KI:aiZ:= [73,78,83,69,82,84]
def KJ:aiZ:= [85,80,68,65,84,69]
def Ek:aiZ:= [68,69,76,69,84,69]
def ly (L:List bR) (s:RS):bW×RS:=
 if dt L KH s=true then uY L (zR s)
 else if dt L KI s=true then uZ L (zR s)
 else if dt L KJ s=true then u7 L (zR s)
 else
  let n:=xC L (yI L qT (yI L Ek s))
  (⟨4,n.1,[],[],[],(kj L n.2).1,(kj L n.2).2,[],false,0⟩,pa L n.2)
theorem xe1 (hL:eR L) {s:RS} (h:dv L s) (ho:s.bZ=0):UI L s (uY L s).2:=by
 unfold uY
 have h1:=N4 hL h ho
 have h2:=h1.trans (yM hL qT h1.cz)
 have h3:=h2.trans (nG hL h2.cz)
 have h4:=h3.trans (F6 hL h3.cz (h3.bZ.trans ho))
 have h5:=h4.trans (N3 hL h4.cz)
 exact h5.trans (SI hL h5.cz)
theorem Oc (hL:eR L) {s:RS} (h:dv L s) (ho:s.bZ=0):UI L s (ly L s).2:=by
 unfold ly
 split
 .have h1:=xA hL h ‹_›
  exact h1.trans (xe1 hL h1.cz (h1.bZ.trans ho))
 split
 .have h1:=xA hL h ‹_›
  exact h1.trans (yZ8 hL h1.cz (h1.bZ.trans ho))
 split
 .have h1:=xA hL h ‹_›
  exact h1.trans (xg9 hL h1.cz (h1.bZ.trans ho))
 .have h1:=yM hL Ek h
  have h2:=h1.trans (yM hL qT h1.cz)
  have h3:=h2.trans (nG hL h2.cz)
  exact h3.trans (F6 hL h3.cz (h3.bZ.trans ho))
theorem wp5 (L:List bR) (hL:eR L) (s:RS) (hs:dv L s) (ho:s.bZ=0):bN prog 66 [.ptr 0 0] [rB L s] (RT L (ly L s)):=by
 generalize hM:ly L s=M
 unfold ly at hM
 have ret: ∀(x:bW×RS) (τ:St),x=M->cx (some (.agg x.1.row)) 1 (RT L M) (rB L x.2::τ):=λx τ h=>pW (g1:= .ro) (g2:= .ro) (g3:= .ro) (g4:= .ro) (st:=x.1) h
 refine iW 1 func66 ntmps66 results66 λc hc hb=>zM ?_
 simp[go_sem]
 by_cases q1:dt L KH s=true
 .rw[aiv q1]at hM
  have aa:=xz4 L hL (zR s) (hs.next hL q1) ho
  generalize uY L (zR s)=x at aa hM
  refine pR (xS L hL s hs _ q1) ?_
  simp[go_sem]
  refine HL aa cB fK (HT _) ?_
  simp[go_sem]
  exact ret x _ hM
 have q1:dt L KH s=false:=sU q1
 rw[aiu (by rw[q1];decide)]at hM
 refine pR (wS L hL s hs _ q1) ?_
 simp[go_sem]
 by_cases q2:dt L KI s=true
 .rw[aiv q2]at hM
  have aa:=xu5 L hL (zR s) (hs.next hL q2) ho
  generalize uZ L (zR s)=x at aa hM
  refine pR (xS L hL s hs _ q2) ?_
  simp[go_sem]
  refine HL aa cB fK (HT _) ?_
  simp[go_sem]
  exact ret x _ hM
 have q2:dt L KI s=false:=sU q2
 rw[aiu (by rw[q2];decide)]at hM
 refine pR (wS L hL s hs _ q2) ?_
 simp[go_sem]
 by_cases q3:dt L KJ s=true
 .rw[aiv q3]at hM
  have aa:=xB1 L hL (zR s) (hs.next hL q3) ho
  generalize u7 L (zR s)=x at aa hM
  refine pR (xS L hL s hs _ q3) ?_
  simp[go_sem]
  refine HL aa cB fK (HT _) ?_
  simp[go_sem]
  exact ret x _ hM
 have q3:dt L KJ s=false:=sU q3
 rw[aiu (by rw[q3];decide)]at hM
 refine pR (wS L hL s hs _ q3) ?_
 simp[go_sem]
 have af:=lv L hL s hs Ek
 have ab:=yM hL Ek hs
 generalize yI L Ek s=s1 at af ab hM
 have ah:=lv L hL s1 ab.cz qT
 have ad:=ab.trans (yM hL qT ab.cz)
 generalize yI L qT s1=s2 at ah ad hM
 have hn:=DT L hL s2 ad.cz
 have ae:=ad.trans (nG hL ad.cz)
 generalize xC L s2=n at hn ae hM
 obtain⟨nm,s3⟩:=n
 simp only at hn ae hM
 obtain⟨gw,hw⟩:=NY L hL s3 ae.cz (ae.bZ.trans ho) [rY,.box [.int .i64 4,.str nm,.sl .full [],.sl .full [],.sl .full [],.bool false,.int .i64 0,.str [],.int .i64 0,.int .i64 0,.str [],.sl .full [],.str [],.bool false,.int .i64 0]] 1 _ _ _ _ _ _ _ _ rfl
 generalize pa L s3=s4 at hw hM
 generalize kj L s3=w at hw hM
 refine pR af ?_
 simp[go_sem]
 refine pR ah ?_
 simp[go_sem]
 refine pR hn ?_
 simp[go_sem]
 refine FR hw cB ?_
 rintro r I ⟨rfl,rfl⟩ _
 simp[go_sem]
 exact pW (st:=⟨4,nm,[],[],[],w.1,w.2,[],false,0⟩) hM
theorem wV {P:Program} {c:Ctx} {f:FuncId} {bY args cd:List V} {o:Ob} {L:List bR} {s:RS} {v:V} {KV:V->St->Prop} (hc:bN P f cd [rB L s] (λr I=>r=v/\I= [rB L s'])) (hb:xE P f)
  (aa:bP (cT (cK [1] (τ.length+2))) cd (args++bY)) (hn:gK v) (hk:KV v (o::rB L s'::τ)):jm P c (.fn f bY) args (o::rB L s::τ) KV fx:=by
 refine mw 1 hc hb rfl (Kt _ _ _) aa (λr I h=>⟨_,h.2,Kt _ _ _⟩) ?_
 rintro r o2 ⟨rfl,h2⟩
 obtain rfl:o2=rB L s':=sU h2
 rw[zm hn]
 exact hk
theorem SP {P:Program} {c:Ctx} {n:Nat} {f:FuncId} {bY args cd:List V} {o:Ob} {L:List bR} {s:RS} {v:V} {KV:V->St->Prop} (hc:bN P f cd [rB L s] (λr I=>r=v/\I= [rB L s'])) (hb:xE P f)
  (aa:bP (cT (cK [1] (τ.length+2))) cd (args++bY)) (hn:gK v) (hk:KV v (o::rB L s'::τ)):pQ P c ⟨2,n,[],none⟩ 3 (.fn f bY) args (o::rB L s::τ) KV fx:=by
 have ab: ∀(N:Nat) (s:RS),yA (cK [1] N) (rB L s)=rB L s:=λN s=>yY (n:=0) (λ_ h=>absurd h (Nat.not_lt_zero _)) (Kt _ _ _)
 have e:yX [1] (o::rB L s::τ) [rB L s']=o::rB L s'::τ:=by
  simp only[yX,Bm,Cb,E2,Dd,Bh,Aj,Bq,fI,Ay,ab]
  rfl
 refine FM hc hb [1] sm rfl (λi j q h1 h2=> ?_) aa (.inr ?_) ?_
 .match i with
  |0=>simp at h1 h2;subst h1;subst h2;rw[ab];rfl
  |i+1=>simp at h1
 .rw[e];exact Kp.iY (I:=o::rB L s::τ) (id:=1) (o:=rB L s') (.inl sm)
 .rw[e,zm hn];exact hk
theorem mX {N:Nat} {l l':List V} (h:bP (cT (cK [1] N)) l l'):bP (cT (cK [1] N)) (.ptr 0 0::l) (.ptr 1 0::l'):=⟨.inl rfl,h⟩
theorem El {N:Nat}:bP (cT (cK [1] N)) [.ptr 0 0] [.ptr 1 0]:=mX trivial
variable {L:List bR}
def Em:aiZ:= [65,83]
def HV:aiZ:= [79,70]
def HW:aiZ:= [83,89,83,84,69,77]
def HX:aiZ:= [84,73,77,69]
def Od:aiZ:= [66,79,85,78,68]
def Oe:List aiZ:= [KH,KI,KJ,Ek]
def qX (L:List bR) (s:RS):Bool:= !(dY L s Oe).isEmpty
def rZ (L:List bR):Nat->List bW->RS->List bW×RS
 |0,l,s=>(l,s)
 |n+1,l,s=>
  if s.err=0 then
   if(ki L l.length 8 (qX L s) s).err=0 then
    if dt L [59] (ly L s).2=true then
     if dt L Em (zR (ly L s).2)=true\/(cE L (zR (ly L s).2)).kind=0 then(l++ [(ly L s).1],zR (ly L s).2)
     else rZ L n (l++ [(ly L s).1]) (zR (ly L s).2)
    else(l++ [(ly L s).1],(ly L s).2)
   else(l,ki L l.length 8 (qX L s) s)
  else(l,s)
def AU (L:List bR) (s:RS):RS:=yI L HX (yI L HW (yI L HV (zR s)))
def tG (L:List bR) (s:RS):(Int×Int)×RS:=
 if dt L Em s=true then
  if dt L Od (AU L s)=true then((2,(hZ L (zR (AU L s))).1),(hZ L (zR (AU L s))).2)
  else((1,(hZ L (AU L s)).1),(hZ L (AU L s)).2)
 else((0,0),s)
def pd (L:List bR) (s:RS):RS:=if s.err=0/\(cE L s).kind≠0 then iF 13 (cE L s).place s else s
def AV:RS:=⟨0,0,0,0⟩
def tH:dU:=⟨0,0,[]⟩
def KK (L:List bR):dU×Int×Int:=
 let x:=rZ L 9 [] AV
 let a:=tG L x.2
 let e:=pd L a.2
 if e.err=0 then(⟨a.1.1,a.1.2,x.1⟩,0,0)else(tH,e.place,e.err)
def sa (s:aiZ):dU×Int×Int:=if(jS s).2=0 then KK (jS s).1 else(tH,0,(jS s).2)
theorem SQ (hL:eR L): ∀(n:Nat) (l:List bW) (s:RS),dv L s->s.bZ=0->UI L s (rZ L n l s).2
 |0,_,_,h,_=>UI.refl h
 |n+1,l,s,h,ho=>by
  unfold rZ
  split
  .split
   .have h1:=Oc hL h ho
    split
    .have h2:=h1.trans (xA hL h1.cz ‹_›)
     split
     .exact h2
     .exact h2.trans (SQ hL n _ _ h2.cz (h2.bZ.trans ho))
    .exact h1
   .exact tD h
  .exact UI.refl h
theorem SR (hL:eR L) {s:RS} (h:dv L s) (hi:dt L Em s):UI L s (AU L s):=by
 unfold AU
 have h1:=xA hL h hi
 have h2:=h1.trans (yM hL HV h1.cz)
 have h3:=h2.trans (yM hL HW h2.cz)
 exact h3.trans (yM hL HX h3.cz)
theorem SU (hL:eR L) {s:RS} (h:dv L s):UI L s (tG L s).2:=by
 unfold tG
 split
 .rename_i hi
  have h1:=SR hL h hi
  split
  .have h2:=h1.trans (xA hL h1.cz ‹_›)
   exact h2.trans (NV hL h2.cz)
  .exact h1.trans (NV hL h1.cz)
 grind[UI.refl]
def En (x:dU×Int×Int):V:= .cy [.agg x.1.row,.int .i64 x.2.1,.int .i64 x.2.2]
theorem Of {g:Tag} {l:dU} {p:Int} {M:dU×Int×Int} (h:(l,p,e)=M):cx (some (.cy [.agg [.int .i64 l.mode,.int .i64 l.n,.sl g (l.stmts.map bW.row)],.int .i64 p,.int .i64 e])) 0 (λr I=>r=En M/\I= []) τ:=by
 subst h
 exact zW (r:= .cy [.agg [.int .i64 l.mode,.int .i64 l.n,.sl .ro (l.stmts.map bW.row)],.int .i64 p,.int .i64 e]) (yW ⟨wW ⟨zF rfl,zF rfl,zX,tV⟩,xV rfl,xV rfl,tV⟩) (by trivial)
def lz (m n:Int) (l:List bW):Ob:= .box [.int .i64 m,.int .i64 n,.sl (.app 3) (l.map bW.row)]
def qY:Ob:= .box [.int .i64 0,.int .i64 0,.sl .full []]
theorem xV6 (s:aiZ) (hl:s.length<=maxLen):Pure prog 26 [.str s] (En (sa s)):=by
 generalize hM:sa s=M
 unfold sa at hM
 have ah:=wr0 s hl
 have cQ:=SO (s:=s)
 generalize jS s=x at ah cQ hM
 obtain⟨L,e⟩:=x
 simp only at cQ hM
 refine iV 0 func26 ntmps26 results26 λc hc hb=> ?_
 by_cases qe:e=0
 rotate_left
 .rw[aiu qe]at hM
  have ar:(e !=0)=true:=by grind
  refine zA ?_
  simp[go_sem]
  refine pC ah ?_
  simp[go_sem,xb,ar]
  exact Of (l:=tH) hM
 obtain⟨_,hL,hG,aE,aF⟩:=cQ qe
 rw[aiv qe]at hM
 have ar:(e !=0)=false:=by grind
 have h0:dv L AV:=⟨by simpa,dC⟩
 unfold KK at hM
 obtain⟨X,hX⟩:=eX (rZ L 9 [] AV)
 rw[hX]at hM
 refine zN (zA ?_)
 simp[go_sem]
 refine zN (zA ?_)
 simp[go_sem]
 refine pC ah ?_
 simp[go_sem,xb]
 refine zN (zA ?_)
 simp[go_sem,ar]
 refine zN (zA ?_)
 simp[go_sem]
 refine zN (zA ?_)
 simp[go_sem]
 refine DH 2 2 15 _ dC rfl rfl ?_
 simp only[By,Cf]
 refine ov (S:=List bW×RS) [2,7,8] (λ_=> [.ptr 0 0,.ptr 1 0,.ptr 2 0]) (λu=> [qY,rB L u.2,lz 0 0 u.1,.app u.1.length 15]) (λu=>dv L u.2/\u.2.bZ=0/\u=X) hc hb ?_ ?_
 .refine AD ?_
  refine zH (S:=List bW×RS) [2,7,8] (λ_=> [.ptr 0 0,.ptr 1 0,.ptr 2 0]) (λu=> [qY,rB L u.2,lz 0 0 u.1,.app u.1.length 15]) (λu=>9 - u.1.length) (λu=>u.1.length<=8/\dv L u.2/\u.2.bZ=0/\rZ L (9 - u.1.length) u.1 u.2=X) hc hb ([],AV) (by trivial) ?_ ?_
  .exact cc 4 (by rfl) rfl (by rfl) dC (zD (by rfl) rfl)
  rintro⟨l,s1⟩ ⟨aB,hs,ho,hinv⟩
  simp only at aB hs ho hinv
  rw[show 9 - l.length=(8 - l.length)+1 by omega,rZ]at hinv
  by_cases q1:s1.err=0
  rotate_left
  .rw[aiu q1]at hinv
   have ab:(s1.err==0)=false:=by grind
   refine zA ?_
   simp[go_sem,rB,ab]
   exact zI (l,s1) ⟨(by grind),cc 4 (by rfl) rfl (by rfl) dC (zD (by rfl) rfl)⟩
  have ab:(s1.err==0)=true:=by grind
  rw[aiv q1]at hinv
  have ae:=AQ L hL s1 hs Oe dC
  have aa:=HS L hL s1 hs l.length 8 (qX L s1)
  have ao:=uW (L:=L) (n:=l.length) (fZ:=8) (b:=qX L s1) (s:=s1)
  have ai:=tD (L:=L) (n:=l.length) (fZ:=8) (b:=qX L s1) hs
  unfold qX at aa ao ai hinv
  generalize dY L s1 Oe=an at ae aa ao ai hinv
  generalize ki L l.length 8 (!an.isEmpty) s1=m at aa ao ai hinv
  by_cases q2:m.err=0
  rotate_left
  .rw[aiu q2]at hinv
   have ad:(m.err==0)=false:=by grind
   rw[ad]at aa
   refine zA ?_
   simp[go_sem,rB,ab]
   refine wV ae cB (mX ⟨zK,tV⟩) rfl ?_
   simp[go_sem,lz]
   refine wV aa cB (mX ⟨zC rfl,zC rfl,zC rfl,tV⟩) rfl ?_
   simp[go_sem,rB]
   exact zI (l,m) ⟨⟨ai.cz,ai.bZ.trans ho,hinv⟩,cc 4 (by rfl) rfl (by rfl) dC (zD (by rfl) rfl)⟩
  have ad:(m.err==0)=true:=by grind
  rw[ad]at aa
  obtain⟨_,aG,rfl⟩:=ao q2
  rw[aiv q2]at hinv
  have au:=wp5 L hL m hs ho
  have aq:=Oc hL hs ho
  generalize ly L m=x at au aq hinv
  obtain⟨st,s2⟩:=x
  simp only at aq hinv
  have aj:=aq.cz
  have aC:=aq.bZ.trans ho
  by_cases q3:dt L [59] s2=true
  rotate_left
  .have q3:dt L [59] s2=false:=by grind
   rw[aiu om]at hinv
   refine zA ?_
   simp[go_sem,rB,ab]
   refine wV ae cB (mX ⟨zK,tV⟩) rfl ?_
   simp[go_sem,lz]
   refine wV aa cB (mX ⟨zC rfl,zC rfl,zC rfl,tV⟩) rfl ?_
   simp[go_sem]
   refine wJ [(3,3)] 2 4 sm (by rfl) kR ?_
   simp[go_sem]
   refine SP au cB El (HT _) ?_
   simp[go_sem]
   refine zJ ⟨om,zY rfl⟩ ?_
   simp[go_sem]
   refine wV (wS L hL s2 aj _ q3) cB (mX ⟨zC rfl,tV⟩) rfl ?_
   simp[go_sem,rB]
   exact zI (l++ [st],s2) ⟨(by grind),aM 4 (by rfl) (zD (by rfl) rfl)⟩
  rw[aiv q3]at hinv
  have av:=aj.next hL q3
  have a1:=jw L hL (zR s2) av Em
  have af:=nB L hL (zR s2) av
  generalize dt L Em (zR s2)=ba at a1 hinv
  generalize cE L (zR s2)=tk at af hinv
  refine zA ?_
  simp[go_sem,rB,ab]
  refine wV ae cB (mX ⟨zK,tV⟩) rfl ?_
  simp[go_sem,lz]
  refine wV aa cB (mX ⟨zC rfl,zC rfl,zC rfl,tV⟩) rfl ?_
  simp[go_sem]
  refine wJ [(3,3)] 2 4 sm (by rfl) kR ?_
  simp[go_sem]
  refine SP au cB El (HT _) ?_
  simp[go_sem]
  refine zJ ⟨om,zY rfl⟩ ?_
  simp[go_sem]
  refine wV (xS L hL s2 aj _ q3) cB (mX ⟨zC rfl,tV⟩) rfl ?_
  simp[go_sem]
  refine wV a1 cB (mX ⟨zC rfl,tV⟩) rfl ?_
  refine(A6 ba).elim (λq4=> ?_) (λq4=> ?_)
  .rw[aiv (.inl q4)]at hinv
   simp[go_sem,q4,rB]
   exact zI (l++ [st],zR s2) ⟨(by trivial),aM 4 (by rfl) (zD (by rfl) rfl)⟩
  simp[go_sem,q4]
  refine wV af cB El rfl ?_
  by_cases q5:tk.kind=0
  .have aw:(tk.kind==0)=true:=by grind
   rw[aiv (.inr q5)]at hinv
   simp[go_sem,aw,rB]
   exact zI (l++ [st],zR s2) ⟨(by trivial),aM 4 (by rfl) (zD (by rfl) rfl)⟩
  .have aw:(tk.kind==0)=false:=by grind
   rw[aiu (by grind)]at hinv
   simp[go_sem,aw,rB]
   refine zI (l++ [st],zR s2) ⟨by grind,⟨by grind,av,aC,by grind⟩,aM 4 (by rfl) (zD (by rfl) rfl)⟩
 .rintro⟨l,s1⟩ ⟨hs,ho,aD⟩
  simp only at hs ho
  rw[<-aD]at hM
  simp only at hM
  have ax:=SU hL hs
  refine ov (S:=(Int×Int)×RS) [2,7,8] (λ_=> [.ptr 0 0,.ptr 1 0,.ptr 2 0]) (λu=> [qY,rB L u.2,lz u.1.1 u.1.2 l,.app l.length 15]) (λu=>u=tG L s1) hc hb ?_ ?_
  .obtain⟨A,hA⟩:=eX (tG L s1)
   rw[hA]
   unfold tG AU at hA
   by_cases q1:dt L Em s1=true
   rotate_left
   .have q1:dt L Em s1=false:=by grind
    rw[aiu om]at hA
    refine zA ?_
    simp[go_sem]
    refine wV (wS L hL s1 hs _ q1) cB (mX ⟨zC rfl,tV⟩) rfl ?_
    simp[go_sem]
    exact zI ((0,0),s1) ⟨hA,cc 4 (by rfl) rfl (by rfl) dC (zD (by rfl) rfl)⟩
   rw[aiv q1]at hA
   have a6:=hs.next hL q1
   have a7:=lv L hL _ a6 HV
   have ay:=uR hL (w:=HV) a6
   generalize yI L HV (zR s1)=u1 at a7 ay hA
   have a8:=lv L hL _ ay HW
   have az:=uR hL (w:=HW) ay
   generalize yI L HW u1=u2 at a8 az hA
   have aA:=lv L hL _ az HX
   have ak:=uR hL (w:=HX) az
   generalize yI L HX u2=u3 at aA ak hA
   refine zA ?_
   simp[go_sem]
   refine wV (xS L hL s1 hs _ q1) cB (mX ⟨zC rfl,tV⟩) rfl ?_
   simp[go_sem]
   refine wV a7 cB (mX ⟨zC rfl,tV⟩) rfl ?_
   simp[go_sem]
   refine wV a8 cB (mX ⟨zC rfl,tV⟩) rfl ?_
   simp[go_sem]
   refine wV aA cB (mX ⟨zC rfl,tV⟩) rfl ?_
   simp[go_sem,lz]
   by_cases q2:dt L Od u3=true
   .rw[aiv q2]at hA
    have al:=F0 L hL _ (ak.next hL q2)
    generalize hZ L (zR u3)=nn at al hA
    refine wV (xS L hL u3 ak _ q2) cB (mX ⟨zC rfl,tV⟩) rfl ?_
    simp[go_sem]
    refine wV al cB El rfl ?_
    simp[go_sem]
    exact zI ((2,nn.1),nn.2) ⟨hA,cc 4 (by rfl) rfl (by rfl) dC (zD (by rfl) rfl)⟩
   .have q2:dt L Od u3=false:=by grind
    rw[aiu om]at hA
    have al:=F0 L hL _ ak
    generalize hZ L u3=nn at al hA
    refine wV (wS L hL u3 ak _ q2) cB (mX ⟨zC rfl,tV⟩) rfl ?_
    simp[go_sem]
    refine wV al cB El rfl ?_
    simp[go_sem]
    exact zI ((1,nn.1),nn.2) ⟨hA,cc 4 (by rfl) rfl (by rfl) dC (zD (by rfl) rfl)⟩
  .rintro _ rfl
   generalize tG L s1=A at ax hM
   obtain⟨⟨m,n⟩,s2⟩:=A
   simp only at ax hM
   have aj:=ax.cz
   refine ov (S:=RS) [2,7,8] (λ_=> [.ptr 0 0,.ptr 1 0,.ptr 2 0]) (λu=> [qY,rB L u,lz m n l,.app l.length 15]) (λu=>u=pd L s2) hc hb ?_ ?_
   .have af:=nB L hL s2 aj
    have hf:=AP L s2 13 (cE L s2).place
    obtain⟨E,hE⟩:=eX (pd L s2)
    rw[hE]
    unfold pd at hE
    generalize cE L s2=tk at af hf hE
    generalize iF 13 tk.place s2=f at hf hE
    refine zA ?_
    simp[go_sem,rB]
    by_cases q1:s2.err=0
    rotate_left
    .have ab:(s2.err==0)=false:=by grind
     rw[aiu om]at hE
     simp[go_sem,ab]
     exact zI s2 ⟨hE,cc 4 (by rfl) rfl (by rfl) dC (zD (by rfl) rfl)⟩
    have ab:(s2.err==0)=true:=by grind
    simp[go_sem,ab]
    refine wV af cB El rfl ?_
    by_cases q2:tk.kind=0
    .have ad:(tk.kind !=0)=false:=by grind
     rw[aiu om]at hE
     simp[go_sem,ad,rB]
     exact zI s2 ⟨hE,cc 4 (by rfl) rfl (by rfl) dC (zD (by rfl) rfl)⟩
    .have ad:(tk.kind !=0)=true:=by grind
     rw[aiv ⟨q1,q2⟩]at hE
     simp[go_sem,ad]
     refine wV af cB El rfl ?_
     simp[go_sem]
     refine wV hf cB (mX ⟨zC rfl,zC rfl,tV⟩) rfl ?_
     simp[go_sem,rB]
     exact zI f ⟨hE,cc 4 (by rfl) rfl (by rfl) dC (zD (by rfl) rfl)⟩
   .rintro _ rfl
    generalize pd L s2=E at hM
    refine zA ?_
    simp[go_sem,rB]
    by_cases q1:E.err=0
    .have ab:(E.err !=0)=false:=by grind
     rw[aiv q1]at hM
     simp[go_sem,ab,qY,lz]
     exact Of (l:=⟨m,n,l⟩) hM
    .have ab:(E.err !=0)=true:=by grind
     rw[aiu q1]at hM
     simp[go_sem,ab,qY,lz]
     refine wJ [(9,3)] 1 4 sm (by rfl) kR ?_
     simp[go_sem]
     exact Of (l:=tH) hM
theorem SV (s:aiZ) (hl:s.length<=maxLen):Pure prog 9 [.str s] (.agg (sa s).1.row):=by
 have h:=xV6 s hl
 generalize sa s=x at h⊢
 refine iW 0 func9 ntmps9 results9 λc hc hb=>zM ?_
 simp[go_sem]
 refine pC h ?_
 simp[go_sem,En]
 exact zW (zC rfl) sm
variable {L:List bR}
structure ja (e:bJ):Prop where
 dS:Good e
 wide:fB e
 size:lW e<=4000
structure kM (st:bW):Prop where
 kind:cI st.kind
 table:st.table.length<=1048576
 items:st.items.length<=12/\ ∀x∈st.items,cI x.kind/\ja x.e
 rows:st.rows.length<=20/\ ∀r∈st.rows,r.length<=12/\ ∀e∈r,ja e
 cD:st.cD.length<=12/\ ∀x∈st.cD,x.name.length<=1048576/\ja x.e
 cA:ja st.cA
 order:st.order.length<=1048576
 bT:cI st.bT
structure kN (l:dU):Prop where
 mode:cI l.mode
 n:cI l.n
 stmts:l.stmts.length<=12/\ ∀st∈l.stmts,kM st
theorem SX:kN tH:=⟨dC,dC,dC,λst aa=>by trivial⟩
structure ES (s:RS) (e:bJ):Prop where
 dS:Good e
 wide:fB e
 size:s.err=0->lW e<=2001
theorem ES.mono {s:RS} {e:bJ} (h:ES s e) (u:UI L s s'):ES s' e:=⟨h.dS,h.wide,λq=>h.size (u.err q)⟩
theorem ES.ok {s:RS} {e:bJ} (h:ES s e) (hs:s.err=0):ja e:=⟨h.dS,h.wide,by have:=h.size hs;omega⟩
theorem HY (s:RS):ES s de:=⟨SA,Sl rfl,λ_=>dC⟩
theorem HZ (hL:eR L) (hG:gN L) (h2:L.length<=2001) {s:RS} (hs:dv L s) (ho:s.bZ=0):ES (iZ L s).2 (iZ L s).1:=by
 have h:=NS hL hs ho
 have k:=NU hL hG hs ho
 exact⟨k.dS,h.wide,λq=>by have:=k.size q;have:=h.cz.at_;omega⟩
theorem Og (hG:gN L) {s:RS} (hs:dv L s):cI (hZ L s).1:=by
 unfold hZ cI
 split
 .have:=hG.num _ (F2 hs);omega
 .simp
structure SS (s:RS) (st:bW):Prop where
 kind:cI st.kind
 table:st.table.length<=1048576
 items:st.items.length<=12/\ ∀x∈st.items,cI x.kind/\ES s x.e
 rows:st.rows.length<=20/\ ∀r∈st.rows,r.length<=12/\ ∀e∈r,ES s e
 cD:st.cD.length<=12/\ ∀x∈st.cD,x.name.length<=1048576/\ES s x.e
 cA:ES s st.cA
 order:st.order.length<=1048576
 bT:cI st.bT
theorem SS.mono {s:RS} (h:SS s st) (u:UI L s s'):SS s' st:=
 ⟨h.kind,h.table,⟨h.items.1,λx hx=>⟨(h.items.2 x hx).1,(h.items.2 x hx).2.mono u⟩⟩,⟨h.rows.1,λr hr=>⟨(h.rows.2 r hr).1,λe he=>((h.rows.2 r hr).2 e he).mono u⟩⟩,⟨h.cD.1,λx hx=>⟨(h.cD.2 x hx).1,(h.cD.2 x hx).2.mono u⟩⟩,h.cA.mono u,h.order,h.bT⟩
theorem SS.ok {s:RS} (h:SS s st) (hs:s.err=0):kM st:=
 ⟨h.kind,h.table,⟨h.items.1,λx hx=>⟨(h.items.2 x hx).1,(h.items.2 x hx).2.ok hs⟩⟩,⟨h.rows.1,λr hr=>⟨(h.rows.2 r hr).1,λe he=>((h.rows.2 r hr).2 e he).ok hs⟩⟩,⟨h.cD.1,λx hx=>⟨(h.cD.2 x hx).1,(h.cD.2 x hx).2.ok hs⟩⟩,h.cA.ok hs,h.order,h.bT⟩
theorem xX5 {s:RS} (h:(pd L s).err=0):s.err=0:=by
 grind[pd]
section
variable (hL:eR L) (hG:gN L) (h2:L.length<=2001)
include hL hG h2
theorem xZ1 {s:RS} (h:dv L s) (ho:s.bZ=0):cI (pb L s).1.kind/\ES (pb L s).2 (pb L s).1.e:=by
 unfold pb
 split
 .grind[cI,HY]
 split
 .rename_i hi
  have h1:=xA hL h hi
  have h3:=h1.trans (yM hL [40] h1.cz)
  have hx:=HZ hL hG h2 h3.cz (h3.bZ.trans ho)
  exact⟨by grind[cI],hx.mono (yM hL [41] (h3.trans (uX hL h3.cz (h3.bZ.trans ho))).cz)⟩
 grind[cI,HZ]
theorem SY: ∀(n:Nat) (l:List cP) (s:RS),dv L s->s.bZ=0->l.length<=6->(∀x∈l,cI x.kind/\ES s x.e)->
  (tE L n l s).1.length<=12/\ ∀x∈(tE L n l s).1,cI x.kind/\ES (tE L n l s).2 x.e
 |0,l,s,_,_,hl,hx=>(by grind[tE])
 |n+1,l,s,h,ho,hl,hx=>by
  unfold tE
  split
  .rename_i he
   obtain⟨_,h6,_⟩:=uW he
   have hu:=NX hL h ho
   have hi:=xZ1 hL hG h2 h ho
   have ab: ∀x∈l++ [(pb L s).1],cI x.kind/\ES (pb L s).2 x.e:=λx aa=>by
    rw[Af]at aa
    rcases aa with aa|aa
    .exact⟨(hx x aa).1,(hx x aa).2.mono hu⟩
    grind
   split
   .have hn:=xA hL hu.cz ‹_›
    exact SY n _ _ hn.cz ((hu.trans hn).bZ.trans ho) (by grind) (λx aa=>⟨(by grind),(ab x aa).2.mono hn⟩)
   grind
  .exact⟨by grind,λx aa=>⟨(hx x aa).1,(hx x aa).2.mono (tD h)⟩⟩
theorem xJ6 {s:RS} (h:dv L s) (ho:s.bZ=0):(qS L s).1.length<=12/\ ∀x∈(qS L s).1,cI x.kind/\ES (qS L s).2 x.e:=by
 unfold qS
 split
 .simp[cI,HY]
 grind[SY]
theorem Oh {s:RS} (h:dv L s) (ho:s.bZ=0):ES (pa L s) (kj L s).2:=by
 unfold pa kj
 by_cases q:dt L Ef s=true
 .rw[aiv q,aiv q]
  exact HZ hL hG h2 (h.next hL q) ho
 simp_all[HY]
theorem SZ: ∀(n:Nat) (l:List bJ) (s:RS),dv L s->s.bZ=0->l.length<=6->(∀e∈l,ES s e)->
  (fP L n l s).2.1.length<=12/\ ∀e∈(fP L n l s).2.1,ES (fP L n l s).2.2 e
 |0,l,s,_,_,hl,hx=>(by grind[fP])
 |n+1,l,s,h,ho,hl,hx=>by
  unfold fP
  split
  .rename_i he
   obtain⟨_,h6,_⟩:=uW he
   have hu:=uX hL h ho
   have hi:=HZ hL hG h2 h ho
   have ab: ∀x∈l++ [(iZ L s).1],ES (iZ L s).2 x:=λx aa=>by
    rw[Af]at aa
    rcases aa with aa|aa
    .exact(hx x aa).mono hu
    grind
   split
   .have hn:=xA hL hu.cz ‹_›
    exact SZ n _ _ hn.cz ((hu.trans hn).bZ.trans ho) (by grind) (λx aa=>(ab x aa).mono hn)
   grind
  .exact⟨by grind,λx aa=>(hx x aa).mono (tD h)⟩
theorem S0: ∀(n:Nat) (R:List (List bJ)) (s:RS),dv L s->s.bZ=0->R.length<=16->(∀r∈R,r.length<=12/\ ∀e∈r,ES s e)->
  (rX L n R s).1.length<=20/\ ∀r∈(rX L n R s).1,r.length<=12/\ ∀e∈r,ES (rX L n R s).2 e
 |0,R,s,_,_,hl,hx=>(by grind[rX])
 |n+1,R,s,h,ho,hl,hx=>by
  unfold rX
  split
  .rename_i he
   obtain⟨_,h6,_⟩:=uW he
   have aa:=yM hL [40] h
   have hr:=SZ hL hG h2 7 [] _ aa.cz (aa.bZ.trans ho) sm sm
   have ab:=aa.trans (N5 hL 7 [] _ aa.cz (aa.bZ.trans ho))
   generalize fP L 7 [] (yI L [40] s)=r at hr ab
   split
   .have ad:=yM hL [41] ab.cz
    have ae: ∀y∈R++ [r.2.1],y.length<=12/\ ∀e∈y,ES (yI L [41] r.2.2) e:=λy hy=>by
     rw[Af]at hy
     rcases hy with hy|hy
     .exact⟨(hx y hy).1,λe he=>((hx y hy).2 e he).mono (ab.trans ad)⟩
     .simp only[Ae,Bf,aiJ]at hy
      subst hy
      exact⟨hr.1,λe he=>(hr.2 e he).mono ad⟩
    split
    .have hn:=xA hL ad.cz ‹_›
     exact S0 n _ _ hn.cz (((ab.trans ad).trans hn).bZ.trans ho) (by grind) (λy hy=>⟨(ae y hy).1,λe he=>((ae y hy).2 e he).mono hn⟩)
    grind
   .exact⟨by grind,λy hy=>⟨(hx y hy).1,λe he=>((hx y hy).2 e he).mono ab⟩⟩
  .exact⟨by grind,λy hy=>⟨(hx y hy).1,λe he=>((hx y hy).2 e he).mono (tD h)⟩⟩
theorem S1: ∀(n:Nat) (l:List cp) (s:RS),dv L s->s.bZ=0->l.length<=6->(∀x∈l,x.name.length<=1048576/\ES s x.e)->
  (qV L n l s).2.1.length<=12/\ ∀x∈(qV L n l s).2.1,x.name.length<=1048576/\ES (qV L n l s).2.2 x.e
 |0,l,s,_,_,hl,hx=>(by grind[qV])
 |n+1,l,s,h,ho,hl,hx=>by
  unfold qV
  split
  .rename_i he
   obtain⟨_,h6,_⟩:=uW he
   have af:=wz hG h
   have ab:=nG hL h
   have aa:=ab.trans (yM hL [61] ab.cz)
   have hi:=HZ hL hG h2 aa.cz (aa.bZ.trans ho)
   have hu:=aa.trans (uX hL aa.cz (aa.bZ.trans ho))
   generalize iZ L (yI L [61] (xC L s).2)=x at hi hu
   have ad: ∀y∈l++ [⟨(xC L s).1,x.1⟩],y.name.length<=1048576/\ES x.2 y.e:=λy hy=>by
    rw[Af]at hy
    rcases hy with hy|hy
    .exact⟨(hx y hy).1,(hx y hy).2.mono hu⟩
    grind
   split
   .have hn:=xA hL hu.cz ‹_›
    exact S1 n _ _ hn.cz ((hu.trans hn).bZ.trans ho) (by grind) (λy hy=>⟨(ad y hy).1,(ad y hy).2.mono hn⟩)
   grind
  .exact⟨by grind,λx ae=>⟨(hx x ae).1,(hx x ae).2.mono (tD h)⟩⟩
theorem xe0 {s:RS} (h:dv L s) (ho:s.bZ=0):SS (uY L s).2 (uY L s).1:=by
 unfold uY
 simp only
 have hx:=xJ6 hL hG h2 h ho
 have h1:=N4 hL h ho
 generalize qS L s=x at hx h1
 have u2:=yM hL qT h1.cz
 have aa:=wz hG (h1.trans u2).cz
 have u3:=nG hL (h1.trans u2).cz
 generalize xC L (yI L qT x.2)=n at aa u3
 have hw:=Oh hL hG h2 u3.cz ((h1.trans (u2.trans u3)).bZ.trans ho)
 have u4:=F6 hL u3.cz ((h1.trans (u2.trans u3)).bZ.trans ho)
 have u5:=N3 hL u4.cz
 have ab:(AS L (pa L n.2)).1.1.length<=1048576:=by
  unfold AS
  split
  .rename_i hi
   have v1:=xA hL u4.cz hi
   have v2:=v1.trans (yM hL qU v1.cz)
   split
   .exact wz hG v2.cz
   split
   .exact wz hG v2.cz
   .exact wz hG v2.cz
  simp
 generalize AS L (pa L n.2)=o at u5 ab
 have u6:=SI hL u5.cz
 have ad:cI (AT L o.2).1:=by
  unfold AT
  split
  .exact Og hG (u5.cz.next hL ‹_›)
  grind[cI]
 generalize AT L o.2=l at u6 ad
 have u:=u2.trans (u3.trans (u4.trans (u5.trans u6)))
 exact⟨by grind[cI],aa,⟨hx.1,λx ae=>⟨(by grind),(hx.2 x ae).2.mono u⟩⟩,sm,sm,hw.mono (u5.trans u6),ab,ad⟩
theorem yZ7 {s:RS} (h:dv L s) (ho:s.bZ=0):SS (uZ L s).2 (uZ L s).1:=by
 unfold uZ
 have u1:=yM hL Eh h
 have aa:=wz hG u1.cz
 have u2:=u1.trans (nG hL u1.cz)
 generalize xC L (yI L Eh s)=n at aa u2
 have u3:=u2.trans (yM hL F7 u2.cz)
 have hr:=S0 hL hG h2 17 [] _ u3.cz (u3.bZ.trans ho) sm sm
 exact⟨by grind[cI],aa,sm,hr,sm,HY _,sm,by grind[cI]⟩
theorem xg8 {s:RS} (h:dv L s) (ho:s.bZ=0):SS (u7 L s).2 (u7 L s).1:=by
 unfold u7
 have aa:=wz hG h
 have u2:=nG hL h
 generalize xC L s=n at aa u2
 have u3:=u2.trans (yM hL pc u2.cz)
 have hr:=S1 hL hG h2 7 [] _ u3.cz (u3.bZ.trans ho) sm sm
 have u4:=u3.trans (N6 hL 7 [] _ u3.cz (u3.bZ.trans ho))
 simp only
 generalize qV L 7 [] (yI L pc n.2)=r at hr u4
 split
 .have hw:=Oh hL hG h2 u4.cz (u4.bZ.trans ho)
  have u5:=F6 hL u4.cz (u4.bZ.trans ho)
  exact⟨by grind[cI],aa,sm,sm,⟨hr.1,λx hx=>⟨(by grind),(hr.2 x hx).2.mono u5⟩⟩,hw,sm,by grind[cI]⟩
 .exact⟨by grind[cI],aa,sm,sm,hr,HY _,sm,by grind[cI]⟩
theorem wd5 {s:RS} (h:dv L s) (ho:s.bZ=0):SS (ly L s).2 (ly L s).1:=by
 unfold ly
 split
 .exact xe0 hL hG h2 (h.next hL ‹_›) ho
 split
 .exact yZ7 hL hG h2 (h.next hL ‹_›) ho
 split
 .exact xg8 hL hG h2 (h.next hL ‹_›) ho
 .have u1:=yM hL Ek h
  have u2:=u1.trans (yM hL qT u1.cz)
  have aa:=wz hG u2.cz
  have u3:=u2.trans (nG hL u2.cz)
  exact⟨by grind[cI],aa,sm,sm,sm,Oh hL hG h2 u3.cz (u3.bZ.trans ho),sm,by grind[cI]⟩
theorem S2: ∀(n:Nat) (l:List bW) (s:RS),dv L s->s.bZ=0->l.length<=8->(∀x∈l,SS s x)->
  (rZ L n l s).1.length<=8/\ ∀x∈(rZ L n l s).1,SS (rZ L n l s).2 x
 |0,l,s,_,_,hl,hx=>⟨hl,hx⟩
 |n+1,l,s,h,ho,hl,hx=>by
  unfold rZ
  split
  .split
   .rename_i he
    obtain⟨_,h8,_⟩:=uW he
    have hu:=Oc hL h ho
    have hi:=wd5 hL hG h2 h ho
    have ad: ∀x∈l++ [(ly L s).1],SS (ly L s).2 x:=λx aa=>by
     rw[Af]at aa
     rcases aa with aa|aa
     .exact(hx x aa).mono hu
     .simp only[Ae,Bf,aiJ]at aa
      subst aa
      exact hi
    have ab:(l++ [(ly L s).1]).length<=8:=by simp;omega
    split
    .have hn:=xA hL hu.cz ‹_›
     have ae:=λx aa=>(ad x aa).mono hn
     split
     .exact⟨ab,ae⟩
     .exact S2 n _ _ hn.cz ((hu.trans hn).bZ.trans ho) ab ae
    .exact⟨ab,ad⟩
   .exact⟨hl,λx aa=>(hx x aa).mono (tD h)⟩
  grind
theorem wb5 (h1:1<=L.length):kN (KK L).1:=by
 have h0:dv L AV:=⟨by simpa,dC⟩
 unfold KK
 simp only
 have hs:=S2 hL hG h2 9 [] AV h0 rfl sm sm
 have hu:=SQ hL 9 [] AV h0 rfl
 generalize rZ L 9 [] AV=x at hs hu
 have ha:=SU hL hu.cz
 have hm:cI (tG L x.2).1.1/\cI (tG L x.2).1.2:=by
  unfold tG
  split
  .rename_i hi
   have v1:=SR hL hu.cz hi
   split
   .exact⟨by grind[cI],Og hG (v1.cz.next hL ‹_›)⟩
   .exact⟨by grind[cI],Og hG v1.cz⟩
  grind[cI]
 generalize tG L x.2=a at ha hm
 split
 .rename_i he
  have h3:=ha.err (xX5 he)
  exact⟨hm.1,hm.2,by grind,λst aa=>(hs.2 st aa).ok h3⟩
 grind[SX]
end
theorem S3 (s:aiZ):kN (sa s).1:=by
 unfold sa
 split
 all_goals simp_all[SO,wb5,SX]
theorem yS2 (l:List bJ) (i:Nat) (h:i<l.length):mW (l.drop i)=lW l[i]+mW (l.drop (i+1)):=by
 rw[A5 h,mW]
theorem yJ3 (l:List bJ) (i:Nat) (h:i<l.length):wL (l.drop i)=max (ij l[i]) (wL (l.drop (i+1))):=by
 rw[A5 h,wL]
theorem KL (e:bJ):1<=lW e:=by rw[Ee];omega
theorem KM (e:bJ):1<=ij e:=by rw[uQ];omega
def S4 (e:bJ) (deep n:Int) (r:V) (I:St):Prop:=r= .bool (decide ((ij e:Int)+deep<=65))/\ ∃m:Int,I= [.box [.int .i64 m]]/\n<=m/\m<=n+lW e
theorem S5: ∀(k:Nat) (e:bJ) (deep n:Int),ij e<=k->fB e->0<=n->n+lW e<=4096->0<=deep->deep<=1000000->bN prog 201 [.agg e.row,.int .i64 deep,.ptr 0 0] [.box [.int .i64 n]] (S4 e deep n)
 |0,e,_,_,h,_,_,_,_,_=>by have:=KM e;omega
 |k+1,e,deep,n,h,hw,au,an,av,aw=>by
  have ih:=S5 k
  have ao:=uQ e
  have ah:=Ee e
  obtain⟨M,hM⟩:=eX (decide ((ij e:Int)+deep<=65))
  unfold S4
  rw[hM]
  obtain⟨args,aa⟩:=eX e.args
  have hlen:=hw.len
  have ae:=hw.sub
  rw[aa]at ao ah hlen ae
  have e1:IntKind.i64.wrap (n+1)=n+1:=bX om om
  have e2:IntKind.i64.wrap (deep+1)=deep+1:=bX om om
  obtain⟨sz,aq⟩:=eX (lW e)
  rw[aq]at ah an⊢
  have ret: ∀(b:Bool) (m:Int) (τ:St),b=M->n<=m->m<=n+sz->cx (some (.bool b)) 1 (λr I=>r= .bool M/\ ∃m:Int,I= [.box [.int .i64 m]]/\n<=m/\m<=n+sz) (.box [.int .i64 m]::τ):=λb m τ h1 h2 h3=>by
   subst h1
   exact yZ 1 rfl rfl (by rfl) (A7 _) (zC rfl) ⟨rfl,m,rfl,h2,h3⟩
  refine iV 1 func201 ntmps201 results201 λc hc hb=> ?_
  refine zA ?_
  simp[go_sem,e1]
  by_cases q1:64<deep
  .have af:decide (64<deep)=true:=aix q1
   have hM:false=M:=by rw[<-hM];exact(aiw om).symm
   simp[go_sem,af]
   exact ret _ _ _ hM om om
  have af:decide (64<deep)=false:=aiw q1
  have ar:decide (4096<n+1)=false:=aiw om
  simp[go_sem,af,ar,aa]
  refine zH (S:=Nat×Int) [1,2,23,24,25] (λu=> [.int .i64 deep,.ptr 0 0,.sl .ro (args.map bJ.row),.int .i64 args.length,.int .i64 (u.1:Int)]) (λu=> [.box [.int .i64 u.2]]) (λu=>args.length - u.1)
   (λu=>u.1<=args.length/\n<=u.2/\u.2+mW (args.drop u.1)<=n+sz/\decide ((wL (args.drop u.1):Int)+(deep+1)<=65)=M) hc hb (0,n+1)
   ⟨A3 _,by simp only;omega,by simp only[Bh];omega,by rw[<-hM,Bh];exact decide_eq_decide.2 om⟩ ?_ ?_
  .exact aN 1 (by rfl)
  rintro⟨i,m⟩ ⟨hi,ai,ad,hinv⟩
  simp only at hi ai ad hinv
  by_cases q:i<args.length
  rotate_left
  .rw[A9 om]at hinv ad
   have hinv:true=M:=by rw[<-hinv,wL];exact(aix om).symm
   refine zA ?_
   simp[go_sem,q]
   exact ret _ _ _ hinv ai (by rw[mW]at ad;omega)
  have ei:=zQ q om
  have aj:=yS2 args i q
  have ak:=yJ3 args i q
  obtain⟨x,hx⟩:=eX (args[i])
  have al:x∈args:=hx▸A8 q
  have ax:=DV args x al
  rw[hx]at aj ak
  rw[aj]at ad
  rw[ak]at hinv
  have ab:=ih x (deep+1) m om (ae x al) om om om om
  by_cases q3:(ij x:Int)+(deep+1)<=65
  .refine zA ?_
   simp[go_sem,q,hx,e2]
   refine mw 0 ab cB rfl (by rfl) ⟨.inl (by simp[go_sem,dI,dN,dj,du]),zC rfl,.inl rfl,tV⟩ (λr I h=>by
    obtain⟨_,m2,rfl,_⟩:=h
    exact⟨_,rfl,rfl⟩) ?_
   rintro r o2 ⟨rfl,m2,h1,h2,h3⟩
   obtain rfl:o2= .box [.int .i64 m2]:=sU h1
   rw[aix q3]
   simp[go_sem,ei]
   refine zI (i+1,m2) ⟨by simp only;omega,⟨by simp only;omega,by simp only;omega,by simp only;omega, ?_⟩, ?_⟩
   .rw[<-hinv]
    show decide ((wL (args.drop (i+1)):Int)+(deep+1)<=65)=_
    exact decide_eq_decide.2 om
   .exact aN 1 (by rfl)
  .have hinv:false=M:=by rw[<-hinv];exact(aiw om).symm
   refine zA ?_
   simp[go_sem,q,hx,e2]
   refine mw 0 ab cB rfl (by rfl) ⟨.inl (by simp[go_sem,dI,dN,dj,du]),zC rfl,.inl rfl,tV⟩ (λr I h=>by
    obtain⟨_,m2,rfl,_⟩:=h
    exact⟨_,rfl,rfl⟩) ?_
   rintro r o2 ⟨rfl,m2,h1,h2,h3⟩
   obtain rfl:o2= .box [.int .i64 m2]:=sU h1
   rw[aiw q3]
   simp[go_sem]
   exact ret _ _ _ hinv om om
def KN (e:bJ):Bool:=e.kind==3&&e.s== [65,78,68]&&e.args.length==2
def tI:Nat->List bJ->List bJ->List bJ
 |0,_,l=>l
 |_+1,[],l=>l
 |n+1,e::q,l=>if KN e=true then tI n (q++e.args) l else tI n q (l++ [e])
def nK (st:bW):List bJ:=if st.dO=true then tI 4096 [st.cA] []else []
theorem S6 (l:List bJ):eI 6 (l.map bJ.row):=mu λe=>by rw[bJ.bQ];rfl
theorem S7 (st:bW):Pure prog 168 [.agg st.row] (.sl .ro ((nK st).map bJ.row)):=by
 generalize hM:nK st=M
 have ret: ∀(r:List bJ) (g:Tag) (I:St),r=M->cx (some (.sl g (r.map bJ.row))) 0 (λr s=>r= .sl .ro (M.map bJ.row)/\s= []) I:=λr g I h=>by subst h;exact zW zK ⟨rfl,rfl⟩
 unfold nK at hM
 refine iV 0 func168 ntmps168 results168 λc hc hb=> ?_
 refine uH 26 dC ?_
 refine zA ?_
 simp[go_sem]
 by_cases hf:st.dO=true
 rotate_left
 .have ad:st.dO=false:=sU hf
  rw[aiu hf]at hM
  simp[go_sem,ad]
  exact ret [] _ _ hM
 rw[aiv hf]at hM
 simp[go_sem,hf]
 refine Zv 4 6 [st.cA.row] dC (S6 [st.cA]) sg ?_
 refine lU 3 6 dC sg ?_
 refine zH (S:=Nat×List bJ×List bJ) [3,4,5,100026] (λu=> [.sl (.app 1) (u.2.2.map bJ.row),.sl (.app 0) (u.2.1.map bJ.row),.int .i64 u.1,.cy []]) (λu=> [.app u.2.1.length 6,.app u.2.2.length 6]) (λu=>4096 - u.1)
  (λu=>u.1<=4096/\u.2.1.length<=1+u.1/\u.2.2.length<=u.1/\tI (4096 - u.1) u.2.1 u.2.2=M) hc hb (0,[st.cA],[]) ⟨A3 _,sm,sm,hM⟩ ?_ ?_
 .exact DF [1,2] dC rfl ⟨by simp[go_sem,yA],by simp[go_sem,yA],tV⟩ ⟨.inl (by simp[go_sem,dI,dN,dj,du,cK]),.inl (by simp[go_sem,dI,dN,dj,du,cK]),zC rfl,zC rfl,tV⟩
 rintro⟨n,q,l⟩ ⟨hn,ab,ae,hinv⟩
 simp only at hn ab ae hinv
 cases q with
 |nil=>
  have hl:l=M:=by rw[<-hinv];cases h:4096 - n<;>rfl
  refine zA ?_
  simp[go_sem]
  exact ret l _ _ hl
 |cons e q=>
 by_cases af:n<4096
 rotate_left
 .have hl:l=M:=by rw[<-hinv,show 4096 - n=0 by omega];rfl
  have hd:decide ((n:Int)<4096)=false:=aiw om
  refine zA ?_
  simp[go_sem,hd]
  exact ret l _ _ hl
 have hd:decide ((n:Int)<4096)=true:=aix om
 rw[show 4096 - n=(4096 - (n+1))+1 by omega,tI]at hinv
 have ei:IntKind.i64.wrap ((n:Int)+1)=((n+1:Nat):Int):=by rw[bX om om];omega
 refine zA ?_
 simp[go_sem,hd]
 refine zJ om ?_
 simp[go_sem]
 by_cases hA:KN e=true
 .rw[aiv hA]at hinv
  have aa:=hA
  unfold KN at aa
  simp only[Ab,aiB]at aa
  obtain⟨⟨q1,q2⟩,q3⟩:=aa
  simp[go_sem,q1,q2,q3]
  refine zJ ⟨by simp at ab;omega,S6 _⟩ ?_
  simp[go_sem,ei]
  refine zI (n+1,q++e.args,l) ⟨by simp only;omega,⟨by simp only;omega,by simp at ab⊢;omega,by simp only;omega,hinv⟩, ?_⟩
  exact DF [3,1] dC rfl ⟨by simp[go_sem,yA,q3],by simp[go_sem,yA],tV⟩ ⟨.inl (by simp[go_sem,dI,dN,dj,du,cK]),.inl (by simp[go_sem,dI,dN,dj,du,cK]),zC rfl,zC rfl,tV⟩
 .have aa:(e.kind==3&&e.s== [65,78,68]&&e.args.length==2)=false:=by simpa[KN]using hA
  rw[aiu hA]at hinv
  have key:(e.kind==3)=false\/((e.kind==3)=true/\(e.s== [65,78,68])=false)\/((e.kind==3)=true/\(e.s== [65,78,68])=true/\((e.args.length:Int)==2)=false):=by
   revert aa
   have e3:((e.args.length:Int)==2)=(e.args.length==2):=by
    rw[D9];simp;omega
   rw[e3]
   cases e.kind==3<;>cases e.s== [65,78,68]<;>cases e.args.length==2<;>simp
  refine key.elim (λq1=> ?_) λkey=>key.elim (λq1=> ?_) λq1=> ?_
  all_goals simp[go_sem,q1]
  all_goals refine zJ ⟨om,zY rfl⟩ ?_
  all_goals simp[go_sem,ei]
  all_goals refine zI (n+1,q,l++ [e]) ⟨by simp only;omega,⟨by simp only;omega,by simp at ab⊢;omega,by simp;omega,hinv⟩, ?_⟩
  all_goals exact DF [3,1] dC rfl ⟨by simp[go_sem,yA],by simp[go_sem,yA],tV⟩ ⟨.inl (by simp[go_sem,dI,dN,dj,du,cK]),.inl (by simp[go_sem,dI,dN,dj,du,cK]),zC rfl,zC rfl,tV⟩
def KO:V:= .cy [.str [],.agg [.int .i64 0,.int .i64 0,.str []],.bool false]
def oy (e:bJ) (name:aiZ):Option (aiZ×bK):=
 match e.kind==3,e.args with
 |true,[a,b]=>
  if b.kind=2 then(if b.s=name/\a.kind=1/\a.v.kind≠0 then some (Kl e.s,a.v)else none)
  else if a.kind=2/\a.s=name/\b.kind=1/\b.v.kind≠0 then some (e.s,b.v)else none
 |_,_=>none
def nM:Option (aiZ×bK)->V
 |none=>KO
 |some (s,v)=> .cy [.str s,.agg v.row,.bool true]
theorem S8 (e:bJ) (name:aiZ):Pure prog 169 [.agg e.row,.str name] (nM (oy e name)):=by
 generalize hM:oy e name=M
 have no: ∀(I:St),none=M->cx (some KO) 0 (λr s=>r=nM M/\s= []) I:=λI h=>by subst h;exact wR
 have yes: ∀(s:aiZ) (v:bK) (I:St),some (s,v)=M->cx (some (.cy [.str s,.agg v.row,.bool true])) 0 (λr s=>r=nM M/\s= []) I:=λs v I h=>by subst h;exact wR
 unfold oy at hM
 refine iW 0 func169 ntmps169 results169 λc hc hb=>zM ?_
 simp[go_sem]
 by_cases q1:e.kind=3
 rotate_left
 .have ab:(e.kind !=3)=true:=sU q1
  have aa:(e.kind==3)=false:=sU q1
  simp only[aa]at hM
  simp[go_sem,ab]
  exact no _ hM
 have ab:(e.kind !=3)=false:=sU q1
 have aa:(e.kind==3)=true:=sU q1
 simp only[aa]at hM
 obtain⟨k,hk⟩:=eX e.kind
 simp[go_sem,ab]
 by_cases q2:e.args.length=2
 rotate_left
 .have ad:((e.args.length:Int) !=2)=true:=by simpa using (show ¬(e.args.length:Int)=2 by omega)
  simp[go_sem,ad]
  refine no _ ?_
  rw[<-hM]
  split
  .rename_i h;rw[h]at q2;exact absurd rfl q2
  .rfl
 have ad:((e.args.length:Int) !=2)=false:=by simpa using (show(e.args.length:Int)=2 by omega)
 simp[go_sem,ad]
 obtain⟨a,b,af⟩: ∃a b,e.args= [a,b]:=by
  match e.args,q2 with
  | [a,b],_=>exact⟨a,b,rfl⟩
 simp only[af]at hM
 refine Ru [(12,3),(13,3)] 1 10 sm kR (by rw[hc];exact A3 _) hb kR rfl (by repeat' (first|exact oV.ma|refine oV.fo ?_ (by simp[iJ,jn,cN,cL]))) (by simp only[Cb,E2];exact rfl) (by simp only[Dd,Bh];exact rfl) ?_
 simp[go_sem,af]
 refine⟨by repeat' (first|exact oV.ma|refine oV.fo ?_ (by simp[iJ,jn,cN,cL])), ?_⟩
 by_cases q3:b.kind=2
 .have ae:(b.kind==2)=true:=sU q3
  rw[aiv q3]at hM
  simp[go_sem,ae]
  refine ny [(0,2),(1,2),(3,0),(4,3),(5,3)] 2 sm kR kR ?_
  simp[go_sem]
  refine pD (xR8 e.s) ?_
  have q4:(b.kind !=2)=false:=sU q3
  simp[go_sem,q4]
  repeat' (first
   |(refine xD (λq=> ?_) (λq=> ?_)<;>simp[go_sem,q])
   |(refine zV (λq=> ?_) (λq=> ?_)<;>simp[go_sem,q])
   |(refine ny [(2,2),(4,3)] 1 sm kR kR ?_;simp[go_sem]))
  all_goals first|exact no _ (by rw[<-hM];simp_all)|exact yes _ _ _ (by rw[<-hM];simp_all)
 .have ae:(b.kind==2)=false:=sU q3
  rw[aiu q3]at hM
  simp[go_sem,ae]
  repeat' (first
   |(refine xD (λq=> ?_) (λq=> ?_)<;>simp[go_sem,q])
   |(refine zV (λq=> ?_) (λq=> ?_)<;>simp[go_sem,q])
   |(refine ny [(2,2),(4,3)] 1 sm kR kR ?_;simp[go_sem]))
  all_goals first|exact no _ (by rw[<-hM];simp_all)|exact yes _ _ _ (by rw[<-hM];simp_all)
end Go.Proofs.YtplackkccmeioaaGreat
namespace Go.Proofs.YtplackkccmeioaaGreat.R
open Go Go.Vx Go.Proofs.Tryz
set_option maxRecDepth 100000
def eD (l:aiZ):V:= .sl .ro (zO l)
theorem zU (l:aiZ):(zO l).length=l.length:=by simp[zO]
theorem qZ (l:aiZ):eI 1 (zO l):=λr hr=>by
 obtain⟨x,_,rfl⟩:=Ac.1 hr
 rfl
def gG (l:aiZ):V:= .sl (.app 0) (zO l)
def gq (l:aiZ):St:= [.app l.length 1]
abbrev cG:Nat:=1000000000
theorem Oi (b:aiZ) (n:Nat) (hb:b.length<=cG) (hn:n<=cG):bN prog 255 [eD b,.int .i64 n] [] λr s=>r=gG b/\s=gq b:=by
 refine iW 0 func255 ntmps255 results255 λc hc hb=>zM ?_
 simp[go_sem,eD,zU]
 have e1:IntKind.i64.wrap ((b.length:Int)+n)=((b.length+n:Nat):Int):=by rw[bX (by unfold cG at*;omega) (by unfold cG at*;omega)];omega
 simp[go_sem,e1]
 refine zJ ⟨om,by unfold cG at*;omega⟩ ?_
 simp[go_sem,zU]
 refine zJ ⟨by unfold cG at*;omega,qZ b⟩ ?_
 simp[go_sem]
 exact mV 1 rfl rfl om (xQ rfl) ⟨rfl,rfl⟩
def eG (v:Nat):aiZ:=if v<128 then [UInt8.ofNat v]else UInt8.ofNat (v%128+128)::eG (v/128)
termination_by v
decreasing_by omega
theorem Ga {v:Nat} (h:v<128):eG v= [UInt8.ofNat v]:=by rw[eG,aiv h]
theorem H0 {v:Nat} (h: ¬v<128):eG v=UInt8.ofNat (v%128+128)::eG (v/128):=by rw[eG,aiu h]
theorem S9: ∀(k v:Nat),v<128^(k+1)->(eG v).length<=k+1
 |0,v,h=>by rw[Ga om];simp
 |k+1,v,h=>by
  by_cases hv:v<128
  .rw[Ga hv];simp
  .rw[H0 hv,Ah]
   have:=S9 k (v/128) (by rw[C3 om];rwa [E4]at h)
   omega
theorem xc {v:Nat} (h:v<18446744073709551616):(eG v).length<=10:=S9 9 v om
structure H2 where
 out:aiZ
 v:Nat
theorem db {n:Int} (h:0<=n) (h2:n<=18446744073709551615):IntKind.u64.wrap n=n:=by
 unfold IntKind.wrap
 simp[IntKind.bits,IntKind.signed]
 omega
theorem tJ (n:Nat):IntKind.u8.wrap (n:Int)=((UInt8.ofNat n).toNat:Int):=by
 unfold IntKind.wrap
 simp[IntKind.bits,IntKind.signed]
theorem we6 (v:Nat):IntKind.u8.wrap (IntKind.u8.wrap ((v:Int).tmod 128)+128)=((UInt8.ofNat (v%128+128)).toNat:Int):=by
 have e:(v:Int).tmod 128=((v%128:Nat):Int):=by rw[Do om];omega
 have e2:IntKind.u8.wrap (((v%128:Nat):Int))=((v%128:Nat):Int):=by
  rw[tJ]
  simp
  omega
 rw[e,e2,show(((v%128:Nat):Int)+128)=((v%128+128:Nat):Int) by omega,tJ]
theorem Ta (b:aiZ) (v0:Nat) (ad:b.length<=cG) (hv:v0<18446744073709551616):bN prog 128 [eD b,.int .u64 v0] [] λr s=>r=gG (b++eG v0)/\s=gq (b++eG v0):=by
 refine iV 0 func128 ntmps128 results128 λc hc hb=> ?_
 refine zA ?_
 simp[go_sem,eD,zU]
 refine zJ ⟨by unfold cG at*;omega,by simp[eI],qZ b⟩ ?_
 simp[go_sem]
 refine zH (S:=H2) [1,5] (λs=> [.int .u64 s.v,gG s.out]) (λs=>gq s.out) (λs=>s.v) (λs=>s.v<18446744073709551616/\s.out++eG s.v=b++eG v0) hc hb ⟨b,v0⟩ ⟨hv,rfl⟩ ?_ ?_
 .exact cc 1 (by simp[gq]) rfl rfl (A3 _) (zD (by simp[go_sem,gG]) rfl)
 rintro⟨out,v⟩ ⟨aa,hs⟩
 simp only at aa hs
 have hlen:out.length<=cG+10:=by
  have:=aiz List.length hs
  have ae:=xc hv
  simp only[An]at this
  omega
 refine zA ?_
 simp[go_sem,gG,gq]
 refine zV (λh=> ?_) (λh=> ?_)
 .have h: ¬v<128:=by have:=aiD h;omega
  simp[go_sem,we6]
  refine zJ ⟨zU out,by rw[zU];unfold cG at*;omega,zY rfl⟩ ?_
  have e4:IntKind.u64.wrap ((v:Int).tdiv 128)=((v/128:Nat):Int):=by
   have:(v:Int).tdiv 128=((v/128:Nat):Int):=by rw[Dn om];omega
   rw[this,db om om]
  have e5:IntKind.u64.wrap ((v:Int)/128)=(v:Int)/128:=db om om
  simp[go_sem]
  rw[H0 h]at hs
  refine zI ⟨out++ [UInt8.ofNat (v%128+128)],v/128⟩ ⟨by simp only;omega,⟨by simp only;omega,by simpa using hs⟩,cc 1 sm rfl rfl (A3 _) (zD (by simp[go_sem,zO,e5]) rfl)⟩
 .have h:v<128:=by have:=aiG h;omega
  simp[go_sem,zU,tJ]
  refine zJ ⟨by unfold cG at*;omega,zY rfl⟩ ?_
  simp[go_sem]
  rw[Ga h]at hs
  have ab:b.length+(eG v0).length=out.length+1:=by
   have:=aiz List.length hs
   simpa using this.symm
  rw[<-hs]
  exact mV 1 rfl rfl om (xQ rfl) ⟨by simp[zO],by simp[ab]⟩
theorem wo4:((List.range 256).all λm=>jr .or .u8 (m:Int) 128==((m%128+128:Nat):Int))=true:=by rfl
theorem wu8 (v:Nat):jr .or .u8 (IntKind.u8.wrap (v:Int)) 128=((UInt8.ofNat (v%128+128)).toNat:Int):=by
 have h:=Am.1 wo4 (v%256) (by grind)
 simp_all[tJ];omega
theorem Oj (b:aiZ) (v0:Nat) (aa:b.length<=cG) (hv:v0<18446744073709551616):bN prog 214 [eD b,.int .u64 v0] [] λr s=>r=gG (b++eG v0)/\s=gq (b++eG v0):=by
 refine iV 0 func214 ntmps214 results214 λc hc hb=> ?_
 refine zA ?_
 simp[go_sem]
 refine AH (Oi b 10 aa dC) cB (yG rfl) ?_
 rintro r s ⟨rfl,rfl⟩
 simp[go_sem]
 refine zH (S:=H2) [1,5] (λs=> [.int .u64 s.v,gG s.out]) (λs=>gq s.out) (λs=>s.v) (λs=>s.v<18446744073709551616/\s.out++eG s.v=b++eG v0) hc hb ⟨b,v0⟩ (by grind) ?_ ?_
 .exact cc 1 rfl rfl rfl om (zD (by rfl) rfl)
 rintro⟨out,v⟩ ⟨ab,hs⟩
 simp only at ab hs
 have hlen:out.length<=cG+10:=by
  have:=aiz List.length hs
  grind[xc]
 refine zA ?_
 simp[go_sem,gG,gq]
 refine zV (λh=> ?_) (λh=> ?_)
 .have h: ¬v<128:=by grind
  have u1:=wu8 v
  simp[go_sem,u1]
  refine zJ ⟨zU out,by simp_all[zU,cG];omega,zY rfl⟩ ?_
  have e5:(v:Int).fdiv 128=(v:Int)/128:=(by grind)
  simp[go_sem,e5]
  rw[H0 h]at hs
  refine zI ⟨out++ [UInt8.ofNat (v%128+128)],v/128⟩ ⟨by grind,(by grind),cc 1 sm rfl rfl om (zD (by simp[go_sem,zO]) rfl)⟩
 .have h:v<128:=by grind
  simp[go_sem,zU,tJ]
  refine zJ ⟨by grind,zY rfl⟩ ?_
  simp[go_sem]
  rw[Ga h]at hs
  have ad:b.length+(eG v0).length=out.length+1:=by
   have:=aiz List.length hs
   grind
  rw[<-hs]
  exact mV 1 rfl rfl om (xQ rfl) (by simp[zO];omega)
theorem wk2 (b t:aiZ) (aa:b.length<=cG) (ht:t.length<=cG):bN prog 260 [eD b,eD t] [] λr s=>r=gG (b++eG t.length++t)/\s=gq (b++eG t.length++t):=by
 refine iW 0 func260 ntmps260 results260 λc hc hb=>zM ?_
 have e1:IntKind.u64.wrap (t.length:Int)=(t.length:Int):=db om (by grind)
 simp[go_sem,eD,zU,e1]
 refine AH (Oj b t.length aa (by grind)) cB (yG rfl) ?_
 rintro r s ⟨rfl,rfl⟩
 have ab:=xc (v:=t.length) (by grind)
 simp[go_sem,gG,gq,zU]
 refine zJ (by simp_all[cG,qZ];omega) ?_
 simp[go_sem]
 exact mV 1 rfl rfl om (xQ rfl) (by grind[zO])
theorem xy5 (b t:aiZ) (aa:b.length<=cG) (ht:t.length<=cG):bN prog 131 [eD b,eD t] [] λr s=>r=gG (b++eG t.length++t)/\s=gq (b++eG t.length++t):=by
 refine iW 0 func131 ntmps131 results131 λc hc hb=>zM ?_
 have e1:IntKind.u64.wrap (t.length:Int)=(t.length:Int):=db om (by grind)
 simp[go_sem,eD,zU,e1]
 refine AH (Ta b t.length aa (by grind)) cB (yG rfl) ?_
 rintro r s ⟨rfl,rfl⟩
 have ab:=xc (v:=t.length) (by grind)
 simp[go_sem,gG,gq,zU]
 refine zJ (by simp_all[cG,qZ];omega) ?_
 simp[go_sem]
 exact mV 1 rfl rfl om (xQ rfl) (by grind[zO])
def gH (n:Int):Nat:=if 0<=n then(2*n).toNat else(-2*n - 1).toNat
theorem KP {n:Int} (h:cI n):gH n<18446744073709551616:=by
 grind[gH,cI]
theorem xO7 (n:Int) (hn:cI n):Pure prog 129 [.int .i64 n] (.int .u64 (gH n)):=by
 refine iW 0 func129 ntmps129 results129 λc hc hb=>zM ?_
 unfold cI at hn
 simp[go_sem]
 refine zV (λh=> ?_) (λh=> ?_)
 .have h:0<=n:=(by grind)
  have e1:IntKind.u64.wrap n=n:=(by grind[db])
  have e2:IntKind.u64.wrap (2*n)=((gH n:Nat):Int):=by rw[db om om,gH,aiv h];omega
  simp[go_sem,e1,e2]
  exact zW (zC rfl) sm
 .have h: ¬0<=n:=(by grind)
  obtain⟨m,rfl⟩: ∃m:Nat,n= -(m:Int) - 1:=⟨(-n - 1).toNat,om⟩
  have e1:IntKind.i64.wrap (-(m:Int))= -(m:Int):=(by grind[bX])
  have e2:IntKind.i64.wrap (m:Int)=(m:Int):=(by grind[bX])
  have e3:IntKind.u64.wrap (m:Int)=(m:Int):=(by grind[db])
  have e4:IntKind.u64.wrap (2*(m:Int))=2*(m:Int):=(by grind[db])
  have e5:IntKind.u64.wrap (2*(m:Int)+1)=((gH (-(m:Int) - 1):Nat):Int):=by rw[db om om,gH,aiu h];omega
  simp[go_sem,e1,e2,e3,e4,e5]
  exact zW (zC rfl) sm
theorem Tb (ek:Nat) (es:Option (List Pk)) (a b:Int):mS .shr ek es (.int .i64 a) (.int .u64 b)= .ee (0<=b) (.int .i64 (a.fdiv (2^(min b.toNat 64)))):=rfl
theorem wv2 {x:Int} (h:0<=x) (h2:x<=18446744073709551615):jr .xor .u64 x 0=x:=by
 obtain⟨m,rfl⟩:=Dw h
 show IntKind.u64.wrap ((BitVec.ofInt 64 (m:Int)^^^BitVec.ofInt 64 0).toNat:Int)=m
 have e:BitVec.ofInt 64 (0:Int)=0#64:=rfl
 grind[db]
theorem wv3 {x:Int} (h:0<=x) (h2:x<=18446744073709551615):jr .xor .u64 x 18446744073709551615=18446744073709551615 - x:=by
 obtain⟨m,rfl⟩:=Dw h
 show IntKind.u64.wrap ((BitVec.ofInt 64 (m:Int)^^^BitVec.ofInt 64 18446744073709551615).toNat:Int)=_
 have e:BitVec.ofInt 64 (18446744073709551615:Int)=BitVec.allOnes 64:=by rfl
 rw[e,BitVec.xor_allOnes,aiI,BitVec.toNat_not,aiK,Cw om]
 grind[db]
theorem wr7 (n:Int) (hn:cI n):Pure prog 259 [.int .i64 n] (.int .u64 (gH n)):=by
 refine iW 0 func259 ntmps259 results259 λc hc hb=>zM ?_
 unfold cI at hn
 rcases Int.lt_or_le n 0 with h|h
 .have e1:IntKind.u64.wrap n=n+18446744073709551616:=by grind[IntKind.wrap_u64]
  have e2:IntKind.u64.wrap ((n+18446744073709551616)*2)=2*n+18446744073709551616:=by grind[IntKind.wrap_u64]
  have e3:n.fdiv 9223372036854775808= -1:=by grind
  have e4:IntKind.u64.wrap (-1)=18446744073709551615:=by rfl
  have e5:jr .xor .u64 (2*n+18446744073709551616) 18446744073709551615=((gH n:Nat):Int):=by
   rw[wv3 om om,gH,aiu om];omega
  simp[go_sem,e1,e2,Tb,e3,e4,e5]
  exact zW (zC rfl) sm
 .have e1:IntKind.u64.wrap n=n:=(by grind[db])
  have e2:IntKind.u64.wrap (n*2)=2*n:=by grind[db]
  have e3:n.fdiv 9223372036854775808=0:=by grind
  have e4:IntKind.u64.wrap 0=0:=(by rfl)
  have e5:jr .xor .u64 (2*n) 0=((gH n:Nat):Int):=by
   rw[wv2 om om,gH,aiv h];omega
  simp[go_sem,e1,e2,Tb,e3,e4,e5]
  exact zW (zC rfl) sm
end Go.Proofs.YtplackkccmeioaaGreat.R
namespace Go.Vx
open Go
theorem bN.loose {P:Program} {f:FuncId} {args:List V} {I:St} {R R':V->St->Prop} (h:bN P f args I R) (hR: ∀r s,R r s->qv I.length R' r s):bN P f args I R':=by
 intro w L J ab hm ha
 refine(h w L J ab hm ha).mono ?_
 rintro e w' ⟨v,r,L',I',J',he,hr,hl,ae,ak⟩
 obtain⟨v1,I1,pick,I2,r2,af,hp,ah,ai⟩:=hR _ _ hr
 obtain⟨L2,J2,aa,_,_,ad,_⟩:=af.ok ae (xs:= [v]) (by trivial)
 refine⟨v,r2,L2,I2,_,he,ai, ?_,aa.pick hp hm.len,y4 (hp.jt aa.len) ah ad⟩
 rw[hp.len]
 rcases Bv pick.length I.length with aj|al
 .have:=(A4.1 (hp.id pick.length aj)).1
  omega
 omega
end Go.Vx
namespace Go.Proofs.YtplackkccmeioaaGreat.R
open Go Go.Vx Go.Proofs.Tryz
set_option maxRecDepth 100000
theorem H3 {f:FuncId} {args:List V} {l:aiZ} (h:bN prog f args [] λr s=>r=gG l/\s=gq l):Pure prog f args (eD l):=h.loose λr s q=>by
 obtain⟨rfl,rfl⟩:=q
 have h:cx (some (gG l)) 0 (λr s=>r=eD l/\s= []) (gq l):=zW zK (by trivial)
 obtain⟨x,h1,h2⟩:=h
 grind
def ez (v:bK):Bool:=
 if v.kind=0 then decide (v.n=0)&&v.s.isEmpty else if v.kind=1 then(decide (v.n=0)||decide (v.n=1))&&v.s.isEmpty
 else if v.kind=2 then v.s.isEmpty else if v.kind=3 then decide (v.n=0)&&decide (v.s.length<=64)else false
theorem Gb (v:bK):Pure prog 195 [.agg v.row] (.bool (ez v)):=by
 obtain⟨k,n,s⟩:=v
 refine iW 0 func195 ntmps195 results195 λc hc hb=>zM ?_
 simp[go_sem]
 have yes: ∀(r b:Bool) (I:St),r=b->cx (some (.bool r)) 0 (λr s=>r= .bool b/\s= []) I:=λr b I h=>by subst h;exact zW (zC rfl) sm
 repeat' (first|(refine xD (λq=> ?_) (λq=> ?_)<;>simp[go_sem,q])|(refine zV (λq=> ?_) (λq=> ?_)<;>simp[go_sem,q])|(refine yes _ _ _ ?_))
 all_goals grind[ez]
def kC (v:bK):aiZ:=
 if ez v=true then
  UInt8.ofNat v.kind.toNat::(if v.kind=1 then [UInt8.ofNat v.n.toNat]else if v.kind=2 then eG (gH v.n)else if v.kind=3 then eG v.s.length++v.s else [])
 else []
theorem wP {ρ:Nat->Nat} {g:Tag} {rows ep:List (List V)} (h:ep=rows):cT ρ (.sl .ro ep) (.sl g rows):=by grind[zK]
theorem vd {b l:aiZ} {g:Tag} {rows:List (List V)} {I:St} (h:zO (b++l)=rows):cx (some (.sl g rows)) 0 (λr s=>r=eD (b++l)/\s= []) I:=by subst h;exact zW zK (by trivial)
theorem xV7 (b:aiZ) (v:bK) (hv:v.ok) (aa:b.length<=cG - 1) (hs:v.s.length<=cG):Pure prog 215 [eD b,.agg v.row] (eD (b++kC v)):=by
 refine iW 0 func215 ntmps215 results215 λc hc hb=>zM ?_
 obtain⟨k,n,s⟩:=v
 have hn:=hv.n
 simp only at hs hn
 simp[go_sem,eD,zU]
 refine zJ ⟨by grind,by simp[eI],qZ b⟩ ?_
 simp[go_sem]
 refine pC (Gb ⟨k,n,s⟩) ?_
 simp[go_sem]
 refine zV (λh=> ?_) (λh=> ?_)
 .simp[go_sem]
  refine vd ?_
  grind[kC]
 have h:ez ⟨k,n,s⟩:=by grind
 have hk:k=0\/k=1\/k=2\/k=3:=by
  grind[ez]
 simp[go_sem,zU]
 refine zJ ⟨by grind,zY rfl⟩ ?_
 have w0:IntKind.u8.wrap 0=0:=by rfl
 have w1:IntKind.u8.wrap 1=1:=by rfl
 have w2:IntKind.u8.wrap 2=2:=by rfl
 have w3:IntKind.u8.wrap 3=3:=by rfl
 rcases hk with rfl|rfl|rfl|rfl
 .simp[go_sem]
  refine vd ?_
  grind[kC,zO]
 .have h1:n=0\/n=1:=by
   grind[ez]
  simp[go_sem]
  refine zJ ⟨zU b,by simp_all[zU];omega,zY rfl⟩ ?_
  simp[go_sem]
  refine vd ?_
  rcases h1 with rfl|rfl<;>simp[kC,h,zO,w0,w1]
 .simp[go_sem]
  refine pC (wr7 n hn) ?_
  simp[go_sem]
  refine zL (H3 (Oj (b++ [2]) (gH n) (by grind) (KP hn))) cB ⟨wP (by grind[zO]),zC rfl,tV⟩ rfl ?_
  simp[go_sem]
  refine vd ?_
  grind[kC]
 .simp[go_sem]
  refine zL (H3 (wk2 (b++ [3]) s (by grind) hs)) cB ⟨wP (by grind[zO]),zC rfl,tV⟩ rfl ?_
  simp[go_sem]
  refine vd ?_
  grind[kC]
end Go.Proofs.YtplackkccmeioaaGreat.R
namespace Go.Proofs.YtplackkccmeioaaGreat.R
open Go Go.Vx Go.Proofs.Tryz
set_option maxRecDepth 100000
structure jb (row:List bK):Prop where
 len:row.length<=20
 s: ∀v∈row,v.s.length<=500
 ok: ∀v∈row,v.ok
theorem xc3 {v:bK} (hn:cI v.n) (h:v.s.length<=500):(kC v).length<=520:=by
 unfold kC
 have h1:=xc (KP hn)
 have h2:=xc (v:=v.s.length) om
 (repeat' split)<;>simp<;>omega
theorem Tc: ∀{l:List bK},(∀v∈l,v.s.length<=500)->(∀v∈l,v.ok)->(l.flatMap kC).length<=520*l.length
 | [],_,_=>by simp
 |v::l,h,ho=>by
  have h1:=xc3 (ho v sm).n (h v sm)
  have h2:=Tc (l:=l) (λx hx=>h x (by simp[hx])) (λx hx=>ho x (by simp[hx]))
  simp only[Bw,An,Ah]
  omega
def sb (row:List bK) (i:Nat):aiZ:=eG row.length++(row.take i).flatMap kC
def xL (row:List bK):aiZ:=sb row row.length
theorem Ol {row:List bK} (h:jb row) (i:Nat):(sb row i).length<=20000:=by
 have h1:=xc (v:=row.length) (by have:=h.len;omega)
 have h2:=Tc (l:=row.take i) (λv hv=>h.s v (B5 hv)) (λv hv=>h.ok v (B5 hv))
 have h3:=h.len
 have h4:(row.take i).length<=row.length:=by simp;exact Nat.min_le_right _ _
 unfold sb
 rw[An]
 omega
theorem yY4 {row:List bK} {i:Nat} (h:i<row.length):sb row (i+1)=sb row i++kC row[i]:=by
 unfold sb
 rw[Ai h,aiQ,D0]
 simp
theorem Td (row:List bK) (h:jb row):Pure prog 153 [.sl .ro (row.map bK.row)] (.str (xL row)):=by
 refine iV 0 func153 ntmps153 results153 λc hc hb=> ?_
 refine zA ?_
 have hl:=h.len
 have e1:IntKind.u64.wrap (row.length:Int)=(row.length:Int):=db om om
 simp[go_sem,e1]
 refine zL (H3 (Oj [] row.length dC om)) cB ⟨wP rfl,zC rfl,tV⟩ rfl ?_
 simp[go_sem]
 refine zH (S:=Nat) [3,10,11,12] (λi=> [eD (sb row i),.sl .ro (row.map bK.row),.int .i64 row.length,.int .i64 i]) (λ_=> []) (λi=>row.length - i) (λi=>i<=row.length) hc hb 0 (A3 _) ?_ ?_
 .exact gZ rfl (zP (by simp[go_sem,sb]) rfl)
 intro i hi
 refine zA ?_
 simp[go_sem]
 refine zV (λq=> ?_) (λq=> ?_)
 .have q:i<row.length:=sU q
  obtain⟨v,hv⟩:=eX (row[i])
  have hm:v∈row:=hv▸A8 q
  simp[go_sem,q,hv]
  have h2:=Ol h i
  have h3:=h.s v hm
  refine pC (xV7 (sb row i) v (h.ok v hm) (by unfold cG;omega) (by unfold cG;omega)) ?_
  simp[go_sem,zQ q om]
  refine zI (i+1) ⟨om,q,gZ rfl (zP (by simp[go_sem,yY4 q,hv]) rfl)⟩
 .have q:i=row.length:=by
   have: ¬i<row.length:=sU q
   omega
  subst q
  simp[go_sem,eD]
  refine zJ (xR _) ?_
  simp[go_sem,GU]
  exact wR
end Go.Proofs.YtplackkccmeioaaGreat.R
