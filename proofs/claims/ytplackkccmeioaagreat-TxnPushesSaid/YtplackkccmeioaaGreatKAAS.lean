/-
  The law's begun, and TxnPushes; used by the theorem at the end of the claim.
  Conditions: as each theorem states them.
-/
import Derived.Test.YtplackkccmeioaaGreatKAAR
set_option maxHeartbeats 8000000
namespace Go.Proofs.YtplackkccmeioaaGreat
open Go Go.Vx R Go.Proofs.Tryz
set_option maxRecDepth 100000
theorem Pz (e:bJ):gM (.agg e.row)=true:=by rw[bJ.bR];rfl
theorem WB (e:bJ):gM (.agg e.row)=true/\oi (.agg e.row)=true/\e.row.map kZ=e.row:=by rw[bJ.bR];exact⟨rfl,rfl,rfl⟩
theorem WC (e:bJ):e.row.length=6:=by rw[bJ.bR];rfl
theorem WD: ∀(l:List bJ),l.length<=mW l
 | []=>A3 _
 |e::l=>by
  have h1:=WD l
  have h2:=Oc e
  rw[mW,Af]
  omega
theorem WE: ∀(n:Nat) (e:bJ),mH e<=n->n<=100000->Pure prog 50 [.agg e.row] (.agg e.row)
 |0,e,hn,_=>by
  have:=Oc e
  omega
 |n+1,e,hn,h1=>by
  have ab:=FY e
  have hlen:=WD e.args
  have aa:=Wx 50 cB (e.args.map bJ.row) (by rw[Ai];omega) (my WC)
   (λr hr=>by obtain⟨x,_,rfl⟩:=Ab.1 hr;exact WB x)
   (λr hr=>by
    obtain⟨x,hx,rfl⟩:=Ab.1 hr
    have:=Si _ _ hx
    exact WE n x om om)
  obtain⟨L,hL⟩:=eX (e.args.map bJ.row)
  rw[bJ.bR,hL]
  rw[hL]at aa
  refine iV 0 func50 ntmps50 results50 λc hc hb=> ?_
  refine zA ?_
  simp[go_sem]
  refine pC aa ?_
  simp[go_sem]
  exact wR
theorem LK (e:bJ) (he:jl e):Pure prog 50 [.agg e.row] (.agg e.row):=WE 4000 e he.size dC
theorem xf9 (x:cO) (hx:jl x.e):Pure prog 49 [.agg x.row] (.agg x.row):=by
 have h:=LK x.e hx
 refine iV 0 func49 ntmps49 results49 λc hc hb=> ?_
 refine zA ?_
 simp[go_sem]
 refine zL h cB ⟨by rw[bJ.bR];exact zC rfl,tV⟩ (Pz _) ?_
 simp[go_sem]
 exact wR
theorem xz9 (x:ct) (hx:jl x.e):Pure prog 55 [.agg x.row] (.agg x.row):=by
 have h:=LK x.e hx
 refine iV 0 func55 ntmps55 results55 λc hc hb=> ?_
 refine zA ?_
 simp[go_sem]
 refine zL h cB ⟨by rw[bJ.bR];exact zC rfl,tV⟩ (Pz _) ?_
 simp[go_sem]
 exact wR
theorem xz8 (l:List bJ) (hl:l.length<=100000) (hx: ∀x∈l,jl x):Pure prog 52 [.sl .ro (l.map bJ.row)] (.sl .ro (l.map bJ.row)):=by
 have aa:=Wx 50 cB (l.map bJ.row) (by rw[Ai];exact hl) (my WC)
  (λr hr=>by obtain⟨x,_,rfl⟩:=Ab.1 hr;exact WB x)
  (λr hr=>by obtain⟨x,ab,rfl⟩:=Ab.1 hr;exact LK x (hx x ab))
 refine iV 0 func52 ntmps52 results52 λc hc hb=> ?_
 refine zA ?_
 simp[go_sem]
 refine pC aa ?_
 simp[go_sem]
 exact wR
theorem xg1 (st:bW) (hs:k6 st):Pure prog 47 [.agg st.row] (.agg st.row):=by
 have h1:=yZ5 49 cB (st.items.map cO.row) (by rw[Ai];have:=hs.items.1;omega) (my λ_=>rfl)
  (λr hr=>by obtain⟨x,_,rfl⟩:=Ab.1 hr;exact⟨rfl,rfl,rfl⟩)
  (λr hr=>by obtain⟨x,hx,rfl⟩:=Ab.1 hr;exact xf9 x (hs.items.2 x hx).2)
 have h2:=yN3 52 cB (st.rows.map λ(l:List bJ)=> [V.sl .ro (l.map bJ.row)]) (by rw[Ai];have:=hs.rows.1;omega) (my λ_=>rfl)
  (λr hr=>by obtain⟨x,_,rfl⟩:=Ab.1 hr;exact⟨_,rfl⟩)
  (λr hr=>by obtain⟨x,hx,rfl⟩:=Ab.1 hr;exact xz8 x (by have:=(hs.rows.2 x hx).1;omega) (hs.rows.2 x hx).2)
 have h3:=yZ4 55 cB (st.cG.map ct.row) (by rw[Ai];have:=hs.cG.1;omega) (my λ_=>rfl)
  (λr hr=>by obtain⟨x,_,rfl⟩:=Ab.1 hr;exact⟨rfl,rfl,rfl⟩)
  (λr hr=>by obtain⟨x,hx,rfl⟩:=Ab.1 hr;exact xz9 x (hs.cG.2 x hx).2)
 have h4:=LK st.cE hs.cE
 refine iV 0 func47 ntmps47 results47 λc hc hb=> ?_
 refine zA ?_
 simp[go_sem]
 refine pC h1 ?_
 simp[go_sem]
 refine pC h2 ?_
 simp[go_sem]
 refine pC h3 ?_
 simp[go_sem]
 refine zL h4 cB ⟨by rw[bJ.bR];exact zC rfl,tV⟩ (Pz _) ?_
 simp[go_sem]
 exact wR
theorem WG (l:dZ) (hl:k7 l):Pure prog 21 [.agg l.row] (.agg l.row):=by
 have h1:=yZ6 47 cB (l.stmts.map bW.row) (by rw[Ai];have:=hl.stmts.1;omega) (my λ_=>rfl)
  (λr hr=>by obtain⟨x,_,rfl⟩:=Ab.1 hr;exact⟨rfl,rfl,rfl⟩)
  (λr hr=>by obtain⟨x,hx,rfl⟩:=Ab.1 hr;exact xg1 x (hl.stmts.2 x hx))
 refine iV 0 func21 ntmps21 results21 λc hc hb=> ?_
 refine zA ?_
 simp[go_sem]
 refine pC h1 ?_
 simp[go_sem]
 exact wR
def WH (a:LJ):Prop:=a.2.2.length<=100000/\ ∀x∈a.2.2,x.rows.length<=100000/\ ∀r∈x.rows,r.length<=100000
theorem xz7 (o:Ot) (hl:o.rows.length<=100000/\ ∀r∈o.rows,r.length<=100000):Pure prog 93 [.agg o.row] (.agg o.row):=by
 have h1:=yZ7 95 cB (o.rows.map λr=> [.sl .ro (r.map bK.row)]) (by rw[Ai];exact hl.1) (my λ_=>rfl)
  (λr hr=>by obtain⟨x,_,rfl⟩:=Ab.1 hr;exact⟨_,rfl⟩)
  (λr hr=>by obtain⟨x,hx,rfl⟩:=Ab.1 hr;exact xU9 _ (by rw[Ai];exact hl.2 x hx) (my λ_=>rfl))
 refine iV 0 func93 ntmps93 results93 λc hc hb=> ?_
 refine zA ?_
 simp[go_sem,Ot.row]
 refine pC h1 ?_
 simp[go_sem]
 exact wR
theorem WI (a:LJ) (ha:WH a):Pure prog 45 [.agg (pE a)] (.agg (pE a)):=by
 have h1:=xt3 93 cB (a.2.2.map Ot.row) (by rw[Ai];exact ha.1) (my λ_=>rfl)
  (λr hr=>by obtain⟨x,_,rfl⟩:=Ab.1 hr;exact⟨rfl,rfl,rfl⟩)
  (λr hr=>by obtain⟨x,hx,rfl⟩:=Ab.1 hr;exact xz7 x (ha.2 x hx))
 refine iV 0 func45 ntmps45 results45 λc hc hb=> ?_
 refine zA ?_
 simp[go_sem,pE]
 refine pC h1 ?_
 simp[go_sem]
 exact wR
theorem xz6 (l:cp) (hl:jY l):Pure prog 124 [.agg l.row] (.agg l.row):=by
 have h1:=Wy (l.cI.map ca.row) (by rw[Ai];exact hl.cI) (my λ_=>rfl)
 have h2:=Wz (l.writes.map dK.row) (by rw[Ai];exact hl.writes) (my λ_=>rfl)
 have h3:=WA (l.dO.map ix.row) (by rw[Ai];have:=hl.dO.1;omega) (my λ_=>rfl)
 refine iV 0 func124 ntmps124 results124 λc hc hb=> ?_
 refine zA ?_
 simp[go_sem]
 refine yI [(2,0),(5,0),(8,0)] 2 rfl kR kR ?_
 simp[go_sem]
 refine pD h1 ?_
 simp[go_sem]
 refine pD h2 ?_
 simp[go_sem]
 refine pD h3 ?_
 simp[go_sem]
 exact wR
theorem ux (n:Nat) (l:List cp):bT n (.cd (l.map cp.row) 11)=true:=by simp[bT,cS,cN,cp.row]
theorem IL (l:List cp):xI (l.map cp.row)=true:=by simp[xI,cp.row,pP]
theorem xt2 (l:List cp) (hl:l.length<=100000) (hg: ∀x∈l,jY x):bN prog 123 [.sl .ro (l.map cp.row),.fn 124 []] [] (λr s=>r= .cL 0 11 l.length 0 l.length/\s= [.cd (l.map cp.row) 11]):=by
 refine iV 0 func123 ntmps123 results123 λc hc hb=> ?_
 refine zA ?_
 simp[go_sem]
 refine FM 5 11 dC sg ?_
 refine zI (S:=Nat×List cp) [1,5,8,9,10] (λu=> [.fn 124 [],.cL 0 11 u.2.length 0 u.2.length,.sl .ro (l.map cp.row),.int .i64 l.length,.int .i64 u.1]) (λu=> [.cd (u.2.map cp.row) 11]) (λu=>l.length - u.1) (λu=>u.1<=l.length/\u.2=l.take u.1) hc hb (0,[]) ⟨A3 _,sm⟩ ?_ ?_
 .exact aN 1 rfl
 rintro⟨i,out⟩ ⟨hi,ho⟩
 simp only at hi ho
 have ad:out.length=i:=by rw[ho,B0];omega
 by_cases q:i<l.length
 rotate_left
 .have h2:out=l:=by rw[ho];exact Aa om
  refine zA ?_
  simp[go_sem,q]
  exact Hl sm ⟨by rw[h2],by rw[h2]⟩
 have ei:=zU q om
 obtain⟨y,hy⟩:=eX (l[i])
 have aa:=xz6 y (hg y (hy▸A8 q))
 have ab:out++ [y]=l.take (i+1):=by rw[ho,Ag q,hy]
 refine zA ?_
 simp[go_sem,q,hy]
 refine pC aa ?_
 simp[go_sem,Cj]
 refine zH ⟨zY rfl,om⟩ ?_
 simp[go_sem,ei]
 exact zJ (i+1,out++ [y]) ⟨by show l.length - (i+1)<l.length - i;omega,⟨q,ab⟩,aN 1 (by rw[Bt,ux];rfl)⟩
theorem wd1 {P:Program} {c:Ctx} {I:St} {f:FuncId} {bY args cj:List V} {KV:V->St->Prop} {rows:List (List V)} {w n:Nat} (hc:bN P f cj [] λr s=>r= .cL 0 w n 0 n/\s= [.cd rows w]) (hb:xE P f) (ab:bT 0 (.cd rows w))
  (aa:bP (cP (cK [] I.length)) cj (args++bY)) (hK:KV (.cL I.length w n 0 n) (I++ [.cd rows w])):jk P c (.fn f bY) args I KV fx:=by
 refine VC.of hc hb [] C0 rfl sm aa λr s h _=> ?_
 obtain⟨rfl,rfl⟩:=h
 have e:yX [] I [.cd rows w]=I++ [.cd rows w]:=by
  simp only[yX,fI,Bj,Ct,Ah,Bp]
  rw[yY (n:=0) om ab]
 grind[dH,cK,dM,dj,dt]
theorem xg0 (l:List cp) (hl:l.length<=100000) (hg: ∀x∈l,jY x):bN prog 78 [.sl .ro (l.map cp.row)] [] (λr s=>r= .cL 0 11 l.length 0 l.length/\s= [.cd (l.map cp.row) 11]):=by
 have h:=xt2 l hl hg
 refine iV 0 func78 ntmps78 results78 λc hc hb=> ?_
 refine zA ?_
 simp[go_sem]
 refine wd1 h cB (ux 0 l) ⟨zK,zC rfl,tV⟩ ?_
 simp[go_sem]
 exact Hl sm ⟨rfl,rfl⟩
@[go_sem] def Tx.fQ (t:Tx) (k:Nat):List V:= [.int .i64 t.id.node,.int .i64 t.id.eZ,.int .i64 t.id.seq,.int .i64 t.id.attempt,.int .i64 t.cR.mode,.int .i64 t.cR.n,.sl .ro (t.cR.stmts.map bW.row),.int .i64 t.phase,.int .i64 t.at_.wall,.int .i64 t.at_.tie,.int .i64 t.bump,.int .i64 t.home,.cL k 11 t.bV.length 0 t.bV.length,.int .i64 t.jz.1,.int .i64 t.jz.2.1,.sl .ro (t.jz.2.2.map Ot.row)]
theorem xA0 (t:Tx) (ht:jm t):bN prog 31 [.agg t.row] [] (λr s=>r= .agg (t.fQ 0)/\s= [.cd (t.bV.map cp.row) 11]):=by
 have h1:=WG t.cR ht.cR
 have h2:=WI t.jz ht.outs
 have h3:=xg0 t.bV (by have:=ht.bV;omega) ht.ko
 refine iV 0 func31 ntmps31 results31 λc hc hb=> ?_
 refine zA ?_
 simp[go_sem]
 refine yI [(2,0),(5,0),(8,3)] 2 rfl kR kR ?_
 simp[go_sem]
 refine pD h1 ?_
 simp[go_sem]
 refine pD h2 ?_
 simp[go_sem,pE]
 refine FJ h3 cB ⟨zK,tV⟩ ?_
 have e:yA (cK [] 2) (.cd (t.bV.map cp.row) 11)= .cd (t.bV.map cp.row) 11:=yY (n:=0) (λi hi=>om) (ux 0 _)
 simp[go_sem,dH,dM,dj,dt,xz,e]
 exact Pw [2] sm rfl (s:= [.cd (t.bV.map cp.row) 11]) ⟨by simp[yY (n:=0) (ρ:=cK [2] 3) (λi hi=>om) (ux 0 t.bV)],tV⟩ (r:= .agg (t.fQ 0)) (.inl (by simp[dH,dM,dj,dt,cK,Tx.fQ])) ⟨rfl,rfl⟩
theorem PA (t:Tx):Pure prog 22 [.agg t.row] (.agg (rG t).row):=by
 refine iV 0 func22 ntmps22 results22 λc hc hb=> ?_
 refine zA ?_
 simp[go_sem]
 exact zW (Wv (rG t) (g:= .full) (rows:= []) rfl) ⟨rfl,rfl⟩
theorem xD4 (t:Tx):Pure prog 30 [.agg t.row] (.agg (Py t).row):=by
 refine iV 0 func30 ntmps30 results30 λc hc hb=> ?_
 refine zA ?_
 simp[go_sem]
 exact zW (Ww (Py t) (g:= .full) (k:= .full)) ⟨rfl,rfl⟩
theorem WJ (t:Tx) (yes:Bool) (hl:t.bV.length<=100000):Pure prog 35 [.agg t.row,.bool yes] (.sl .ro ((Gz t yes).map cT.row)):=by
 obtain⟨M,hM⟩:=eX (Gz t yes)
 rw[hM]
 unfold Gz at hM
 refine iV 0 func35 ntmps35 results35 λc hc hb=> ?_
 refine zA ?_
 simp[go_sem]
 refine l7 5 15 dC sg ?_
 refine zI (S:=Nat×List cT) [1,2,5,9,10,11] (λu=> [.bool yes,.ptr 0 0,.sl (.app 1) (u.2.map cT.row),.sl .ro (t.bV.map cp.row),.int .i64 t.bV.length,.int .i64 u.1]) (λu=> [.box t.row,.app u.2.length 15]) (λu=>t.bV.length - u.1) (λu=>u.1<=t.bV.length/\u.2=(t.bV.take u.1).map λx=>lS x.range t.id yes) hc hb (0,[]) ⟨A3 _,sm⟩ ?_ ?_
 .exact aN 2 (by simp[bT,cS,cN,Tx.row])
 rintro⟨i,out⟩ ⟨hi,ho⟩
 simp only at hi ho
 have ab:out.length=i:=by rw[ho,Ai,B0];omega
 by_cases q:i<t.bV.length
 rotate_left
 .have h2:out=M:=by rw[ho,<-hM,Aa om]
  refine zA ?_
  simp[go_sem,q]
  exact zW (by rw[h2];exact zK) ⟨rfl,rfl⟩
 have ei:=zU q om
 obtain⟨y,hy⟩:=eX (t.bV[i])
 have aa:out++ [lS y.range t.id yes]=(t.bV.take (i+1)).map λx=>lS x.range t.id yes:=by rw[ho,Ag q,hy,Ca];rfl
 refine zA ?_
 simp[go_sem,q,hy]
 refine zH ⟨om,zY rfl⟩ ?_
 simp[go_sem,ei]
 exact zJ (i+1,out++ [lS y.range t.id yes]) ⟨by show t.bV.length - (i+1)<t.bV.length - i;omega,⟨q,aa⟩,aM 2 (by simp[bT,cS,cN]) (zD (by simp[go_sem,lS]) rfl)⟩
def PB:cT:=⟨0,Px⟩
def lT (t:Tx) (l:cp):cT×Bool:=match gC t l with
 |some a=>(a,true)
 |none=>(PB,false)
theorem WK (t:Tx) (l:cp) (hl:jY l):Pure prog 29 [.agg t.row,.agg l.row] (.cz [.agg (lT t l).1.row,.bool (lT t l).2]):=by
 have h1:=Wy (l.cI.map ca.row) (by rw[Ai];exact hl.cI) (my λ_=>rfl)
 have h2:=Wz (l.writes.map dK.row) (by rw[Ai];exact hl.writes) (my λ_=>rfl)
 obtain⟨a,hM⟩:=eX (lT t l)
 rw[hM]
 unfold lT gC at hM
 have ret: ∀(x:cT) (b:Bool) (I:St),(x,b)=a->cw (some (.cz [.agg x.row,.bool b])) 0 (λr s=>r= .cz [.agg a.1.row,.bool a.2]/\s= []) I:=λx b I h=>by
  subst h
  exact wR
 refine iV 0 func29 ntmps29 results29 λc hc hb=> ?_
 refine zA ?_
 by_cases s1:l.state=1
 .have aa:(l.state==1)=true:=sU s1
  rw[ai2 s1]at hM
  simp[go_sem,aa]
  refine yI [(6,0)] 4 rfl kR kR ?_
  simp[go_sem]
  refine pD h1 ?_
  simp[go_sem]
  exact zW (by rw[<-hM];exact yW ⟨IJ _ (g:= .ro) (k:= .full),xV rfl,tV⟩) ⟨rfl,rfl⟩
 have aa:(l.state==1)=false:=sU s1
 rw[ai1 s1]at hM
 by_cases s2:l.state=2
 .have ab:(l.state==2)=true:=sU s2
  rw[ai2 s2]at hM
  simp[go_sem,aa,ab]
  refine yI [(8,0)] 4 rfl kR kR ?_
  simp[go_sem]
  refine pD h2 ?_
  simp[go_sem]
  exact zW (by rw[<-hM];exact yW ⟨IJ _ (g:= .full) (k:= .ro),xV rfl,tV⟩) ⟨rfl,rfl⟩
 have ab:(l.state==2)=false:=sU s2
 rw[ai1 s2]at hM
 by_cases s3:l.state=3
 .have ad:(l.state==3)=true:=sU s3
  rw[ai2 s3]at hM
  simp[go_sem,aa,ab,ad]
  exact zW (by rw[<-hM];exact yW ⟨IJ _ (g:= .full) (k:= .full),xV rfl,tV⟩) ⟨rfl,rfl⟩
 have ad:(l.state==3)=false:=sU s3
 rw[ai1 s3]at hM
 by_cases s4:l.state=4
 .have ae:(l.state==4)=true:=sU s4
  rw[ai2 s4]at hM
  simp[go_sem,aa,ab,ad,ae]
  exact zW (by rw[<-hM];exact yW ⟨IJ _ (g:= .full) (k:= .full),xV rfl,tV⟩) ⟨rfl,rfl⟩
 have ae:(l.state==4)=false:=sU s4
 rw[ai1 s4]at hM
 simp[go_sem,aa,ab,ad,ae]
 exact zW (by rw[<-hM];exact yW ⟨IJ _ (g:= .full) (k:= .full),xV rfl,tV⟩) ⟨rfl,rfl⟩
def BG (t:Tx) (l:List cp):List cT:=l.filterMap (gC t)
theorem xr6 (t:Tx) (l:cp):BG t [l]=if(lT t l).2=true then [(lT t l).1]else []:=by
 unfold BG lT
 rw[aip]
 cases gC t l<;>simp
theorem IM (t:Tx) (hl:t.bV.length<=100000) (hg: ∀x∈t.bV,jY x):Pure prog 11 [.agg t.row] (.sl .ro ((ji t).map cT.row)):=by
 obtain⟨M,hM⟩:=eX (ji t)
 rw[hM]
 unfold ji at hM
 have ad:=xD4 t
 by_cases hp:t.phase=1\/t.phase=2
 .rw[ai2 hp]at hM
  have ae: ∀i (h:i<t.bV.length),BG t (t.bV.take (i+1))=BG t (t.bV.take i)++BG t [t.bV[i]]:=λi h=>by
   unfold BG
   rw[Ag h,List.filterMap_append]
  have af:((t.phase==1)=true/\(t.phase==1)=true)\/((t.phase==1)=false/\(t.phase==2)=true):=by
   rcases hp with hp|hp<;>rw[hp]
   .exact .inl ⟨rfl,rfl⟩
   .exact .inr ⟨rfl,rfl⟩
  refine iV 0 func11 ntmps11 results11 λc hc hb=> ?_
  rcases af with ⟨h0,h1⟩|⟨h0,h1⟩
  all_goals
   refine zA ?_
   simp[go_sem,h0,h1]
   refine l7 3 15 dC sg ?_
   refine zI (S:=Nat×List cT) [1,3,14,15,16] (λu=> [.ptr 0 0,.sl (.app 1) (u.2.map cT.row),.sl .ro (t.bV.map cp.row),.int .i64 t.bV.length,.int .i64 u.1]) (λu=> [.box t.row,.app u.2.length 15]) (λu=>t.bV.length - u.1) (λu=>u.1<=t.bV.length/\u.2.length<=u.1/\u.2=BG t (t.bV.take u.1)) hc hb (0,[]) ⟨A3 _,A7 _,by simp[BG]⟩ ?_ ?_
   .exact aN 2 (by simp[bT,cS,cN,Tx.row])
   rintro⟨i,out⟩ ⟨hi,ah,ho⟩
   simp only at hi ah ho
   by_cases q:i<t.bV.length
   rotate_left
   .have h2:out=M:=by rw[ho,<-hM,Aa om];rfl
    refine zA ?_
    simp[go_sem,q]
    exact zW (by rw[h2];exact zK) ⟨rfl,rfl⟩
   have ei:=zU q om
   have aa:=ae i q
   rw[<-ho]at aa
   obtain⟨y,hy⟩:=eX (t.bV[i])
   have ab:=WK t y (hg y (hy▸A8 q))
   rw[hy,xr6]at aa
   obtain⟨⟨a,b⟩,ai⟩: ∃p,lT t y=p:=⟨_,rfl⟩
   rw[ai]at ab aa
   simp only at ab aa
   refine zA ?_
   simp[go_sem,q,hy]
   refine pC ab ?_
   cases b with
   |true=>
    rw[ai2 rfl]at aa
    simp[go_sem]
    refine zH ⟨om,zY rfl⟩ ?_
    simp[go_sem,ei]
    exact zJ (i+1,out++ [a]) ⟨by show t.bV.length - (i+1)<t.bV.length - i;omega,⟨q,by show(out++ [a]).length<=i+1;simp;omega,aa.symm⟩,aN 2 (by simp[bT,cS,cN])⟩
   |false=>
    rw[ai1 dC,Az]at aa
    simp[go_sem,ei]
    exact zJ (i+1,out) ⟨by show t.bV.length - (i+1)<t.bV.length - i;omega,⟨q,by show out.length<=i+1;omega,aa.symm⟩,aN 2 (by simp[bT,cS,cN])⟩
 rw[ai1 hp]at hM
 have h1:(t.phase==1)=false:=by simp;omega
 have h2:(t.phase==2)=false:=by simp;omega
 by_cases p3:t.phase=3
 .have h3:(t.phase==3)=true:=sU p3
  rw[ai2 p3]at hM
  refine iV 0 func11 ntmps11 results11 λc hc hb=> ?_
  refine zA ?_
  simp[go_sem,h1,h2,h3]
  refine pC ad ?_
  simp[go_sem]
  refine zH ⟨by simp[eK],zY rfl⟩ ?_
  simp[go_sem]
  exact zW (r:= .sl .ro (M.map cT.row)) (by rw[<-hM];exact zK) ⟨rfl,rfl⟩
 .have h3:(t.phase==3)=false:=sU p3
  rw[ai1 p3]at hM
  refine iV 0 func11 ntmps11 results11 λc hc hb=> ?_
  refine zA ?_
  simp[go_sem,h1,h2,h3]
  exact zW (r:= .sl .ro (M.map cT.row)) (by rw[<-hM];exact zK) ⟨rfl,rfl⟩
theorem WL (a b:cT) (ha:oG a.cmd) (aa:oG b.cmd):Pure prog 34 [.agg a.row,.agg b.row] (.bool (decide (a=b))):=by
 have h:=xg7 a.cmd b.cmd ha aa
 have hM:decide (a=b)=(a.range==b.range&&decide (a.cmd=b.cmd)):=by
  obtain⟨a1,a2⟩:=a
  obtain⟨b1,b2⟩:=b
  simp
  rfl
 rw[hM]
 generalize decide (a.cmd=b.cmd)=d at h⊢
 obtain⟨M,hM⟩:=eX ((a.range==b.range&&d))
 rw[hM]
 have ret: ∀(r:Bool) (I:St),r=M->cw (some (.bool r)) 0 (λr s=>r= .bool M/\s= []) I:=λr I h=>by subst h;exact wR
 refine iW 0 func34 ntmps34 results34 λc hc hb=>zM ?_
 simp[go_sem]
 refine xD (λq=> ?_) (λq=> ?_)<;>simp[go_sem,q]
 .refine pC h ?_
  simp[go_sem]
  exact ret _ _ (by rw[<-hM];simp_all)
 .exact ret _ _ (by rw[<-hM];simp_all)
theorem IN (n:Nat) (a:cT):bT n (.box a.row)=true:=by simp[bT,cS,cN,cT.row]
theorem xN4 (a x:cT) (ha:oG a.cmd) (hx:oG x.cmd):bN prog 33 [.agg x.row,.ptr 0 0] [.box a.row] (λr I=>r= .bool (decide (x=a))/\I= [.box a.row]):=by
 have h:=WL x a hx ha
 refine iW 1 func33 ntmps33 results33 λc hc hb=>zM ?_
 simp[go_sem]
 refine pC h ?_
 simp[go_sem]
 exact yZ 1 rfl rfl (by simp[bT,cS,cN]) (A7 _) (zC rfl) ⟨rfl,rfl⟩
theorem xH4 (a:cT) (ha:oG a.cmd) (l:List cT) (hl:l.length<=100000) (hx: ∀x∈l,oG x.cmd):bN prog 79 [.sl .ro (l.map cT.row),.fn 33 [.ptr 0 0]] [.box a.row] (λr I=>r= .int .i64 (xU (λy=>decide (y=a)) l 0)/\I= [.box a.row]):=by
 generalize hM:xU (λy:cT=>decide (y=a)) l 0=M
 have ret: ∀(r:Int) (I:St),r=M->cw (some (.int .i64 r)) 1 (λr s=>r= .int .i64 M/\s= [.box a.row]) (.box a.row::I):=λr I h=>by subst h;exact yZ 1 rfl rfl (by simp[bT,cS,cN,cT.row]) (A7 _) (zC rfl) ⟨rfl,rfl⟩
 refine iV 1 func79 ntmps79 results79 λc hc hb=> ?_
 refine zA ?_
 simp[go_sem]
 refine zI (S:=Nat) [0,1,6,7,8] (λi=> [.sl .ro (l.map cT.row),.fn 33 [.ptr 0 0],.sl .ro (l.map cT.row),.int .i64 l.length,.int .i64 (i:Int)]) (λ_=> [.box a.row]) (λi=>l.length - i)
  (λi=>i<=l.length/\xU (λy=>decide (y=a)) (l.drop i) i=M) hc hb 0 ⟨A3 _,hM⟩ ?_ ?_
 .exact aN 1 (by simp[bT,cS,cN,cT.row])
 rintro i ⟨hi,hinv⟩
 by_cases q:i<l.length
 rotate_left
 .rw[A9 om]at hinv
  refine zA ?_
  simp[go_sem,q]
  exact ret _ _ hinv
 have ei:=zU q om
 obtain⟨y,hy⟩:=eX (l[i])
 rw[A5 q,hy,xU]at hinv
 have aa:=xN4 a y ha (hx y (hy▸A8 q))
 generalize decide (y=a)=b at aa hinv
 refine zA ?_
 simp[go_sem,q,hy]
 refine mz 0 aa cB rfl (IN 0 a) ⟨zC rfl,.inl rfl,tV⟩ (λr I h=>⟨_,h.2,IN 0 a⟩) ?_
 rintro r o2 ⟨rfl,h2⟩
 obtain rfl:o2= .box a.row:=sU h2
 refine(A6 b).elim (λp=> ?_) (λp=> ?_)
 .rw[ai2 p]at hinv
  simp[go_sem,p]
  exact ret _ _ hinv
 .rw[ai1 (by rw[p];decide)]at hinv
  simp[go_sem,p,ei]
  exact zJ (i+1) ⟨om,⟨om,hinv⟩,aN 1 (by simp[bT,cS,cN])⟩
theorem xH1 (a:cT) (ha:oG a.cmd) (l:List cT) (hl:l.length<=100000) (hx: ∀x∈l,oG x.cmd):bN prog 32 [.sl .ro (l.map cT.row),.fn 33 [.ptr 0 0]] [.box a.row] (λr I=>r= .bool (l.any λy=>decide (y=a))/\I= [.box a.row]):=by
 have h:=xH4 a ha l hl hx
 have hg:=Er (λy:cT=>decide (y=a)) l 0
 rw[<-hg]
 generalize xU (λy:cT=>decide (y=a)) l 0=n at h⊢
 refine iW 1 func32 ntmps32 results32 λc hc hb=>zM ?_
 simp[go_sem]
 refine mz 0 h cB rfl (IN 0 a) ⟨zC rfl,.inl (by simp[dH,dM,dj,dt,cK]),tV⟩ (λr I h=>⟨_,h.2,IN 0 a⟩) ?_
 rintro r o2 ⟨rfl,h2⟩
 obtain rfl:o2= .box a.row:=sU h2
 simp[go_sem]
 exact yZ 1 rfl rfl (by simp[bT,cS,cN]) (A7 _) (zC rfl) ⟨rfl,rfl⟩
theorem xN5 (x:cp):Pure prog 39 [.agg x.row] (.bool (x.state !=5)):=by
 refine iW 0 func39 ntmps39 results39 λc hc hb=>zM ?_
 simp[go_sem]
 exact wR
theorem xH5 (l:List cp) (hl:l.length<=100000):Pure prog 83 [.sl .ro (l.map cp.row),.fn 39 []] (.int .i64 (xU (λy=>y.state !=5) l 0)):=by
 generalize hM:xU (λy:cp=>y.state !=5) l 0=M
 have ret: ∀(r:Int) (I:St),r=M->cw (some (.int .i64 r)) 0 (λr s=>r= .int .i64 M/\s= []) I:=λr I h=>by subst h;exact wR
 refine iV 0 func83 ntmps83 results83 λc hc hb=> ?_
 refine zA ?_
 simp[go_sem]
 refine zI (S:=Nat) [0,1,6,7,8] (λi=> [.sl .ro (l.map cp.row),.fn 39 [],.sl .ro (l.map cp.row),.int .i64 l.length,.int .i64 (i:Int)]) (λ_=> []) (λi=>l.length - i)
  (λi=>i<=l.length/\xU (λy=>y.state !=5) (l.drop i) i=M) hc hb 0 ⟨A3 _,hM⟩ ?_ ?_
 .exact aN 0 sm
 rintro i ⟨hi,hinv⟩
 by_cases q:i<l.length
 rotate_left
 .rw[A9 om]at hinv
  refine zA ?_
  simp[go_sem,q]
  exact ret _ _ hinv
 have ei:=zU q om
 obtain⟨y,hy⟩:=eX (l[i])
 rw[A5 q,hy,xU]at hinv
 have aa:=xN5 y
 generalize (y.state !=5)=b at aa hinv
 refine zA ?_
 simp[go_sem,q,hy]
 refine pC aa ?_
 refine(A6 b).elim (λp=> ?_) (λp=> ?_)
 .rw[ai2 p]at hinv
  simp[go_sem,p]
  exact ret _ _ hinv
 .rw[ai1 (by rw[p];decide)]at hinv
  simp[go_sem,p,ei]
  exact zJ (i+1) ⟨om,⟨om,hinv⟩,aN 0 sm⟩
theorem xH2 (l:List cp) (hl:l.length<=100000):Pure prog 38 [.sl .ro (l.map cp.row),.fn 39 []] (.bool (l.any λy=>y.state !=5)):=by
 have h:=xH5 l hl
 have hg:=Er (λy:cp=>y.state !=5) l 0
 rw[<-hg]
 generalize xU (λy:cp=>y.state !=5) l 0=n at h⊢
 refine iW 0 func38 ntmps38 results38 λc hc hb=>zM ?_
 simp[go_sem]
 refine pC h ?_
 simp[go_sem]
 exact wR
theorem PC (w n:Int) (hw:cZ w) (hn:0<=n/\n<=100):Pure prog 82 [.int .i64 w,.int .i64 n] (.int .i64 (x6 w n)):=by
 unfold cZ at hw
 have e1:IntKind.i64.wrap (4611686018427387904 - n)=4611686018427387904 - n:=bX om om
 have e2:IntKind.i64.wrap (x6 w n)=x6 w n:=bX (by unfold x6 mn;split<;>omega) (by unfold x6 mn;split<;>omega)
 unfold x6 mn at e2⊢
 refine iW 0 func82 ntmps82 results82 λc hc hb=>zM ?_
 simp[go_sem,e1]
 simp[e2]
 exact wR
theorem WM (t:Tx) (ht:jm t) (wall:Int):Pure prog 19 [.agg t.row,.int .i64 wall] (if t.phase=4/\t.at_.wall<=wall then .cz [.agg (pE t.jz),.bool true]else .cz [.agg (pE (0,0,[])),.bool false]):=by
 have h:=WI t.jz ht.outs
 obtain⟨M,hM⟩: ∃M,(if t.phase=4/\t.at_.wall<=wall then V.cz [.agg (pE t.jz),.bool true]else .cz [.agg (pE (0,0,[])),.bool false])=M:=⟨_,rfl⟩
 rw[hM]
 refine iV 0 func19 ntmps19 results19 λc hc hb=> ?_
 refine zA ?_
 by_cases q1:t.phase=4
 .have aa:(t.phase !=4)=false:=sU q1
  by_cases q2:t.at_.wall<=wall
  .have ab:decide (wall<t.at_.wall)=false:=by simp;omega
   rw[ai2 ⟨q1,q2⟩]at hM
   simp[go_sem,aa,ab]
   refine pC h ?_
   simp[go_sem,pE]
   exact zW (r:=M) (by rw[<-hM];exact zC rfl) ⟨rfl,rfl⟩
  .have ab:decide (wall<t.at_.wall)=true:=by simp;omega
   rw[ai1 (λh=>q2 h.2)]at hM
   simp[go_sem,aa,ab]
   exact zW (r:=M) (by rw[<-hM];exact yW ⟨wX ⟨zF rfl,zF rfl,zX,tV⟩,xV rfl,tV⟩) ⟨rfl,rfl⟩
 .have aa:(t.phase !=4)=true:=sU q1
  rw[ai1 (λh=>q1 h.1)]at hM
  simp[go_sem,aa]
  exact zW (r:=M) (by rw[<-hM];exact yW ⟨wX ⟨zF rfl,zF rfl,zX,tV⟩,xV rfl,tV⟩) ⟨rfl,rfl⟩
structure fb (r:dR):Prop where
 dO:r.dO.length<=1000/\ ∀p∈r.dO,p.data.length<=cH
 wall:cZ r.wall
 at_:cZ r.at_.wall
def fT (t:Tx) (n:Nat) (l:List cp):St:= [.box (t.eH (.cL 1 11 n 0 n)),.cd (l.map cp.row) 11]
def EE (t:Tx) (l:List cp) (i:Nat) (x:dR) (o:cp×Int×Bool×Bool) (r:V) (I:St):Prop:=
 r= .cz [.int .i64 o.2.1,.bool o.2.2.1]/\I=(if o.2.2.2=true then [.box (rG {t with jz:=(x.err,0,[])}).row,.cd (l.map cp.row) 11]else fT t l.length (l.set i o.1))
theorem xY0 (t:Tx) (n k:Nat) (l:List cp) (hk:2<=k):(fT t n l).all (bT k)=true:=by
 have:1<k:=om
 simp[fT,bT,cS,cN,cp.row,Tx.eH,this]
theorem xR7 (t:Tx) (n:Nat) (rows:List (List V)) (hr:bT 0 (.cd rows 11)):bN prog 22 [.agg (t.eH (.cL 0 11 n 0 n))] [.cd rows 11] (λr s=>r= .agg (rG t).row/\s= [.cd rows 11]):=by
 refine iV 1 func22 ntmps22 results22 λc hc hb=> ?_
 refine zA ?_
 simp[go_sem]
 exact yZ (s:= [.cd rows 11]) 1 rfl rfl (by simp only[Bt,D9,Db];exact JY (A3 _) hr) (A7 _) (Wv (rG t) (g:= .full) (rows:= []) rfl) ⟨rfl,rfl⟩
theorem wq6 (t:Tx) (l:List cp) (i:Nat) (hi:i<l.length) (x:dR) (hx:fb x):
  bN prog 37 [.ptr 0 0,.iH 1 11 l.length i 0,.agg x.row] (fT t l.length l) (EE t l i x (gL t.phase l[i] x)):=by
 have ay:=PC x.wall 1 hx.wall om
 have ax:=PC x.wall 24 hx.wall om
 have az:=PC x.at_.wall 1 hx.at_ om
 have a1:=WA (x.dO.map ix.row) (by rw[Ai];have:=hx.dO.1;omega) (my λ_=>rfl)
 have a6:=xR7 {t with jz:=(x.err,0,[])} l.length (l.map cp.row) (ux 0 l)
 obtain⟨y,hy⟩:=eX (l[i])
 rw[hy]
 have aa:(l.map cp.row)[i]? =some y.row:=by rw[B6,A0 hi,hy];rfl
 have ad:(l.map cp.row).getD i []=y.row:=by rw[Al,aa];rfl
 obtain⟨o,hM⟩:=eX (gL t.phase y x)
 rw[hM]
 unfold gL at hM
 have ret: ∀(b:Int) (g:Bool) (l':cp) (rows:List (List V)) (I:St),(l',b,g,false)=o->rows=(l.set i l').map cp.row->cw (some (.cz [.int .i64 b,.bool g])) 2 (EE t l i x o) (.box (t.eH (.cL 1 11 l.length 0 l.length)):: .cd rows 11::I):=λb g l' rows I h hr=>by
  subst h
  subst hr
  exact mV 2 rfl (xY0 t l.length 2 (l.set i l') (A7 _)) (A7 _) (zC rfl) ⟨rfl,by rw[ai1 sm];rfl⟩
 have same:l.map cp.row=(l.set i y).map cp.row:=by rw[<-hy,List.set_getElem_self]
 refine iV 2 func37 ntmps37 results37 λc hc hb=> ?_
 refine zA ?_
 by_cases s3:y.state=3
 .have af:(y.state==3)=true:=sU s3
  have ah:(y.state==4)=false:=by rw[s3];rfl
  by_cases e0:x.err=0
  .have ab:(x.err==0)=true:=sU e0
   rw[ai2 ⟨s3,e0⟩]at hM
   simp[go_sem,fT,hi,hy,af,ab]
   refine wJ [(6,3),(9,3)] 2 3 sm kR kR ?_
   simp[go_sem,hi,hy]
   exact ret _ _ {y with state:=4,yes:=x.yes} _ _ hM (by simp[cp.row])
  .have ab:(x.err==0)=false:=sU e0
   rw[ai1 (λh=>e0 h.2),ai1 (λh=>e0 h.2),ai2 (.inl s3)]at hM
   simp[go_sem,fT,hi,hy,af,ah,ab]
   exact ret _ _ y _ _ hM same
 have af:(y.state==3)=false:=sU s3
 rw[ai1 (λh=>s3 h.1)]at hM
 by_cases s4:y.state=4
 .have ah:(y.state==4)=true:=sU s4
  by_cases e0:x.err=0
  .have ab:(x.err==0)=true:=sU e0
   rw[ai2 ⟨s4,e0⟩]at hM
   by_cases p2:t.phase=2
   .have aw:(t.phase==2)=true:=sU p2
    rw[ai2 p2]at hM
    simp[go_sem,fT,hi,hy,af,ah,ab,aw]
    exact ret _ _ {y with state:=2,dN:=zT,home:=0,yes:=false} _ _ hM (by simp[cp.row,zT])
   .have aw:(t.phase==2)=false:=sU p2
    rw[ai1 p2]at hM
    simp[go_sem,fT,hi,hy,af,ah,ab,aw]
    exact ret _ _ {y with state:=1,dN:=zT,home:=0,yes:=false} _ _ hM (by simp[cp.row,zT])
  .have ab:(x.err==0)=false:=sU e0
   rw[ai1 (λh=>e0 h.2),ai2 (.inr s4)]at hM
   simp[go_sem,fT,hi,hy,af,ah,ab]
   exact ret _ _ y _ _ hM same
 have ah:(y.state==4)=false:=sU s4
 rw[ai1 (λh=>s4 h.1),ai1 (λh=>h.elim s3 s4)]at hM
 by_cases ao:x.err=20
 .have ae:(x.err==20)=true:=sU ao
  rw[ai2 ao]at hM
  simp[go_sem,fT,hi,hy,af,ah,ae]
  refine wJ [(9,3),(12,3),(15,3)] 2 3 sm kR kR ?_
  simp[go_sem,hi,hy]
  exact ret _ _ {y with state:=3,dN:=x.dN,home:=x.home} _ _ hM (by simp[cp.row])
 have ae:(x.err==20)=false:=sU ao
 rw[ai1 ao]at hM
 by_cases e0:x.err=0
 .have ab:(x.err==0)=true:=sU e0
  rw[ai2 e0]at hM
  by_cases s1:y.state=1
  .have ai:(y.state==1)=true:=sU s1
   rw[ai2 s1]at hM
   simp[go_sem,fT,hi,hy,af,ah,ae,ab,ai]
   refine pC a1 ?_
   simp[go_sem,hi,hy]
   exact ret _ _ {y with state:=5,dO:=x.dO} _ _ hM (by simp[cp.row])
  .have ai:(y.state==1)=false:=sU s1
   rw[ai1 s1]at hM
   simp[go_sem,fT,hi,hy,af,ah,ae,ab,ai]
   exact ret _ _ {y with state:=5,dO:=y.dO} _ _ hM (by simp[cp.row])
 have ab:(x.err==0)=false:=sU e0
 rw[ai1 e0]at hM
 by_cases s1:y.state=1
 .have ai:(y.state==1)=true:=sU s1
  by_cases aq:x.err=24
  .have al:(x.err==24)=true:=sU aq
   rw[ai2 ⟨s1,aq⟩]at hM
   simp[go_sem,fT,hi,hy,af,ah,ae,ab,ai,al]
   refine pC ay ?_
   simp[go_sem]
   exact ret _ _ y _ _ hM same
  .have al:(x.err==24)=false:=sU aq
   rw[ai1 (λh=>aq h.2),ai2 s1]at hM
   simp[go_sem,fT,hi,hy,af,ah,ae,ab,ai,al]
   refine mz 1 a6 cB rfl (ux 0 l) ⟨wN ⟨zF rfl,zF rfl,zF rfl,zF rfl,zF rfl,zF rfl,zX,zF rfl,zF rfl,zF rfl,zF rfl,zF rfl,.inl rfl,zF rfl,zF rfl,zX,tV⟩,tV⟩ (λr I h=>⟨_,h.2,ux 0 l⟩) ?_
   rintro r o2 ⟨rfl,h2⟩
   obtain rfl:o2= .cd (l.map cp.row) 11:=sU h2
   simp[go_sem]
   subst hM
   exact mV 2 rfl (by simp[bT,cS,cN,cp.row]) (A7 _) (zC rfl) ⟨rfl,by rw[ai2 rfl];rfl⟩
 have ai:(y.state==1)=false:=sU s1
 rw[ai1 (λh=>s1 h.1),ai1 s1]at hM
 by_cases ar:x.err=21
 .have aj:(x.err==21)=true:=sU ar
  rw[ai2 ar]at hM
  simp[go_sem,fT,hi,hy,af,ah,ae,ab,ai,aj]
  refine pC ax ?_
  simp[go_sem]
  exact ret _ _ y _ _ hM same
 have aj:(x.err==21)=false:=sU ar
 rw[ai1 ar]at hM
 by_cases au:x.err=22
 .have ak:(x.err==22)=true:=sU au
  rw[ai2 au]at hM
  simp[go_sem,fT,hi,hy,af,ah,ae,ab,ai,aj,ak]
  refine pC az ?_
  simp[go_sem]
  exact ret _ _ y _ _ hM same
 have ak:(x.err==22)=false:=sU au
 rw[ai1 au]at hM
 by_cases av:x.err=26
 .have an:(x.err==26)=true:=sU av
  rw[ai2 av]at hM
  simp[go_sem,fT,hi,hy,af,ah,ae,ab,ai,aj,ak,an]
  exact ret _ _ y _ _ hM same
 have an:(x.err==26)=false:=sU av
 rw[ai1 av]at hM
 simp[go_sem,fT,hi,hy,af,ah,ae,ab,ai,aj,ak,an]
 exact ret _ _ y _ _ hM same
end Go.Proofs.YtplackkccmeioaaGreat
namespace Go.Vx
open Go
section
variable {P:Program} {c:Ctx} {n0:Kp} {I:St}
theorem PD {f:FuncId} {bY args cj:List V} {fj s1:St} {v:V} {KV:V->St->Prop} (hc:bN P f cj fj (λr s=>r=v/\s=s1)) (hb:xE P f) (dg:aiB) (ab:dg.Nodup) (hlen:fj.length=dg.length)
  (ad: ∀(i j:Nat) (o:Ob),dg[i]? =some j->fj[i]? =some o->I[j]? =some (yA (cK dg I.length) o)) (aa:bP (cP (cK dg I.length)) cj (args++bY))
  (hk:KV (dH (cK dg I.length) v) (yX dg I s1)):pT P c n0 4 (.fn f bY) args I KV fx:=by
 refine⟨_,_, ?_,om,om,by grind[FH],hk⟩
 rw[ai1 dC,ai1 dC]
 refine VC.of hc hb dg ab hlen ad aa ?_
 simp
end
end Go.Vx
namespace Go.Proofs.YtplackkccmeioaaGreat
open Go Go.Vx R Go.Proofs.Tryz
set_option maxRecDepth 100000
def fU:List V:= [.sl .ro xJ,.sl .ro (bO.map bL.row)]
theorem xX9 (p:Int) (l:cp) (r:dR) (h:(gL p l r).2.2.1):(gL p l r).2.2.2=false:=by
 revert h
 unfold gL
 repeat' split
 all_goals simp
theorem PE (p:Int) {l:cp} (hl:jY l) {r:dR} (hr:fb r):jY (gL p l r).1:=by
 obtain⟨h1,h2,h3,h4⟩:=hl
 have h5:=hr.dO
 unfold gL
 repeat' split
 all_goals first|exact⟨h1,h2,h3,h4⟩|exact⟨h1,h2,h3,h5⟩
theorem LL {t:Tx} (hg: ∀x∈t.bV,jY x): ∀x∈ji t,oG x.cmd:=λx hx=>by
 unfold ji at hx
 split at hx
 .obtain⟨l,hl,aa⟩:=Dy.1 hx
  have h:=hg l hl
  unfold gC at aa
  repeat' split at aa
  all_goals first|(cases aa;exact⟨h.cI,A3 _⟩)|(cases aa;exact⟨A3 _,h.writes⟩)|(cases aa;exact⟨A3 _,A3 _⟩)|cases aa
 .split at hx
  .rw[B7]at hx
   subst hx
   exact⟨A3 _,A3 _⟩
  .cases hx
theorem WN {t:Tx}:(ji t).length<=t.bV.length+1:=by
 unfold ji
 split
 .have:=List.length_filterMap_le (gC t) t.bV
  omega
 .split<;>simp
theorem wc2 {ρ:Nat->Nat} (t:Tx) {g:Tag} {rows:List (List V)} (h:t.bV.map cp.row=rows):nj ρ (.agg t.row) (.agg (t.eH (.sl g rows))):=by
 subst h
 unfold Tx.row Tx.eH
 exact wX ⟨zF rfl,zF rfl,zF rfl,zF rfl,zF rfl,zF rfl,zX,zF rfl,zF rfl,zF rfl,zF rfl,zF rfl,zX,zF rfl,zF rfl,zX,tV⟩
theorem PF (l:List cp):wY (l.map cp.row) 0 l.length=l.map cp.row:=by
 have:(λr:List V=>r.map kZ)∘cp.row=cp.row:=funext λx=>rfl
 simp[wY,this]
 exact Aa sm
theorem wd3 {P:Program} {c:Ctx} {I:St} {t:Tx} {f:FuncId} {bY args cj:List V} {KV:V->St->Prop} (hc:bN P f cj [] λr s=>r= .agg (t.fQ 0)/\s= [.cd (t.bV.map cp.row) 11]) (hb:xE P f)
  (aa:bP (cP (cK [] I.length)) cj (args++bY)) (hK:KV (.agg (t.eH (.cL I.length 11 t.bV.length 0 t.bV.length))) (I++ [.cd (t.bV.map cp.row) 11])):jk P c (.fn f bY) args I KV fx:=by
 refine VC.of hc hb [] C0 rfl sm aa λr s h _=> ?_
 obtain⟨rfl,rfl⟩:=h
 have e:yX [] I [.cd (t.bV.map cp.row) 11]=I++ [.cd (t.bV.map cp.row) 11]:=by
  simp only[yX,fI,Bj,Ct,Ah,Bp]
  rw[yY (n:=0) om (ux 0 _)]
 have e2:dH (cK [] I.length) (.agg (t.fQ 0))= .agg (t.eH (.cL I.length 11 t.bV.length 0 t.bV.length)):=by
  simp[dH,dM,dj,dt,cK,Tx.fQ,Tx.eH]
 rw[e,e2]
 exact hK
def kp (t:Tx) (B:cT) (r:dR) (cur:List cp):St:= [.box fU,.box t.row,.box B.row,.box r.row,.box (t.eH (.cL 5 11 t.bV.length 0 t.bV.length)),.cd (cur.map cp.row) 11]
theorem IP (t:Tx) (B:cT) (r:dR) (cur:List cp):(kp t B r cur).all (bT 6)=true:=by
 simp[kp,bT,cS,cN,cp.row,Tx.eH,Tx.row,cT.row,dR.row,fU]
theorem WO {a b c d u l x:Ob} (t:Tx) (n:Nat) (l2:List cp):yX [4,5] [a,b,c,d,u,l,x] (fT t n l2)= [a,b,c,d,.box (t.eH (.cL 5 11 n 0 n)),.cd (l2.map cp.row) 11,x]:=by
 have e1:yA (cK [4,5] 7) (.cd (l2.map cp.row) 11)= .cd (l2.map cp.row) 11:=yY (n:=0) (λi hi=>om) (ux 0 _)
 have e2:yA (cK [4,5] 7) (.box (t.eH (.cL 1 11 n 0 n)))= .box (t.eH (.cL 5 11 n 0 n)):=by simp[yA,dj,dt,cK,Tx.eH]
 simp[yX,fI,fT,e1,e2]
theorem xd8 {a b c d u l x:Ob} (t:Tx) (l2:List cp):yX [4,5] [a,b,c,d,u,l,x] [.box t.row,.cd (l2.map cp.row) 11]= [a,b,c,d,.box t.row,.cd (l2.map cp.row) 11,x]:=by
 have e1:yA (cK [4,5] 7) (.cd (l2.map cp.row) 11)= .cd (l2.map cp.row) 11:=yY (n:=0) (λi hi=>om) (ux 0 _)
 have e2:yA (cK [4,5] 7) (.box t.row)= .box t.row:=by simp[yA,dj,dt,Tx.row]
 simp[yX,fI,e1,e2]
theorem PG {a b c d x:Ob} (t:Tx) (n:Nat) (l:List cp) (i j:Nat) (o:Ob) (h1: [4,5][i]? =some j) (h2:(fT t n l)[i]? =some o): [a,b,c,d,.box (t.eH (.cL 5 11 n 0 n)),.cd (l.map cp.row) 11,x][j]? =some (yA (cK [4,5] 7) o):=by
 have e1:yA (cK [4,5] 7) (.cd (l.map cp.row) 11)= .cd (l.map cp.row) 11:=yY (n:=0) (λi hi=>om) (ux 0 _)
 have e2:yA (cK [4,5] 7) (.box (t.eH (.cL 1 11 n 0 n)))= .box (t.eH (.cL 5 11 n 0 n)):=by simp[yA,dj,dt,cK,Tx.eH]
 rcases i with _|_|i
 .simp[fT]at h1 h2
  subst h1 h2
  rw[e2]
  rfl
 .simp[fT]at h1 h2
  subst h1 h2
  rw[e1]
  rfl
 .simp at h1
theorem xN6 (ag:Tx->Int->Int->Tx×List cT) (ru:Tx->Tx)
  (aS: ∀t bump bS,jm t->Pure prog 36 [dG bO,.agg t.row,.int .i64 bump,.int .i64 bS] (.cz [.agg (ag t bump bS).1.row,.sl .ro ((ag t bump bS).2.map cT.row)]))
  (bc: ∀t,jm t->Pure prog 40 [dG bO,.agg t.row] (.agg (ru t).row))
  (t:Tx) (ht:jm t) (a:cT) (ha:oG a.cmd) (r:dR) (hr:fb r) (bS:Int):
  Pure prog 14 [dG bO,.agg t.row,.agg a.row,.agg r.row,.int .i64 bS] (.cz [.agg (ED ag ru t a r bS).1.row,.sl .ro ((ED ag ru t a r bS).2.map cT.row)]):=by
 have bd:=xA0 t ht
 have bq:=ht.bV
 have aw:=IM t om ht.ko
 have aq:=xH1 (mR a) ha (ji t) (by have:= @WN t;omega) (LL ht.ko)
 have ab:=WJ {t with phase:=4} true (by show t.bV.length<=100000;omega)
 have ax:=aS t 0 bS ht
 obtain⟨M,hM⟩:=eX (ED ag ru t a r bS)
 rw[hM]
 unfold ED at hM
 obtain⟨asked,af⟩: ∃b,((ji t).any λy=>decide (y=mR a))=b:=⟨_,rfl⟩
 have aT:asked=true->t.phase≠3->(t.phase==4)=false:=λh1 h3=>by
  have h4:t.phase≠4:=λh4=>by
   rw[<-af]at h1
   unfold ji at h1
   rw[ai1 om,ai1 h3]at h1
   cases h1
  simpa using h4
 rw[af]at hM aq
 clear af
 have av:=PF t.bV
 obtain⟨B,hB⟩:=eX (mR a)
 have ah:B.row= [.int .i64 a.range,.int .i64 a.cmd.kind,.int .i64 0,.int .i64 a.cmd.node,.int .i64 a.cmd.home,.int .i64 a.cmd.dN.node,.int .i64 a.cmd.dN.eZ,.int .i64 a.cmd.dN.seq,.int .i64 a.cmd.dN.attempt,.int .i64 a.cmd.at_.wall,.int .i64 a.cmd.at_.tie,.int .i64 a.cmd.wall,.bool a.cmd.yes,.sl .ro (a.cmd.cI.map ca.row),.sl .ro (a.cmd.writes.map dK.row)]:=by rw[<-hB];rfl
 rw[hB]at aq hM
 have ay:bT 0 (.box B.row):=IN 0 B
 refine iV 0 func14 ntmps14 results14 λc hc hb=> ?_
 refine zO (zA ?_)
 simp[go_sem,dG]
 refine zO (zA ?_)
 simp[go_sem]
 refine wd3 bd cB ⟨zC rfl,tV⟩ ?_
 simp[go_sem]
 refine zO (zA ?_)
 simp[go_sem]
 refine zO (zA ?_)
 simp[go_sem]
 refine pC aw ?_
 simp[go_sem]
 refine mz 2 aq cB (by rw[ah];rfl) ay ⟨zK,.inl (by simp[dH,dM,dj,dt,cK]),tV⟩ (λr I h=>⟨_,h.2,ay⟩) ?_
 rintro r2 o2 ⟨rfl,h2⟩
 obtain rfl:o2= .box B.row:=sU h2
 simp[go_sem]
 have ret: ∀(x:Tx) (y:List cT) (g gy:Tag) (rows:List (List V)) (I:St),(x,y)=M->x.bV.map cp.row=rows->cw (some (.cz [.agg (x.eH (.sl g rows)),.sl gy (y.map cT.row)])) 0 (λr s=>r= .cz [.agg M.1.row,.sl .ro (M.2.map cT.row)]/\s= []) I:=λx y g gy rows I h hr=>by
  subst h
  exact zW (r:= .cz [.agg x.row,.sl .ro (y.map cT.row)]) (yW ⟨wc2 x hr,uQ,tV⟩) ⟨rfl,rfl⟩
 by_cases hE: ¬asked=true\/r.err=25\/r.err=27
 .rw[ai2 hE]at hM
  refine FK 5 11 (t.bV.map cp.row) rfl (IL _) ?_
  refine zA ?_
  cases asked with
  |false=>
   simp[go_sem,gp,gn,gu,fZ,jJ,np,av]
   exact ret t [] _ .full _ _ hM rfl
  |true=>
   by_cases az:r.err=25
   .have aa:(r.err==25)=true:=sU az
    simp[go_sem,gp,gn,gu,fZ,jJ,np,av,aa]
    exact ret t [] _ .full _ _ hM rfl
   .have aa:(r.err==25)=false:=sU az
    have ae:(r.err==27)=true:=by simp at hE;simpa using hE.resolve_left az
    simp[go_sem,gp,gn,gu,fZ,jJ,np,av,aa,ae]
    exact ret t [] _ .full _ _ hM rfl
 rw[ai1 hE]at hM
 obtain⟨rfl,az,bf⟩:asked=true/\ ¬r.err=25/\ ¬r.err=27:=sU hE
 have aa:(r.err==25)=false:=sU az
 have ae:(r.err==27)=false:=sU bf
 by_cases p3:t.phase=3
 .have a1:(t.phase==3)=true:=sU p3
  rw[ai2 p3]at hM
  refine FK 5 11 (t.bV.map cp.row) rfl (IL _) ?_
  refine zA ?_
  by_cases e0:r.err=0
  .have aC:(r.err !=0)=false:=sU e0
   rw[ai1 (λh=>h e0)]at hM
   by_cases hy:r.yes=true
   .rw[ai2 hy]at hM
    simp[go_sem,gp,gn,gu,fZ,jJ,np,av,aa,ae,a1,aC,hy]
    refine yI [(2,0)] 6 rfl kR kR ?_
    simp[go_sem]
    refine pD ab ?_
    simp[go_sem]
    exact ret {t with phase:=4} _ _ _ _ _ hM rfl
   .have bg:r.yes=false:=sU hy
    rw[ai1 hy]at hM
    obtain⟨G,hG⟩:=eX (ag t 0 bS)
    rw[hG]at hM ax
    simp[go_sem,gp,gn,gu,fZ,jJ,np,av,aa,ae,a1,aC,bg]
    refine pC ax ?_
    simp[go_sem]
    exact ret G.1 G.2 _ _ _ _ hM rfl
  .have aC:(r.err !=0)=true:=sU e0
   rw[ai2 e0]at hM
   simp[go_sem,gp,gn,gu,fZ,jJ,np,av,aa,ae,a1,aC]
   exact ret t [] _ .full _ _ hM rfl
 have a1:(t.phase==3)=false:=sU p3
 rw[ai1 p3]at hM
 refine ou (S:=Unit) [4,5,6,7,8,10] (λ_=> [.int .i64 bS,.ptr 0 0,.ptr 1 0,.ptr 2 0,.ptr 3 0,.ptr 4 0]) (λ_=>kp t B r t.bV) (λ_=>True) hc hb ?_ ?_
 .refine zA ?_
  simp[go_sem,aa,ae,a1]
  exact zJ () ⟨tV,cc 6 (by simp[go_sem,kp,fU]) rfl (IP ..) dC (zD sg rfl)⟩
 rintro _ _
 obtain⟨a6,aD⟩:=eX (mc t B r [] t.bV)
 rw[aD]at hM
 clear aw aq ab ax
 refine zO (zA ?_)
 simp[go_sem,kp]
 refine zI (S:=Nat×List cp) [4,5,6,7,8,10,74,75] (λu=> [.int .i64 bS,.ptr 0 0,.ptr 1 0,.ptr 2 0,.ptr 3 0,.ptr 4 0,.int .i64 t.bV.length,.int .i64 u.1]) (λu=>kp t B r u.2) (λu=>t.bV.length - u.1)
  (λu=>u.1<=t.bV.length/\u.2.length=t.bV.length/\u.2.drop u.1=t.bV.drop u.1/\(∀x∈u.2,jY x)/\mc t B r (u.2.take u.1) (t.bV.drop u.1)=a6) hc hb (0,t.bV) ⟨A3 _,rfl,rfl,ht.ko,aD⟩ ?_ ?_
 .exact cc 6 (by simp[go_sem,kp]) rfl (IP ..) dC (zD sg rfl)
 rintro⟨i,cur⟩ ⟨hi,ai,a7,a8,hinv⟩
 simp only at hi ai a7 a8 hinv
 have aE:=PF cur
 by_cases q:i<t.bV.length
 rotate_left
 .have bh:i=t.bV.length:=om
  subst bh
  rw[Ci,mc,Aa om]at hinv
  subst hinv
  rw[IK]at hM
  refine zO (zA ?_)
  simp[go_sem]
  have aI:jm {t with bV:=cur}:=⟨ht.cR,ht.pG,by show cur.length<=4;omega,a8,ht.outs⟩
  have aU:=xH2 cur om
  have aF:=bc {t with bV:=cur} aI
  unfold uw at hM
  obtain⟨dn,bj⟩:=eX (cur.any (λl=>l.state !=5))
  rw[bj]at hM aU
  rw[ai]at aE
  refine zO (zA ?_)
  simp[go_sem]
  refine FK 5 11 (cur.map cp.row) rfl (IL _) ?_
  refine zA ?_
  simp[go_sem,gp,gn,gu,fZ,jJ,np,aE,ai,kp,fU]
  refine pC aU ?_
  cases dn with
  |true=>
   rw[ai2 rfl]at hM
   simp[go_sem]
   exact ret {t with bV:=cur} [] _ .full _ _ hM rfl
  |false=>
   rw[ai1 dC]at hM
   by_cases p1:t.phase=1
   .have aJ:(t.phase==1)=true:=sU p1
    rw[ai2 p1]at hM
    obtain⟨G,hG⟩: ∃G,ru {t with bV:=cur}=G:=⟨_,rfl⟩
    rw[hG]at hM aF
    simp[go_sem,aJ]
    refine pC aF ?_
    simp[go_sem]
    exact ret G [] _ .full _ _ hM rfl
   .have aJ:(t.phase==1)=false:=sU p1
    rw[ai1 p1]at hM
    simp[go_sem,aJ]
    exact ret {t with bV:=cur,phase:=3} [] _ .full _ _ hM rfl
 have aK:=A5 q
 have aV:=A5 (l:=cur) (i:=i) om
 obtain⟨y,hy⟩:=eX (t.bV[i])
 have aW:cur[i]=y:=by rw[aK,aV]at a7;exact(List.cons.inj a7).1.trans hy
 have ar:cur.drop (i+1)=t.bV.drop (i+1):=by rw[aK,aV]at a7;exact(List.cons.inj a7).2
 rw[aK,hy,mc]at hinv
 have aL:=ht.ko y (hy▸A8 q)
 have aA:=WK t y aL
 have aP:=zU q om
 have al:lT t y=match gC t y with|some a=>(a,true)|none=>(PB,false):=rfl
 obtain⟨⟨ak,b⟩,bk⟩: ∃p,lT t y=p:=⟨_,rfl⟩
 rw[bk]at aA al
 simp only at aA
 refine zO (zA ?_)
 simp[go_sem,q]
 refine zO (zA ?_)
 simp[go_sem]
 refine zO (z7 (zO (zA ?_)))
 simp[go_sem]
 refine zO (zO ?_)
 refine yI [(6,0)] 6 rfl kR kR ?_
 simp[go_sem,q,hy,kp]
 refine pD aA ?_
 simp[go_sem]
 have aQ: ∀(l2:List cp),l2.length=t.bV.length->l2.drop (i+1)=t.bV.drop (i+1)->(∀x∈l2,jY x)->mc t B r (l2.take (i+1)) (t.bV.drop (i+1))=a6->(i+1<=t.bV.length/\l2.length=t.bV.length/\l2.drop (i+1)=t.bV.drop (i+1)/\(∀x∈l2,jY x)/\mc t B r (l2.take (i+1)) (t.bV.drop (i+1))=a6):=λl2 h1 h2 h3 h4=>⟨q,h1,h2,h3,h4⟩
 have aX:cur.take (i+1)=cur.take i++ [y]:=by rw[Ag om,aW]
 cases b with
 |false=>
  have bm:gC t y=none:=by
   cases hq:gC t y with
   |none=>rfl
   |some a=>rw[hq]at al;cases al
  rw[ai1 (by rw[bm];simp),<-aX]at hinv
  refine zA ?_
  simp[go_sem]
  refine zA ?_
  simp[go_sem,aP]
  exact zJ (i+1,cur) ⟨by show t.bV.length - (i+1)<t.bV.length - i;omega,aQ cur ai ar a8 hinv,cc 6 (by simp[go_sem]) rfl (IP ..) dC (zD sg rfl)⟩
 |true=>
  have aY:gC t y=some ak:=by
   cases hq:gC t y with
   |none=>rw[hq]at al;cases al
   |some a=>rw[hq]at al;cases al;rfl
  rw[aY]at hinv
  have bn:oG ak.cmd:=by
   have h:ak∈ [ak]:=B7.2 rfl
   have:=LL (t:={t with phase:=1,bV:= [y]}) (λx hx=>by rw[B7.1 hx];exact aL) ak (by
    unfold ji
    rw[ai2 (.inl rfl)]
    exact Dy.2 ⟨y,B7.2 rfl,aY⟩)
   exact this
  have aj:=WL ak B bn (by rw[<-hB];exact ha)
  by_cases e:ak=B
  rotate_left
  .rw[ai3 e]at aj
   rw[ai1 (λh=>e (aik h)),<-aX]at hinv
   refine zA ?_
   simp[go_sem]
   refine pC aj ?_
   simp[go_sem]
   refine zA ?_
   simp[go_sem,aP]
   exact zJ (i+1,cur) ⟨by show t.bV.length - (i+1)<t.bV.length - i;omega,aQ cur ai ar a8 hinv,cc 6 (by simp[go_sem]) rfl (IP ..) dC (zD sg rfl)⟩
  rw[ai4 e]at aj
  rw[ai2 (by rw[e])]at hinv
  have ad:=wq6 t cur i om r hr
  rw[aW]at ad
  have hex:=xX9 t.phase y r
  have aR:=PE t.phase aL hr
  obtain⟨⟨l',bump,au,wt⟩,hO⟩: ∃o,gL t.phase y r=o:=⟨_,rfl⟩
  rw[hO]at ad hex aR hinv
  simp only at hinv hex aR
  refine zO (zA ?_)
  simp[go_sem]
  refine pC aj ?_
  simp[go_sem]
  refine zA ?_
  simp[go_sem]
  rw[ai]at ad
  have ab:(cur.set i l').length=t.bV.length:=by rw[List.length_set,ai]
  have an: ∀x∈cur.set i l',jY x:=λx hx=>by
   rcases List.mem_or_eq_of_mem_set hx with hx|rfl
   .exact a8 x hx
   .exact aR
  have ao:cur.set i l'=cur.take i++l'::t.bV.drop (i+1):=by
   rw[List.set_eq_take_append_cons_drop,ai2 om,ar]
  cases wt with
  |true=>
   have bo:au=false:=by
    cases au with
    |false=>rfl
    |true=>exact absurd (hex rfl) dC
   subst bo
   rw[ai1 dC,ai2 rfl]at hinv
   subst hinv
   rw[IK]at hM
   have aB:bN prog 37 [.ptr 0 0,.iH 1 11 t.bV.length i 0,.agg r.row] (fT t t.bV.length cur) (λx s=>x= .cz [.int .i64 bump,.bool false]/\s= [.box (rG {t with jz:=(r.err,0,[])}).row,.cd (cur.map cp.row) 11]):=ad
   refine zO ?_
   refine yI [] 7 rfl kR kR ?_
   simp[go_sem]
   refine zH q ?_
   simp[go_sem]
   refine PD aB cB [4,5] dC rfl (PG t t.bV.length cur) ⟨.inl rfl,.inl rfl,zC rfl,tV⟩ ?_
   rw[xd8]
   simp[go_sem]
   refine FK 5 11 (cur.map cp.row) rfl (IL _) ?_
   refine zA ?_
   simp[go_sem,gp,gn,gu,fZ,jJ,np,rG]
   exact ret (rG {t with jz:=(r.err,0,[])}) [] _ .full _ _ hM rfl
  |false=>
   have aB:bN prog 37 [.ptr 0 0,.iH 1 11 t.bV.length i 0,.agg r.row] (fT t t.bV.length cur) (λx s=>x= .cz [.int .i64 bump,.bool au]/\s=fT t t.bV.length (cur.set i l')):=by
    unfold EE at ad
    rw[ai]at ad
    exact ad
   have aZ:(cur.set i l').drop (i+1)=t.bV.drop (i+1):=by rw[List.drop_set_of_lt om,ar]
   have ba:mc t B r (cur.take i++ [l']) (t.bV.drop (i+1))=a6->mc t B r ((cur.set i l').take (i+1)) (t.bV.drop (i+1))=a6:=λh=>by
    rw[ao,List.take_append,B0,Aa (by rw[B0];omega),show i+1 - min i cur.length=1 by omega]
    exact h
   obtain⟨l2,bb⟩:=eX (cur.set i l')
   rw[bb]at aB aZ ba ab an ao
   cases au with
   |true=>
    rw[ai2 rfl,<-ao]at hinv
    subst hinv
    rw[IK]at hM
    have aI:jm {t with bV:=l2}:=⟨ht.cR,ht.pG,by show l2.length<=4;omega,an,ht.outs⟩
    have aG:=aS {t with bV:=l2} bump bS aI
    obtain⟨G,hG⟩: ∃G,ag {t with bV:=l2} bump bS=G:=⟨_,rfl⟩
    rw[hG]at hM aG
    have aH:=PF l2
    rw[ab]at aH
    refine zO ?_
    refine yI [] 7 rfl kR kR ?_
    simp[go_sem]
    refine zH q ?_
    simp[go_sem]
    refine PD aB cB [4,5] dC rfl (PG t t.bV.length cur) ⟨.inl rfl,.inl rfl,zC rfl,tV⟩ ?_
    rw[WO]
    simp[go_sem]
    refine FK 5 11 (l2.map cp.row) rfl (IL _) ?_
    refine zA ?_
    simp[go_sem,gp,gn,gu,fZ,jJ,np,aH,ab,fU]
    refine pC aG ?_
    simp[go_sem]
    exact ret G.1 G.2 _ _ _ _ hM rfl
   |false=>
    rw[ai1 dC,ai1 dC]at hinv
    have bp:=aT rfl p3
    refine zO ?_
    refine yI [] 7 rfl kR kR ?_
    simp[go_sem]
    refine zH q ?_
    simp[go_sem]
    refine PD aB cB [4,5] dC rfl (PG t t.bV.length cur) ⟨.inl rfl,.inl rfl,zC rfl,tV⟩ ?_
    rw[WO]
    simp[go_sem]
    refine zA ?_
    simp[go_sem,bp]
    refine zA ?_
    simp[go_sem,aP]
    exact zJ (i+1,l2) ⟨by show t.bV.length - (i+1)<t.bV.length - i;omega,aQ l2 ab aZ an (ba hinv),cc 6 (by simp[go_sem]) rfl (IP ..) dC (zD sg rfl)⟩
end Go.Proofs.YtplackkccmeioaaGreat
namespace Go.Proofs.YtplackkccmeioaaGreat
open Go Go.Vx R Go.Proofs.Tryz
set_option maxRecDepth 100000
variable {t:Tx}
theorem WQ (cR:dZ) (aa:List Ln):xx cR aa= .cz [.agg (pE (fD cR aa).1),.sl .ro ((oE cR aa).map kY)]:=rfl
theorem wd0 {l:cp} (h:jY l):ur (kC l)= [.int .i64 l.range,.sl .ro (l.dO.map ix.row)]:=by
 have:=h.range
 unfold ur kC
 simp only[Bb]
 rw[show((l.range.toNat:Nat):Int)=l.range by omega]
 rfl
theorem PH {l:List cp} (hl:l.length<=4) (hg: ∀x∈l,jY x):(kn (l.map kC)).length<=7500:=by
 have h1:=LH (n:=1000) (l:=l.map kC) (f:=λx=>vz x.1 x.2) λx hx=>by
  obtain⟨y,hy,rfl⟩:=Ab.1 hx
  have:=(hg y hy).dO.1
  simpa[vz,kC]using this
 unfold kn
 rw[Ai]at h1
 omega
theorem LM {cR:dZ} (hl:k7 cR) {vs:List Vw} (hN:(kn vs).length<=7500):WH (fD cR (lf vs)).1/\og (oE cR (lf vs))/\ ∀q∈oE cR (lf vs),q.2.length<=100000:=by
 obtain⟨m,hT⟩:=V5 vs
 have hlen:(lf vs).length<=(kn vs).length:=hT.len
 have hk:oD (lf vs):=λx hx=>⟨hT.now.rows x hx,(hT.lines x hx).1⟩
 obtain⟨aa,ab⟩:=xv0 hl hT.now (by show(lf vs).length<=7500;omega)
 obtain⟨_,ad⟩:=xM7 hl hT.now hk (by show(lf vs).length<=7500;omega)
 exact⟨⟨aa,ab⟩,jc hl hT.now hk,ad⟩
theorem og.four {Q:List (Int×List Wr)} (h:og Q):Q.length<=4:=by
 have aa:(Q.map (·.1)).Nodup:=D1.2 (h.up.imp λab=>Int.ne_of_lt ab)
 have:=aa.length_le_of_subset (l₂:= [0,1,2,3]) λg hg=>by
  obtain⟨y,hy,rfl⟩:=Ab.1 hg
  have:=h.dw y hy
  simp only[Ae,Bg,aih]
  omega
 rw[Ai]at this
 exact this
def zx:List V:= [.int .i64 0,.int .i64 0,.int .i64 0,.int .i64 0,.int .i64 0,.int .i64 0,.sl .full [],.int .i64 0,.int .i64 0,.int .i64 0,.int .i64 0,.int .i64 0,.sl .full [],.int .i64 0,.int .i64 0,.sl .full []]
theorem WR {g:Tag} {rows:List (List V)} {I:St} (M:Tx) (hM:t.eH (.sl .ro rows)=M.row):cw (some (.agg (t.eH (.sl g rows)))) 0 (λr s=>r= .agg M.row/\s= []) I:=
 zW (r:= .agg M.row) (by rw[<-hM];exact wc3 t) ⟨rfl,rfl⟩
theorem WS (t:Tx) (ht:jm t):Pure prog 40 [dG bO,.agg t.row] (.agg (oF t).row):=by
 have hN:=PH ht.bV ht.ko
 have aa:=VT t.cR ht.cR (t.bV.map kC) (by rw[Ai];have:=ht.bV;omega) (λx hx=>by
  obtain⟨y,hy,rfl⟩:=Ab.1 hx
  have hg:=ht.ko y hy
  have h1:=hg.range
  have h2:=hg.dO
  refine⟨by show y.range.toNat<1000;omega,by show(y.dO.map _).length<=100000;rw[Ai];omega,λq hq=> ?_⟩
  obtain⟨p,hp,rfl⟩:=Ab.1 (show q∈y.dO.map (λp=>(p.key,p.data)) from hq)
  exact h2.2 p hp) hN
 rw[WQ]at aa
 have ab:=(LM ht.cR hN).2
 obtain⟨M,hM⟩:=eX (oF t)
 rw[hM]
 unfold oF at hM
 obtain⟨A,hA⟩:=eX ((fD t.cR (lf (t.bV.map kC))).1)
 obtain⟨P,hP⟩:=eX (oE t.cR (lf (t.bV.map kC)))
 rw[hA]at aa hM
 rw[hP]at aa hM ab
 have ah: ∀i (h:i<t.bV.length),ur (kC t.bV[i])= [.int .i64 t.bV[i].range,.sl .ro (t.bV[i].dO.map ix.row)]:=λi h=>wd0 (ht.ko _ (A8 h))
 have al:=ht.bV
 have an:=ab.1.four
 clear hA hP hN
 refine iV 0 func40 ntmps40 results40 λc hc hb=> ?_
 refine zO (zA ?_)
 simp[go_sem,dG]
 refine zO (zA ?_)
 simp[go_sem]
 refine zO (zA ?_)
 simp[go_sem]
 refine l7 5 2 dC sg ?_
 refine zI (S:=Nat×List Vw) [2,3,4,5,13,14,15] (λu=> [.ptr 0 0,.ptr 1 0,.ptr 2 0,.sl (.app 3) (u.2.map ur),.sl .ro (t.bV.map cp.row),.int .i64 t.bV.length,.int .i64 u.1])
  (λu=> [.box fU,.box t.row,.box zx,.app u.2.length 2]) (λu=>t.bV.length - u.1) (λu=>u.1<=t.bV.length/\u.2=(t.bV.take u.1).map kC) hc hb (0,[]) ⟨A3 _,sm⟩ ?_ ?_
 .exact cc 4 (by simp[go_sem,fU,zx]) rfl (by simp[bT,cS,cN,fU,zx,Tx.row]) dC (zD sg rfl)
 rintro⟨i,out⟩ ⟨hi,ho⟩
 simp only at hi ho
 have ao:out.length=i:=by rw[ho,Ai,B0];omega
 by_cases q:i<t.bV.length
 .have ei:=zU q om
  have hv:=ah i q
  obtain⟨y,hy⟩:=eX (t.bV[i])
  rw[hy]at hv
  have ad:out++ [kC y]=(t.bV.take (i+1)).map kC:=by rw[ho,Ag q,hy,Ca];rfl
  refine zA ?_
  simp[go_sem,q,hy]
  refine zH ⟨om,zY rfl⟩ ?_
  simp[go_sem,ei]
  exact zJ (i+1,out++ [kC y]) ⟨by show t.bV.length - (i+1)<t.bV.length - i;omega,⟨q,ad⟩,cc 4 (by simp[go_sem,fU,zx]) rfl (by simp[bT,cS,cN,fU,zx]) dC (zD (by simp[go_sem,hv]) rfl)⟩
 have h2:out=t.bV.map kC:=by rw[ho,Aa om]
 rw[<-h2]at aa
 clear ho ah h2
 refine zO (zA ?_)
 simp[go_sem,q]
 refine zO (zA ?_)
 simp[go_sem]
 refine zO (zA ?_)
 simp[go_sem,fU]
 refine pC aa ?_
 simp[go_sem]
 refine zO (zA ?_)
 simp[go_sem]
 by_cases ae:P= []
 .subst ae
  simp only at hM
  refine zA ?_
  simp[go_sem]
  exact WR (t:={t with phase:=4,jz:=A,bV:= []}) (g:= .full) (rows:= []) M (by rw[<-hM];rfl)
 have ai:0<P.length:=List.length_pos_iff.2 ae
 obtain⟨p,hp⟩:=eX (P[0])
 have aj:{t with jz:=A,phase:=2,home:=p.1,bV:=P.map rH}=M:=by
  cases P with
  |nil=>cases ae rfl
  |cons x l=>simp only[List.getElem_cons_zero]at hp;subst hp;exact hM
 have ak:((P.length:Int)==0)=false:=by simp;omega
 clear aa ab hM
 obtain⟨tm,af⟩: ∃tm:Tx,{t with jz:=A,phase:=2,home:=p.1}=tm:=⟨_,rfl⟩
 refine zO (zA ?_)
 simp[go_sem,ak]
 refine zO ?_
 refine wJ [(5,3),(7,3)] 2 5 sm kR kR ?_
 simp[go_sem,ai,hp,kY]
 refine zO (zA ?_)
 simp[go_sem]
 refine DE 1 12 11 (tm.eH (.sl .full [])) dC (by rw[<-af];rfl) rfl ?_
 refine zI (S:=Nat×List cp) [3,4,50,51,52] (λu=> [.ptr 1 0,.ptr 2 0,.sl .ro (P.map kY),.int .i64 P.length,.int .i64 u.1])
  (λu=> [.box fU,.box (tm.eH (.sl (.app 5) (u.2.map cp.row))),.box zx,.app out.length 2,.box (pE A),.app u.2.length 11]) (λu=>P.length - u.1) (λu=>u.1<=P.length/\u.2=(P.take u.1).map rH) hc hb (0,[]) ⟨A3 _,sm⟩ ?_ ?_
 .exact cc 6 (by simp[go_sem,fU,zx,<-af]) rfl (by simp[bT,cS,cN,fU,zx,Tx.eH,pE]) dC (zD (by simp[go_sem]) rfl)
 rintro⟨j,bV⟩ ⟨hj,hl⟩
 simp only at hj hl
 have aq:bV.length=j:=by rw[hl,Ai,B0];omega
 by_cases qj:j<P.length
 rotate_left
 .have h2:bV=P.map rH:=by rw[hl,Aa om]
  refine zA ?_
  simp[go_sem,qj]
  refine zA ?_
  simp[go_sem,zx]
  exact WR (t:=tm) (rows:=bV.map cp.row) M (by rw[<-aj,<-af,h2];rfl)
 have ej:=zU qj om
 obtain⟨y,hy⟩:=eX (P[j])
 have ad:bV++ [rH y]=(P.take (j+1)).map rH:=by rw[hl,Ag qj,hy,Ca];rfl
 refine zA ?_
 simp[go_sem,qj,hy,kY]
 refine zH ⟨om,zY rfl⟩ ?_
 simp[go_sem,ej]
 exact zJ (j+1,bV++ [rH y]) ⟨by show P.length - (j+1)<P.length - j;omega,⟨qj,ad⟩,cc 6 (by simp[go_sem];exact⟨rfl,rfl,rfl,rfl,by show _=(y.2.map wG).map dK.row;rw[Bb];rfl,rfl,rfl,rfl,rfl,rfl,rfl⟩) rfl (by simp[bT,cS,cN,fU,zx]) dC (zD (by simp[go_sem]) rfl)⟩
theorem WT (cR:dZ):(lJ cR).length<=4:=by
 have aa:=(UD cR).rh
 have ab:((lJ cR).map (·.1)).Nodup:=aa.imp λad=>Int.ne_of_lt ad
 have:=ab.length_le_of_subset (l₂:= [0,1,2,3]) λg hg=>by
  obtain⟨y,hy,rfl⟩:=Ab.1 hg
  have:=Pv cR y hy
  simp only[Ae,Bg,aih]
  omega
 rw[Ai]at this
 exact this
theorem xM9 {cR:dZ} (hl:k7 cR): ∀x∈(lJ cR).map p9,jY x:=λx hx=>by
 obtain⟨y,hy,rfl⟩:=Ab.1 hx
 have h1:=Pv cR y hy
 have h2:=Wt hl y hy
 exact⟨by show 0<=y.1/\y.1<1000;omega,by show y.2.length<=100000;omega,A3 _,A3 _,λp hp=>by cases hp⟩
theorem xM1 {Q:List (Int×List Wr)} (h:og Q) (hw: ∀q∈Q,q.2.length<=100000): ∀x∈Q.map rH,jY x:=λx hx=>by
 obtain⟨y,hy,rfl⟩:=Ab.1 hx
 have h1:=h.dw y hy
 have h2:=hw y hy
 exact⟨by show 0<=y.1/\y.1<1000;omega,A3 _,by show(y.2.map wG).length<=100000;rw[Ai];exact h2,A3 _,λp hp=>by cases hp⟩
theorem WU (ht:jm t):jm (oF t):=by
 obtain⟨h1,h2,h3⟩:=LM ht.cR (PH ht.bV ht.ko)
 unfold oF
 obtain⟨P,hP⟩:=eX (oE t.cR (lf (t.bV.map kC)))
 rw[hP]at h2 h3⊢
 cases P with
 |nil=>exact⟨ht.cR,ht.pG,A3 _,λx hx=>(by cases hx),h1⟩
 |cons p l=>exact⟨ht.cR,ht.pG,by show((p::l).map rH).length<=4;rw[Ai];exact h2.four,xM1 h2 h3,h1⟩
theorem LN (ht:jm t) (bS:Int):jm (BE t bS):=⟨ht.cR,ht.pG,by show((lJ t.cR).map p9).length<=4;rw[Ai];exact WT _,xM9 ht.cR,A3 _,λx hx=>by cases hx⟩
theorem WV (ht:jm t) (bS:Int):jm (pH t bS):=by
 unfold pH
 split
 .exact WU (LN ht bS)
 .exact LN ht bS
def kq (t:Tx) (bS:Int) (v:V):List V:= [.int .i64 t.id.node,.int .i64 t.id.eZ,.int .i64 t.id.seq,.int .i64 t.id.attempt,.int .i64 t.cR.mode,.int .i64 t.cR.n,.sl .ro (t.cR.stmts.map bW.row),.int .i64 1,.int .i64 (if bS<t.bump then t.bump else bS),.int .i64 (lR t.id),.int .i64 t.bump,.int .i64 0,v,.int .i64 0,.int .i64 0,.sl .full []]
theorem xU5 {ρ:Nat->Nat} (t:Tx) (bS:Int) {g:Tag} {rows:List (List V)} (h:((lJ t.cR).map p9).map cp.row=rows):cP ρ (.agg (BE t bS).row) (.agg (kq t bS (.sl g rows))):=by
 subst h
 unfold Tx.row kq BE mx
 exact wN ⟨zF rfl,zF rfl,zF rfl,zF rfl,zF rfl,zF rfl,zX,zF rfl,zF rfl,zF rfl,zF rfl,zF rfl,zX,zF rfl,zF rfl,zX,tV⟩
theorem WW (t:Tx) (ht:jm t) (bS:Int):Pure prog 25 [dG bO,.agg t.row,.int .i64 bS] (.agg (pH t bS).row):=by
 have ad:=xK0 t.cR (by have:=ht.cR.stmts.1;omega) ht.cR.stmts.2
 have af:=wp3 t.id
 have h4:=WT t.cR
 have ab:=WS (BE t bS) (LN ht bS)
 obtain⟨M,hM⟩:=eX (pH t bS)
 rw[hM]
 unfold pH at hM
 obtain⟨N,hN⟩:=eX (lJ t.cR)
 have ah: ∀(ρ:Nat->Nat) (g:Tag) (bV:List cp),bV=N.map p9->cP ρ (.agg (BE t bS).row) (.agg (kq t bS (.sl g (bV.map cp.row)))):=λρ g bV h=>xU5 t bS (by rw[h,hN])
 obtain⟨tm,aj⟩:=eX (BE t bS)
 rw[hN]at ad h4 hM
 rw[aj]at ab hM ah
 clear hN aj
 obtain⟨te,ak⟩: ∃te:Int,(if Gy t.id=true then(1:Int)else 0)=te:=⟨_,rfl⟩
 rw[ak]at af
 refine iV 0 func25 ntmps25 results25 λc hc hb=> ?_
 refine zO (zA ?_)
 simp[go_sem,dG]
 refine zO (zA ?_)
 simp[go_sem]
 refine pC af ?_
 simp[go_sem]
 refine zO (zA ?_)
 simp[go_sem]
 refine zO (zA ?_)
 simp[go_sem]
 refine zO (zA ?_)
 simp[go_sem]
 refine pC ad ?_
 simp[go_sem]
 refine DE 1 12 11 _ dC rfl rfl ?_
 refine zI (S:=Nat×List cp) [3,4,6,42,43,44] (λu=> [.ptr 0 0,.ptr 1 0,.ptr 2 0,.sl .ro (N.map pg),.int .i64 N.length,.int .i64 u.1])
  (λu=> [.box fU,.box (kq t bS (.sl (.app 3) (u.2.map cp.row))),.box zx,.app u.2.length 11]) (λu=>N.length - u.1) (λu=>u.1<=N.length/\u.2=(N.take u.1).map p9) hc hb (0,[]) ⟨A3 _,sm⟩ ?_ ?_
 .exact cc 4 (by simp[go_sem,fU,zx,kq]) rfl (by simp[bT,cS,cN,fU,zx,kq]) dC (zD sg rfl)
 rintro⟨i,bV⟩ ⟨hi,hl⟩
 simp only at hi hl
 have an:bV.length=i:=by rw[hl,Ai,B0];omega
 by_cases q:i<N.length
 rotate_left
 .have h2:bV=N.map p9:=by rw[hl,Aa om]
  have aa:=λρ g=>ah ρ g bV h2
  unfold kq at aa
  refine zO (zA ?_)
  simp[go_sem,q]
  refine zO (zA ?_)
  simp[go_sem]
  by_cases ae:N= []
  .have ai:bV= []:=by rw[h2,ae];rfl
   rw[ai2 ae]at hM
   rw[hM]at ab
   subst ai
   refine zA ?_
   simp[go_sem,kq,fU]
   refine zL ab cB ⟨zC rfl,aa _ _,tV⟩ rfl ?_
   simp[go_sem,zx]
   exact zW (r:= .agg M.row) (zC rfl) ⟨rfl,rfl⟩
  .have ai:((bV.length:Int)==0)=false:=by
    have:N.length≠0:=λh=>ae (As h)
    have:bV.length≠0:=by rw[h2,Ai];exact this
    simp
    exact λh=>this (by rw[h];rfl)
   rw[ai1 ae]at hM
   rw[hM]at aa
   refine zA ?_
   simp[go_sem,kq,ai,zx]
   exact zW (r:= .agg M.row) (aa _ _) ⟨rfl,rfl⟩
 have ei:=zU q om
 obtain⟨y,hy⟩:=eX (N[i])
 have al:bV++ [p9 y]=(N.take (i+1)).map p9:=by rw[hl,Ag q,hy,Ca];rfl
 refine zA ?_
 simp[go_sem,q,hy,kq]
 refine zH ⟨om,zY rfl⟩ ?_
 simp[go_sem,ei]
 exact zJ (i+1,bV++ [p9 y]) ⟨by show N.length - (i+1)<N.length - i;omega,⟨q,al⟩,cc 4 (by simp[go_sem];exact⟨rfl,rfl,rfl,rfl,rfl,rfl,rfl,rfl,rfl,rfl,rfl⟩) rfl (by simp[bT,cS,cN,fU,zx]) dC (zD sg rfl)⟩
theorem xU0 (t:Tx) (ht:jm t) (bump bS:Int):Pure prog 36 [dG bO,.agg t.row,.int .i64 bump,.int .i64 bS] (.cz [.agg (BF t bump bS).1.row,.sl .ro ((BF t bump bS).2.map cT.row)]):=by
 have ab:=WJ t false (by have:=ht.bV;omega)
 have af:=ht.pG
 have e1:IntKind.i64.wrap (t.id.attempt+1)=t.id.attempt+1:=bX om om
 obtain⟨M,hM⟩:=eX (BF t bump bS)
 rw[hM]
 unfold BF at hM
 obtain⟨tidy,aa⟩: ∃l,(if t.phase=1 then []else Gz t false)=l:=⟨_,rfl⟩
 rw[aa]at hM
 have ae:([.box fU,.box t.row,.box zx]:St).all (bT 3)=true:=by simp[bT,cS,cN,fU,zx,Tx.row]
 refine iV 0 func36 ntmps36 results36 λc hc hb=> ?_
 refine zO (zA ?_)
 simp[go_sem,dG]
 refine zO (zA ?_)
 simp[go_sem]
 refine ou (S:=Unit) [2,3,4,5,8,10] (λ_=> [.int .i64 bump,.int .i64 bS,.ptr 0 0,.ptr 1 0,.ptr 2 0,.sl .ro (tidy.map cT.row)]) (λ_=> [.box fU,.box t.row,.box zx]) (λ_=>True) hc hb ?_ ?_
 .by_cases p1:t.phase=1
  .have ad:(t.phase !=1)=false:=sU p1
   rw[ai2 p1]at aa
   subst aa
   refine zA ?_
   simp[go_sem,ad]
   exact zJ () ⟨tV,cc 3 (by simp[go_sem,fU,zx]) rfl ae dC ⟨zC rfl,zC rfl,xQ rfl,xQ rfl,xQ rfl,zK,tV⟩⟩
  .have ad:(t.phase !=1)=true:=sU p1
   rw[ai1 p1]at aa
   rw[aa]at ab
   refine zA ?_
   simp[go_sem,ad]
   refine pC ab ?_
   simp[go_sem]
   exact zJ () ⟨tV,cc 3 (by simp[go_sem,fU,zx]) rfl ae dC ⟨zC rfl,zC rfl,xQ rfl,xQ rfl,xQ rfl,zK,tV⟩⟩
 rintro _ _
 by_cases q:10<=t.id.attempt+1
 .have q':decide (10<=t.id.attempt+1)=true:=sU q
  rw[ai2 q]at hM
  unfold mx at hM
  have hw:=PA {t with bump:=if t.bump<bump then bump else t.bump,id:={t.id with attempt:=t.id.attempt+1},jz:=(28,0,[])}
  obtain⟨W,hW⟩: ∃W,rG {t with bump:=if t.bump<bump then bump else t.bump,id:={t.id with attempt:=t.id.attempt+1},jz:=(28,0,[])}=W:=⟨_,rfl⟩
  rw[hW]at hw hM
  subst hM
  refine zA ?_
  simp[go_sem,e1,q',zx]
  refine zL hw cB ⟨wN ⟨zF rfl,zF rfl,zF rfl,zF rfl,zF rfl,zF rfl,zX,zF rfl,zF rfl,zF rfl,zF rfl,zF rfl,zX,zF rfl,zF rfl,zX,tV⟩,tV⟩ rfl ?_
  simp[go_sem]
  exact wR
 .have q':decide (10<=t.id.attempt+1)=false:=sU q
  rw[ai1 q]at hM
  unfold mx at hM
  have hw:=WW {t with bump:=if t.bump<bump then bump else t.bump,id:={t.id with attempt:=t.id.attempt+1}} ⟨ht.cR,by show 0<=t.id.attempt+1/\t.id.attempt+1<=10;omega,ht.bV,ht.ko,ht.outs⟩ bS
  obtain⟨W,hW⟩: ∃W,pH {t with bump:=if t.bump<bump then bump else t.bump,id:={t.id with attempt:=t.id.attempt+1}} bS=W:=⟨_,rfl⟩
  rw[hW]at hw hM
  subst hM
  refine zA ?_
  simp[go_sem,e1,q',zx,fU]
  refine pC hw ?_
  simp[go_sem]
  exact wR
theorem WX (ht:jm t) (h9:t.id.attempt<=9) (bump bS:Int):jm (BF t bump bS).1:=by
 have h0:=ht.pG
 unfold BF
 split
 .exact⟨ht.cR,by show 0<=t.id.attempt+1/\t.id.attempt+1<=10;omega,A3 _,λx hx=>(by cases hx),A3 _,λx hx=>by cases hx⟩
 .exact WV (t:={t with bump:=mx t.bump bump,id:={t.id with attempt:=t.id.attempt+1}}) ⟨ht.cR,by show 0<=t.id.attempt+1/\t.id.attempt+1<=10;omega,ht.bV,ht.ko,ht.outs⟩ bS
theorem LO (t:Tx) (ht:jm t) (a:cT) (ha:oG a.cmd) (r:dR) (hr:fb r) (bS:Int):
  Pure prog 14 [dG bO,.agg t.row,.agg a.row,.agg r.row,.int .i64 bS] (.cz [.agg (sv t a r bS).1.row,.sl .ro ((sv t a r bS).2.map cT.row)]):=
 xN6 BF oF (λt b l h=>xU0 t h b l) (λt h=>WS t h) t ht a ha r hr bS
theorem WY (id:fq) (l:dZ) (hl:k7 l) (bS:Int):Pure prog 8 [dG bO,.agg id.row,.agg l.row,.int .i64 bS] (.agg (oh id l bS).row):=by
 have aj:=WG l hl
 have ae:=T9 l hl
 have aa:=VT l hl [] dC (λx hx=>by cases hx) dC
 rw[WQ,show lf []= [] from rfl]at aa
 obtain⟨M,hM⟩:=eX (oh id l bS)
 rw[hM]
 unfold oh at hM
 obtain⟨A,hA⟩:=eX ((fD l []).1)
 obtain⟨uJ,hU⟩:=eX (oE l [])
 rw[hA]at aa hM
 rw[hU]at aa
 have af:=PA ⟨{id with attempt:=0},l,0,zS,0,0,[],(1,0,[])⟩
 have ah:=PA ⟨{id with attempt:=0},l,0,zS,0,0,[],A⟩
 have ai:=WW ⟨{id with attempt:=0},l,0,zS,0,0,[],(0,0,[])⟩ ⟨hl,⟨E1 _,by show(0:Int)<=10;decide⟩,A3 _,λx hx=>(by cases hx),A3 _,λx hx=>by cases hx⟩ bS
 obtain⟨⟨ci,cr⟩,hP⟩: ∃P,oy l=P:=⟨_,rfl⟩
 rw[hP]at ae hM
 simp only at hM
 refine iV 0 func8 ntmps8 results8 λc hc hb=> ?_
 refine zO (zA ?_)
 simp[go_sem,dG]
 refine zO (zA ?_)
 simp[go_sem]
 refine zO ?_
 refine yI [(2,0)] 4 rfl kR kR ?_
 simp[go_sem]
 refine pD aj ?_
 simp[go_sem]
 by_cases q1:l.mode=0
 rotate_left
 .have ab:(l.mode !=0)=true:=sU q1
  rw[ai2 q1]at hM
  rw[show rG ⟨{id with attempt:=0},l,0,zS,0,0,[],(1,0,[])⟩=M from hM]at af
  refine zA ?_
  simp[go_sem,ab]
  refine zL af cB ⟨wN ⟨zF rfl,zF rfl,zF rfl,zF rfl,zF rfl,zF rfl,zX,zF rfl,zF rfl,zF rfl,zF rfl,zF rfl,zX,zF rfl,zF rfl,zX,tV⟩,tV⟩ rfl ?_
  simp[go_sem]
  exact zW (r:= .agg M.row) (zC rfl) ⟨rfl,rfl⟩
 have ab:(l.mode !=0)=false:=sU q1
 rw[ai1 (λh=>h q1)]at hM
 refine zA ?_
 simp[go_sem,ab]
 refine pC ae ?_
 simp[go_sem,wI]
 by_cases q2:cr=0
 rotate_left
 .have ad:(cr !=0)=true:=sU q2
  rw[ai2 q2]at hM
  rw[show rG ⟨{id with attempt:=0},l,0,zS,0,0,[],A⟩=M from hM]at ah
  simp[go_sem,ad]
  refine pC aa ?_
  simp[go_sem]
  refine zL ah cB ⟨wN ⟨zF rfl,zF rfl,zF rfl,zF rfl,zF rfl,zF rfl,zX,zF rfl,zF rfl,zF rfl,zF rfl,zF rfl,zX,zF rfl,zF rfl,zX,tV⟩,tV⟩ rfl ?_
  simp[go_sem]
  exact zW (r:= .agg M.row) (zC rfl) ⟨rfl,rfl⟩
 have ad:(cr !=0)=false:=sU q2
 rw[ai1 (λh=>h q2)]at hM
 rw[hM]at ai
 simp[go_sem,ad]
 refine zL ai cB ⟨zC rfl,wN ⟨zF rfl,zF rfl,zF rfl,zF rfl,zF rfl,zF rfl,zX,zF rfl,zF rfl,zF rfl,zF rfl,zF rfl,zX,zF rfl,zF rfl,zX,tV⟩,zC rfl,tV⟩ rfl ?_
 simp[go_sem]
 exact zW (r:= .agg M.row) (zC rfl) ⟨rfl,rfl⟩
end Go.Proofs.YtplackkccmeioaaGreat
namespace Go.Proofs.YtplackkccmeioaaGreat.R
open Go Go.Vx Go.Proofs.Tryz
set_option maxRecDepth 100000
theorem xd4 (v:Nat) (hv:v<18446744073709551616):bN prog 248 [eF [],.int .u64 v,.int .i64 8] [] λr s=>r= .cz [gv (be v 8),.int .i64 0]/\s=gj (be v 8):=by
 refine iV 0 func248 ntmps248 results248 λc hc hb=> ?_
 refine uO 17 dC ?_
 refine zA ?_
 simp[go_sem,eF,zN]
 refine zI (S:=Nat×Nat) [0,1,8,9] (λu=> [eF [],.int .u64 u.2,.cL 0 1 8 0 8,.int .i64 (7 - (u.1:Int))]) (λu=> [.cd (gJ v u.1) 1]) (λu=>8 - u.1) (λu=>u.1<=8/\u.2=v/256^u.1) hc hb (0,v) ⟨A3 _,sm⟩ ?_ ?_
 .exact cc 1 (by simp[gJ,be,zN]) rfl (KR (Gb _ _) _) (A3 _) (zD (by simp[go_sem,eF,zN,show IntKind.i64.wrap 7=7 by decide+kernel]) rfl)
 rintro⟨k,z⟩ ⟨hk,hz⟩
 simp only at hk hz
 have ah:z<=v:=hz▸Nat.div_le_self _ _
 have ab:=S9 (v:=v) hk
 refine zA ?_
 simp[go_sem]
 refine zV (λq=> ?_) (λq=> ?_)
 .have q:k+1<=8:=by simp at q;omega
  have e0:((7:Int) - k).toNat=7 - k:=om
  have e1:IntKind.i64.wrap (7 - (k:Int) - 1)=7 - ((k:Int)+1):=by rw[bX om om];omega
  have e2:IntKind.u64.wrap ((z:Int)/256)=((z/256:Nat):Int):=by rw[cW om om];omega
  have e3:IntKind.u8.wrap ((z:Int).tmod 256)=((UInt8.ofNat z).toNat:Int):=by
   rw[Dm om,show(z:Int)%256=((z%256:Nat):Int) by omega,tN]
   simp
  have aa:=Ta (v:=v) q
  rw[<-hz]at aa
  simp[go_sem]
  refine zH ⟨om,om⟩ ?_
  have ad: ∀h,(gJ v k)[7 - k]'h= [.int .u8 0]:=λh=>by
   have:(gJ v k)[7 - k]? =some [.int .u8 0]:=by
    unfold gJ
    rw[Ao (by simp;omega),Du,ai2 om]
   exact(A4.1 this).2
  simp at aa
  simp[go_sem,ab,show 7 - k<8 by omega,ad,e1,e2,e3]
  refine zJ (k+1,z/256) ⟨by simp only;omega,⟨q,by rw[hz,E4,Nat.div_div_eq_div_mul]⟩,cc 1 (by simp[aa]) rfl (KR (Gb _ _) _) (A3 _) (zD (by simp[go_sem,eF,zN]) rfl)⟩
 .have:k=8:=by simp at q;omega
  subst this
  have ae:z=0:=by rw[hz];exact Nat.div_eq_of_lt om
  subst ae
  simp[go_sem,eF,zN]
  refine zH (λr h=>by cases h) ?_
  have af:wY (gJ v 8) 0 8=zN (be v 8):=by
   rw[Tc]
   simp[wY,Aa,sk,zN,kZ]
  simp[go_sem,ab,af]
  refine zH ⟨Tb λr hr=>Gb v 8 r (B4 hr),by rw[zQ,sk];decide,q9 _⟩ ?_
  simp[go_sem]
  exact Pw [1] sm rfl (s:=gj (be v 8)) ⟨by simp[zQ,sk,yA],tV⟩ (r:= .cz [gv (be v 8),.int .i64 0]) (.inl rfl) ⟨rfl,rfl⟩
theorem xr1 (v:Nat) (hv:v<18446744073709551616):bN prog 188 [.int .u64 v] [] λr s=>r=gv (be v 8)/\s=gj (be v 8):=by
 refine iW 0 func188 ntmps188 results188 λc hc hb=>zM ?_
 simp[go_sem]
 refine AD (xd4 v hv) cB ⟨wQ rfl,zC rfl,zC rfl,tV⟩ ?_
 rintro r s ⟨rfl,rfl⟩
 simp[go_sem]
 exact mV 1 rfl rfl om (xQ rfl) ⟨rfl,rfl⟩
def nF (b:aiA) (v:Int):aiA:=b++eJ (gI v)
def tF (b s:aiA):aiA:=b++eJ s.length++s
def fF (b:aiA) (x:Bool):aiA:=b++ [if x then 1 else 0]
def sF (b:aiA) (s:fJ):aiA:=b++(be (s.wall+9223372036854775808).toNat 8++be (s.tie+9223372036854775808).toNat 8)
def yF (b:aiA) (t:fq):aiA:=nF (nF (nF (nF b t.node) t.eZ) t.seq) t.attempt
theorem qf (b:aiA) (v:Int) (hv:cZ v):(nF b v).length<=b.length+10:=by
 have:=xf (KK hv)
 simp[nF];omega
theorem GA (b s:aiA) (hs:s.length<=1048576):(tF b s).length<=b.length+s.length+10:=by
 have:=xf (v:=s.length) om
 simp[tF];omega
theorem PL (b:aiA) (x:Bool):(fF b x).length=b.length+1:=by simp[fF]
theorem wn0 (b:aiA) (s:fJ):(sF b s).length=b.length+16:=by simp[sF,sk]
theorem wo5 (b:aiA) (t:fq) (ht:t.ok):(yF b t).length<=b.length+40:=by
 have h1:=qf b t.node ht.node
 have h2:=qf (nF b t.node) t.eZ ht.eZ
 have h3:=qf (nF (nF b t.node) t.eZ) t.seq ht.seq
 have h4:=qf (nF (nF (nF b t.node) t.eZ) t.seq) t.attempt ht.attempt
 unfold yF;omega
theorem PM (b:aiA) (v:Int) (aa:b.length<=cH) (hv:cZ v):bN prog 87 [eF b,.int .i64 v] [] λr s=>r=gv (nF b v)/\s=gj (nF b v):=by
 refine iW 0 func87 ntmps87 results87 λc hc hb=>zM ?_
 simp[go_sem]
 refine pC (xN3 v hv) ?_
 simp[go_sem]
 refine AD (SV b (gI v) aa (KK hv)) cB ⟨zC rfl,zC rfl,tV⟩ ?_
 rintro r s ⟨rfl,rfl⟩
 simp[go_sem]
 exact mV 1 rfl rfl om (xQ rfl) ⟨rfl,rfl⟩
theorem x7 (b:aiA) (v:Int) (aa:b.length<=cH) (hv:cZ v):Pure prog 87 [eF b,.int .i64 v] (eF (nF b v)):=HY (PM b v aa hv)
theorem WZ (b s:aiA) (aa:b.length<=cH) (hs:s.length<=cH):bN prog 91 [eF b,.str s] [] λr st=>r=gv (tF b s)/\st=gj (tF b s):=by
 refine iW 0 func91 ntmps91 results91 λc hc hb=>zM ?_
 simp[go_sem]
 refine AD (xx8 b s aa hs) cB ⟨zC rfl,zC rfl,tV⟩ ?_
 rintro r st ⟨rfl,rfl⟩
 simp[go_sem]
 exact mV 1 rfl rfl om (xQ rfl) ⟨by simp[gv,tF],by simp[tF,gj]⟩
theorem PN (b s:aiA) (aa:b.length<=cH) (hs:s.length<=cH):Pure prog 91 [eF b,.str s] (eF (tF b s)):=HY (WZ b s aa hs)
theorem W0 (b:aiA) (x:Bool) (aa:b.length<=cH):bN prog 88 [gv b,.bool x] (gj b) λr s=>r=gv (fF b x)/\s=gj (fF b x):=by
 refine iW 1 func88 ntmps88 results88 λc hc hb=>zM ?_
 cases x
 .simp[go_sem,gv,gj,zQ]
  refine zH ⟨by unfold cH at*;omega,zY rfl⟩ ?_
  simp[go_sem]
  exact mV 1 rfl rfl om (xQ rfl) ⟨by simp[fF,zN],by simp[fF]⟩
 .simp[go_sem,gv,gj,zQ]
  refine zH ⟨by unfold cH at*;omega,zY rfl⟩ ?_
  simp[go_sem]
  exact mV 1 rfl rfl om (xQ rfl) ⟨by simp[fF,zN],by simp[fF]⟩
theorem xT2 (s:fJ) (hs:s.ok):Pure prog 130 [.agg s.row] (eF (be (s.wall+9223372036854775808).toNat 8++be (s.tie+9223372036854775808).toNat 8)):=by
 have h1:=hs.wall
 have h2:=hs.tie
 have l1:(s.wall+9223372036854775808).toNat<18446744073709551616:=om
 have l2:(s.tie+9223372036854775808).toNat<18446744073709551616:=om
 have r1:=S7 s.wall h1
 have r2:=S7 s.tie h2
 generalize (s.wall+9223372036854775808).toNat=o1 at l1 r1⊢
 generalize (s.tie+9223372036854775808).toNat=o2 at l2 r2⊢
 refine iW 0 func130 ntmps130 results130 λc hc hb=>zM ?_
 simp[go_sem]
 refine yI [(2,0),(3,3),(6,0),(7,0)] 1 rfl kR kR ?_
 simp[go_sem]
 refine pD r1 ?_
 simp[go_sem]
 refine FJ (xr1 o1 l1) cB (yE rfl) ?_
 simp[go_sem,gv,gj]
 refine pD r2 ?_
 simp[go_sem]
 refine pD (xT3 o2 l2) ?_
 simp[go_sem,eF,sk,zQ,yA,xz]
 refine zH (q9 _) ?_
 simp[go_sem]
 have e:zN (be o1 8)++zN (be o2 8)=zN (be o1 8++be o2 8):=by simp[zN]
 rw[e]
 exact zW zK ⟨rfl,rfl⟩
theorem wt2 (b:aiA) (t:fq) (aa:b.length<=cH - 40) (ht:t.ok):bN prog 90 [eF b,.agg t.row] [] λr s=>r=gv (yF b t)/\s=gj (yF b t):=by
 have h1:=qf b t.node ht.node
 have h2:=qf (nF b t.node) t.eZ ht.eZ
 have h3:=qf (nF (nF b t.node) t.eZ) t.seq ht.seq
 have c1:=x7 b t.node om ht.node
 have c2:=x7 (nF b t.node) t.eZ (by unfold cH at*;omega) ht.eZ
 have c3:=x7 (nF (nF b t.node) t.eZ) t.seq (by unfold cH at*;omega) ht.seq
 have c4:=PM (nF (nF (nF b t.node) t.eZ) t.seq) t.attempt (by unfold cH at*;omega) ht.attempt
 unfold yF
 generalize nF b t.node=b1 at c1 c2 c3 c4 h1 h2 h3⊢
 generalize nF b1 t.eZ=b2 at c2 c3 c4 h2 h3⊢
 generalize nF b2 t.seq=b3 at c3 c4 h3⊢
 refine iW 0 func90 ntmps90 results90 λc hc hb=>zM ?_
 simp[go_sem]
 refine yI [(3,0),(6,0),(9,0),(12,3)] 1 rfl kR kR ?_
 simp[go_sem]
 refine pD c1 ?_
 simp[go_sem]
 refine pD c2 ?_
 simp[go_sem]
 refine pD c3 ?_
 simp[go_sem]
 refine FJ c4 cB (yE rfl) ?_
 simp[go_sem,gv,gj,yA,xz]
 exact Pw [1] sm rfl (s:=gj (nF b3 t.attempt)) ⟨by simp[yA],tV⟩ (r:=gv (nF b3 t.attempt)) (.inl rfl) ⟨by simp[gv],by simp[gj]⟩
theorem s_w (b:aiA) (s:fJ) (aa:b.length<=cH) (hs:s.ok):bN prog 89 [gv b,.agg s.row] (gj b) λr st=>r=gv (sF b s)/\st=gj (sF b s):=by
 have hl:(be (s.wall+9223372036854775808).toNat 8++be (s.tie+9223372036854775808).toNat 8).length=16:=by simp[sk]
 refine iW 1 func89 ntmps89 results89 λc hc hb=>zM ?_
 simp[go_sem]
 refine pC (xT2 s hs) ?_
 unfold sF
 generalize (be (s.wall+9223372036854775808).toNat 8++be (s.tie+9223372036854775808).toNat 8)=x at hl⊢
 simp[go_sem,gv,gj,eF,zQ]
 refine zH ⟨by unfold cH at*;omega,q9 _⟩ ?_
 simp[go_sem]
 exact mV 1 rfl rfl om (xQ rfl) ⟨by simp[zN],rfl⟩
def EF (b:aiA) (l:List ca):aiA:=l.foldl (λb x=>tF (tF b x.lo) x.hi) b
def EG (b:aiA) (l:List dK):aiA:=l.foldl (λb x=>tF (fF (tF b x.key) x.drop) x.data) b
theorem W3: ∀(l:List ca) (b:aiA),(∀x∈l,x.lo.length<=2000/\x.hi.length<=2000)->(EF b l).length<=b.length+4020*l.length
 | [],b,_=>by simp[EF]
 |x::l,b,h=>by
  have h1:=h x sm
  have h2:=GA b x.lo om
  have h3:=GA (tF b x.lo) x.hi om
  have h4:=W3 l (tF (tF b x.lo) x.hi) λy hy=>h y (by simp[hy])
  simp only[EF,Bm]at h4⊢
  simp only[Af]
  omega
theorem W4: ∀(l:List dK) (b:aiA),(∀x∈l,x.key.length<=2000/\x.data.length<=20000)->(EG b l).length<=b.length+22030*l.length
 | [],b,_=>by simp[EG]
 |x::l,b,h=>by
  have h1:=h x sm
  have h2:=GA b x.key om
  have aa:=PL (tF b x.key) x.drop
  have h3:=GA (fF (tF b x.key) x.drop) x.data om
  have h4:=W4 l (tF (fF (tF b x.key) x.drop) x.data) λy hy=>h y (by simp[hy])
  simp only[EG,Bm]at h4⊢
  simp only[Af]
  omega
structure EH (x:iy):Prop where
 s: ∀y∈x.cI,y.lo.length<=2000/\y.hi.length<=2000
 w: ∀y∈x.writes,y.key.length<=2000/\y.data.length<=20000
 ns:x.cI.length<=1000
 nw:x.writes.length<=20000
def iO (x:iy):aiA:=nF (nF (nF (nF [1] x.kind) x.fi) x.node) x.home
def pI (x:iy):aiA:=nF (fF (nF (sF (yF (iO x) x.dN) x.at_) x.wall) x.yes) x.cI.length
def pJ (x:iy):aiA:=nF (EF (pI x) x.cI) x.writes.length
def IQ (x:iy):aiA:=EG (pJ x) x.writes
theorem wo7 (x:iy) (hx:x.ok) (hs:EH x):Pure prog 44 [.agg x.row] (eF (IQ x)):=by
 have a1:=qf [1] x.kind hx.kind
 have a2:=qf (nF [1] x.kind) x.fi hx.fi
 have a3:=qf (nF (nF [1] x.kind) x.fi) x.node hx.node
 have a4:=qf (nF (nF (nF [1] x.kind) x.fi) x.node) x.home hx.home
 have c1:=x7 [1] x.kind (by unfold cH;simp) hx.kind
 have c2:=x7 (nF [1] x.kind) x.fi (by unfold cH;simp at a1;omega) hx.fi
 have c3:=x7 (nF (nF [1] x.kind) x.fi) x.node (by unfold cH;simp at a1;omega) hx.node
 have c4:=x7 (nF (nF (nF [1] x.kind) x.fi) x.node) x.home (by unfold cH;simp at a1;omega) hx.home
 have aj:(iO x).length<=41:=by simp at a1;unfold iO;omega
 have e1:nF (nF (nF (nF [1] x.kind) x.fi) x.node) x.home=iO x:=rfl
 have ae:cZ x.cI.length:=by have:=hs.ns;unfold cZ;omega
 have af:cZ x.writes.length:=by have:=hs.nw;unfold cZ;omega
 have d1:=wt2 (iO x) x.dN (by unfold cH;omega) hx.dN
 have l1:=wo5 (iO x) x.dN hx.dN
 have d2:=s_w (yF (iO x) x.dN) x.at_ (by unfold cH;omega) hx.at_
 have l2:=wn0 (yF (iO x) x.dN) x.at_
 have d3:=PM (sF (yF (iO x) x.dN) x.at_) x.wall (by unfold cH;omega) hx.wall
 have l3:=qf (sF (yF (iO x) x.dN) x.at_) x.wall hx.wall
 have d4:=W0 (nF (sF (yF (iO x) x.dN) x.at_) x.wall) x.yes (by unfold cH;omega)
 have l4:=PL (nF (sF (yF (iO x) x.dN) x.at_) x.wall) x.yes
 have d5:=x7 (fF (nF (sF (yF (iO x) x.dN) x.at_) x.wall) x.yes) x.cI.length (by unfold cH;omega) ae
 have l5:=qf (fF (nF (sF (yF (iO x) x.dN) x.at_) x.wall) x.yes) x.cI.length ae
 have e2:nF (fF (nF (sF (yF (iO x) x.dN) x.at_) x.wall) x.yes) x.cI.length=pI x:=rfl
 rw[e1]at c4
 rw[e2]at d5 l5
 have ak:(pI x).length<=200:=om
 clear a1 a2 a3 a4 e1 e2 l5
 generalize nF [1] x.kind=u1 at c1 c2 c3 c4
 generalize nF u1 x.fi=u2 at c2 c3 c4
 generalize nF u2 x.node=u3 at c3 c4
 generalize al:iO x=k1 at c4 d1 d2 d3 d4 d5 l1 l2 l3 l4
 generalize yF k1 x.dN=v1 at d1 d2 d3 d4 d5 l1 l2 l3 l4
 generalize sF v1 x.at_=v2 at d2 d3 d4 d5 l2 l3 l4
 generalize nF v2 x.wall=v3 at d3 d4 d5 l3 l4
 generalize fF v3 x.yes=v4 at d4 d5 l4
 refine iV 0 func44 ntmps44 results44 λc hc hb=> ?_
 refine zA ?_
 simp[go_sem]
 refine yI [(3,0),(6,0),(9,0),(12,0)] 1 rfl kR kR ?_
 simp[go_sem]
 refine wP c1 cB (λ_=>⟨wQ rfl,zC rfl,tV⟩) rfl ?_
 simp[go_sem]
 refine pD c2 ?_
 simp[go_sem]
 refine pD c3 ?_
 simp[go_sem]
 refine pD c4 ?_
 simp[go_sem]
 refine yI [(3,3),(6,3),(9,3),(12,3)] 1 rfl kR kR ?_
 simp[go_sem]
 refine FJ d1 cB ⟨wQ rfl,zC rfl,tV⟩ ?_
 simp[go_sem,gv,gj,yA,xz]
 refine FI d2 cB [1] sm rfl (λi j o hi ho=> ?_) ⟨.inl rfl,zC rfl,tV⟩ (.inr rfl) ?_
 .cases i with
  |zero=>simp at hi;subst hi;simp[gj]at ho;subst ho;rfl
  |succ i=>simp at hi
 simp[go_sem,yX,fI,yA,gv,gj]
 refine FJ d3 cB ⟨wQ rfl,zC rfl,tV⟩ ?_
 simp[go_sem,gv,gj,yA,xz]
 refine FI d4 cB [2] sm rfl (λi j o hi ho=> ?_) ⟨.inl rfl,zC rfl,tV⟩ (.inr rfl) ?_
 .cases i with
  |zero=>simp at hi;subst hi;simp[gj]at ho;subst ho;rfl
  |succ i=>simp at hi
 simp[go_sem,yX,fI,yA,gv,gj]
 refine zL d5 cB ⟨wQ rfl,zC rfl,tV⟩ rfl ?_
 simp[go_sem]
 refine zI (S:=aiA×Nat) [1,3,4] (λu=> [.ptr 0 0,eF u.1,.int .i64 u.2]) (λ_=> [.box x.row]) (λu=>x.cI.length - u.2) (λu=>u.2<=x.cI.length/\u.1=EF (pI x) (x.cI.take u.2)) hc hb (pI x,0) ⟨A3 _,rfl⟩ ?_ ?_
 .exact aM 1 rfl ⟨.inl rfl,zC rfl,zC rfl,tV⟩
 rintro⟨b,i⟩ ⟨hi,aa⟩
 simp only at hi aa
 have ah:b.length<=100000000:=by
  have:=W3 (x.cI.take i) (pI x) λy hy=>hs.s y (B4 hy)
  have h2:=hs.ns
  have h3:(x.cI.take i).length<=1000:=by simp;omega
  rw[<-aa]at this
  omega
 refine zA ?_
 simp[go_sem]
 refine zV (λq=> ?_) (λq=> ?_)
 .have q:i<x.cI.length:=sU q
  have ai:=hs.s x.cI[i] (A8 _)
  have db:=(hx.cI.2 x.cI[i] (A8 _))
  have ad:EF (pI x) (x.cI.take (i+1))=tF (tF b x.cI[i].lo) x.cI[i].hi:=by
   rw[Cp,A0 q,Option.toList_some,aa]
   unfold EF
   rw[Cc]
   rfl
  have g1:=PN b x.cI[i].lo (by unfold cH;omega) (by unfold cH;omega)
  have g2:=PN (tF b x.cI[i].lo) x.cI[i].hi (by have:=GA b x.cI[i].lo om;unfold cH;omega) (by unfold cH;omega)
  obtain⟨sp,ab⟩:=eX (x.cI[i])
  rw[ab]at g1 g2 ad
  simp[go_sem]
  refine yI [(7,0),(14,0)] 1 rfl kR kR ?_
  simp[go_sem]
  refine zH ⟨q,by simp[A0 q,ca.row]⟩ ?_
  simp[go_sem,q,ab]
  refine pD g1 ?_
  simp[go_sem]
  refine zH ⟨q,by simp[A0 q,ca.row]⟩ ?_
  simp[go_sem,q,ab]
  refine pD g2 ?_
  simp[go_sem]
  refine zJ (tF (tF b sp.lo) sp.hi,i+1) ⟨by simp only;omega,⟨q,ad.symm⟩,aM 1 rfl (zD (by simp[go_sem];rw[zU (n:=100000) (by have:=hs.ns;omega) om];simp) rfl)⟩
 have q:i=x.cI.length:=by simp at q;omega
 subst q
 rw[List.take_length]at aa
 have l6:=qf b x.writes.length af
 have d6:=x7 b x.writes.length (by unfold cH;omega) af
 have e3:nF b x.writes.length=pJ x:=by rw[aa];rfl
 rw[e3]at d6 l6
 simp[go_sem]
 refine zL d6 cB ⟨wQ rfl,zC rfl,tV⟩ rfl ?_
 simp[go_sem]
 refine zI (S:=aiA×Nat) [1,3,5] (λu=> [.ptr 0 0,eF u.1,.int .i64 u.2]) (λ_=> [.box x.row]) (λu=>x.writes.length - u.2) (λu=>u.2<=x.writes.length/\u.1=EG (pJ x) (x.writes.take u.2)) hc hb (pJ x,0) ⟨A3 _,rfl⟩ ?_ ?_
 .exact aM 1 rfl ⟨.inl rfl,zC rfl,zC rfl,tV⟩
 have an:(pJ x).length<=100000010:=om
 clear aa ah hi l6 d6 e3
 rintro⟨b,i⟩ ⟨hi,aa⟩
 simp only at hi aa
 have ah:b.length<=600000000:=by
  have:=W4 (x.writes.take i) (pJ x) λy hy=>hs.w y (B4 hy)
  have h2:=hs.nw
  have h3:(x.writes.take i).length<=20000:=by simp;omega
  rw[<-aa]at this
  omega
 refine zA ?_
 simp[go_sem]
 refine zV (λq=> ?_) (λq=> ?_)
 .have q:i<x.writes.length:=sU q
  have ai:=hs.w x.writes[i] (A8 _)
  have ad:EG (pJ x) (x.writes.take (i+1))=tF (fF (tF b x.writes[i].key) x.writes[i].drop) x.writes[i].data:=by
   rw[Cp,A0 q,Option.toList_some,aa]
   unfold EG
   rw[Cc]
   rfl
  have m1:=GA b x.writes[i].key om
  have m2:=PL (tF b x.writes[i].key) x.writes[i].drop
  have g1:=WZ b x.writes[i].key (by unfold cH;omega) (by unfold cH;omega)
  have g2:=W0 (tF b x.writes[i].key) x.writes[i].drop (by unfold cH;omega)
  have g3:=PN (fF (tF b x.writes[i].key) x.writes[i].drop) x.writes[i].data (by unfold cH;omega) (by unfold cH;omega)
  obtain⟨sp,ab⟩:=eX (x.writes[i])
  rw[ab]at g1 g2 g3 ad
  generalize tF b sp.key=w1 at g1 g2 g3 ad
  generalize fF w1 sp.drop=w2 at g2 g3 ad
  simp[go_sem]
  refine yI [(7,3),(14,3),(21,0)] 1 rfl kR kR ?_
  have hg:((Option.map dK.row x.writes[i]?).getD []).length=3:=by simp[A0 q,dK.row]
  simp[go_sem]
  refine zH ⟨q,hg⟩ ?_
  simp[go_sem,q,ab]
  refine FJ g1 cB (yE rfl) ?_
  simp[go_sem,gv,gj,yA,xz]
  refine zH ⟨q,hg⟩ ?_
  simp[go_sem,q,ab]
  refine FI g2 cB [1] sm rfl (λi j o hi ho=> ?_) ⟨.inl rfl,zC rfl,tV⟩ (.inr rfl) ?_
  .cases i with
   |zero=>simp at hi;subst hi;simp[gj]at ho;subst ho;rfl
   |succ i=>simp at hi
  simp[go_sem,yX,fI,yA,gv,gj]
  refine zH ⟨q,hg⟩ ?_
  simp[go_sem,q,ab]
  refine wP g3 cB (λ_=>⟨wQ rfl,zC rfl,tV⟩) rfl ?_
  simp[go_sem]
  refine zJ (tF w2 sp.data,i+1) ⟨by simp only;omega,⟨q,ad.symm⟩,aM 1 rfl (zD (by simp[go_sem];rw[zU (n:=100000) (by have:=hs.nw;omega) om];simp) rfl)⟩
 have q:i=x.writes.length:=by simp at q;omega
 subst q
 rw[List.take_length]at aa
 simp[go_sem]
 exact zW zK ⟨by rw[aa];rfl,rfl⟩
theorem rI (x:iy) (hx:x.ok) (hs:EH x):Pure prog 17 [.agg x.row,.agg x.row] (.bool true):=by
 refine iW 0 func17 ntmps17 results17 λc hc hb=>zM ?_
 have h:=wo7 x hx hs
 generalize IQ x=u at h
 simp[go_sem]
 refine yI [(1,0),(4,0)] 2 rfl kR kR ?_
 simp[go_sem]
 refine pD h ?_
 simp[go_sem,eF]
 refine zH (xR u) ?_
 simp[go_sem]
 refine pD h ?_
 simp[go_sem,eF]
 refine zH (xR u) ?_
 simp[go_sem]
 exact wR
end Go.Proofs.YtplackkccmeioaaGreat.R
namespace Go.Proofs.YtplackkccmeioaaGreat
open Go Go.Vx R Go.Proofs.Tryz
set_option maxRecDepth 100000
variable {t:Tx}{l:cp}
theorem LP (n:Nat) (t:Int) (v:bK):(nK n t v).length<=141:=by
 have:=Tg v
 unfold nK
 split<;>simp<;>omega
theorem yZ1 {a s:aiA} {b:aiA×aiA} (ha:a.length<=141) (hb:b.1.length<=142/\b.2.length<=142):(pe a s b).1.length<=142/\(pe a s b).2.length<=142:=by
 have h1:(a++ [0]).length<=142:=by simp;omega
 unfold pe nM tR
 repeat' split
 all_goals (refine⟨?_, ?_⟩<;>(try simp only)<;>omega)
theorem W5 (n:Nat) (t:Int) (name:aiA): ∀(l:List bJ) (b:aiA×aiA),(b.1.length<=142/\b.2.length<=142)->(tS n t name l b).1.length<=142/\(tS n t name l b).2.length<=142
 | [],b,h=>h
 |e::l,b,h=>by
  unfold tS
  rw[Bm]
  refine W5 n t name l _ ?_
  split
  .exact h
  .exact yZ1 (LP ..) h
theorem yp7 (t:Int) (st:bW):(nP bO t st).1.length<=142/\(nP bO t st).2.length<=142:=by
 have aa:(lH bO.length t).1.length<=142/\(lH bO.length t).2.length<=142:=by
  unfold lH
  split<;>simp
 unfold nP
 split
 .split
  .exact aa
  .rename_i name _
   have h:=W5 bO.length t name (nI st) _ aa
   refine⟨h.1, ?_⟩
   simp only[nM]
   split
   .exact h.1
   .exact h.2
 .exact aa
def vD (s:ca):Prop:=s.lo.length<=142/\s.hi.length<=142
theorem xz0 {st:bW}: ∀p∈p0 st,vD p.2:=λp hp=>by
 unfold p0 at hp
 split at hp
 .cases hp
 split at hp
 .obtain⟨r,_,hp⟩:=List.mem_flatMap.1 hp
  unfold pn at hp
  split at hp
  .cases hp
  split at hp
  .cases hp
  split at hp
  .cases hp
  split at hp
  .cases hp
  split at hp
  .cases hp
  .rw[B7.1 hp]
   refine⟨Ax (LP ..) dC, ?_⟩
   simp only[An,Bl]
   exact Nat.succ_le_succ (LP ..)
 .obtain⟨g,_,rfl⟩:=Ab.1 hp
  exact yp7 _ _
theorem xY4 {r:Int} {x:ca} {uJ:US} (hx:vD x) (hU: ∀y∈uJ,∀s∈y.2,vD s): ∀y∈l9 r x uJ,∀s∈y.2,vD s:=λy hy=>by
 unfold l9 at hy
 split at hy
 .exact hU y hy
 unfold ja at hy
 split at hy
 .obtain⟨i,hi⟩:=Ar.1 hy
  rw[List.getElem?_modify]at hi
  cases e:uJ[i]? with
  |none=>rw[e]at hi;cases hi
  |some z=>
   rw[e]at hi
   have hz:=hU z (Bk e)
   simp only[Option.map_eq_map,Ba,ai5]at hi
   rw[<-hi]
   split
   .split
    .exact hz
    .intro s hs
     rcases Ak.1 hs with hs|hs
     .exact hz s hs
     .rw[B7.1 hs];exact hx
   .exact hz
 .rcases Ak.1 hy with hy|hy
  .exact hU y (B4 hy)
  .rcases Ae.1 hy with rfl|hy
   .intro s hs
    rw[B7.1 hs];exact hx
   .exact hU y (Bx hy)
theorem W6: ∀{ps:List (Int×ca)} {uJ:US},(∀p∈ps,vD p.2)->(∀y∈uJ,∀s∈y.2,vD s)-> ∀y∈nX ps uJ,∀s∈y.2,vD s
 | [],_,_,hU=>hU
 |p::ps,uJ,hp,hU=>W6 (ps:=ps) (uJ:=l9 p.1 p.2 uJ) (λq hq=>hp q (B5 _ hq)) (xY4 (hp p (Av ..)) hU)
theorem yS2 (cR:dZ): ∀y∈lJ cR,∀s∈y.2,vD s:=by
 have hU:lJ cR=nX (cR.stmts.flatMap p0) []:=Io cR.stmts []
 rw[hU]
 exact W6 (λp hp=>by
  obtain⟨st,_,hp⟩:=List.mem_flatMap.1 hp
  exact xz0 p hp) (λy hy=>by cases hy)
theorem xy1 {k d:aiA} {g:Int} (h:ma g k d):k.length<=2000:=by
 obtain⟨_,_,h3⟩:=yP6 h
 unfold fo at h3
 split at h3
 .rename_i e;exact absurd (ai6 (·.2.2) h3) e
 split at h3
 .exact absurd (ai6 (·.2.2) h3) sm
 .have:=ai6 (·.2.1) h3
  simp only at this
  rw[<-this]
  exact Ax (LP ..) dC
theorem xx7 {cR:dZ} (hl:k7 cR) {b:Mp aiA} {aa:List Ln} (hn:cM b aa) (hk:oD aa) (hlen:aa.length<=7500): ∀q∈oE cR aa,q.2.length<=20000/\ ∀w∈q.2,w.p.2.length<=2000/\w.data.length<=20000:=by
 intro q hq
 unfold oE at hq
 by_cases e:(fD cR aa).1.1≠0
 .rw[ai2 e]at hq;cases hq
 rw[ai1 e]at hq
 obtain⟨⟨b',ab⟩,ad,ah⟩:=Pt hl hn hk (sU e)
 obtain⟨now,hN⟩:=eX ((fD cR aa).2)
 rw[hN]at ab ad ah hq
 have ae:=V6 hn.rows ab.rows hn.je ab.je rfl
 obtain⟨hr,af⟩:=Lw hn.je ab.je
 have ai:=Wb aa now
 obtain⟨W,hW⟩:=eX (jd aa now)
 rw[hW]at ae hr af ai hq
 rw[Vp hr ae]at hq
 obtain⟨r,rfl⟩: ∃r:Int,q=(r,W.filter λw=>w.p.1==r):=by
  simp only[Ak]at hq
  rcases hq with h|h|h|h<;>exact⟨_,(Wu h).1⟩
 refine⟨Ax (Dj _ _) om,λw hw=> ?_⟩
 have aj:=(Bn.1 hw).1
 have key: ∀x:Ln,xt x->x.k.length<=2000/\(xL x.v).length<=20000:=λx hx=>⟨xy1 hx,yZ3 (p:=x.at) hx⟩
 rcases(af w).1 aj with ⟨_,g2,⟨x,hx,ak⟩,_⟩|⟨_,x,hx,g2,g3,_⟩
 .exact⟨by rw[<-ak];exact(key x (hk x hx).2).1,by rw[g2];exact A3 _⟩
 .exact⟨by rw[<-g2];exact(key x (ad x hx).2).1,by rw[<-g3];exact(key x (ad x hx).2).2⟩
structure EI (a:cT):Prop where
 ok:a.cmd.ok
 s:R.EH a.cmd
theorem PO (a:cT) (h:EI a):Pure prog 18 [.agg a.row,.agg a.row] (.bool true):=by
 have aa:=R.rI a.cmd h.ok h.s
 refine iW 0 func18 ntmps18 results18 λc hc hb=>zM ?_
 simp[go_sem]
 refine pC aa ?_
 simp[go_sem]
 exact wR
theorem xe3 (l:List cT) (hl:l.length<=100000) (h: ∀a∈l,EI a):Pure prog 16 [.sl .ro (l.map cT.row),.sl .ro (l.map cT.row)] (.bool true):=by
 refine iV 0 func16 ntmps16 results16 λc hc hb=> ?_
 refine zA ?_
 simp[go_sem]
 refine zI (S:=Nat) [0,1,5] (λi=> [.sl .ro (l.map cT.row),.sl .ro (l.map cT.row),.int .i64 (i:Int)]) (λ_=> []) (λi=>l.length - i) (λi=>i<=l.length) hc hb 0 (A3 _) ?_ ?_
 .exact aO
 rintro i hi
 by_cases q:i<l.length
 rotate_left
 .refine zA ?_
  simp[go_sem,q]
  exact wR
 have ei:=zU q om
 obtain⟨y,hy⟩:=eX (l[i])
 have hs:=PO y (h y (hy▸A8 q))
 refine zA ?_
 simp[go_sem,q]
 refine yI [(8,0)] 0 rfl kR kR ?_
 simp[go_sem,q,hy]
 refine pD hs ?_
 simp[go_sem,ei]
 exact zJ (i+1) ⟨om,om,aO⟩
theorem W7 {t:Tx} {a:cT} {r:dR}: ∀{ls acc:List cp},(∀l∈ls,gC t l≠some a)->mc t a r acc ls= .done (acc++ls)
 | [],acc,_=>by rw[mc,Az]
 |l::ls,acc,h=>by
  rw[mc,ai1 (h l (Av ..)),W7 λx hx=>h x (B5 _ hx),Cn]
  rfl
theorem W8 (hp:t.phase=1\/t.phase=2) (x:List cp):ji {t with bV:=x}=x.filterMap (gC t):=by
 unfold ji
 rw[ai2 hp]
 rfl
theorem PQ {l':cp} {ls:List cp} {a:cT} {r:dR} (bS:Int) (hp:t.phase=1\/t.phase=2) (hl:t.bV=l::ls) (ha:gC t l=some a) (he:mR a=a) (hs: ∀x∈ls,gC t x≠some a)
  (h1:r.err≠25) (h2:r.err≠27) (hg:gL t.phase l r=(l',0,false,false)) (h5:l'.state≠5):sv t a r bS=({t with bV:=l'::ls},[]):=by
 have ad:((ji t).any λy=>decide (y=a))=true:=by
  refine List.any_eq_true.2 ⟨a, ?_,sm⟩
  unfold ji
  rw[ai2 hp,hl]
  exact Dy.2 ⟨l,Av ..,ha⟩
 have aa:mc t a r [] (l::ls)= .done (l'::ls):=by
  rw[mc,ai2 ha,hg,ai1 sm,ai1 sm,W7 hs]
  rfl
 have ab:(l'::ls).any (λl=>l.state !=5)=true:=by
  rw[aiy]
  simp[h5]
 unfold sv ED
 rw[he,ai1 (by simp[ad,h1,h2]),ai1 om,hl,aa]
 unfold IK uw
 simp only
 rw[ai2 ab]
structure uy (t:Tx) (l:cp):Prop where
 state:l.state=t.phase
 dN:l.dN=zT
 home:l.home=0
 yes:l.yes=false
theorem uy.ask (h:uy t l) (hp:t.phase=1\/t.phase=2): ∃c:iy,gC t l=some ⟨l.range,c⟩/\c.fi=0/\(c.kind=2\/c.kind=3)/\c.cI=(if t.phase=1 then l.cI else [])/\c.writes=(if t.phase=1 then []else l.writes)/\c=⟨t.phase+1,0,0,if t.phase=1 then 0 else t.home,t.id,t.at_,0,false,c.cI,c.writes⟩:=by
 unfold gC
 rcases hp with hp|hp
 .rw[h.state,hp]
  exact⟨_,rfl,rfl,.inl rfl,rfl,rfl,rfl⟩
 .rw[h.state,hp]
  exact⟨_,rfl,rfl,.inr rfl,rfl,rfl,rfl⟩
theorem xM3 {ls:List cp} (hp:t.phase=1\/t.phase=2) (hl:t.bV=l::ls) (hb: ∀x∈t.bV,uy t x) (hr: ∀x∈ls,x.range≠l.range) (dN:fq) (home:Int) (yes:Bool) (bS:Int):
  ∃(a:cT) (u v:Tx) (rest:List cT),ji t=a::rest/\sv t a ⟨20,[],dN,home,zS,0,false⟩ bS=(u,[])/\ji u=⟨home,⟨4,0,0,0,dN,zS,0,false,[],[]⟩⟩::rest/\u={t with bV:={l with state:=3,dN:=dN,home:=home}::ls}/\
   sv u ⟨home,⟨4,0,0,0,dN,zS,0,false,[],[]⟩⟩ ⟨0,[],zT,0,zS,0,yes⟩ bS=(v,[])/\ji v=lS l.range dN yes::rest/\v={t with bV:={l with state:=4,dN:=dN,home:=home,yes:=yes}::ls}/\
   a.range=l.range/\sv v (lS l.range dN yes) ⟨0,[],zT,0,zS,0,false⟩ bS=(t,[]):=by
 have ab:=hb l (hl▸Av ..)
 have ad: ∀x∈ls,uy t x:=λx hx=>hb x (hl▸B5 _ hx)
 obtain⟨c,hc,he,hk,_⟩:=ab.ask hp
 have hs: ∀x∈ls,∀a:cT,(a.range=l.range\/(a.cmd.kind≠2/\a.cmd.kind≠3))->gC t x≠some a:=λx hx a ha h=>by
  obtain⟨cx,ae,_,aa,_⟩:=(ad x hx).ask hp
  rw[ae]at h
  cases h
  rcases ha with ha|ha
  .exact hr x hx ha
  .rcases aa with aa|aa
   .exact ha.1 aa
   .exact ha.2 aa
 have af:l.state=1\/l.state=2:=by rw[ab.state];exact hp
 have n3:l.state≠3:=om
 have n4:l.state≠4:=om
 have g1:gL t.phase l ⟨20,[],dN,home,zS,0,false⟩=({l with state:=3,dN:=dN,home:=home},0,false,false):=by
  unfold gL
  simp[n3,n4]
 have g2:gL t.phase {l with state:=3,dN:=dN,home:=home} ⟨0,[],zT,0,zS,0,yes⟩=({l with state:=4,dN:=dN,home:=home,yes:=yes},0,false,false):=by
  unfold gL
  simp
 have g3:gL t.phase {l with state:=4,dN:=dN,home:=home,yes:=yes} ⟨0,[],zT,0,zS,0,false⟩=(l,0,false,false):=by
  unfold gL
  obtain⟨e1,e2,e3,e4⟩:=ab
  have:l.state=if t.phase=2 then 2 else 1:=by rw[e1];rcases hp with h|h<;>rw[h]<;>rfl
  obtain⟨lr,cd,lh,iH,lw,lp,ah,ly⟩:=l
  simp only at e1 e2 e3 e4 this
  subst e2 e3 e4
  simp[<-this]
 have a0:ji t=⟨l.range,c⟩::ls.filterMap (gC t):=by
  unfold ji
  rw[ai2 hp,hl,aip,hc]
 refine⟨⟨l.range,c⟩,_,_,ls.filterMap (gC t),a0,PQ bS hp hl hc ?_ (λx hx=>hs x hx _ (.inl rfl)) sm sm g1 sm, ?_,rfl,
  PQ (t:={t with bV:={l with state:=3,dN:=dN,home:=home}::ls}) bS hp rfl ?_ rfl (λx hx=>hs x hx _ (.inr sm)) sm sm g2 sm, ?_,rfl,rfl, ?_⟩
 .unfold mR
  obtain⟨k,ep,_⟩:=c
  simp only at he
  subst he
  rfl
 .rw[W8 hp,aip]
  rfl
 .rfl
 .rw[W8 hp,aip]
  rfl
 .have h:=PQ (t:={t with bV:={l with state:=4,dN:=dN,home:=home,yes:=yes}::ls}) (l':=l) (a:=lS l.range dN yes) (r:=⟨0,[],zT,0,zS,0,false⟩) bS hp rfl rfl rfl (λx hx=>hs x hx _ (.inr (by unfold lS;simp))) sm sm g3 om
  rw[h,<-hl]
theorem xV5 (ht:jm t) {bV:List cp} (hl:bV.length<=4) (hg: ∀x∈bV,jY x):jm (uw oF t bV):=by
 unfold uw
 split
 .exact⟨ht.cR,ht.pG,hl,hg,ht.outs⟩
 split
 .exact WU (t:={t with bV:=bV}) ⟨ht.cR,ht.pG,hl,hg,ht.outs⟩
 .exact⟨ht.cR,ht.pG,hl,hg,ht.outs⟩
def PS:uv->Prop
 | .done l=>l.length<=4/\ ∀x∈l,jY x
 | .wait=>True
 | .again l _=>l.length<=4/\ ∀x∈l,jY x
theorem PT {t:Tx} {a:cT} {r:dR} (hr:fb r): ∀{ls acc:List cp},acc.length+ls.length<=4->(∀x∈acc,jY x)->(∀x∈ls,jY x)->PS (mc t a r acc ls)
 | [],acc,hl,ha,_=>by rw[mc];exact⟨hl,ha⟩
 |l::ls,acc,hl,ha,hg=>by
  have ab:=hg l (Av ..)
  have ad: ∀x∈ls,jY x:=λx hx=>hg x (B5 _ hx)
  rw[Af]at hl
  have aa: ∀y:cp,jY y-> ∀x∈acc++ [y],jY x:=λy hy x hx=>by
   rcases Ak.1 hx with hx|hx
   .exact ha x hx
   .rw[B7.1 hx];exact hy
  rw[mc]
  split
  .split
   .refine⟨by simp;omega,λx hx=> ?_⟩
    rcases Ak.1 hx with hx|hx
    .exact ha x hx
    .rcases Ae.1 hx with rfl|hx
     .exact PE _ ab hr
     .exact ad x hx
   split
   .trivial
   .exact PT hr (by simp;omega) (aa _ (PE _ ab hr)) ad
  .exact PT hr (by simp;omega) (aa _ ab) ad
theorem xy0 (ht:jm t) (h9:t.id.attempt<=9) (a:cT) {r:dR} (hr:fb r) (bS:Int):jm (sv t a r bS).1:=by
 unfold sv ED
 split
 .exact ht
 split
 .split
  .exact ht
  split
  .exact⟨ht.cR,ht.pG,ht.bV,ht.ko,ht.outs⟩
  .exact WX ht h9 0 bS
 .have h:=PT (t:=t) (a:=mR a) hr (ls:=t.bV) (acc:= []) (by simpa using ht.bV) (λx hx=>by cases hx) ht.ko
  revert h
  generalize mc t (mR a) r [] t.bV=L
  intro h
  cases L with
  |done l=>exact xV5 ht h.1 h.2
  |wait=>exact⟨ht.cR,ht.pG,A3 _,λx hx=>(by cases hx),A3 _,λx hx=>by cases hx⟩
  |again l b=>exact WX (t:={t with bV:=l}) ⟨ht.cR,ht.pG,h.1,h.2,ht.outs⟩ h9 b bS
theorem W9 {l:dZ} (hl:k7 l) (id:fq):jm ⟨{id with attempt:=0},l,0,zS,0,0,[],(0,0,[])⟩:=
 ⟨hl,⟨E1 _,by show(0:Int)<=10;decide⟩,A3 _,λx hx=>(by cases hx),A3 _,λx hx=>by cases hx⟩
theorem xr8 {l:dZ} (hl:k7 l) (id:fq) (bS:Int):jm (oh id l bS):=by
 unfold oh
 split
 .exact⟨hl,⟨E1 _,by show(0:Int)<=10;decide⟩,A3 _,λx hx=>(by cases hx),A3 _,λx hx=>by cases hx⟩
 split
 .exact⟨hl,⟨E1 _,by show(0:Int)<=10;decide⟩,A3 _,λx hx=>(by cases hx),(LM hl (vs:= []) dC).1⟩
 .exact WV (W9 hl id) bS
theorem xy4 (t:Tx):(oF t).id=t.id/\(oF t).at_=t.at_:=by
 unfold oF
 split<;>exact⟨rfl,rfl⟩
theorem Xa (t:Tx) (bS:Int):(pH t bS).id=t.id/\(pH t bS).at_=⟨mx bS t.bump,lR t.id⟩:=by
 unfold pH
 split
 .exact xy4 _
 .exact⟨rfl,rfl⟩
theorem Xb (id:fq) (l:dZ) (bS:Int):(oh id l bS).id={id with attempt:=0}:=by
 unfold oh
 split
 .rfl
 split
 .rfl
 .exact(Xa _ _).1
structure IS (t:Tx):Prop where
 ph:(t.phase=1\/t.phase=2)/\t.bV≠ []
 ko: ∀x∈t.bV,uy t x
 up:(t.bV.map (·.range)).Pairwise (· < ·)
 short: ∀x∈t.bV,(x.cI.length<=1000/\ ∀s∈x.cI,vD s)/\x.writes.length<=20000/\ ∀w∈x.writes,w.key.length<=2000/\w.data.length<=20000
 home:0<=t.home/\t.home<=3
 dw: ∀x∈t.bV,0<=x.range/\x.range<=3
theorem xO2 (ht:jm t):((oF t).phase=4/\(oF t).bV= [])\/IS (oF t):=by
 have hN:=PH ht.bV ht.ko
 obtain⟨h1,h2,h3⟩:=LM ht.cR hN
 obtain⟨m,hT⟩:=V5 (t.bV.map kC)
 have hlen:(lf (t.bV.map kC)).length<=(kn (t.bV.map kC)).length:=hT.len
 have aa:=xx7 ht.cR hT.now (λx hx=>⟨hT.now.rows x hx,(hT.lines x hx).1⟩) (by show(lf (t.bV.map kC)).length<=7500;omega)
 change∀q∈oE t.cR (lf (t.bV.map kC)),_ at aa
 unfold oF
 obtain⟨P,hP⟩:=eX (oE t.cR (lf (t.bV.map kC)))
 rw[hP]at h2 aa⊢
 cases P with
 |nil=>exact .inl ⟨rfl,rfl⟩
 |cons p l=>
  refine .inr ⟨⟨.inr rfl,sm⟩,λx hx=> ?_, ?_,λx hx=> ?_, ?_,λx hx=> ?_⟩
  .obtain⟨q,hq,rfl⟩:=Ab.1 (show x∈(p::l).map rH from hx)
   exact⟨rfl,rfl,rfl,rfl⟩
  .show(((p::l).map rH).map (·.range)).Pairwise (· < ·)
   rw[Bb,D1]
   exact h2.up
  .obtain⟨q,hq,rfl⟩:=Ab.1 (show x∈(p::l).map rH from hx)
   obtain⟨g1,g2⟩:=aa q hq
   refine⟨⟨A3 _,λs hs=>by cases hs⟩,by show(q.2.map wG).length<=20000;rw[Ai];exact g1,λw hw=> ?_⟩
   obtain⟨z,hz,rfl⟩:=Ab.1 (show w∈q.2.map wG from hw)
   exact g2 z hz
  .have:=h2.dw p (Av ..)
   exact⟨this.1,this.2.1⟩
  .obtain⟨q,hq,rfl⟩:=Ab.1 (show x∈(p::l).map rH from hx)
   have:=h2.dw q hq
   exact⟨this.1,this.2.1⟩
theorem yL0 (ht:jm t) (bS:Int):((pH t bS).phase=4/\(pH t bS).bV= [])\/IS (pH t bS):=by
 unfold pH
 split
 .exact xO2 (LN ht bS)
 .rename_i hn
  refine .inr ⟨⟨.inl rfl,λh=>hn (List.map_eq_nil_iff.1 h)⟩,λx hx=> ?_, ?_,λx hx=> ?_,⟨E1 _,by show(0:Int)<=3;decide⟩,λx hx=> ?_⟩
  .obtain⟨q,hq,rfl⟩:=Ab.1 (show x∈(lJ t.cR).map p9 from hx)
   exact⟨rfl,rfl,rfl,rfl⟩
  .show(((lJ t.cR).map p9).map (·.range)).Pairwise (· < ·)
   rw[Bb]
   exact(UD t.cR).rh
  .obtain⟨q,hq,rfl⟩:=Ab.1 (show x∈(lJ t.cR).map p9 from hx)
   exact⟨⟨Wt ht.cR q hq,yS2 t.cR q hq⟩,A3 _,λw hw=>by cases hw⟩
  .obtain⟨q,hq,rfl⟩:=Ab.1 (show x∈(lJ t.cR).map p9 from hx)
   have:=Pv t.cR q hq
   exact⟨this.1,by show q.1<=3;omega⟩
theorem xr9 {l:dZ} (hl:k7 l) (id:fq) (bS:Int):((oh id l bS).phase=4/\(oh id l bS).bV= [])\/(IS (oh id l bS)/\(oh id l bS).at_=⟨mx bS 0,lR {id with attempt:=0}⟩):=by
 unfold oh
 split
 .exact .inl ⟨rfl,rfl⟩
 split
 .exact .inl ⟨rfl,rfl⟩
 .rcases yL0 (W9 hl id) bS with h|h
  .exact .inl h
  .exact .inr ⟨h,(Xa _ _).2⟩
theorem IS.asks (h:IS t) (hid:t.id.ok) (ae:t.at_.ok): ∀a∈ji t,EI a:=λa ha=>by
 unfold ji at ha
 rw[ai2 h.ph.1]at ha
 obtain⟨l,hl,ad⟩:=Dy.1 ha
 obtain⟨c,hc,_,_,h1,h2,h3⟩:=(h.ko l hl).ask h.ph.1
 rw[hc]at ad
 cases ad
 obtain⟨⟨s1,s2⟩,s3,s4⟩:=h.short l hl
 have aa:c.cI.length<=1000/\ ∀s∈c.cI,vD s:=by
  rw[h1]
  split
  .exact⟨s1,s2⟩
  .exact⟨A3 _,λs hs=>by cases hs⟩
 have ab:c.writes.length<=20000/\ ∀w∈c.writes,w.key.length<=2000/\w.data.length<=20000:=by
  rw[h2]
  split
  .exact⟨A3 _,λs hs=>by cases hs⟩
  .exact⟨s3,s4⟩
 have af:=h.ph.1
 have ah:=h.home
 refine⟨?_, ?_⟩
 .show c.ok
  rw[h3]
  refine⟨by show _<=t.phase+1/\t.phase+1<=_;omega,sm,sm, ?_,hid,ae,sm,tV,⟨by show c.cI.length<=maxLen;unfold maxLen;omega,λs hs=> ?_⟩,⟨by show c.writes.length<=maxLen;unfold maxLen;omega,λw hw=> ?_⟩⟩
  .show _<=(if t.phase=1 then 0 else t.home)/\(if t.phase=1 then 0 else t.home)<=_
   split<;>omega
  .have:=aa.2 s hs
   exact⟨by have:=this.1;unfold maxLen;omega,by have:=this.2;unfold maxLen;omega⟩
  .have:=ab.2 w hw
   exact⟨by have:=this.1;unfold maxLen;omega,tV,by have:=this.2;unfold maxLen;omega⟩
 .exact⟨λs hs=>⟨by have:=(aa.2 s hs).1;omega,by have:=(aa.2 s hs).2;omega⟩,ab.2,aa.1,ab.1⟩
theorem Xc:Pure prog 7 [] (dG bO):=by
 have aa:=xB0
 refine iV 0 func7 ntmps7 results7 λc hc hb=> ?_
 refine zA ?_
 simp[go_sem]
 refine pC aa ?_
 simp[go_sem,Em]
 exact zW (r:=dG bO) xO4 ⟨rfl,rfl⟩
def pK:aiA:= [83,69,76,69,67,84,32,42,32,70,82,79,77,32,71]
def pL:fq:=⟨1,1,1,0⟩
def r0:dR:=⟨0,[],zT,0,zS,0,false⟩
def oH:Tx:=oh pL (sf pK).1 10
def a24:cT:=(ji oH).getD 0 PB
theorem wr7:((ji oH).length,a24.range,oH.at_.wall)=(1,2,10):=kR
theorem wm9:((sv oH a24 r0 20).1.phase,(sv oH a24 r0 20).1.at_.wall)=(4,10):=kR
theorem Xd:fb r0:=⟨⟨A3 _,λp hp=>by cases hp⟩,dC,dC⟩
theorem PU:cZ (lR pL):=by decide+kernel
theorem LQ {ρ:Nat->Nat} (r:dR) {g:Tag}:cP ρ (.agg r.row) (.agg [.int .i64 r.err,.sl g (r.dO.map ix.row),.int .i64 r.dN.node,.int .i64 r.dN.eZ,.int .i64 r.dN.seq,.int .i64 r.dN.attempt,.int .i64 r.home,.int .i64 r.at_.wall,.int .i64 r.at_.tie,.int .i64 r.wall,.bool r.yes]):=by
 unfold dR.row
 exact wN ⟨zF rfl,zX,zF rfl,zF rfl,zF rfl,zF rfl,zF rfl,zF rfl,zF rfl,zF rfl,zF rfl,tV⟩
theorem Xe (l:dZ) (hl:k7 l) (bS:Int):jm (oh pL l bS)/\(oh pL l bS).id.attempt<=9:=⟨xr8 hl pL bS,by rw[Xb];show(0:Int)<=9;decide⟩
theorem xs0:Pure prog 6 [] (.bool true):=by
 have hl:=SF pK dC
 have ae:=SM pK
 have aa:=WY pL (sf pK).1 ae 10
 obtain⟨hT,h9⟩:=Xe (sf pK).1 ae 10
 have ab:=IM oH (by have:=hT.bV;show oH.bV.length<=_;unfold oH;omega) hT.ko
 have hr:=wr7
 have ah:=wm9
 obtain⟨a,ha⟩: ∃a,ji oH= [a]:=by
  have h:=ai6 Prod.fst hr
  simp only at h
  cases e:ji oH with
  |nil=>rw[e]at h;cases h
  |cons x l=>cases l with
   |nil=>exact⟨x,rfl⟩
   |cons y l=>rw[e]at h;simp at h
 have ai:a24=a:=by unfold a24;rw[ha];rfl
 have aj:oG a.cmd:=LL hT.ko a (by show a∈ji oH;rw[ha];exact B7.2 rfl)
 have af:=LO oH hT a aj r0 Xd 20
 have ad:=xy0 (t:=oH) hT h9 a Xd 20
 rw[ai]at hr ah
 obtain⟨ar,ak⟩:=Prod.mk.inj (Prod.mk.inj hr).2
 obtain⟨al,au⟩:=Prod.mk.inj ah
 obtain⟨uJ,hU⟩:=eX (sv oH a r0 20)
 rw[hU]at af ad al au
 have an:=WM uJ.1 ad 10
 have ao:=WM uJ.1 ad 9
 rw[ai2 ⟨al,om⟩]at an
 rw[ai1 (λh=>by have:=h.2;omega)]at ao
 rw[ha]at ab
 change Pure prog 8 _ (.agg oH.row)at aa
 obtain⟨L,hL⟩:=eX ((sf pK).1)
 rw[hL]at hl aa
 obtain⟨T,aq⟩:=eX oH
 rw[aq]at aa ab af ak
 have g1:(a.range !=2)=false:=by rw[ar];rfl
 have g2:(T.at_.wall !=10)=false:=by rw[ak];rfl
 have av:=Xc
 clear hr ah hU ad aj ai ha hL hT h9 ae aq
 unfold pK at hl
 unfold pL at aa
 refine iV 0 func6 ntmps6 results6 λc hc hb=> ?_
 refine zA ?_
 simp[go_sem]
 refine pC av ?_
 simp[go_sem,dG]
 refine yI [(2,0),(3,0)] 1 rfl kR kR ?_
 simp[go_sem]
 refine pD hl ?_
 simp[go_sem]
 refine pD aa ?_
 simp[go_sem]
 refine pC ab ?_
 simp[go_sem,g1,g2]
 refine yI [(6,0)] 2 rfl kR kR ?_
 simp[go_sem]
 refine wP af cB (λ_=>⟨zC rfl,zC rfl,zC rfl,LQ r0 (g:= .full),zC rfl,tV⟩) rfl ?_
 simp[go_sem]
 refine pC an ?_
 simp[go_sem,pE]
 refine pC ao ?_
 simp[go_sem,pE]
 exact wR
end Go.Proofs.YtplackkccmeioaaGreat
