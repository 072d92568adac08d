/-
  The law ExecCounts; used by the theorem at the end of the claim.
  Conditions: as the theorem states them.
-/
import Derived.Test.YtefbicjgbaaieaaGreatJAR
import Derived.Test.YtefbicjgbaaieaaGreatJAN
set_option maxHeartbeats 8000000
namespace Go.Proofs.YtefbicjgbaaieaaGreat
open Go Go.Vx R Go.Proofs.Tryz
set_option maxRecDepth 100000
def yZ8 (x:List GAct):List V:= [.sl .ro (x.map GAct.row)]
theorem StI.small {n:Nat} {P:List (List Pr)} (h:StI n P) (hn:n<=7500): ∀l∈P,l.length<=10000:=fun l hl=>by
 obtain⟨i,hi,rfl⟩:=C7 hl
 have hm:(i,P[i])∈vsG 0 P:=by
  refine B7 (i:=i) ?_
  rw[yD8,A0 hi,Ae];rfl
 have:=((h.vs hn).2.1 _ hm).2.1
 simp only at this
 omega
theorem ya2 {n:Nat} {P:List (List Pr)} (h:StI n P) (hn:n<=7500) {lot:GLot} (hl:LOk lot):
  (ze7 lot (zZ (vsG 0 P))).length<=100000/\(∀q∈ze7 lot (zZ (vsG 0 P)),q.2.length<=100000)/\StI (n+240) (doP P (ze7 lot (zZ (vsG 0 P)))):=by
 obtain⟨m,hT⟩:=zB8 (vsG 0 P)
 have h1:=h.len
 have hlen:(zZ (vsG 0 P)).length<=(yL (vsG 0 P)).length:=hT.len
 obtain⟨aa,ab⟩:=xD5 hl hT.now (fun x hx=>⟨hT.now.rows x hx,(hT.lines x hx).1⟩) (by show(zZ (vsG 0 P)).length<=7500;omega)
 exact⟨aa,ab,h.step hl⟩
def P0:List (List Pr):= [[],[],[],[],[],[],[],[]]
theorem yG (n:Nat) (P:List (List Pr)):ltOb n (.box (yB P))=true:=by simp[ltOb,ltC,ltK,yB]
def frz8 (v:V):V:=frzS 8 [] (frzS 7 [] (frzS 6 [] (frzS 5 [] (frzS 4 [] (frzS 3 [] (frzS 2 [] (frzS 1 [] v)))))))
theorem xx8 (id:Nat) (rows:List (List V)) (k:IntKind) (x:Int):frzS id rows (.int k x)= .int k x:=rfl
theorem xx6 (k:IntKind) (x:Int):frz8 (.int k x)= .int k x:=by simp only[frz8,xx8]
theorem xx9 (id:Nat) (rows:List (List V)) (i o:Nat):frzS id rows (.ptr i o)= .ptr i o:=rfl
theorem xx7 (i o:Nat):frz8 (.ptr i o)= .ptr i o:=by simp only[frz8,xx9]
theorem xL8 (id:Nat) (rows:List (List V)) (rs:List (List V)):frzS id rows (.sl .ro rs)= .sl .ro rs:=rfl
theorem xL7 (rs:List (List V)):frz8 (.sl .ro rs)= .sl .ro rs:=by simp only[frz8,xL8]
theorem xH5 {P:Program} {c:Ctx} {nt:Nat} {e:Env} {Q:QT} {y:Code} (hy:wVW P c nt y Q fx fx (fun t=>frz8 (e t)) [.box (yB P0),.dead,.dead,.dead,.dead,.dead,.dead,.dead,.dead]):wVW P c nt y Q fx fx e [.box [.sl .full [],.sl .full [],.sl .full [],.sl .full [],.sl .full [],.sl .full [],.sl .full [],.sl .full []]]:=by
 refine zs2 0 0 2 _ dc rfl rfl ?_
 refine zq6 1 2 [] rfl rfl ?_
 refine zs2 0 1 2 _ dc rfl rfl ?_
 refine zq6 2 2 [] rfl rfl ?_
 refine zs2 0 2 2 _ dc rfl rfl ?_
 refine zq6 3 2 [] rfl rfl ?_
 refine zs2 0 3 2 _ dc rfl rfl ?_
 refine zq6 4 2 [] rfl rfl ?_
 refine zs2 0 4 2 _ dc rfl rfl ?_
 refine zq6 5 2 [] rfl rfl ?_
 refine zs2 0 5 2 _ dc rfl rfl ?_
 refine zq6 6 2 [] rfl rfl ?_
 refine zs2 0 6 2 _ dc rfl rfl ?_
 refine zq6 7 2 [] rfl rfl ?_
 refine zs2 0 7 2 _ dc rfl rfl ?_
 refine zq6 8 2 [] rfl rfl ?_
 exact hy
noncomputable def zP7 (P:List (List Pr)) (acts:List GAct):List (List Pr):=doP P (ze7 (yC (zC6 acts)).1 (zZ (vsG 0 P)))
noncomputable def ym8 (l:List (List GAct)):List (List Pr):=l.foldl zP7 P0
theorem xQ6 (l:List (List GAct)) (hl:l.length<=30) (hok: ∀x∈l,x.length<=maxLen/\ ∀a∈x,a.ok):VCalls prog 18 [.sl .ro (l.map yZ8)] [] (fun r s=>r= .ptr 0 0/\ ∃P,(StI (240*l.length) P/\P=ym8 l)/\s= [.box (yB P)]):=by
 have av:=zn8
 refine iV 0 func18 ntmps18 results18 fun c hc hb=> ?_
 refine zA ?_
 simp[go_sem]
 refine xH5 ?_
 refine zH (S:=Nat×List (List Pr)) [0,3,4] (fun u=> [.sl .ro (l.map yZ8),.ptr 0 0,.int .i64 u.1]) (fun u=> [.box (yB u.2)]) (fun u=>l.length - u.1) (fun u=>u.1<=l.length/\StI (240*u.1) u.2/\u.2=ym8 (l.take u.1)) hc hb (0,P0) ⟨A3 _,xU9,rfl⟩ ?_ ?_
 .exact aM 1 (by rw[Ac,yG];rfl) (zF (by simp[go_sem,xx6,xx7,xL7]) rfl)
 rintro⟨i,P⟩ ⟨hi,hS,hP⟩
 simp only at hi hS hP
 by_cases q:i<l.length
 rotate_left
 .have e:i=l.length:=om
  rw[e]at hS
  rw[Ap om]at hP
  refine zA ?_
  simp[go_sem,q]
  exact zp7 1 rfl (by simp[yG]) dc (zp8 rfl) ⟨rfl,P,⟨hS,hP⟩,rfl⟩
 have ei:=zS q om
 obtain⟨aa,hx⟩: ∃x,l[i]=x:=⟨_,rfl⟩
 obtain⟨aw,al⟩:=hok aa (hx▸Ab q)
 have ad:=wb7 aa aw al
 have an:=yw3 al
 obtain⟨tx,ah⟩:=eX (zC6 aa)
 rw[ah]at ad an
 have af:=yE8 tx (B3 an dc)
 have ae:=zC1 tx
 obtain⟨L,hL⟩:=eX ((yC tx).1)
 rw[hL]at af ae
 have hn:240*i<=7500:=om
 have ag:=zF8 P hS.eight
 obtain⟨v1,v2,v3,v4⟩:=hS.vs hn
 have ab:=yO1 L ae (vsG 0 P) om (fun x hx=>⟨(v2 x hx).1,by have:=(v2 x hx).2.1;omega,(v2 x hx).2.2⟩) v4
 rw[zS7]at ab
 obtain⟨ao,aq,ai⟩:=ya2 hS hn ae
 have aj:=yv9 P hS.eight (hS.small hn) _ ao aq
 obtain⟨A,hA⟩:=eX ((lotF L (zZ (vsG 0 P))).1)
 obtain⟨U,hU⟩:=eX (ze7 L (zZ (vsG 0 P)))
 rw[hA,hU]at ab
 rw[hU]at aj ai
 obtain⟨P2,ak⟩:=eX (doP P U)
 rw[ak]at aj ai
 have ar:P2=ym8 (l.take (i+1)):=by
  unfold ym8
  rw[By q,hx,Df,<-ak,<-hU,<-hL,<-ah]
  show _=zP7 (ym8 (l.take i)) aa
  rw[<-hP];rfl
 obtain⟨vs,au⟩:=eX (vsG 0 P)
 rw[au]at ag ab
 clear hA hU ak au ao aq v1 v2 v3 v4 hL ah
 refine zA ?_
 simp[go_sem,q]
 refine xA [(0,0),(5,0),(6,0),(8,1),(9,0)] 1 rfl kR kR ?_
 simp[go_sem]
 refine pD av ?_
 simp[go_sem,q,hx,yZ8]
 refine pD ad ?_
 simp[go_sem]
 refine pD af ?_
 simp[go_sem]
 refine yQ8 1 ag cB rfl rfl (by rw[Ac,yG];rfl) rfl (fun i hi=>by simp[go_sem];omega) (fun _=>wB (n:=1) rfl) ?_
 simp[go_sem]
 refine pD ab ?_
 simp[go_sem,ansR]
 refine za4 1 aj cB rfl rfl (by rw[Ac,yG];rfl) (wB (n:=1) rfl) ?_ ?_
 .rintro r s' ⟨rfl,rfl⟩
  exact⟨rfl,by rw[Ac,yG];rfl,rfl⟩
 rintro r s' ⟨rfl,rfl⟩
 simp[go_sem,ei]
 exact zG (i+1,P2) ⟨by show l.length - (i+1)<l.length - i;omega,⟨q,by rw[show 240*(i+1)=240*i+240 by omega];exact ai,ar⟩,aN 1 (by rw[Ac,yG];rfl)⟩
def nOk (m:Int) (v:GValue):Bool:=decide (v.kind=0/\v.n=0)||(decide (v.kind=2)&&(decide (0<=v.n/\v.n<=m)||decide (v.n=9223372036854775807)))
theorem zE7 {m k:Int} (h:m<=k) {v:GValue} (hv:nOk m v=true):nOk k v=true:=by
 unfold nOk at*
 simp only[Be,A1,decide_eq_true_eq]at*
 omega
def setQ (x:GAssign):Bool:=
 decide (colF (tabsS.getD 0 noT) x.name≠3)||(match x.e with
  | .mk k _ v []=>decide (k=1)&&nOk 11 v
  | .mk k s _ [.mk k1 s1 _ _,.mk k2 _ v2 _]=>decide (k=3)&&(s== [43]&&(decide (k1=2)&&(s1== [78]&&(decide (k2=1)&&(decide (v2.kind=2)&&nOk 11 v2)))))
  |_=>false)
def fN (st:GStmt):Bool:=
 if zc6 st.table=0 then(if st.kind=2 then st.rows.all fun r=>nOk 11 (evN (r.getD 3 zeroE)).1 else if st.kind=3 then st.sets.all setQ else true)else true
def NvL (m:Int) (l:List Ln):Prop:= ∀x∈l,x.r=0∨x.r=1->nOk m (x.v.getD 3 zeroV)=true
theorem xJ6 {m:Int} (hm:11<=m) {a c:GValue} (ha:nOk m a=true) (hc:nOk 11 c=true) (he:(zk3 [43] [a,c]).2=0):nOk (m+11) (zk3 [43] [a,c]).1=true:=by
 unfold zk3 at he⊢
 rw[if_neg dc,if_neg dc,if_neg dc,if_neg dc]at he⊢
 by_cases q:([a,c].any fun v=>v.kind==0)=true
 .rw[if_pos q];rfl
 rw[if_neg q]at he⊢
 rw[if_neg dc,if_neg dc,if_neg dc]at he⊢
 simp only[Dy,List.any_nil,E7,Be,beq_iff_eq,not_or]at q
 simp only[Dw,List.getD_cons_succ,zu3,if_true]at he⊢
 unfold nOk at ha hc
 simp only[Be,A1,decide_eq_true_eq]at ha hc
 unfold zq2 at he⊢
 unfold rngF at he⊢
 by_cases q2:okI (a.n+c.n)
 rotate_left
 .simp[q2]at he
 simp only[if_pos q2]at he⊢
 unfold okI at q2
 have key:0<=a.n+c.n/\a.n+c.n<=m+11∨a.n+c.n=9223372036854775807:=by
  rcases ha with ha|⟨_,ha⟩
  .exact absurd ha.1 q.1
  rcases hc with hc|⟨_,hc⟩
  .exact absurd hc.1 q.2
  omega
 unfold nOk
 simpa using key
theorem xh5 {m:Int} (hm:11<=m) {old:List GValue} (ho:nOk m (old.getD 3 zeroV)=true): ∀{l:List GAssign} {row:List GValue},(∀x∈l,setQ x=true)->nOk (m+11) (row.getD 3 zeroV)=true->(setF (tabsS.getD 0 noT) old l row).2=0->nOk (m+11) ((setF (tabsS.getD 0 noT) old l row).1.getD 3 zeroV)=true
 | [],row,_,h,_=>h
 |x::l,row,hl,h,he=>by
  rw[setF]at he⊢
  by_cases q:(evR (tabsS.getD 0 noT) old x.e).2≠0
  .rw[if_pos q]at he;exact absurd he q
  rw[if_neg q]at he⊢
  refine xh5 hm ho (fun y hy=>hl y (Am _ hy)) ?_ he
  have q0:(evR (tabsS.getD 0 noT) old x.e).2=0:=sU q
  have aa:evR (tabsS.getD 0 noT) old x.e=evF (tabsS.getD 0 noT) old x.e:=by
   unfold evR at q0⊢
   split at q0
   .rename_i h;exact absurd q0 h
   rename_i h1
   rw[if_neg h1]
   split at q0
   .cases q0
   .rename_i h2;rw[if_neg h2]
  by_cases q3:colF (tabsS.getD 0 noT) x.name=3
  rotate_left
  .rw[A8,Dc (by
    intro h3
    unfold colF at q3 h3
    have:=zr2 (fun c:GCol=>c.name==x.name) (tabsS.getD 0 noT).cols 0
    omega),<-A8]
   exact h
  have hv:nOk (m+11) (evR (tabsS.getD 0 noT) old x.e).1=true:=by
   have hx:=hl x (Al ..)
   unfold setQ at hx
   rw[Be]at hx
   rcases hx with hx|hx
   .exact absurd q3 (sU hx)
   rw[aa]at q0⊢
   split at hx
   .rename_i k s v e
    simp only[A1,decide_eq_true_eq]at hx
    rw[e,evF,if_pos hx.1]
    exact zE7 om hx.2
   .rename_i k s v k1 s1 v1 a1 k2 s2 v2 a2 e
    simp only[A1,decide_eq_true_eq,beq_iff_eq]at hx
    obtain⟨rfl,rfl,rfl,rfl,rfl,_,h7⟩:=hx
    have e2:evF (tabsS.getD 0 noT) old x.e=zk3 [43] [old.getD 3 zeroV,v2]:=by
     rw[e]
     simp[evF,evsF]
     rfl
    rw[e2]at q0⊢
    exact xJ6 hm ho h7 q0
   .cases hx
  rw[q3]
  show nOk (m+11) ((row.set 3 _).getD 3 zeroV)=true
  rw[A8,List.getElem?_set]
  by_cases q4:3<row.length
  .rw[if_pos rfl,if_pos q4];exact hv
  .rw[if_pos rfl,if_neg q4];rfl
theorem xG6 {m:Int} (hm:11<=m) {T:GTable} {sets:List GAssign}: ∀{ms l:List Ln},(∀x∈ms,x.r=0∨x.r=1->T=tabsS.getD 0 noT/\(∀y∈sets,setQ y=true)/\nOk m (x.v.getD 3 zeroV)=true)->NvL (m+11) l->(updF T sets ms l).2=0->NvL (m+11) (updF T sets ms l).1
 | [],l,_,h,_=>h
 |x::ms,l,hx,h,he=>by
  rw[updF]at he⊢
  by_cases q1:(setF T x.v sets x.v).2≠0
  .rw[if_pos q1]at he;exact absurd he q1
  rw[if_neg q1]at he⊢
  by_cases q2:mayT T.cols (setF T x.v sets x.v).1≠0
  .rw[if_pos q2]at he;exact absurd he q2
  rw[if_neg q2]at he⊢
  refine xG6 hm (fun y hy=>hx y (Am _ hy)) (fun y hy hr=> ?_) he
  obtain⟨z,hz,rfl⟩:=Ad.1 hy
  by_cases q:z.at=x.at
  .rw[if_pos q]at hr⊢
   have e:z.r=x.r:=congrArg Prod.fst q
   obtain⟨h1,h2,h3⟩:=hx x (Al ..) (by rw[<-e];exact hr)
   subst h1
   exact xh5 hm h3 h2 (zE7 om h3) (sU q1)
  .rw[if_neg q]at hr⊢
   exact h z hz hr
theorem del_sub: ∀{m l:List Ln},(delF m l).Sublist l
 | [],l=>List.Sublist.refl _
 |x::m,l=>by rw[delF];exact del_sub.trans Bp
theorem xz6 {tn:Nat} (h0:tn≠0) (h3:tn<3) {T:GTable} {row:List GValue} {p:Pl} (h:keyS tn T row=(p.1,p.2,0)):p.1=2∨p.1=3:=by
 unfold keyS at h
 split at h
 .rename_i q;exact absurd (congrArg (·.2.2) h) q
 split at h
 .rename_i q;exact absurd q.1 h0
 have e:(wN tn (yl7 tn row)).1=p.1:=congrArg (·.1) h
 rw[<-e]
 match tn,h0,h3 with
 |1,_,_=>exact .inl rfl
 |2,_,_=>exact .inr rfl
theorem xy9 {m:Int} (hm:11<=m) {tn:Nat} {T:GTable}: ∀{rs:List (List GExpr)} {l:List Ln},(∀r∈rs,∀p,wf0 tn T r p->p.1=0∨p.1=1->nOk 11 ((evsX noT [] r []).1.getD 3 zeroV)=true)->NvL m l->(insF tn T rs l).2=0->NvL m (insF tn T rs l).1
 | [],l,_,h,_=>h
 |r::rs,l,hr,h,he=>by
  rw[insF]at he⊢
  by_cases q1:(evsX noT [] r []).2≠0
  .rw[if_pos q1]at he;exact absurd he q1
  rw[if_neg q1]at he⊢
  by_cases q2:(keyS tn T (evsX noT [] r []).1).2.2≠0
  .rw[if_pos q2]at he;exact absurd he q2
  rw[if_neg q2]at he⊢
  by_cases q3:atF l ((keyS tn T (evsX noT [] r []).1).1,(keyS tn T (evsX noT [] r []).1).2.1)=true
  .rw[if_pos q3]at he;cases he
  rw[if_neg q3]at he⊢
  refine xy9 hm (fun y hy=>hr y (Am _ hy)) (fun y hy aa=> ?_) he
  rcases Af.1 ((zg3 _ _).mem_iff.1 hy)with rfl|hy
  .exact zE7 hm (hr r (Al ..) ((keyS tn T (evsX noT [] r []).1).1,(keyS tn T (evsX noT [] r []).1).2.1) ⟨by simpa using q1,Prod.ext rfl (Prod.ext rfl (sU q2))⟩ aa)
  .exact h y hy aa
theorem xX0 {m:Int} (hm:11<=m) {st:GStmt} (ad:StOk st) (hf:fN st=true) {l:List Ln} (h:NvL m l) (he:(doS st l).2.2=0):NvL (m+11) (doS st l).2.1:=by
 have up: ∀{k:List Ln},(∀x∈k,x∈l)->NvL (m+11) k:=fun hk x hx hr=>zE7 om (h x (hk x hx) hr)
 have af:=zJ5 st.table
 have ag:=ad.tab
 obtain⟨tn,ab⟩: ∃tn:Nat,zc6 st.table=tn:=⟨(zc6 st.table).toNat,om⟩
 have h3:tn<3:=om
 unfold fN at hf
 rw[ab]at hf
 unfold doS at he⊢
 simp only[ab,As]at he⊢
 by_cases k2:st.kind=2
 .rw[if_pos k2]at he⊢
  by_cases q:(insF tn (tabsS.getD tn noT) st.rows l).2≠0
  .rw[if_pos q]at he;exact absurd he q
  rw[if_neg q]
  refine xy9 om (fun r hr p hp ah=> ?_) (up fun x hx=>hx) (sU q)
  by_cases t0:tn=0
  rotate_left
  .rcases xz6 t0 h3 hp.2 with e|e<;>omega
  subst t0
  rw[if_pos (by rfl),if_pos k2,Aj]at hf
  have:=hf r hr
  obtain⟨e1,_⟩:=yI1 r [] hp.1
  rw[e1,Bi,A8,B6]
  by_cases q3:3<r.length
  .rw[A8,A0 q3]at this
   rw[A0 q3]
   exact this
  .rw[D6 om];rfl
 rw[if_neg k2]at he⊢
 by_cases q:(metF tn (tabsS.getD tn noT) st l).2≠0
 .rw[if_pos q]at he;exact absurd he q
 rw[if_neg q]at he⊢
 by_cases k1:st.kind=1
 .rw[if_pos k1];exact up fun x hx=>hx
 rw[if_neg k1]at he⊢
 by_cases k3:st.kind=3
 .rw[if_pos k3]at he⊢
  by_cases q:(updF (tabsS.getD tn noT) st.sets (metF tn (tabsS.getD tn noT) st l).1 l).2≠0
  .rw[if_pos q]at he;exact absurd he q
  rw[if_neg q]
  refine xG6 hm (fun x hx hr=> ?_) (up fun x hx=>hx) (sU q)
  obtain⟨ae,aa⟩:=zS1 x hx
  by_cases t0:tn=0
  .subst t0
   rw[if_pos (by rfl),if_neg k2,if_pos k3,Aj]at hf
   exact⟨rfl,hf,h x ae hr⟩
  .unfold zm5 at aa
   simp only[A1,E6,beq_iff_eq]at aa
   obtain⟨⟨g,_,e⟩,_⟩:=aa
   have:(wN (tn:Int) g).1=2∨(wN (tn:Int) g).1=3:=by
    match tn,t0,h3 with
    |1,_,_=>exact .inl rfl
    |2,_,_=>exact .inr rfl
   omega
 .rw[if_neg k3]
  exact up fun x hx=>del_sub.subset hx
theorem xv2: ∀{ss:List GStmt} {i:Nat} {acc:List Ot} {b:Mp (List UInt8)} {l:List Ln} {m:Int},11<=m->(∀st∈ss,StOk st/\fN st=true)->NowOk b l->NvL m l->(doL ss i acc l).1.1=0->NvL (m+11*ss.length) (doL ss i acc l).2
 | [],_,_,_,_,m,_,_,_,h,_=>by rw[doL];simpa using h
 |x::ss,i,acc,b,l,m,hm,hs,hn,h,he=>by
  obtain⟨hx,hf⟩:=hs x (Al ..)
  rw[doL]at he⊢
  by_cases q:(doS x l).2.2≠0
  .rw[if_pos q]at he;exact absurd he q
  rw[if_neg q]at he⊢
  have q0:(doS x l).2.2=0:=sU q
  obtain⟨b',aa⟩:=xb6 hx hn q0
  have:=xv2 (m:=m+11) om (fun y hy=>hs y (Am _ hy)) aa (xX0 hm hx hf h q0) he
  rw[Aa]
  intro y hy hr
  exact zE7 om (this y hy hr)
theorem yP2 (hf:AllQ (chkQ fN)): ∀(l:List (List GAct)),(∀x∈l,∀a∈x,a.ok)-> ∀(P:List (List Pr)) (n:Nat) (m:Int),StI n P->11<=m->NvL m (zZ (vsG 0 P))->NvL (m+33*l.length) (zZ (vsG 0 (l.foldl zP7 P)))
 | [],_,_,_,m,_,_,h=>by simpa using h
 |x::l,hok,P,n,m,hS,hm,h=>by
  rw[Ba]
  obtain⟨ah,_,h3,ae,hp⟩:=xq7 hf (hok x (Al ..))
  have aa:=zC1 (zC6 x)
  have ad:=hS.step aa
  have key:NvL (m+33) (zZ (vsG 0 (zP7 P x))):=by
   unfold zP7
   by_cases q:(lotF (yC (zC6 x)).1 (zZ (vsG 0 P))).1.1=0
   .obtain⟨b,hb⟩: ∃b,NowOk b (zZ (vsG 0 P)):=by obtain⟨w,hT⟩:=zB8 (vsG 0 P);exact⟨_,hT.now⟩
    have ht:=hS.tl.step hb aa q
    have af:StI (n+240) (doP P (ze7 (yC (zC6 x)).1 (zZ (vsG 0 P)))):=ad
    have ag:=(lotF_0.1 q).1
    have ab:=yl3 aa ag
    have e:=xN5 q
    have q2:=(lotF_0.1 q).2
    rw[af.tl.uniq ht,e]
    rw[hp]at ab q2⊢
    simp only at ab q2⊢
    have:=xv2 hm (fun st hs=>⟨ab st hs,ae st hs⟩) hb h q2
    intro y hy hr
    exact zE7 om (this y hy hr)
   .have e:ze7 (yC (zC6 x)).1 (zZ (vsG 0 P))= []:=by unfold ze7;rw[if_pos q]
    rw[e]
    exact fun y hy hr=>zE7 om (h y hy hr)
  have:=yP2 hf l (fun y hy=>hok y (Am _ hy)) (zP7 P x) (n+240) (m+33) ad om key
  rw[Aa]
  exact fun y hy hr=>zE7 om (this y hy hr)
def tblT:GTable:=tabsS.getD 0 noT
def inT (x:Ln):Bool:=([0,1]:List Int).any (fun g=>(wN 0 g).1==x.r)&&(!Op.bytesLess x.k (allF 3 0).1&&Op.bytesLess x.k (allF 3 0).2)
def chkO (oc:Int) (down:Bool) (lim:Int) (tx:List UInt8):Bool:=
 match (yC tx).1.stmts with
 | [s0]=>decide ((zp0 (yC tx).1).2=0)&&(decide (s0.kind=1)&&(decide (zc6 s0.table=0)&&(decide ((s0.items.head?.map (·.kind))=some 1)&&(!zs7 s0.items&&(!s0.filtered&&(decide (colF tblT s0.order=oc)&&(s0.down==down&&(decide (s0.limit=lim)&&(decide (za7 0 s0= [0,1])&&decide (zi8 tabsS 0 s0=allF 3 0))))))))))
 |_=>false
def txT:List UInt8:= [83,69,76,69,67,84,32,42,32,70,82,79,77,32,84]
theorem xT3:chkO (-1) false (-1) txT=true:=kR
theorem zP1 {T:GTable} {items:List GItem} (h:(items.head?.map (·.kind))=some 1): ∀{l:List Ln} {acc:List (List GValue)},zw8 T items l acc=(acc++l.map (·.v),0)
 | [],acc=>by rw[zw8];simp
 |x::l,acc=>by rw[zw8,if_pos h,zP1 h];simp
theorem yr0 (l:List Ln):chgF l l= []:=by
 unfold chgF
 have h1:(l.filter fun x=> !atF l x.at)= []:=by
  rw[List.filter_eq_nil_iff]
  intro x hx
  have:atF l x.at=true:=atF_iff.2 (Ad.2 ⟨x,hx,rfl⟩)
  simp[this]
 have h2:(l.filter fun x=> !(l.any fun y=>decide (y.at=x.at)&&decide (yH y.v=yH x.v)))= []:=by
  rw[List.filter_eq_nil_iff]
  intro x hx
  have:(l.any fun y=>decide (y.at=x.at)&&decide (yH y.v=yH x.v))=true:=E6.2 ⟨x,hx,sM⟩
  simp[this]
 rw[h1,h2];rfl
theorem wc2 {oc:Int} {down:Bool} {lim:Int} {tx:List UInt8} (h:chkO oc down lim tx=true) (aa:List Ln):
  (lotF (yC tx).1 aa).1=(0,0,[⟨0,(limF lim (if 0<=oc then zo2 oc.toNat down (aa.filter inT)else aa.filter inT)).map (·.v)⟩])/\ze7 (yC tx).1 aa= []:=by
 unfold chkO at h
 split at h
 rotate_left
 .cases h
 rename_i st af
 simp only[A1,Ck,decide_eq_true_eq,beq_iff_eq]at h
 obtain⟨h1,h2,h3,h4,h5,h6,h7,h8,h9,ag,ah⟩:=h
 have ad:aa.filter (zm5 0 st)=aa.filter inT:=by
  congr 1
  funext x
  unfold zm5 inT
  rw[ag,ah]
 have ae:metF 0 tblT st aa=(aa.filter inT,0):=by
  unfold metF
  rw[h6,if_neg dc,ad]
 have ai:doS st aa=(⟨0,(limF lim (if 0<=oc then zo2 oc.toNat down (aa.filter inT)else aa.filter inT)).map (·.v)⟩,aa,0):=by
  unfold doS
  simp only[h3]
  rw[if_neg om,show((0:Int).toNat:Int)=0 from rfl,show tabsS.getD (0:Int).toNat noT=tblT from rfl,ae,if_neg sM,if_pos h2]
  unfold selF
  rw[h5,if_neg dc,h7,h8,h9]
  simp only[zP1 h4,Bi]
  rfl
 have hL:doL [st] 0 [] aa=((0,0,[⟨0,(limF lim (if 0<=oc then zo2 oc.toNat down (aa.filter inT)else aa.filter inT)).map (·.v)⟩]),aa):=by
  rw[doL,ai]
  simp only[ne_eq,not_true_eq_false,if_false,doL,Bi]
 have ab:lotF (yC tx).1 aa=((0,0,[⟨0,(limF lim (if 0<=oc then zo2 oc.toNat down (aa.filter inT)else aa.filter inT)).map (·.v)⟩]),aa):=by
  unfold lotF
  rw[if_neg (by rw[h1];decide),af,hL]
  rfl
 refine⟨by rw[ab], ?_⟩
 unfold ze7
 rw[ab,if_neg sM,yr0]
 rfl
def rowV (r:List GValue):List V:= [.sl .ro (r.map GValue.row)]
mutual
def beqE:GExpr->GExpr->Bool
 | .mk k s v a,.mk k2 s2 v2 a2=>decide (k=k2)&&(s==s2&&(decide (v=v2)&&ye5 a a2))
def ye5:List GExpr->List GExpr->Bool
 | [],[]=>true
 |x::l,y::m=>beqE x y&&ye5 l m
 |_,_=>false
end
mutual
theorem xa6: ∀(a b:GExpr),beqE a b=true->a=b
 | .mk k s v a,.mk k2 s2 v2 a2,h=>by
  rw[beqE]at h
  simp only[A1,decide_eq_true_eq,beq_iff_eq]at h
  obtain⟨rfl,rfl,rfl,h4⟩:=h
  rw[ye6 a a2 h4]
theorem ye6: ∀(a b:List GExpr),ye5 a b=true->a=b
 | [],[],_=>rfl
 |x::l,y::m,h=>by
  rw[ye5,A1]at h
  rw[xa6 x y h.1,ye6 l m h.2]
 | [],_::_,h=>by simp[ye5]at h
 |_::_,[],h=>by simp[ye5]at h
end
variable {d:Nat}{l:List Ln}{n:Nat}{P:List (List Pr)}{j:Nat}{less:Bool}{tx:List UInt8}
def xN (s:List UInt8):GExpr:= .mk 2 s zeroV []
def xI (n:Int):GExpr:= .mk 1 [] ⟨2,n,[]⟩ []
def xO (s:List UInt8) (l:List GExpr):GExpr:= .mk 3 s zeroV l
def TV (v:GValue):Prop:=v=zeroV∨ ∃b,v=zx4 b
structure RowT (row:List GValue):Prop where
 four: ∃r k v n:GValue,row= [r,k,v,n]/\(v.kind=3∨v.kind=0)/\k.kind=2/\(n.kind=2∨n.kind=0)
theorem xW8 {s:List UInt8} (hs:s= [62]∨s= [61]∨s= [60]∨s= [60,62]) (x y:GValue):TV (zk3 s [x,y]).1/\(zk3 s [x,y]).2=0:=by
 unfold zk3
 rcases hs with rfl|rfl|rfl|rfl
 all_goals
  simp only[Dw,List.getD_cons_succ]
  rw[if_neg dc,if_neg dc,if_neg dc,if_neg dc]
  split
  .exact⟨.inl rfl,rfl⟩
  .rw[if_neg dc,if_neg dc,if_pos dc]
   exact⟨.inr ⟨_,rfl⟩,rfl⟩
theorem zS0: ∀(cs:List GCol) (vs:List GValue),vs.length=cs.length->zn6 cs vs=0->((vs.zip cs).all fun p=>zY5 p.1 p.2&&(p.1.kind !=0||p.2.null))=true
 | [],[],_,_=>rfl
 |c::cs,v::vs,hl,h=>by
  rw[zn6]at h
  by_cases h1:mayF v=false
  .rw[if_pos h1]at h;cases h
  rw[if_neg h1]at h
  by_cases h2:v.kind=0/\c.null=false
  .rw[if_pos h2]at h;cases h
  rw[if_neg h2]at h
  by_cases h3:v.kind≠0/\v.kind≠c.kind
  .rw[if_pos h3]at h;cases h
  rw[if_neg h3]at h
  rw[D7,Ac,zS0 cs vs (sU hl) h,C9]
  have aa:mayF v=true:=sU h1
  unfold zY5
  simp only[aa,Au,A1,Be,beq_iff_eq,bne_iff_ne,ne_eq]
  by_cases z:v.kind=0
  .refine⟨.inl z,.inr ?_⟩
   cases hn:c.null with
   |true=>rfl
   |false=>exact absurd ⟨z,hn⟩ h2
  .refine⟨.inr ?_,.inl z⟩
   exact C5 fun w=>h3 ⟨z,w⟩
theorem yU7 {x:Ln} (hk:LnOk x/\LnK x) (hr:x.r=0∨x.r=1):RowT x.v/\zn5 tblT.cols x.v=true/\ ∃k,x.v.getD 1 zeroV=k/\k.kind=2/\mayF k=true/\k.ok/\x.k=zl6 3 0 k:=by
 obtain⟨tn,T,ah,hT,hm⟩:=hk.1.tab
 have h0:(ofS x.r).1=0:=by rcases hr with e|e<;>rw[e]<;>rfl
 have:tn=0:=om
 subst this
 have af:T=tblT:=by
  have:tabsS[0]? =some tblT:=rfl
  rw[this]at hT;exact(Option.some.inj hT).symm
 subst af
 have aa:=xd6 hk.1 hk.2 (tn:=0) om (show tabsS[0]? =some tblT from rfl)
 have hlen:=zk6 hm
 have hok:=hk.1.ok
 obtain⟨xr,xk,row⟩:=x
 simp only at hm hlen hok aa hr⊢
 have ad:zn6 tblT.cols row=0:=by
  unfold mayT at hm
  rw[if_neg (by rw[hlen];simp)]at hm
  exact hm
 have ab:=zS0 _ _ hlen ad
 match row,hlen with
 | [r,k,v,n],_=>
  have ag:xk=zl6 3 0 k:=by
   unfold keyS at aa
   rw[if_neg (by rw[hm];simp)]at aa
   split at aa
   .simp only[Prod.mk.injEq]at aa;exact absurd aa.2.2 dc
   .simp only[Prod.mk.injEq]at aa;exact aa.2.1.symm
  have hB:zn5 tblT.cols [r,k,v,n]=true:=by
   unfold zn5
   rw[A1]
   refine⟨decide_eq_true rfl, ?_⟩
   rw[Aj]at ab⊢
   intro p hp
   have:=ab p hp
   rw[A1]at this
   exact this.1
  simp only[tblT,tabsS,tabT,Dw,D7,Ac]at ab
  simp only[zY5,A1,Be,beq_iff_eq,bne_iff_ne]at ab
  obtain⟨_,⟨⟨k1,k2⟩,k3⟩,⟨⟨_,v2⟩,_⟩,⟨⟨_,n2⟩,_⟩,_⟩:=ab
  have ae:k.kind=2:=by
   rcases k2 with e|e
   .rcases k3 with w|w
    .exact absurd e w
    .cases w
   .exact e
  exact⟨⟨r,k,v,n,rfl,v2.symm,ae,n2.symm⟩,hB,k,rfl,ae,k1,hok k sM,ag⟩
theorem yn8 {T:GTable} {st:GStmt}: ∀{l acc:List Ln},(∀x∈l,(evR T x.v st.where_).2=0)->zo6 T st acc l=(acc++l.filter (fun x=>zN9 (evR T x.v st.where_).1),0)
 | [],acc,_=>by rw[zo6];simp
 |x::l,acc,h=>by
  rw[zo6,if_neg (by rw[h x (Al ..)];simp),yn8 fun y hy=>h y (Am _ hy),C4]
  by_cases q:zN9 (evR T x.v st.where_).1=true
  .simp[q]
  .simp[q]
theorem all_inT {kv:GValue}:Op.bytesLess (zl6 3 0 kv) (allF 3 0).1=false/\Op.bytesLess (zl6 3 0 kv) (allF 3 0).2=true:=by
 constructor
 .simp[zl6,allF,isF,Op.bytesLess]
 .simp[zl6,allF,isF,Op.bytesLess]
def cWh (less:Bool) (d:Nat):List UInt8:=
 if less=true then [32,87,72,69,82,69,32,78,32,60,32]++digF d++ [32,79,82,32,86,32,73,83,32,78,85,76,76]else [32,87,72,69,82,69,32,75,32,62,61,32]++digF d
def cE (less:Bool) (d:Nat):GExpr:=if less=true then xO [79,82] [xO [60] [xN [78],xI d],xO [73,83,78,85,76,76] [xN [86]]]else xO [62,61] [xN [75],xI d]
def cHd:Nat->List UInt8
 |0=>txT
 |1=> [83,69,76,69,67,84,32,67,79,85,78,84,40,42,41,32,70,82,79,77,32,84]
 |2=> [83,69,76,69,67,84,32,83,85,77,40,78,41,32,70,82,79,77,32,84]
 |_=> [68,69,76,69,84,69,32,70,82,79,77,32,84]
def txC (j:Nat) (less:Bool) (d:Nat):List UInt8:=cHd j++cWh less d
def st0:GStmt:=⟨0,[],[],[],[],false,zeroE,[],false,0⟩
def bndC (less:Bool) (d:Nat):List UInt8×List UInt8:=zi8 tabsS 0 ((yC (txC 0 less d)).1.stmts.getD 0 st0)
def itC (j:Nat) (s:GStmt):Bool:=match j with
 |0=>decide ((s.items.head?.map (·.kind))=some 1)&&(!zs7 s.items&&(decide (colF tblT s.order= -1)&&decide (s.limit= -1)))
 |1=>decide (s.items.map (·.kind)= [3])
 |2=>decide (s.items.map (·.kind)= [4])&&ye5 (s.items.map (·.e)) [xN [78]]
 |_=>true
def chkC (j:Nat) (less:Bool) (d:Nat):Bool:=
 match (yC (txC j less d)).1.stmts with
 | [s]=>decide ((zp0 (yC (txC j less d)).1).2=0)&&(decide (s.kind=if j=3 then 4 else 1)&&(decide (zc6 s.table=0)&&(s.filtered&&(beqE s.where_ (cE less d)&&(decide ((zb3 tblT s.where_).2=0)&&(decide (za7 0 s= [0,1])&&(decide (zi8 tabsS 0 s=bndC less d)&&itC j s)))))))
 |_=>false
theorem we3:((List.range 4).all fun j=> [false,true].all fun less=>(List.range 12).all fun d=>chkC j less d)=true:=kR
theorem xK4 (hj:j<4) (less:Bool) (hd:d<12):chkC j less d=true:=by
 have h:=Aj.1 (Aj.1 we3 j (Ci.2 hj)) less (by cases less<;>simp)
 exact Aj.1 h d (Ci.2 hd)
theorem we2 {row:List GValue} (h:RowT row) (less:Bool) (d:Nat):(evF tblT row (cE less d)).2=0:=by
 obtain⟨r,k,v,n,rfl,hv,hk,hn⟩:=h.four
 have eI: ∀m:Int,evF tblT [r,k,v,n] (xI m)=(⟨2,m,[]⟩,0):=fun m=>rfl
 have two: ∀(s:List UInt8) (a b:GExpr) (x y:GValue),evF tblT [r,k,v,n] a=(x,0)->evF tblT [r,k,v,n] b=(y,0)->evF tblT [r,k,v,n] (xO s [a,b])=zk3 s [x,y]:=fun s a b x y ha hb=>by
  unfold xO
  rw[evF]
  simp[evsF,ha,hb]
 have one: ∀(s:List UInt8) (a:GExpr) (x:GValue),evF tblT [r,k,v,n] a=(x,0)->evF tblT [r,k,v,n] (xO s [a])=zk3 s [x]:=fun s a x ha=>by
  unfold xO
  rw[evF]
  simp[evsF,ha]
 have fst: ∀{p:GValue×Int},p.2=0->p=(p.1,0):=fun{p} h=>by rw[<-h]
 cases less with
 |false=>
  rw[cE,if_neg dc,two [62,61] _ _ k ⟨2,d,[]⟩ rfl (eI d)]
  unfold zk3
  rw[if_neg dc,if_neg dc,if_neg dc,if_neg dc]
  split
  .rfl
  .rw[if_neg dc,if_neg dc,if_pos dc]
 |true=>
  rw[cE,if_pos rfl,two [79,82] _ _ _ _ (fst (by rw[two [60] _ _ n ⟨2,d,[]⟩ rfl (eI d)];exact(xW8 (.inr (.inr (.inl rfl))) _ _).2)) (fst (by rw[one [73,83,78,85,76,76] _ v rfl];rfl))]
  rfl
def boxC (less:Bool) (d:Nat) (x:Ln):Bool:=([0,1]:List Int).any (fun g=>(wN 0 g).1==x.r)&&(!Op.bytesLess x.k (bndC less d).1&&Op.bytesLess x.k (bndC less d).2)
def cndC (less:Bool) (d:Nat) (x:Ln):Bool:=zN9 (evF tblT x.v (cE less d)).1
def metC (less:Bool) (d:Nat) (l:List Ln):List Ln:=(l.filter (boxC less d)).filter (cndC less d)
theorem xa9 {x:Ln} (h:boxC less d x=true):x.r=0∨x.r=1:=by
 unfold boxC at h
 simp only[A1,Dy,List.any_nil,E7,Be,beq_iff_eq]at h
 rcases h.1 with h|h
 .exact .inl h.symm
 .exact .inr h.symm
structure CS (j:Nat) (less:Bool) (d:Nat) (s:GStmt):Prop where
 stmts:(yC (txC j less d)).1.stmts= [s]
 plan:(zp0 (yC (txC j less d)).1).2=0
 kind:s.kind=if j=3 then 4 else 1
 tab:zc6 s.table=0
 met: ∀l,LsK l->metF 0 tblT s l=(metC less d l,0)
 it:itC j s=true
theorem xb2 (hj:j<4) (less:Bool) (hd:d<12): ∃s,CS j less d s:=by
 have h:=xK4 hj less hd
 unfold chkC at h
 split at h
 rotate_left
 .cases h
 rename_i s hs
 simp only[A1,decide_eq_true_eq]at h
 obtain⟨h1,h2,h3,h4,h5,h6,h7,h8,h9⟩:=h
 have hw:=xa6 _ _ h5
 refine⟨s,hs,h1,h2,h3,fun l hk=> ?_,h9⟩
 have hb:l.filter (zm5 0 s)=l.filter (boxC less d):=by
  congr 1;funext x
  unfold zm5 boxC
  rw[h7,h8]
 have aa: ∀x∈l.filter (boxC less d),evR tblT x.v s.where_=evF tblT x.v (cE less d)/\(evF tblT x.v (cE less d)).2=0:=fun x hx=>by
  obtain⟨ab,ad⟩:=Bb.1 hx
  obtain⟨r1,r2,_⟩:=yU7 (hk x ab) (xa9 ad)
  refine⟨?_,we2 r1 less d⟩
  unfold evR
  rw[if_neg (fun q=>q h6),if_neg (by rw[r2];decide),hw]
 unfold metF
 rw[if_pos h4,hb,yn8 fun x hx=>by rw[(aa x hx).1];exact(aa x hx).2,Bi]
 refine Prod.ext ?_ rfl
 show(l.filter (boxC less d)).filter _=(l.filter (boxC less d)).filter (cndC less d)
 refine Cy fun x hx=> ?_
 rw[(aa x hx).1];rfl
theorem xh7:tabsS.getD (Int.toNat 0) noT=tblT:=rfl
theorem yd5 {s:GStmt} (h:CS j less d s) (l:List Ln) (R:Ot×List Ln×Int) (hd:doS s l=R) (h0:R.2.2=0):lotF (yC (txC j less d)).1 l=((0,0,[R.1]),R.2.1):=by
 have hl:doL (yC (txC j less d)).1.stmts 0 [] l=((0,0,[R.1]),R.2.1):=by
  rw[h.stmts,doL,hd,if_neg (fun q=>q h0),doL];rfl
 unfold lotF
 rw[if_neg (fun q=>q h.plan),hl,if_neg (fun q=>q rfl)]
theorem zW9 {lot:GLot} {A:Int×Int×List Ot} (h:lotF lot l=(A,l)):ze7 lot l= []:=by
 unfold ze7
 rw[h]
 split
 .rfl
 .rw[yr0];rfl
theorem xG0 (less:Bool) (hd:d<12) (hk:LsK l):(lotF (yC (txC 0 less d)).1 l).1=(0,0,[⟨0,(metC less d l).map (·.v)⟩])/\ze7 (yC (txC 0 less d)).1 l= []:=by
 obtain⟨s,h⟩:=xb2 (j:=0) dc less hd
 have hi:=h.it
 unfold itC at hi
 simp only[A1,decide_eq_true_eq,Ck]at hi
 obtain⟨i1,i2,i3,i4⟩:=hi
 have aa:=h.kind
 rw[if_neg dc]at aa
 have ab:doS s l=(⟨0,(metC less d l).map (·.v)⟩,l,0):=by
  unfold doS
  simp only[h.tab,aa,xh7]
  rw[if_neg dc,show metF ((Int.toNat 0:Nat):Int) tblT s l=(metC less d l,0) from h.met l hk,if_neg (fun q=>q rfl),if_pos trivial]
  unfold selF
  rw[i2,if_neg dc,i3,i4]
  simp only[limF,show ¬(0:Int)<= -1 by decide,if_false]
  rw[zP1 i1]
  simp
 have e:=yd5 h l _ ab rfl
 exact⟨by rw[e],zW9 e⟩
theorem wb9 (less:Bool) (hd:d<12) (hk:LsK l):(lotF (yC (txC 1 less d)).1 l).1=(0,0,[⟨0,[[⟨2,(metC less d l).length,[]⟩]]⟩])/\ze7 (yC (txC 1 less d)).1 l= []:=by
 obtain⟨s,h⟩:=xb2 (j:=1) dc less hd
 have hi:=h.it
 unfold itC at hi
 simp only[decide_eq_true_eq]at hi
 have aa:=h.kind
 rw[if_neg dc]at aa
 obtain⟨x,hx,ab⟩: ∃x,s.items= [x]/\x.kind=3:=by
  cases e:s.items with
  |nil=>rw[e]at hi;cases hi
  |cons a l=>cases l with
   |nil=>rw[e]at hi;exact⟨a,rfl,by simpa using hi⟩
   |cons b l=>rw[e]at hi;simp at hi
 have ae:doS s l=(⟨0,[[⟨2,(metC less d l).length,[]⟩]]⟩,l,0):=by
  unfold doS
  simp only[h.tab,aa,xh7]
  rw[if_neg dc,show metF ((Int.toNat 0:Nat):Int) tblT s l=(metC less d l,0) from h.met l hk,if_neg (fun q=>q rfl),if_pos trivial]
  unfold selF
  have ad:zt3 tblT (metC less d l) [x] []=([⟨2,(metC less d l).length,[]⟩],0):=by
   rw[zt3,if_neg (by rw[ab];decide),zt3];rfl
  rw[hx,if_pos (by simp[zs7,ab]),ad]
  simp
 have e:=yd5 h l _ ae rfl
 exact⟨by rw[e],zW9 e⟩
theorem yC9 {m:Int} {T:GTable} {e:GExpr}: ∀{l:List Ln} {acc:GValue},(∀x∈l,evR T x.v e=(x.v.getD 3 zeroV,0))->(∀x∈l,((x.v.getD 3 zeroV).kind=0->(x.v.getD 3 zeroV).n=0)/\0<=(x.v.getD 3 zeroV).n/\(x.v.getD 3 zeroV).n<=m)->0<=acc.n->acc.n+m*l.length<=4611686018427387904->(sumF T e l acc).2=0/\(sumF T e l acc).1.n=acc.n+(l.map fun x=>(x.v.getD 3 zeroV).n).sum
 | [],acc,_,_,_,_=>⟨rfl,by simp[sumF]⟩
 |x::l,acc,he,hx,h0,hm=>by
  obtain⟨a1,a2,a3⟩:=hx x (Al ..)
  have aa:0<=m:=om
  have ab:0<=m*(l.length:Int):=Int.mul_nonneg aa om
  rw[Aa,show m*((l.length+1:Nat):Int)=m*(l.length:Int)+m by rw[Int.natCast_add,Int.mul_add];simp]at hm
  rw[sumF,he x (Al ..),if_neg (fun q=>q rfl)]
  simp only
  by_cases q:(x.v.getD 3 zeroV).kind=0
  .rw[if_pos q]
   obtain⟨b1,b2⟩:=yC9 (acc:=acc) (fun y hy=>he y (Am _ hy)) (fun y hy=>hx y (Am _ hy)) h0 om
   exact⟨b1,by rw[b2,Ai,List.sum_cons,a1 q];omega⟩
  .rw[if_neg q]
   have hok:okI (acc.n+(x.v.getD 3 zeroV).n):=by unfold okI;omega
   have hr:rngF (acc.n+(x.v.getD 3 zeroV).n)=(acc.n+(x.v.getD 3 zeroV).n,0):=by unfold rngF;rw[if_pos hok]
   rw[hr,if_neg (fun q=>q rfl)]
   obtain⟨b1,b2⟩:=yC9 (acc:=⟨2,acc.n+(x.v.getD 3 zeroV).n,[]⟩) (fun y hy=>he y (Am _ hy)) (fun y hy=>hx y (Am _ hy)) (by show 0<=acc.n+_;omega) (by show acc.n+_+_<=_;omega)
   exact⟨b1,by rw[b2,Ai,List.sum_cons];simp only;omega⟩
theorem wc0 (less:Bool) (hd:d<12) (hk:LsK l): ∃S:GValue×Int,S=sumF tblT (xN [78]) (metC less d l) zeroV/\(S.2≠0->(lotF (yC (txC 2 less d)).1 l).1.1≠0)/\(S.2=0->(lotF (yC (txC 2 less d)).1 l).1=(0,0,[⟨0,[[S.1]]⟩])/\ze7 (yC (txC 2 less d)).1 l= []):=by
 refine⟨_,rfl, ?_⟩
 obtain⟨S,hS⟩:=eX (sumF tblT (xN [78]) (metC less d l) zeroV)
 rw[hS]
 obtain⟨s,h⟩:=xb2 (j:=2) dc less hd
 have hi:=h.it
 unfold itC at hi
 simp only[A1,decide_eq_true_eq]at hi
 obtain⟨hi,aa⟩:=hi
 have aa:=ye6 _ _ aa
 have ad:=h.kind
 rw[if_neg dc]at ad
 obtain⟨x,hx,ae,af⟩: ∃x,s.items= [x]/\x.kind=4/\x.e=xN [78]:=by
  cases e:s.items with
  |nil=>rw[e]at hi;cases hi
  |cons a l=>cases l with
   |nil=>rw[e]at hi aa;exact⟨a,rfl,by simpa using hi,by simpa using aa⟩
   |cons b l=>rw[e]at hi;simp at hi
 have ab:doS s l=(if S.2≠0 then(⟨0,[]⟩,l,S.2)else(⟨0,[[S.1]]⟩,l,0)):=by
  unfold doS
  simp only[h.tab,ad,xh7]
  rw[if_neg dc,show metF ((Int.toNat 0:Nat):Int) tblT s l=(metC less d l,0) from h.met l hk,if_neg (fun q=>q rfl),if_pos trivial]
  unfold selF
  rw[hx,if_pos (by simp[zs7,ae]),zt3,if_pos ae,af,hS,zt3]
  by_cases q:S.2≠0
  .simp[q]
  .simp[show S.2=0 by simpa using q]
 refine⟨fun q=> ?_,fun q=> ?_⟩
 .rw[if_pos q]at ab
  intro h0
  have h2:=(lotF_0.1 h0).2
  rw[h.stmts,doL,ab,if_pos q]at h2
  exact q h2
 .rw[if_neg (fun p=>p q)]at ab
  have e:=yd5 h l _ ab rfl
  exact⟨by rw[e],zW9 e⟩
theorem yf0: ∀(m l:List Ln),delF m l=l.filter fun y=> !atF m y.at
 | [],l=>(D1.2 fun x _=>rfl).symm
 |x::m,l=>by
  rw[delF,yf0 m,Ct]
  refine Cy fun y _=> ?_
  unfold atF
  rw[Dy,Bool.not_or]
  by_cases e:y.at=x.at
  .simp[e]
  .have e2: ¬x.at=y.at:=fun h=>e h.symm
   simp[e,e2]
theorem wc1 (less:Bool) (hd:d<12) (hk:LsK l):lotF (yC (txC 3 less d)).1 l=((0,0,[⟨(metC less d l).length,[]⟩]),delF (metC less d l) l):=by
 obtain⟨s,h⟩:=xb2 (j:=3) dc less hd
 have aa:=h.kind
 rw[if_pos rfl]at aa
 have ab:doS s l=(⟨(metC less d l).length,[]⟩,delF (metC less d l) l,0):=by
  unfold doS
  simp only[h.tab,aa,xh7]
  rw[if_neg dc,show metF ((Int.toNat 0:Nat):Int) tblT s l=(metC less d l,0) from h.met l hk,if_neg (fun q=>q rfl),if_neg dc,if_neg dc]
 exact yd5 h l _ ab rfl
theorem xu8 (hr:Rise (l.map Ln.at)) (hk:LsK l):((delF (metC less d l) l).filter inT).length+(metC less d l).length=(l.filter inT).length/\metC less d (delF (metC less d l) l)= []:=by
 have aa: ∀{x y:Ln},x∈l->y∈l->x.at=y.at->x=y:=fun{x y} hx hy e=>by
  obtain⟨i,hi,rfl⟩:=C7 hx
  obtain⟨j,hj,rfl⟩:=C7 hy
  have ae:i=j:=(Dh hr.nodup (h₀:=by simpa using hi) (h₁:=by simpa using hj)).1 (by rw[D5,D5,e])
  subst ae;rfl
 have ab: ∀x∈l,atF (metC less d l) x.at=(boxC less d x&&cndC less d x):=fun x hx=>by
  cases e:boxC less d x&&cndC less d x with
  |true=>
   rw[A1]at e
   exact atF_iff.2 (Ad.2 ⟨x,Bb.2 ⟨Bb.2 ⟨hx,e.1⟩,e.2⟩,rfl⟩)
  |false=>
   cases q:atF (metC less d l) x.at with
   |false=>rfl
   |true=>
    obtain⟨y,hy,af⟩:=Ad.1 (atF_iff.1 q)
    obtain⟨h1,h2⟩:=Bb.1 hy
    obtain⟨h3,h4⟩:=Bb.1 h1
    obtain rfl:=aa h3 hx af
    rw[h4,h2]at e;cases e
 have ag: ∀x∈l,boxC less d x=true->inT x=true:=fun x hx hb=>by
  obtain⟨_,_,k,ai,_,_,_,ah⟩:=yU7 (hk x hx) (xa9 hb)
  unfold boxC at hb
  rw[A1]at hb
  unfold inT
  rw[hb.1,ah,all_inT.1,all_inT.2];rfl
 have ad:delF (metC less d l) l=l.filter fun y=> !(boxC less d y&&cndC less d y):=by
  rw[yf0]
  exact Cy fun x hx=>by rw[ab x hx]
 rw[ad]
 constructor
 .have hm:metC less d l=(l.filter inT).filter fun y=>boxC less d y&&cndC less d y:=by
   unfold metC
   rw[Ct,Ct]
   refine Cy fun x hx=> ?_
   cases e:boxC less d x with
   |false=>simp
   |true=>rw[ag x hx e];cases cndC less d x<;>rfl
  have hl:(l.filter fun y=> !(boxC less d y&&cndC less d y)).filter inT=(l.filter inT).filter fun y=> !(boxC less d y&&cndC less d y):=by
   rw[Ct,Ct]
   exact Cy fun x _=>Bool.and_comm ..
  rw[hm,hl]
  have: ∀(p:Ln->Bool) (k:List Ln),(k.filter fun y=> !p y).length+(k.filter p).length=k.length:=fun p k=>by
   induction k with
   |nil=>rfl
   |cons a k ih=>rw[C4,C4,Aa];cases p a<;>simp<;>omega
  exact this _ _
 .unfold metC
  rw[Ct,Ct]
  refine List.filter_eq_nil_iff.2 fun x _=> ?_
  cases boxC less d x<;>cases cndC less d x<;>simp
theorem wf9:allN (chkQ fN) [48] 0=true:=kR
theorem wg0:allN (chkQ fN) [49] 0=true:=kR
theorem wg1:allN (chkQ fN) [48] 4=true:=kR
theorem wg2:allN (chkQ fN) [49] 4=true:=kR
theorem wa8:allN (chkQ fN) [48] 16=true:=kR
theorem wa9:allN (chkQ fN) [49] 16=true:=kR
theorem rn3:allN (chkQ fN) [] 3=true:=kR
theorem rnV:allV (chkQ fN)=true:=kR
theorem rnG:allG (chkQ fN)=true:=kR
theorem yD4 {p:List UInt8->Prop} (h0:p [48]) (h1:p [49]): ∀r∈rsL,p r:=fun r hr=>by
 simp only[rsL,Af,Ay,or_false]at hr
 rcases hr with rfl|rfl
 .exact h0
 .exact h1
theorem xj5:AllQ (chkQ fN):=⟨rn3,yD4 wf9 wg0,yD4 wg1 wg2,yD4 wa8 wa9,rnV,rnG⟩
theorem zS5 (hS:StI n P) (hn:n<=7500) (ai:tx.length<=maxLen) {R:List (List GValue)} (af:(lotF (yC tx).1 (zZ (vsG 0 P))).1=(0,0,[⟨0,R⟩])) (ag:ze7 (yC tx).1 (zZ (vsG 0 P))= []):
  VCalls prog 26 [.ptr 0 0,.str tx] [.box (yB P)] (fun r s=>r= .tup [.sl .ro (R.map rowV),.bool true]/\s= [.box (yB P)]):=by
 have ab:=yE8 tx ai
 have ad:=zC1 tx
 have ae:=zF8 P hS.eight
 obtain⟨v1,v2,v3,v4⟩:=hS.vs hn
 have aa:=yO1 (yC tx).1 ad (vsG 0 P) om (fun x hx=>⟨(v2 x hx).1,by have:=(v2 x hx).2.1;omega,(v2 x hx).2.2⟩) v4
 rw[zS7,af,ag]at aa
 obtain⟨L,hL⟩:=eX ((yC tx).1)
 rw[hL]at ab aa
 obtain⟨vs,ah⟩:=eX (vsG 0 P)
 rw[ah]at ae aa
 have aj:=zn8
 clear af ag hL ah v1 v2 v3 v4 ad
 refine iV 1 func26 ntmps26 results26 fun c hc hb=> ?_
 refine zA ?_
 simp[go_sem]
 refine pC aj ?_
 simp[go_sem,schR]
 refine pC ab ?_
 simp[go_sem]
 refine za4 1 ae cB rfl rfl (by rw[Ac,yG];rfl) (wB (n:=1) rfl) ?_ ?_
 .rintro r s' ⟨rfl,rfl⟩
  exact⟨rfl,by rw[Ac,yG];rfl,rfl⟩
 rintro r s' ⟨rfl,rfl⟩
 simp[go_sem]
 refine pC aa ?_
 simp[go_sem,ansR,Ot.row]
 exact zp7 1 (r:= .tup [.sl .ro (R.map rowV),.bool true]) rfl (by simp[yG]) (A4 _) (xU ⟨zt5,za1 rfl,tV⟩) ⟨rfl,rfl⟩
theorem xh1 (hS:StI n P) (hn:n<=7500) {oc:Int} {down:Bool} {lim:Int} (h:chkO oc down lim tx=true) (ab:tx.length<=maxLen) {R:List (List GValue)}
  (hR:(limF lim (if 0<=oc then zo2 oc.toNat down ((zZ (vsG 0 P)).filter inT)else(zZ (vsG 0 P)).filter inT)).map (·.v)=R):
  VCalls prog 26 [.ptr 0 0,.str tx] [.box (yB P)] (fun r s=>r= .tup [.sl .ro (R.map rowV),.bool true]/\s= [.box (yB P)]):=by
 obtain⟨aa,ad⟩:=wc2 h (zZ (vsG 0 P))
 rw[hR]at aa
 exact zS5 hS hn ab aa ad
theorem wh5: ∀k<256,IntKind.u8.wrap ((k:Nat):Int)=k:=dc
theorem xP6 (hS:StI n P) (hn:n<=7500) (ag:tx.length<=maxLen) (h0:(lotF (yC tx).1 (zZ (vsG 0 P))).1.1≠0):
  VCalls prog 26 [.ptr 0 0,.str tx] [.box (yB P)] (fun r s=>r= .tup [.sl .full [],.bool false]/\s= [.box (yB P)]):=by
 have ab:=yE8 tx ag
 have ad:=zC1 tx
 have ae:=zF8 P hS.eight
 obtain⟨v1,v2,v3,v4⟩:=hS.vs hn
 have aa:=yO1 (yC tx).1 ad (vsG 0 P) om (fun x hx=>⟨(v2 x hx).1,by have:=(v2 x hx).2.1;omega,(v2 x hx).2.2⟩) v4
 rw[zS7]at aa
 obtain⟨E,hE⟩:=eX ((lotF (yC tx).1 (zZ (vsG 0 P))).1)
 obtain⟨U,hU⟩:=eX (ze7 (yC tx).1 (zZ (vsG 0 P)))
 rw[hE,hU]at aa
 rw[hE]at h0
 obtain⟨er,ix,outs⟩:=E
 have ah:(er !=0)=true:=sU h0
 obtain⟨L,hL⟩:=eX ((yC tx).1)
 rw[hL]at ab aa
 obtain⟨vs,af⟩:=eX (vsG 0 P)
 rw[af]at ae aa
 have ai:=zn8
 clear hE hU hL af v1 v2 v3 v4 ad
 refine iV 1 func26 ntmps26 results26 fun c hc hb=> ?_
 refine zA ?_
 simp[go_sem]
 refine pC ai ?_
 simp[go_sem,schR]
 refine pC ab ?_
 simp[go_sem]
 refine za4 1 ae cB rfl rfl (by rw[Ac,yG];rfl) (wB (n:=1) rfl) ?_ ?_
 .rintro r s' ⟨rfl,rfl⟩
  exact⟨rfl,by rw[Ac,yG];rfl,rfl⟩
 rintro r s' ⟨rfl,rfl⟩
 simp[go_sem]
 refine pC aa ?_
 simp[go_sem,ansR,ah]
 exact zp7 1 (r:= .tup [.sl .full [],.bool false]) rfl (by simp[yG]) (A4 _) (xU ⟨za1 rfl,za1 rfl,tV⟩) ⟨rfl,rfl⟩
def nOf (x:List GValue):Int:=(x.getD 3 zeroV).n
structure CntI (P P2:List (List Pr)) (less:Bool) (d:Nat) (A B A2:List (List GValue)) (S:GValue×Int) (U:List (Int×List Wr)):Prop where
 all:VCalls prog 26 [.ptr 0 0,.str txT] [.box (yB P)] (fun r s=>r= .tup [.sl .ro (A.map rowV),.bool true]/\s= [.box (yB P)])
 some:VCalls prog 26 [.ptr 0 0,.str (txC 0 less d)] [.box (yB P)] (fun r s=>r= .tup [.sl .ro (B.map rowV),.bool true]/\s= [.box (yB P)])
 count:VCalls prog 26 [.ptr 0 0,.str (txC 1 less d)] [.box (yB P)] (fun r s=>r= .tup [.sl .ro ([[(⟨2,B.length,[]⟩:GValue)]].map rowV),.bool true]/\s= [.box (yB P)])
 sumY:S.2=0->VCalls prog 26 [.ptr 0 0,.str (txC 2 less d)] [.box (yB P)] (fun r s=>r= .tup [.sl .ro ([[S.1]].map rowV),.bool true]/\s= [.box (yB P)])
 sumN:S.2≠0->VCalls prog 26 [.ptr 0 0,.str (txC 2 less d)] [.box (yB P)] (fun r s=>r= .tup [.sl .full [],.bool false]/\s= [.box (yB P)])
 run:Pure prog 21 [schR tabsS,.agg (yC (txC 3 less d)).1.row,.sl .ro ((vsG 0 P).map vwR)] (.tup [.agg (ansR (0,0,[⟨B.length,[]⟩])),.sl .ro (U.map putR)])
 doU:VCalls prog 17 [.ptr 0 0,.sl .ro (U.map putR)] [.box (yB P)] (fun r s=>r= .tup []/\s= [.box (yB P2)])
 left:VCalls prog 26 [.ptr 0 0,.str txT] [.box (yB P2)] (fun r s=>r= .tup [.sl .ro (A2.map rowV),.bool true]/\s= [.box (yB P2)])
 none:VCalls prog 26 [.ptr 0 0,.str (txC 0 less d)] [.box (yB P2)] (fun r s=>r= .tup [.sl .ro (([]:List (List GValue)).map rowV),.bool true]/\s= [.box (yB P2)])
 four: ∀x∈B,x.length=4
 small:B.length<=7500/\A.length<=7500
 len:A2.length+B.length=A.length
 nok: ∀x∈B,0<=nOf x/\(nOf x<=506∨nOf x=9223372036854775807)
 sum:(∀x∈B,nOf x<=506)->S.2=0/\S.1.n=(B.map nOf).sum
theorem zM1 (j:Nat) (less:Bool) (d:Nat):(txC j less d).length<=maxLen:=by
 have h1:(cHd j).length<=100:=by unfold cHd;split<;>decide
 have h2:=zQ5 d
 unfold txC cWh
 split<;>simp[maxLen]<;>omega
theorem xK8 (hS:StI n P) (hn:n<=3600) (hv:NvL 506 (zZ (vsG 0 P))) (less:Bool) (hd:d<12): ∃P2 A B A2 S U,CntI P P2 less d A B A2 S U:=by
 have hT:=hS.tl
 have hk:=hT.lok
 obtain⟨b,hb⟩: ∃b,NowOk b (zZ (vsG 0 P)):=by obtain⟨w,hT⟩:=zB8 (vsG 0 P);exact⟨_,hT.now⟩
 have ao:(zZ (vsG 0 P)).length<=7500:=by
  obtain⟨w,hw⟩:=zB8 (vsG 0 P)
  have h1:(zZ (vsG 0 P)).length<=(yL (vsG 0 P)).length:=hw.len
  have:=hS.len
  omega
 have aa:=zC1 (txC 3 less d)
 obtain⟨q1,q2,ab⟩:=ya2 hS om aa
 have d3:=wc1 less hd hk
 obtain⟨P2,ae⟩:=eX (doP P (ze7 (yC (txC 3 less d)).1 (zZ (vsG 0 P))))
 rw[ae]at ab
 have ag:=hT.step hb aa (by rw[d3])
 rw[ae,d3]at ag
 have ak:zZ (vsG 0 P2)=delF (metC less d (zZ (vsG 0 P))) (zZ (vsG 0 P)):=ab.tl.uniq ag
 have al:=ab.tl.lok
 obtain⟨z1,z2⟩:=xu8 (less:=less) (d:=d) hT.lrise hk
 rw[<-ak]at z1 z2
 obtain⟨a1,a2⟩:=xG0 less hd hk
 obtain⟨b1,b2⟩:=wb9 less hd hk
 obtain⟨S,an,c1,c2⟩:=wc0 less hd hk
 obtain⟨e1,e2⟩:=xG0 less hd al
 rw[z2]at e1
 have ah:=(by
  obtain⟨v1,v2,v3,v4⟩:=hS.vs om
  have h:=yO1 (yC (txC 3 less d)).1 aa (vsG 0 P) om (fun x hx=>⟨(v2 x hx).1,by have:=(v2 x hx).2.1;omega,(v2 x hx).2.2⟩) v4
  rw[zS7,d3]at h
  exact h:Pure prog 21 [schR tabsS,.agg (yC (txC 3 less d)).1.row,.sl .ro ((vsG 0 P).map vwR)] _)
 have ai:=yv9 P hS.eight (hS.small om) _ q1 q2
 rw[ae]at ai
 have aq:(metC less d (zZ (vsG 0 P))).length<=(zZ (vsG 0 P)).length:=B3 (Bj _ _) (Bj _ _)
 have aj: ∀x∈metC less d (zZ (vsG 0 P)),x∈zZ (vsG 0 P)/\boxC less d x=true:=fun x hx=>Bb.1 (Bb.1 hx).1
 have ad: ∀x∈metC less d (zZ (vsG 0 P)),RowT x.v/\zn5 tblT.cols x.v=true/\nOk 506 (x.v.getD 3 zeroV)=true:=fun x hx=>by
  obtain⟨h1,h2⟩:=aj x hx
  obtain⟨r1,r2,_⟩:=yU7 (hk x h1) (xa9 h2)
  exact⟨r1,r2,hv x h1 (xa9 h2)⟩
 have af: ∀x∈metC less d (zZ (vsG 0 P)),((x.v.getD 3 zeroV).kind=0->(x.v.getD 3 zeroV).n=0)/\0<=nOf x.v/\(nOf x.v<=506∨nOf x.v=9223372036854775807):=fun x hx=>by
  have h:=(ad x hx).2.2
  unfold nOk at h
  unfold nOf
  simp only[Be,A1,decide_eq_true_eq]at h
  omega
 refine⟨P2,((zZ (vsG 0 P)).filter inT).map (·.v),(metC less d (zZ (vsG 0 P))).map (·.v),((zZ (vsG 0 P2)).filter inT).map (·.v),S,_,
  ⟨xh1 hS om xT3 dc rfl,zS5 hS om (zM1 ..) a1 a2,zS5 hS om (zM1 ..) (by rw[b1,An]) b2,
   fun q=>zS5 hS om (zM1 ..) (c2 q).1 (c2 q).2,fun q=>xP6 hS om (zM1 ..) (c1 q), ?_,ai,xh1 ab om xT3 dc rfl,zS5 ab om (zM1 ..) e1 e2, ?_, ?_, ?_, ?_, ?_⟩⟩
 .rw[An];exact ah
 .intro x hx
  obtain⟨y,hy,rfl⟩:=Ad.1 hx
  obtain⟨r,k,v,n,e,_⟩:=(ad y hy).1.four
  rw[e];rfl
 .have:=Bj inT (zZ (vsG 0 P))
  rw[An,An]
  omega
 .rw[An,An,An];exact z1
 .intro x hx
  obtain⟨y,hy,rfl⟩:=Ad.1 hx
  exact(af y hy).2
 .intro hs
  have h:=yC9 (m:=506) (T:=tblT) (e:=xN [78]) (l:=metC less d (zZ (vsG 0 P))) (acc:=zeroV) (fun x hx=>by
   have hm:=(ad x hx).2.1
   unfold evR
   rw[if_neg dc,if_neg (by rw[hm];decide)]
   rfl) (fun x hx=>⟨(af x hx).1,(af x hx).2.1,hs x.v (Ad.2 ⟨x,hx,rfl⟩)⟩) dc (by show(0:Int)+506*_<=_;omega)
  rw[<-an]at h
  refine⟨h.1,h.2.trans ?_⟩
  rw[Bh]
  show(0:Int)+_=_
  rw[Int.zero_add];rfl
theorem nv_0 (P:List (List Pr)) (h:P=P0):NvL 11 (zZ (vsG 0 P)):=by
 subst h
 intro x hx
 have:zZ (vsG 0 P0)= []:=rfl
 rw[this]at hx;cases hx
theorem yw0: ∀{l:List Int},(∀x∈l,0<=x/\x<=506)->0<=l.sum/\l.sum<=506*l.length
 | [],_=>by simp
 |x::l,h=>by
  have h1:=h x (Al ..)
  have h2:=yw0 fun y hy=>h y (Am _ hy)
  rw[List.sum_cons,Aa]
  omega
theorem yy8 (l:List (List GAct)) (hok: ∀x∈l,x.length<=maxLen/\ ∀a∈x,a.ok) (k:Int) (hk:0<=k/\k<=255) (less:Bool):Pure prog 9 [.sl .ro (l.map yZ8),.int .u8 k,.bool less] (.bool true):=by
 have ak:=xj9
 refine iV 0 func9 ntmps9 results9 fun c hc hb=> ?_
 refine zA ?_
 simp[go_sem]
 refine pC ak ?_
 simp[go_sem]
 by_cases aL:l.length<=15
 rotate_left
 .have q:15<(l.length:Int):=om
  simp[go_sem,q]
  exact wR
 have q: ¬15<(l.length:Int):=om
 have av:=xQ6 l om hok
 simp[go_sem,q]
 refine zJ7 av cB ⟨zL,tV⟩ ?_
 rintro r s ⟨rfl,P,⟨hS,hP⟩,rfl⟩
 have hv:NvL 506 (zZ (vsG 0 P)):=by
  have:=yP2 xj5 l (fun x hx=>(hok x hx).2) P0 0 11 xU9 (Int.le_refl _) (nv_0 _ rfl)
  rw[show l.foldl zP7 P0=P from hP.symm]at this
  exact fun x hx hr=>zE7 om (this x hx hr)
 obtain⟨km,ai⟩: ∃km:Nat,k.tmod 12=km/\km<12:=⟨(k%12).toNat,by rw[Int.tmod_eq_emod_of_nonneg hk.1];omega,om⟩
 obtain⟨ai,aw⟩:=ai
 have e8:IntKind.u8.wrap (km:Int)=km:=wh5 km om
 have ax:IntKind.i64.wrap (km:Int)=km:=i64_id om om
 have ay:=ye3 km om
 have aP:=zQ5 km
 obtain⟨P2,A,B,A2,S,U,hI⟩:=xK8 hS om hv less aw
 obtain⟨az,ae,aa,ab,ad,ah,aD,an,af,ao,⟨aQ,aR⟩,hlen,al,a1⟩:=hI
 have aE:=zn8
 have ag:=yE8 (txC 3 less km) (zM1 ..)
 have a6:=zF8 P hS.eight
 obtain⟨L,hL⟩:=eX ((yC (txC 3 less km)).1)
 rw[hL]at ah ag
 obtain⟨vs,a7⟩:=eX (vsG 0 P)
 rw[a7]at ah a6
 have hw:cWh less km=(if less=true then [32,87,72,69,82,69,32,78,32,60,32]++digF km++ [32,79,82,32,86,32,73,83,32,78,85,76,76]else [32,87,72,69,82,69,32,75,32,62,61,32]++digF km):=rfl
 have aF:(cWh less km).length<=100:=by rw[hw];split<;>simp<;>omega
 have t0:txC 0 less km= [83,69,76,69,67,84,32,42,32,70,82,79,77,32,84]++cWh less km:=rfl
 have t1:txC 1 less km= [83,69,76,69,67,84,32,67,79,85,78,84,40,42,41,32,70,82,79,77,32,84]++cWh less km:=rfl
 have t2:txC 2 less km= [83,69,76,69,67,84,32,83,85,77,40,78,41,32,70,82,79,77,32,84]++cWh less km:=rfl
 have t3:txC 3 less km= [68,69,76,69,84,69,32,70,82,79,77,32,84]++cWh less km:=rfl
 rw[t0]at ae af
 rw[t1]at aa
 rw[t2]at ab ad
 rw[t3]at ag
 obtain⟨W,hW⟩:=eX (cWh less km)
 rw[hW]at ae af aa ab ad ag aF hw
 clear hok av ak hv hL a7 t0 t1 t2 t3 hS hP hW
 simp[go_sem,ai,e8,ax]
 refine pC ay ?_
 simp[go_sem]
 refine zI om ?_
 obtain⟨sv,dB,aq,a8,aG⟩: ∃sv dB,VCalls prog 26 [.ptr 0 0,.str ([83,69,76,69,67,84,32,83,85,77,40,78,41,32,70,82,79,77,32,84]++W)] [.box (yB P)] (fun r s=>r= .tup [sv,.bool dB]/\s= [.box (yB P)])/\ltS 1 (.tup [sv,.bool dB])=true/\(S.2=0->sv= .sl .ro [rowV [S.1]]/\dB=true):=by
  by_cases qS:S.2=0
  .exact⟨_,_,ab qS,rfl,fun _=>⟨rfl,rfl⟩⟩
  .exact⟨_,_,ad qS,rfl,fun h=>absurd h qS⟩
 clear ab ad
 have aH:IntKind.i64.wrap ((A.length:Int) - B.length)=(A2.length:Int):=by rw[i64_id om om];omega
 obtain⟨ls,aS⟩:=eX less
 cases less
 all_goals simp[go_sem]
 rotate_left
 all_goals try simp[go_sem,ai,e8,ax]
 refine pC ay ?_
 simp[go_sem]
 refine zI om ?_
 simp[go_sem]
 refine zI om ?_
 simp[go_sem]
 all_goals
  simp at hw
  refine za4 1 az cB rfl rfl (by rw[Ac,yG];rfl) (wB (n:=1) rfl) ?_ ?_
  .rintro r s' ⟨rfl,rfl⟩
   exact⟨rfl,by rw[Ac,yG];rfl,rfl⟩
  rintro r s' ⟨rfl,rfl⟩
  simp[go_sem,txT]
  refine zI om ?_
  simp[go_sem]
  refine za4 1 ae cB rfl rfl (by rw[Ac,yG];rfl) (zF (by simp[hw]) rfl) ?_ ?_
  .rintro r s' ⟨rfl,rfl⟩
   exact⟨rfl,by rw[Ac,yG];rfl,rfl⟩
  rintro r s' ⟨rfl,rfl⟩
  simp[go_sem]
  refine zI om ?_
  simp[go_sem]
  refine za4 1 aa cB rfl rfl (by rw[Ac,yG];rfl) (zF (by simp[hw]) rfl) ?_ ?_
  .rintro r s' ⟨rfl,rfl⟩
   exact⟨rfl,by rw[Ac,yG];rfl,rfl⟩
  rintro r s' ⟨rfl,rfl⟩
  simp[go_sem,rowV]
  refine zH (S:=Nat×Int×Bool) [7,8,9,11,15,16,17] (fun u=> [.ptr 0 0,.str W,.sl .ro (A.map rowV),.sl .ro (B.map rowV),.int .i64 u.2.1,.bool u.2.2,.int .i64 u.1]) (fun _=> [.box (yB P)]) (fun u=>B.length - u.1)
   (fun u=>u.1<=B.length/\(u.2.2=true->(∀x∈B.take u.1,nOf x<=506)/\u.2.1=((B.take u.1).map nOf).sum)) hc hb (0,0,true) ⟨A3 _,fun _=>⟨fun x hx=>by simp at hx,rfl⟩⟩ ?_ ?_
  .exact aM 1 (by rw[Ac,yG];rfl) (zF (by simp[go_sem,hw,rowV]) rfl)
  rintro⟨i,sm,f⟩ ⟨hi,hf⟩
  simp only at hi hf
  by_cases q:i<B.length
  rotate_left
  .rw[Ap om]at hf
   refine zA ?_
   simp[go_sem,q]
   refine zI om ?_
   simp[go_sem]
   refine za4 1 aq cB rfl rfl (by rw[Ac,yG];rfl) (zF sM rfl) ?_ ?_
   .rintro r s' ⟨rfl,rfl⟩
    exact⟨rfl,by rw[Ac,yG];rfl,a8⟩
   rintro r s' ⟨rfl,rfl⟩
   refine(A7 f).elim (fun w=> ?_) (fun w=> ?_)
   rotate_left
   simp[go_sem,w]
   rotate_left
   obtain⟨f1,f2⟩:=hf w
   obtain⟨g1,g2⟩:=a1 f1
   obtain⟨g3,g4⟩:=aG g1
   have g5:S.1.n=sm:=g2.trans f2.symm
   simp[go_sem,w,g3,g4,g5,rowV]
   all_goals
    refine pC aE ?_
    simp[go_sem]
    refine zI om ?_
    simp[go_sem]
    refine zM ag cB (zN sM rfl) rfl ?_
    simp[go_sem]
    refine za4 1 a6 cB rfl rfl (by rw[Ac,yG];rfl) (wB (n:=1) rfl) ?_ ?_
    .rintro r s' ⟨rfl,rfl⟩
     exact⟨rfl,by rw[Ac,yG];rfl,rfl⟩
    rintro r s' ⟨rfl,rfl⟩
    simp[go_sem]
    refine pC ah ?_
    simp[go_sem,ansR,Ot.row]
    refine za4 1 aD cB rfl rfl (by rw[Ac,yG];rfl) (wB (n:=1) rfl) ?_ ?_
    .rintro r s' ⟨rfl,rfl⟩
     exact⟨rfl,by rw[Ac,yG];rfl,rfl⟩
    rintro r s' ⟨rfl,rfl⟩
    simp[go_sem]
    refine za4 1 an cB rfl rfl (by rw[Ac,yG];rfl) (wB (n:=1) rfl) ?_ ?_
    .rintro r s' ⟨rfl,rfl⟩
     exact⟨rfl,by rw[Ac,yG];rfl,rfl⟩
    rintro r s' ⟨rfl,rfl⟩
    simp[go_sem,txT]
    refine zI om ?_
    simp[go_sem]
    refine za4 1 af cB rfl rfl (by rw[Ac,yG];rfl) (zF sM rfl) ?_ ?_
    .rintro r s' ⟨rfl,rfl⟩
     exact⟨rfl,by rw[Ac,yG];rfl,rfl⟩
    rintro r s' ⟨rfl,rfl⟩
    simp[go_sem,aH]
    exact wR
  have ei:=zS q om
  refine Exists.elim (show∃x,B[i]'q=x from⟨_,rfl⟩) fun x hx=> ?_
  have aI:=ao x (hx▸Ab q)
  refine Exists.elim (show∃v,x[3]'om=v from⟨_,rfl⟩) fun v hv=> ?_
  have ar:nOf x=v.n:=by unfold nOf;rw[A8,A0 om,hv];rfl
  have aJ:=al x (hx▸Ab q)
  rw[ar]at aJ
  have aA: ¬v.n<0:=om
  have aB:B.take (i+1)=B.take i++ [x]:=by rw[By q,hx]
  refine zP (zA ?_)
  simp[go_sem,q]
  refine zP (zh3 (zP (zA ?_)))
  simp[go_sem,q,hx,aI,hv,rowV]
  refine zA ?_
  refine(A7 f).elim (fun w=> ?_) (fun w=> ?_)
  .have aj:=hf w
   have aK:=yw0 (l:=(B.take i).map nOf) fun y hy=>by
    obtain⟨z,hz,rfl⟩:=Ad.1 hy
    exact⟨(al z (Cu hz)).1,aj.1 z hz⟩
   rw[An,D4,<-aj.2]at aK
   have aC:sm<=4611686018427387904:=om
   by_cases hn:v.n<=506
   .have au:v.n<=4611686018427387904:=om
    have ew:IntKind.i64.wrap (sm+v.n)=sm+v.n:=i64_id om om
    simp[go_sem,w,aA,aC,au,ew]
    refine zA ?_
    simp[go_sem,ei]
    exact zG (i+1,sm+v.n,true) ⟨by show B.length - (i+1)<B.length - i;omega,⟨q,fun _=>⟨fun y hy=>by
     rw[aB]at hy
     rcases B5.1 hy with hy|hy
     .exact aj.1 y hy
     .rw[Cc.1 hy,ar];exact hn,by
     show sm+v.n=_
     rw[aB,Co,List.sum_append,<-aj.2];simp[ar]⟩⟩,aN 1 (by rw[Ac,yG];rfl)⟩
   .have au: ¬v.n<=4611686018427387904:=om
    simp[go_sem,w,aA,aC,au]
    refine zA ?_
    simp[go_sem,ei]
    exact zG (i+1,IntKind.i64.wrap (sm+v.n),false) ⟨by show B.length - (i+1)<B.length - i;omega,⟨q,fun h=>by cases h⟩,aN 1 (by rw[Ac,yG];rfl)⟩
  .simp[go_sem,w]
   refine zA ?_
   simp[go_sem,ei]
   exact zG (i+1,IntKind.i64.wrap (sm+v.n),false) ⟨by show B.length - (i+1)<B.length - i;omega,⟨q,fun h=>by cases h⟩,aN 1 (by rw[Ac,yG];rfl)⟩
end Go.Proofs.YtefbicjgbaaieaaGreat
