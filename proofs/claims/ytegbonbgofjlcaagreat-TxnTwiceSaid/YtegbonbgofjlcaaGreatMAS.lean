/-
  The document's cells (antipoderef8): what a cell tells, what stands in the way; for TxnTwice.
  Conditions: as each theorem states them.
-/
import Derived.Test.YtegbonbgofjlcaaGreatMAH
import Derived.Test.YtegbonbgofjlcaaGreatMAE
import Derived.Test.YtegbonbgofjlcaaGreatMAR
set_option maxHeartbeats 8000000
namespace Go.Proofs.YtegbonbgofjlcaaGreat
open Go Go.Vx Go.Proofs.Tryz
set_option maxRecDepth 100000
theorem yS1(a b:List ca)(ha:a.length<=100000)(_:b.length<=100000):Pure prog 187 [.sl .ro (a.map ca.row),.sl .ro (b.map ca.row)] (.bool (decide (a=b))):=by
 obtain⟨M,hM⟩:=eX (decide (a=b));rw[hM];have ret:∀(r:Bool)(I:St),r=M->cz (some (.bool r)) 0 (λr s=>r=.bool M/\s=[]) I:=λr I h=>by subst h;exact zQ (zC rfl) sM
 refine iV 0 func187 ntmps187 results187 λc hc hb=>?_;by_cases ql:a.length=b.length;rotate_left
 .have aa:((a.length:Int)!=b.length)=true:=by grind
  refine zA ?_;simp[go_sem,aa];exact ret _ _ (by grind)
 have aa:((a.length:Int)!=b.length)=false:=by grind
 refine zA ?_;simp[go_sem,aa];refine zG (S:=Nat) [0,1,12,13] (λi=>[.sl .ro (a.map ca.row),.sl .ro (b.map ca.row),.int .i64 a.length,.int .i64 (i:Int)]) (λ_=>[]) (λi=>a.length-i) (λi=>i<=a.length/\a.take i=b.take i) hc hb 0 sM ?_ ?_;.exact gC rfl (zR (by rfl) rfl)
 rintro i⟨hi,ht⟩;by_cases q:i<a.length;rotate_left;.refine zA ?_;simp[go_sem,q];exact ret _ _ (by grind)
 have q2:i<b.length:=om;have ei:=zO q om;obtain⟨x,hx⟩:=eX (a[i]);obtain⟨y,hy⟩:=eX (b[i]);by_cases e:x=y
 .have ad:a.take (i+1)=b.take (i+1):=by grind[Ac]
  subst e;refine zA ?_;simp[go_sem,q];refine yA [] 0 rfl (by rfl) kR ?_;simp[go_sem,q,q2,hx,hy,ei];exact zH (i+1) ⟨om,(by grind),gC rfl (zR (by rfl) rfl)⟩
 .have ae:decide (a=b)=false:=(by grind);have e2:(x.lo==y.lo&&x.hi==y.hi)=false:=by obtain⟨x1,x2⟩:=x;obtain⟨y1,y2⟩:=y;grind
  refine zA ?_;simp[go_sem,q];refine yA [] 0 rfl (by rfl) kR ?_;simp[go_sem,q,q2,hx,hy,e2];exact ret _ _ (by grind)
theorem yF0(a b:List di)(ha:a.length<=100000)(_:b.length<=100000):Pure prog 188 [.sl .ro (a.map di.row),.sl .ro (b.map di.row)] (.bool (decide (a=b))):=by
 obtain⟨M,hM⟩:=eX (decide (a=b));rw[hM];have ret:∀(r:Bool)(I:St),r=M->cz (some (.bool r)) 0 (λr s=>r=.bool M/\s=[]) I:=λr I h=>by subst h;exact zQ (zC rfl) sM
 refine iV 0 func188 ntmps188 results188 λc hc hb=>?_;by_cases ql:a.length=b.length;rotate_left
 .have aa:((a.length:Int)!=b.length)=true:=by grind
  refine zA ?_;simp[go_sem,aa];exact ret _ _ (by grind)
 have aa:((a.length:Int)!=b.length)=false:=by grind
 refine zA ?_;simp[go_sem,aa];refine zG (S:=Nat) [0,1,12,13] (λi=>[.sl .ro (a.map di.row),.sl .ro (b.map di.row),.int .i64 a.length,.int .i64 (i:Int)]) (λ_=>[]) (λi=>a.length-i) (λi=>i<=a.length/\a.take i=b.take i) hc hb 0 sM ?_ ?_;.exact gC rfl (zR (by rfl) rfl)
 rintro i⟨hi,ht⟩;by_cases q:i<a.length;rotate_left;.refine zA ?_;simp[go_sem,q];exact ret _ _ (by grind)
 have q2:i<b.length:=om;have ei:=zO q om;obtain⟨x,hx⟩:=eX (a[i]);obtain⟨y,hy⟩:=eX (b[i]);by_cases e:x=y
 .have ad:a.take (i+1)=b.take (i+1):=by grind[Ac]
  subst e;refine zA ?_;simp[go_sem,q];refine yA [] 0 rfl (by rfl) kR ?_;simp[go_sem,q,q2,hx,hy,ei];exact zH (i+1) ⟨om,(by grind),gC rfl (zR (by rfl) rfl)⟩
 .have ae:decide (a=b)=false:=(by grind);have e2:(x.key==y.key&&(x.drop==y.drop&&x.data==y.data))=false:=by obtain⟨x1,x2,x3⟩:=x;obtain⟨y1,y2,y3⟩:=y;grind
  refine zA ?_;simp[go_sem,q];refine yA [] 0 rfl (by rfl) kR ?_;simp[go_sem,q,q2,hx,hy,e2];exact ret _ _ (by grind)
theorem Yv(rows:List (List V))(hl:rows.length<=100000)(hu:eU 2 rows):Pure prog 109 [.sl .ro rows] (.sl .ro rows):=by
 refine iV 0 func109 ntmps109 results109 λc hc hb=>?_;refine zA ?_;by_cases hp:0<rows.length;.simp[go_sem,hp];refine zJ (by grind[eU]) ?_;simp[go_sem];exact zQ zK sM
 .obtain rfl:rows=[]:=(by grind);simp[go_sem];refine K8 (λb=>?_);cases b;.simp[go_sem];refine zJ om ?_;simp[go_sem];exact zQ zK sM
  .simp[go_sem];exact zQ zK sM
theorem Yw(rows:List (List V))(hl:rows.length<=100000)(hu:eU 3 rows):Pure prog 110 [.sl .ro rows] (.sl .ro rows):=by
 refine iV 0 func110 ntmps110 results110 λc hc hb=>?_;refine zA ?_;by_cases hp:0<rows.length;.simp[go_sem,hp];refine zJ (by grind[eU]) ?_;simp[go_sem];exact zQ zK sM
 .obtain rfl:rows=[]:=(by grind);simp[go_sem];refine K8 (λb=>?_);cases b;.simp[go_sem];refine zJ om ?_;simp[go_sem];exact zQ zK sM
  .simp[go_sem];exact zQ zK sM
theorem Yx(rows:List (List V))(hl:rows.length<=100000)(hu:eU 2 rows):Pure prog 114 [.sl .ro rows] (.sl .ro rows):=by
 refine iV 0 func114 ntmps114 results114 λc hc hb=>?_;refine zA ?_;by_cases hp:0<rows.length;.simp[go_sem,hp];refine zJ (by grind[eU]) ?_;simp[go_sem];exact zQ zK sM
 .obtain rfl:rows=[]:=(by grind);simp[go_sem];refine K8 (λb=>?_);cases b;.simp[go_sem];refine zJ om ?_;simp[go_sem];exact zQ zK sM
  .simp[go_sem];exact zQ zK sM
theorem wh7(rows:List (List V))(hl:rows.length<=100000)(hu:eU 3 rows):Pure prog 120 [.sl .ro rows] (.sl .ro rows):=by
 refine iV 0 func120 ntmps120 results120 λc hc hb=>?_;refine zA ?_;by_cases hp:0<rows.length;.simp[go_sem,hp];refine zJ (by grind[eU]) ?_;simp[go_sem];exact zQ zK sM
 .obtain rfl:rows=[]:=(by grind);simp[go_sem];refine K8 (λb=>?_);cases b;.simp[go_sem];refine zJ om ?_;simp[go_sem];exact zQ zK sM
  .simp[go_sem];exact zQ zK sM
def qE(c:fI):Prop:=c.cj.length<=100000/\c.writes.length<=100000
theorem xp1(a b:fI)(ha:qE a)(aa:qE b):Pure prog 113 [.agg a.row,.agg b.row] (.bool (decide (a=b))):=by
 have h1:=yS1 a.cj b.cj ha.1 aa.1;have h2:=yF0 a.writes b.writes ha.2 aa.2;obtain⟨M,hM⟩:=eX (decide (a=b));rw[hM];have ret:∀(r:Bool)(I:St),r=M->cz (some (.bool r)) 0 (λr s=>r=.bool M/\s=[]) I:=λr I h=>by subst h;exact zQ (zC rfl) sM
 obtain⟨ak,ae,an,ah,⟨a1,a2,a3,a4⟩,⟨a5,a6⟩,aw,ay,ab,ad⟩:=a;obtain⟨bk,be,bn,bh,⟨b1,b2,b3,b4⟩,⟨b5,b6⟩,bw,dh,af,ai⟩:=b;simp only at h1 h2;simp only[fI.mk.injEq,eZ.mk.injEq,cT.mk.injEq,Bool.decide_and]at hM;generalize decide (ab=af)=d1 at h1 hM;generalize decide (ad=ai)=d2 at h2 hM;refine iW 0 func113 ntmps113 results113 λc hc hb=>zM ?_;simp[go_sem];repeat'(first |(refine xG (λq=>?_) (λq=>?_)<;>simp[go_sem,q])|(refine pC h1 ?_;simp[go_sem])|(refine pC h2 ?_;simp[go_sem]))
 all_goals exact ret _ _ (by rw[<-hM];simp_all)
end Go.Proofs.YtegbonbgofjlcaaGreat
namespace Go.Proofs.YtegbonbgofjlcaaGreat
open Go Go.Vx R Go.Proofs.Tryz
set_option maxRecDepth 100000
theorem Rh(e:bJ):gY (.agg e.row)=true:=by rw[bJ.bQ];rfl
theorem Yy(e:bJ):gY (.agg e.row)=true/\o8 (.agg e.row)=true/\e.row.map lS=e.row:=by rw[bJ.bQ];trivial
theorem Yz(e:bJ):e.row.length=6:=by rw[bJ.bQ];rfl
theorem YA:∀(n:Nat)(e:bJ),jN e<=n->fP e->Pure prog 96 [.agg e.row] (.agg e.row)
 |0,e,hn,_=>by grind[UO]|n+1,e,hn,h1=>by
  have ab:=Hn e;have hlen:=h1.len;have aa:=Yu 96 cB (e.args.map bJ.row) (by grind) (lK Yz) (λr hr=>by obtain⟨x,_,rfl⟩:=Ab.1 hr;grind[Yy]) (λr hr=>by obtain⟨x,hx,rfl⟩:=Ab.1 hr;have:=Py _ _ hx;exact YA n x om (h1.sub x hx));obtain⟨L,hL⟩:=eX (e.args.map bJ.row);rw[bJ.bQ,hL];rw[hL]at aa;refine iV 0 func96 ntmps96 results96 λc hc hb=>?_;refine zA ?_;simp[go_sem];refine pC aa ?_;simp[go_sem];exact zQ (zC rfl) sM
theorem Nn(e:bJ)(he:jt e):Pure prog 96 [.agg e.row] (.agg e.row):=YA (jN e) e om he.wide
theorem xo2(x:de)(hx:jt x.e):Pure prog 95 [.agg x.row] (.agg x.row):=by have h:=Nn x.e hx;refine iV 0 func95 ntmps95 results95 λc hc hb=>?_;refine zA ?_;simp[go_sem];refine zL h cB ⟨by rw[bJ.bQ];exact zC rfl,tV⟩ (Rh _) ?_;simp[go_sem];exact zQ (zC rfl) sM
theorem xK5(x:cy)(hx:jt x.e):Pure prog 101 [.agg x.row] (.agg x.row):=by have h:=Nn x.e hx;refine iV 0 func101 ntmps101 results101 λc hc hb=>?_;refine zA ?_;simp[go_sem];refine zL h cB ⟨by rw[bJ.bQ];exact zC rfl,tV⟩ (Rh _) ?_;simp[go_sem];exact zQ (zC rfl) sM
theorem xK4(l:List bJ)(hl:l.length<=100000)(hx:∀x∈l,jt x):Pure prog 98 [.sl .ro (l.map bJ.row)] (.sl .ro (l.map bJ.row)):=by
 have aa:=Yu 96 cB (l.map bJ.row) (by grind) (lK Yz) (λr hr=>by obtain⟨x,_,rfl⟩:=Ab.1 hr;grind[Yy]) (λr hr=>by obtain⟨x,ab,rfl⟩:=Ab.1 hr;grind[Nn]);refine iV 0 func98 ntmps98 results98 λc hc hb=>?_;refine zA ?_;simp[go_sem];refine pC aa ?_;simp[go_sem];exact zQ (zC rfl) sM
theorem xo4(st:bZ)(hs:lq st):Pure prog 93 [.agg st.row] (.agg st.row):=by
 have h1:=xg8 95 cB (st.items.map de.row) (by rw[Au];have:=hs.items.1;omega) (lK λ_=>rfl) (λr hr=>by obtain⟨x,_,rfl⟩:=Ab.1 hr;trivial) (λr hr=>by obtain⟨x,hx,rfl⟩:=Ab.1 hr;exact xo2 x (hs.items.2 x hx).2);have h2:=yR7 98 cB (st.rows.map λ(l:List bJ)=>[V.sl .ro (l.map bJ.row)]) (by rw[Au];have:=hs.rows.1;omega) (lK λ_=>rfl) sM (λr hr=>by obtain⟨x,hx,rfl⟩:=Ab.1 hr;exact xK4 x (by have:=(hs.rows.2 x hx).1;omega) (hs.rows.2 x hx).2);have h3:=xg7 101 cB (st.cJ.map cy.row) (by rw[Au];have:=hs.cJ.1;omega) (lK λ_=>rfl) (λr hr=>by obtain⟨x,_,rfl⟩:=Ab.1 hr;trivial) (λr hr=>by obtain⟨x,hx,rfl⟩:=Ab.1 hr;exact xK5 x (hs.cJ.2 x hx).2);have h4:=Nn st.cH hs.cH;refine iV 0 func93 ntmps93 results93 λc hc hb=>?_;refine zA ?_;simp[go_sem];refine pC h1 ?_;simp[go_sem];refine pC h2 ?_;simp[go_sem];refine pC h3 ?_;simp[go_sem];refine zL h4 cB ⟨by rw[bJ.bQ];exact zC rfl,tV⟩ (Rh _) ?_;simp[go_sem];exact zQ (zC rfl) sM
theorem YB(l:eF)(hl:lr l):Pure prog 36 [.agg l.row] (.agg l.row):=by
 have h1:=xg9 93 cB (l.stmts.map bZ.row) (by rw[Au];have:=hl.stmts.1;omega) (lK λ_=>rfl) (λr hr=>by obtain⟨x,_,rfl⟩:=Ab.1 hr;trivial) (λr hr=>by obtain⟨x,hx,rfl⟩:=Ab.1 hr;exact xo4 x (hl.stmts.2 x hx));refine iV 0 func36 ntmps36 results36 λc hc hb=>?_;refine zA ?_;simp[go_sem];refine pC h1 ?_;simp[go_sem];exact zQ (zC rfl) sM
def YC(a:Nl):Prop:=a.2.2.length<=100000/\∀x∈a.2.2,x.rows.length<=100000/\∀r∈x.rows,r.length<=100000
theorem xK3(o:Ot)(hl:o.rows.length<=100000/\∀r∈o.rows,r.length<=100000):Pure prog 118 [.agg o.row] (.agg o.row):=by
 have h1:=xh0 120 cB (o.rows.map λr=>[.sl .ro (r.map bK.row)]) (by grind) (lK λ_=>rfl) sM (λr hr=>by obtain⟨x,hx,rfl⟩:=Ab.1 hr;exact wh7 _ (by grind) (lK λ_=>rfl));refine iV 0 func118 ntmps118 results118 λc hc hb=>?_;refine zA ?_;simp[go_sem,Ot.row];refine pC h1 ?_;simp[go_sem];exact zQ (zC rfl) sM
theorem YD(a:Nl)(ha:YC a):Pure prog 53 [.agg (sJ a)] (.agg (sJ a)):=by
 have h1:=xC6 118 cB (a.2.2.map Ot.row) (by rw[Au];exact ha.1) (lK λ_=>rfl) (λr hr=>by obtain⟨x,_,rfl⟩:=Ab.1 hr;trivial) (λr hr=>by obtain⟨x,hx,rfl⟩:=Ab.1 hr;exact xK3 x (ha.2 x hx));refine iV 0 func53 ntmps53 results53 λc hc hb=>?_;refine zA ?_;simp[go_sem,sJ];refine pC h1 ?_;simp[go_sem];exact zQ (zC rfl) sM
theorem xK2(l:cA)(hl:kE l):Pure prog 186 [.agg l.row] (.agg l.row):=by have h1:=Yv (l.cj.map ca.row) (by rw[Au];exact hl.cj) (lK λ_=>rfl);have h2:=Yw (l.writes.map di.row) (by rw[Au];exact hl.writes) (lK λ_=>rfl);have h3:=Yx (l.dK.map dM.row) (by rw[Au];have:=hl.dK.1;omega) (lK λ_=>rfl);refine iV 0 func186 ntmps186 results186 λc hc hb=>?_;refine zA ?_;simp[go_sem];refine yA [(2,0),(5,0),(8,0)] 2 rfl (by rfl) kR ?_;simp[go_sem];refine pD h1 ?_;simp[go_sem];refine pD h2 ?_;simp[go_sem];refine pD h3 ?_;simp[go_sem];exact zQ (zC rfl) sM
theorem AF(n:Nat)(l:List cA):bS n (.cv (l.map cA.row) 11)=true:=by simp[bS,cV,cR,cA.row]
theorem Kj(l:List cA):xB (l.map cA.row)=true:=by simp[xB,cA.row,o7]
theorem xC5(l:List cA)(hl:l.length<=100000)(hg:∀x∈l,kE x):bN prog 185 [.sl .ro (l.map cA.row),.fn 186 []] [] (λr s=>r=.cS 0 11 l.length 0 l.length/\s=[.cv (l.map cA.row) 11]):=by
 refine iV 0 func185 ntmps185 results185 λc hc hb=>?_;refine zA ?_;simp[go_sem];refine Fh 5 11 dC (by rfl) ?_;refine zG (S:=Nat×List cA) [1,5,8,9,10] (λu=>[.fn 186 [],.cS 0 11 u.2.length 0 u.2.length,.sl .ro (l.map cA.row),.int .i64 l.length,.int .i64 u.1]) (λu=>[.cv (u.2.map cA.row) 11]) (λu=>l.length-u.1) (λu=>u.1<=l.length/\u.2=l.take u.1) hc hb (0,[]) sM ?_ ?_;.exact bU 1 (by rfl) rfl rfl dC (zD (by rfl) rfl)
 rintro⟨i,out⟩⟨hi,ho⟩;simp only at hi ho;have ad:out.length=i:=by grind
 by_cases q:i<l.length;rotate_left
 .have h2:out=l:=by grind
  refine zA ?_;simp[go_sem,q];exact Hc sM (by grind)
 have ei:=zO q om;obtain⟨y,hy⟩:=eX (l[i]);have aa:=xK2 y (hg y (hy▸A9 q));have ab:out++[y]=l.take (i+1):=by grind[Ac]
 refine zA ?_;simp[go_sem,q,hy];refine pC aa ?_;simp[go_sem,C0];refine zJ ⟨zZ rfl,om⟩ ?_;simp[go_sem,ei];exact zH (i+1,out++[y]) ⟨om,⟨q,ab⟩,aN 1 (by rw[Az,AF];rfl)⟩
theorem YE{P:Program}{c:Ctx}{I:St}{f:FuncId}{cd args ct:List V}{KV:V->St->Prop}{rows:List (List V)}{w n:Nat}(hc:bN P f ct [] λr s=>r=.cS 0 w n 0 n/\s=[.cv rows w])(hb:xI P f)(ab:bS 0 (.cv rows w)) (aa:bP (cW (cO [] I.length)) ct (args++cd))(hK:KV (.cS I.length w n 0 n) (I++[.cv rows w])):jn P c (.fn f cd) args I KV fx:=by
 refine VC.of hc hb [] Bo rfl sM aa λr s h _=>?_;obtain⟨rfl,rfl⟩:=h;have e:yY [] I [.cv rows w]=I++[.cv rows w]:=by simp only[yY,fW,B1,Cy,Ag,Bq];rw[yV (n:=0) om ab]
 grind[dL,cO,dQ,du,dv]
theorem xo3(l:List cA)(hl:l.length<=100000)(hg:∀x∈l,kE x):bN prog 111 [.sl .ro (l.map cA.row)] [] (λr s=>r=.cS 0 11 l.length 0 l.length/\s=[.cv (l.map cA.row) 11]):=by have h:=xC5 l hl hg;refine iV 0 func111 ntmps111 results111 λc hc hb=>?_;refine zA ?_;simp[go_sem];refine YE h cB (AF 0 l) ⟨zK,zC rfl,tV⟩ ?_;simp[go_sem];exact Hc sM sM
@[go_sem]def Tx.gD(t:Tx)(k:Nat):List V:=[.int .i64 t.id.node,.int .i64 t.id.dY,.int .i64 t.id.seq,.int .i64 t.id.attempt,.int .i64 t.df.mode,.int .i64 t.df.n,.sl .ro (t.df.stmts.map bZ.row),.int .i64 t.phase,.int .i64 t.at_.wall,.int .i64 t.at_.tie,.int .i64 t.bump,.int .i64 t.home,.cS k 11 t.bY.length 0 t.bY.length,.int .i64 t.jH.1,.int .i64 t.jH.2.1,.sl .ro (t.jH.2.2.map Ot.row)]
theorem xK6(t:Tx)(ht:j7 t):bN prog 43 [.agg t.row] [] (λr s=>r=.agg (t.gD 0)/\s=[.cv (t.bY.map cA.row) 11]):=by have h1:=YB t.df ht.df;have h2:=YD t.jH ht.outs;have h3:=xo3 t.bY (by have:=ht.bY;omega) ht.ku;refine iV 0 func43 ntmps43 results43 λc hc hb=>?_;refine zA ?_;simp[go_sem];refine yA [(2,0),(5,0),(8,3)] 2 rfl (by rfl) kR ?_;simp[go_sem];refine pD h1 ?_;simp[go_sem];refine pD h2 ?_;simp[go_sem,sJ];refine G8 h3 cB ⟨zK,tV⟩ ?_;have e:yC (cO [] 2) (.cv (t.bY.map cA.row) 11)=.cv (t.bY.map cA.row) 11:=yV (n:=0) om (AF 0 _);simp[go_sem,dL,dQ,du,dv,HU,e];exact Nk [2] sM rfl (s:=[.cv (t.bY.map cA.row) 11]) ⟨by simp[yV (n:=0) (ρ:=cO [2] 3) om (AF 0 t.bY)],tV⟩ (r:=.agg (t.gD 0)) (.inl (by rfl)) (by trivial)
theorem Ri(t:Tx):Pure prog 37 [.agg t.row] (.agg (sK t).row):=by refine iV 0 func37 ntmps37 results37 λc hc hb=>?_;refine zA ?_;simp[go_sem];exact zQ (Yt (sK t) (g:=.full) (rows:=[]) rfl) (by trivial)
theorem xO6(t:Tx):Pure prog 42 [.agg t.row] (.agg (Kh t).row):=by refine iV 0 func42 ntmps42 results42 λc hc hb=>?_;refine zA ?_;simp[go_sem];exact zQ (xN0 (Kh t) (g:=.full) (k:=.full)) (by trivial)
theorem YF(t:Tx)(yes:Bool)(hl:t.bY.length<=100000):Pure prog 47 [.agg t.row,.bool yes] (.sl .ro ((HV t yes).map dq.row)):=by
 obtain⟨M,hM⟩:=eX (HV t yes);rw[hM];unfold HV at hM;refine iV 0 func47 ntmps47 results47 λc hc hb=>?_;refine zA ?_;simp[go_sem];refine wQ 5 15 dC (by rfl) ?_;refine zG (S:=Nat×List dq) [1,2,5,9,10,11] (λu=>[.bool yes,.ptr 0 0,.sl (.app 1) (u.2.map dq.row),.sl .ro (t.bY.map cA.row),.int .i64 t.bY.length,.int .i64 u.1]) (λu=>[.box t.row,.app u.2.length 15]) (λu=>t.bY.length-u.1) (λu=>u.1<=t.bY.length/\u.2=(t.bY.take u.1).map λx=>AD x.range t.id yes) hc hb (0,[]) sM ?_ ?_;.exact bU 2 (by rfl) rfl (by rfl) dC (zD (by rfl) rfl)
 rintro⟨i,out⟩⟨hi,ho⟩;simp only at hi ho;have ab:out.length=i:=by grind
 by_cases q:i<t.bY.length;rotate_left
 .have h2:out=M:=by grind
  refine zA ?_;simp[go_sem,q];exact zQ (by rw[h2];exact zK) sM
 have ei:=zO q om;obtain⟨y,hy⟩:=eX (t.bY[i]);have aa:out++[AD y.range t.id yes]=(t.bY.take (i+1)).map λx=>AD x.range t.id yes:=by rw[ho,Ac q,hy,C2];rfl
 refine zA ?_;simp[go_sem,q,hy];refine zJ ⟨om,zZ rfl⟩ ?_;simp[go_sem,ei];exact zH (i+1,out++[AD y.range t.id yes]) ⟨om,⟨q,aa⟩,bU 2 sM rfl (by rfl) dC (zD (by simp[go_sem,AD]) rfl)⟩
def Rj:dq:=⟨0,Rg⟩
def mA(t:Tx)(l:cA):dq×Bool:=match lG t l with|some a=>(a,true)|none=>(Rj,false)
theorem YG(t:Tx)(l:cA)(hl:kE l):Pure prog 41 [.agg t.row,.agg l.row] (.cC [.agg (mA t l).1.row,.bool (mA t l).2]):=by
 have h1:=Yv (l.cj.map ca.row) (by rw[Au];exact hl.cj) (lK λ_=>rfl);have h2:=Yw (l.writes.map di.row) (by rw[Au];exact hl.writes) (lK λ_=>rfl);obtain⟨a,hM⟩:=eX (mA t l);rw[hM];unfold mA lG at hM;have ret:∀(x:dq)(b:Bool)(I:St),(x,b)=a->cz (some (.cC [.agg x.row,.bool b])) 0 (λr s=>r=.cC [.agg a.1.row,.bool a.2]/\s=[]) I:=λx b I h=>by subst h;exact zQ (zC rfl) sM
 refine iV 0 func41 ntmps41 results41 λc hc hb=>?_;refine zA ?_;by_cases s1:l.state=1
 .have aa:(l.state==1)=true:=by grind
  rw[alq s1]at hM;simp[go_sem,aa];refine yA [(6,0)] 4 rfl (by rfl) kR ?_;simp[go_sem];refine pD h1 ?_;simp[go_sem];exact zQ (by rw[<-hM];exact yO ⟨Kg _ (g:=.ro) (k:=.full),xD rfl,tV⟩) ⟨rfl,rfl⟩
 have aa:(l.state==1)=false:=by grind
 rw[alp s1]at hM;by_cases s2:l.state=2
 .have ab:(l.state==2)=true:=by grind
  rw[alq s2]at hM;simp[go_sem,aa,ab];refine yA [(8,0)] 4 rfl (by rfl) kR ?_;simp[go_sem];refine pD h2 ?_;simp[go_sem];exact zQ (by rw[<-hM];exact yO ⟨Kg _ (g:=.full) (k:=.ro),xD rfl,tV⟩) ⟨rfl,rfl⟩
 have ab:(l.state==2)=false:=by grind
 rw[alp s2]at hM;by_cases s3:l.state=3
 .have ad:(l.state==3)=true:=by grind
  rw[alq s3]at hM;simp[go_sem,aa,ab,ad];exact zQ (by rw[<-hM];exact yO ⟨Kg _ (g:=.full) (k:=.full),xD rfl,tV⟩) ⟨rfl,rfl⟩
 have ad:(l.state==3)=false:=by grind
 rw[alp s3]at hM;by_cases s4:l.state=4
 .have ae:(l.state==4)=true:=by grind
  rw[alq s4]at hM;simp[go_sem,aa,ab,ad,ae];exact zQ (by rw[<-hM];exact yO ⟨Kg _ (g:=.full) (k:=.full),xD rfl,tV⟩) ⟨rfl,rfl⟩
 have ae:(l.state==4)=false:=by grind
 rw[alp s4]at hM;simp[go_sem,aa,ab,ad,ae];exact zQ (by rw[<-hM];exact yO ⟨Kg _ (g:=.full) (k:=.full),xD rfl,tV⟩) ⟨rfl,rfl⟩
def Ec(t:Tx)(l:List cA):List dq:=l.filterMap (lG t)
theorem xB0(t:Tx)(l:cA):Ec t [l]=if(mA t l).2=true then[(mA t l).1]else[]:=by grind[Ec,mA]
theorem Np(t:Tx)(hl:t.bY.length<=100000)(hg:∀x∈t.bY,kE x):Pure prog 16 [.agg t.row] (.sl .ro ((kq t).map dq.row)):=by
 obtain⟨M,hM⟩:=eX (kq t);rw[hM];unfold kq at hM;have ad:=xO6 t;by_cases hp:t.phase=1\/t.phase=2
 .rw[alq hp]at hM;have ae:∀i(h:i<t.bY.length),Ec t (t.bY.take (i+1))=Ec t (t.bY.take i)++Ec t [t.bY[i]]:=(by grind[Ec,Ac]);have af:((t.phase==1)=true/\(t.phase==1)=true)\/((t.phase==1)=false/\(t.phase==2)=true):=by grind
  refine iV 0 func16 ntmps16 results16 λc hc hb=>?_;rcases af with⟨h0,h1⟩|⟨h0,h1⟩;all_goals
   refine zA ?_;simp[go_sem,h0,h1];refine wQ 3 15 dC sg ?_;refine zG (S:=Nat×List dq) [1,3,14,15,16] (λu=>[.ptr 0 0,.sl (.app 1) (u.2.map dq.row),.sl .ro (t.bY.map cA.row),.int .i64 t.bY.length,.int .i64 u.1]) (λu=>[.box t.row,.app u.2.length 15]) (λu=>t.bY.length-u.1) (λu=>u.1<=t.bY.length/\u.2.length<=u.1/\u.2=Ec t (t.bY.take u.1)) hc hb (0,[]) (by simp[Ec]) ?_ ?_;.exact aN 2 (by simp[bS,cV,cR,Tx.row])
   rintro⟨i,out⟩⟨hi,ah,ho⟩;simp only at hi ah ho;by_cases q:i<t.bY.length;rotate_left
   .have h2:out=M:=by rw[ho,<-hM,Ad om];rfl
    refine zA ?_;simp[go_sem,q];exact zQ (by rw[h2];exact zK) sM
   have ei:=zO q om;have aa:=ae i q;rw[<-ho]at aa;obtain⟨y,hy⟩:=eX (t.bY[i]);have ab:=YG t y (by grind);rw[hy,xB0]at aa;obtain⟨⟨a,b⟩,ai⟩:∃p,mA t y=p:=⟨_,rfl⟩;rw[ai]at ab aa;simp only at ab aa;refine zA ?_;simp[go_sem,q,hy];refine pC ab ?_;cases b with |true=>rw[alq rfl]at aa;simp[go_sem];refine zJ ⟨om,zZ rfl⟩ ?_;simp[go_sem,ei];exact zH (i+1,out++[a]) ⟨by show t.bY.length-(i+1)<t.bY.length-i;omega,(by grind),aN 2 (by simp[bS,cV,cR])⟩|false=>rw[alp dC,Aw]at aa;simp[go_sem,ei];exact zH (i+1,out) ⟨by show t.bY.length-(i+1)<t.bY.length-i;omega,(by grind),aN 2 (by simp[bS,cV,cR])⟩
 rw[alp hp]at hM;have h1:(t.phase==1)=false:=by grind
 have h2:(t.phase==2)=false:=by grind
 by_cases p3:t.phase=3
 .have h3:(t.phase==3)=true:=by grind
  rw[alq p3]at hM;refine iV 0 func16 ntmps16 results16 λc hc hb=>?_;refine zA ?_;simp[go_sem,h1,h2,h3];refine pC ad ?_;simp[go_sem];refine zJ ⟨by simp[eU],zZ rfl⟩ ?_;simp[go_sem];exact zQ (r:=.sl .ro (M.map dq.row)) (by rw[<-hM];exact zK) sM
 .have h3:(t.phase==3)=false:=by grind
  rw[alp p3]at hM;refine iV 0 func16 ntmps16 results16 λc hc hb=>?_;refine zA ?_;simp[go_sem,h1,h2,h3];exact zQ (r:=.sl .ro (M.map dq.row)) (by grind[zK]) sM
theorem YH(a b:dq)(ha:qE a.cmd)(aa:qE b.cmd):Pure prog 46 [.agg a.row,.agg b.row] (.bool (decide (a=b))):=by
 have h:=xp1 a.cmd b.cmd ha aa;have hM:decide (a=b)=(a.range==b.range&&decide (a.cmd=b.cmd)):=by obtain⟨a1,a2⟩:=a;obtain⟨b1,b2⟩:=b;grind
 rw[hM];generalize decide (a.cmd=b.cmd)=d at h⊢;obtain⟨M,hM⟩:=eX ((a.range==b.range&&d));rw[hM];have ret:∀(r:Bool)(I:St),r=M->cz (some (.bool r)) 0 (λr s=>r=.bool M/\s=[]) I:=λr I h=>by subst h;exact zQ (zC rfl) sM
 refine iW 0 func46 ntmps46 results46 λc hc hb=>zM ?_;simp[go_sem];refine xG (λq=>?_) (λq=>?_)<;>simp[go_sem,q];.refine pC h ?_;simp[go_sem];exact ret _ _ (by grind)
 .exact ret _ _ (by grind)
theorem Kl(n:Nat)(a:dq):bS n (.box a.row)=true:=by rfl
theorem xZ4(a x:dq)(ha:qE a.cmd)(hx:qE x.cmd):bN prog 45 [.agg x.row,.ptr 0 0] [.box a.row] (λr I=>r=.bool (decide (x=a))/\I=[.box a.row]):=by have h:=YH x a hx ha;refine iW 1 func45 ntmps45 results45 λc hc hb=>zM ?_;simp[go_sem];refine pC h ?_;simp[go_sem];exact yW 1 rfl rfl (by rfl) om (zC rfl) sM
theorem xS9(a:dq)(ha:qE a.cmd)(l:List dq)(hl:l.length<=100000)(hx:∀x∈l,qE x.cmd):bN prog 112 [.sl .ro (l.map dq.row),.fn 45 [.ptr 0 0]] [.box a.row] (λr I=>r=.int .i64 (wB (λy=>decide (y=a)) l 0)/\I=[.box a.row]):=by
 generalize hM:wB (λy:dq=>decide (y=a)) l 0=M;have ret:∀(r:Int)(I:St),r=M->cz (some (.int .i64 r)) 1 (λr s=>r=.int .i64 M/\s=[.box a.row]) (.box a.row::I):=λr I h=>by subst h;exact yW 1 rfl rfl (by rfl) om (zC rfl) sM
 refine iV 1 func112 ntmps112 results112 λc hc hb=>?_;refine zA ?_;simp[go_sem];refine zG (S:=Nat) [0,1,6,7,8] (λi=>[.sl .ro (l.map dq.row),.fn 45 [.ptr 0 0],.sl .ro (l.map dq.row),.int .i64 l.length,.int .i64 (i:Int)]) (λ_=>[.box a.row]) (λi=>l.length-i) (λi=>i<=l.length/\wB (λy=>decide (y=a)) (l.drop i) i=M) hc hb 0 (by grind) ?_ ?_;.exact bU 1 (by rfl) rfl (by rfl) om (zD (by rfl) rfl)
 rintro i⟨hi,hinv⟩;by_cases q:i<l.length;rotate_left;.rw[A8 om]at hinv;refine zA ?_;simp[go_sem,q];exact ret _ _ hinv
 have ei:=zO q om;obtain⟨y,hy⟩:=eX (l[i]);rw[A4 q,hy,wB]at hinv;have aa:=xZ4 a y ha (by grind);generalize decide (y=a)=b at aa hinv;refine zA ?_;simp[go_sem,q,hy];refine mY 0 aa cB rfl (Kl 0 a) ⟨zC rfl,.inl rfl,tV⟩ (by grind[Kl]) ?_;rintro r o2⟨rfl,h2⟩;obtain rfl:o2=.box a.row:=by grind
 refine(A6 b).elim (λp=>?_) (λp=>?_);.rw[alq p]at hinv;simp[go_sem,p];exact ret _ _ hinv
 .rw[alp (by grind)]at hinv;simp[go_sem,p,ei];exact zH (i+1) ⟨om,om,bU 1 (by rfl) rfl (by rfl) om (zD (by rfl) rfl)⟩
theorem xS6(a:dq)(ha:qE a.cmd)(l:List dq)(hl:l.length<=100000)(hx:∀x∈l,qE x.cmd):bN prog 44 [.sl .ro (l.map dq.row),.fn 45 [.ptr 0 0]] [.box a.row] (λr I=>r=.bool (l.any λy=>decide (y=a))/\I=[.box a.row]):=by
 have h:=xS9 a ha l hl hx;have hg:=FX (λy:dq=>decide (y=a)) l 0;rw[<-hg];generalize wB (λy:dq=>decide (y=a)) l 0=n at h⊢;refine iW 1 func44 ntmps44 results44 λc hc hb=>zM ?_;simp[go_sem];refine mY 0 h cB rfl (Kl 0 a) ⟨zC rfl,.inl (by rfl),tV⟩ (by grind[Kl]) ?_;rintro r o2⟨rfl,h2⟩;obtain rfl:o2=.box a.row:=by grind
 simp[go_sem];exact yW 1 rfl rfl (by rfl) om (zC rfl) sM
theorem xZ5(x:cA):Pure prog 51 [.agg x.row] (.bool (x.state !=5)):=by refine iW 0 func51 ntmps51 results51 λc hc hb=>zM ?_;simp[go_sem];exact zQ (zC rfl) sM
theorem xT0(l:List cA)(hl:l.length<=100000):Pure prog 116 [.sl .ro (l.map cA.row),.fn 51 []] (.int .i64 (wB (λy=>y.state !=5) l 0)):=by
 generalize hM:wB (λy:cA=>y.state !=5) l 0=M;have ret:∀(r:Int)(I:St),r=M->cz (some (.int .i64 r)) 0 (λr s=>r=.int .i64 M/\s=[]) I:=λr I h=>by subst h;exact zQ (zC rfl) sM
 refine iV 0 func116 ntmps116 results116 λc hc hb=>?_;refine zA ?_;simp[go_sem];refine zG (S:=Nat) [0,1,6,7,8] (λi=>[.sl .ro (l.map cA.row),.fn 51 [],.sl .ro (l.map cA.row),.int .i64 l.length,.int .i64 (i:Int)]) (λ_=>[]) (λi=>l.length-i) (λi=>i<=l.length/\wB (λy=>y.state !=5) (l.drop i) i=M) hc hb 0 (by grind) ?_ ?_;.exact bU 0 (by rfl) rfl sM om (zD (by rfl) rfl)
 rintro i⟨hi,hinv⟩;by_cases q:i<l.length;rotate_left;.rw[A8 om]at hinv;refine zA ?_;simp[go_sem,q];exact ret _ _ hinv
 have ei:=zO q om;obtain⟨y,hy⟩:=eX (l[i]);rw[A4 q,hy,wB]at hinv;have aa:=xZ5 y;generalize(y.state !=5)=b at aa hinv;refine zA ?_;simp[go_sem,q,hy];refine pC aa ?_;refine(A6 b).elim (λp=>?_) (λp=>?_);.rw[alq p]at hinv;simp[go_sem,p];exact ret _ _ hinv
 .rw[alp (by grind)]at hinv;simp[go_sem,p,ei];exact zH (i+1) ⟨om,om,bU 0 (by rfl) rfl sM om (zD (by rfl) rfl)⟩
theorem xS7(l:List cA)(hl:l.length<=100000):Pure prog 50 [.sl .ro (l.map cA.row),.fn 51 []] (.bool (l.any λy=>y.state !=5)):=by have h:=xT0 l hl;have hg:=FX (λy:cA=>y.state !=5) l 0;rw[<-hg];generalize wB (λy:cA=>y.state !=5) l 0=n at h⊢;refine iW 0 func50 ntmps50 results50 λc hc hb=>zM ?_;simp[go_sem];refine pC h ?_;simp[go_sem];exact zQ (zC rfl) sM
theorem Rk(w n:Int)(hw:cL w)(hn:0<=n/\n<=100):Pure prog 115 [.int .i64 w,.int .i64 n] (.int .i64 (xm w n)):=by unfold cL at hw;have e1:IntKind.i64.wrap (4611686018427387904-n)=4611686018427387904-n:=(by grind[bX]);have e2:IntKind.i64.wrap (xm w n)=xm w n:=(by grind[bX,xm,mn]);unfold xm mn at e2⊢;refine iW 0 func115 ntmps115 results115 λc hc hb=>zM ?_;simp[go_sem,e1];simp[e2];exact zQ (zC rfl) sM
theorem YI(t:Tx)(ht:j7 t)(wall:Int):Pure prog 19 [.agg t.row,.int .i64 wall] (if t.phase=4/\t.at_.wall<=wall then .cC [.agg (sJ t.jH),.bool true]else .cC [.agg (sJ (0,0,[])),.bool false]):=by
 have h:=YD t.jH ht.outs;obtain⟨M,hM⟩:∃M,(if t.phase=4/\t.at_.wall<=wall then V.cC [.agg (sJ t.jH),.bool true]else .cC [.agg (sJ (0,0,[])),.bool false])=M:=⟨_,rfl⟩;rw[hM];refine iV 0 func19 ntmps19 results19 λc hc hb=>?_;refine zA ?_;by_cases q1:t.phase=4
 .have aa:(t.phase !=4)=false:=by grind
  by_cases q2:t.at_.wall<=wall
  .have ab:decide (wall<t.at_.wall)=false:=by grind
   rw[alq ⟨q1,q2⟩]at hM;simp[go_sem,aa,ab];refine pC h ?_;simp[go_sem,sJ];exact zQ (r:=M) (by rw[<-hM];exact zC rfl) sM
  .have ab:decide (wall<t.at_.wall)=true:=by grind
   rw[alp om]at hM;simp[go_sem,aa,ab];exact zQ (r:=M) (by rw[<-hM];exact yO ⟨wH ⟨zF rfl,zF rfl,zY,tV⟩,xD rfl,tV⟩) sM
 .have aa:(t.phase !=4)=true:=by grind
  rw[alp om]at hM;simp[go_sem,aa];exact zQ (r:=M) (by rw[<-hM];exact yO ⟨wH ⟨zF rfl,zF rfl,zY,tV⟩,xD rfl,tV⟩) sM
structure fG(r:cU):Prop where
 dK:r.dK.length<=1000/\∀p∈r.dK,p.data.length<=cN
 wall:cL r.wall
 at_:cL r.at_.wall
def gr(t:Tx)(n:Nat)(l:List cA):St:=[.box (t.eG (.cS 1 11 n 0 n)),.cv (l.map cA.row) 11]
def F9(t:Tx)(l:List cA)(i:Nat)(x:cU)(o:cA×Int×Bool×Bool)(r:V)(I:St):Prop:=r=.cC [.int .i64 o.2.1,.bool o.2.2.1]/\I=(if o.2.2.2=true then[.box (sK {t with jH:=(x.err,0,[])}).row,.cv (l.map cA.row) 11]else gr t l.length (l.set i o.1))
theorem wk9(t:Tx)(n k:Nat)(l:List cA)(hk:2<=k):(gr t n l).all (bS k)=true:=by simp[gr,bS,cV,cR,cA.row,Tx.eG];omega
theorem we3(t:Tx)(n:Nat)(rows:List (List V))(hr:bS 0 (.cv rows 11)):bN prog 37 [.agg (t.eG (.cS 0 11 n 0 n))] [.cv rows 11] (λr s=>r=.agg (sK t).row/\s=[.cv rows 11]):=by refine iV 1 func37 ntmps37 results37 λc hc hb=>?_;refine zA ?_;simp[go_sem];exact yW (s:=[.cv rows 11]) 1 rfl rfl (by simp only[Az,De,Dg];exact LD om hr) om (Yt (sK t) (g:=.full) (rows:=[]) rfl) (by trivial)
theorem wE9(t:Tx)(l:List cA)(i:Nat)(hi:i<l.length)(x:cU)(hx:fG x):bN prog 49 [.ptr 0 0,.jk 1 11 l.length i 0,.agg x.row] (gr t l.length l) (F9 t l i x (ij t.phase l[i] x)):=by
 have av:=Rk x.wall 1 hx.wall om;have an:=Rk x.wall 24 hx.wall om;have aw:=Rk x.at_.wall 1 hx.at_ om;have ax:=Yx (x.dK.map dM.row) (by rw[Au];have:=hx.dK.1;omega) (lK λ_=>rfl);have ay:=we3 {t with jH:=(x.err,0,[])} l.length (l.map cA.row) (AF 0 l);obtain⟨y,hy⟩:=eX (l[i]);rw[hy];have a1:(l.map cA.row)[i]?=some y.row:=by grind
 have a6:(l.map cA.row).getD i []=y.row:=by grind
 obtain⟨o,hM⟩:=eX (ij t.phase y x);rw[hM];unfold ij at hM;have ret:∀(b:Int)(g:Bool)(l':cA)(rows:List (List V))(I:St),(l',b,g,false)=o->rows=(l.set i l').map cA.row->cz (some (.cC [.int .i64 b,.bool g])) 2 (F9 t l i x o) (.box (t.eG (.cS 1 11 l.length 0 l.length))::.cv rows 11::I):=λb g l' rows I h hr=>by subst h;subst hr;exact nJ 2 rfl (wk9 t l.length 2 (l.set i l') om) om (zC rfl) ⟨rfl,by rfl⟩
 have same:l.map cA.row=(l.set i y).map cA.row:=by rw[<-hy,List.set_getElem_self]
 refine iV 2 func49 ntmps49 results49 λc hc hb=>?_;refine zA ?_;by_cases s3:y.state=3
 .have ad:(y.state==3)=true:=by grind
  have ae:(y.state==4)=false:=by grind
  by_cases e0:x.err=0
  .have aa:(x.err==0)=true:=by grind
   rw[alq ⟨s3,e0⟩]at hM;simp[go_sem,gr,hi,hy,ad,aa];refine wP [(6,3),(9,3)] 2 3 sM (by rfl) kR ?_;simp[go_sem,hi,hy];exact ret _ _ {y with state:=4,yes:=x.yes} _ _ hM (by simp[cA.row])
  .have aa:(x.err==0)=false:=by grind
   rw[alp om,alp om,alq (.inl s3)]at hM;simp[go_sem,gr,hi,hy,ad,ae,aa];exact ret _ _ y _ _ hM same
 have ad:(y.state==3)=false:=by grind
 rw[alp om]at hM;by_cases s4:y.state=4
 .have ae:(y.state==4)=true:=by grind
  by_cases e0:x.err=0
  .have aa:(x.err==0)=true:=by grind
   rw[alq ⟨s4,e0⟩]at hM;by_cases p2:t.phase=2
   .have al:(t.phase==2)=true:=by grind
    rw[alq p2]at hM;simp[go_sem,gr,hi,hy,ad,ae,aa,al];exact ret _ _ {y with state:=2,dh:=zT,home:=0,yes:=false} _ _ hM (by simp[cA.row,zT])
   .have al:(t.phase==2)=false:=by grind
    rw[alp p2]at hM;simp[go_sem,gr,hi,hy,ad,ae,aa,al];exact ret _ _ {y with state:=1,dh:=zT,home:=0,yes:=false} _ _ hM (by simp[cA.row,zT])
  .have aa:(x.err==0)=false:=by grind
   rw[alp om,alq (.inr s4)]at hM;simp[go_sem,gr,hi,hy,ad,ae,aa];exact ret _ _ y _ _ hM same
 have ae:(y.state==4)=false:=by grind
 rw[alp om,alp om]at hM;by_cases ao:x.err=20
 .have ab:(x.err==20)=true:=by grind
  rw[alq ao]at hM;simp[go_sem,gr,hi,hy,ad,ae,ab];refine wP [(9,3),(12,3),(15,3)] 2 3 sM (by rfl) kR ?_;simp[go_sem,hi,hy];exact ret _ _ {y with state:=3,dh:=x.dh,home:=x.home} _ _ hM (by simp[cA.row])
 have ab:(x.err==20)=false:=by grind
 rw[alp ao]at hM;by_cases e0:x.err=0
 .have aa:(x.err==0)=true:=by grind
  rw[alq e0]at hM;by_cases s1:y.state=1
  .have af:(y.state==1)=true:=by grind
   rw[alq s1]at hM;simp[go_sem,gr,hi,hy,ad,ae,ab,aa,af];refine pC ax ?_;simp[go_sem,hi,hy];exact ret _ _ {y with state:=5,dK:=x.dK} _ _ hM (by simp[cA.row])
  .have af:(y.state==1)=false:=by grind
   rw[alp s1]at hM;simp[go_sem,gr,hi,hy,ad,ae,ab,aa,af];exact ret _ _ {y with state:=5,dK:=y.dK} _ _ hM (by simp[cA.row])
 have aa:(x.err==0)=false:=by grind
 rw[alp e0]at hM;by_cases s1:y.state=1
 .have af:(y.state==1)=true:=by grind
  by_cases az:x.err=24
  .have aj:(x.err==24)=true:=by grind
   rw[alq ⟨s1,az⟩]at hM;simp[go_sem,gr,hi,hy,ad,ae,ab,aa,af,aj];refine pC av ?_;simp[go_sem];exact ret _ _ y _ _ hM same
  .have aj:(x.err==24)=false:=by grind
   rw[alp om,alq s1]at hM;simp[go_sem,gr,hi,hy,ad,ae,ab,aa,af,aj];refine mY 1 ay cB rfl (AF 0 l) ⟨xM ⟨zF rfl,zF rfl,zF rfl,zF rfl,zF rfl,zF rfl,zY,zF rfl,zF rfl,zF rfl,zF rfl,zF rfl,.inl rfl,zF rfl,zF rfl,zY,tV⟩,tV⟩ (λr I h=>⟨_,h.2,AF 0 l⟩) ?_;rintro r o2⟨rfl,h2⟩;obtain rfl:o2=.cv (l.map cA.row) 11:=by grind
   simp[go_sem];subst hM;exact nJ 2 rfl (by simp[bS,cV,cR,cA.row]) om (zC rfl) ⟨rfl,by rfl⟩
 have af:(y.state==1)=false:=by grind
 rw[alp om,alp s1]at hM;by_cases aq:x.err=21
 .have ah:(x.err==21)=true:=by grind
  rw[alq aq]at hM;simp[go_sem,gr,hi,hy,ad,ae,ab,aa,af,ah];refine pC an ?_;simp[go_sem];exact ret _ _ y _ _ hM same
 have ah:(x.err==21)=false:=by grind
 rw[alp aq]at hM;by_cases ar:x.err=22
 .have ai:(x.err==22)=true:=by grind
  rw[alq ar]at hM;simp[go_sem,gr,hi,hy,ad,ae,ab,aa,af,ah,ai];refine pC aw ?_;simp[go_sem];exact ret _ _ y _ _ hM same
 have ai:(x.err==22)=false:=by grind
 rw[alp ar]at hM;by_cases au:x.err=26
 .have ak:(x.err==26)=true:=by grind
  rw[alq au]at hM;simp[go_sem,gr,hi,hy,ad,ae,ab,aa,af,ah,ai,ak];exact ret _ _ y _ _ hM same
 have ak:(x.err==26)=false:=by grind
 rw[alp au]at hM;simp[go_sem,gr,hi,hy,ad,ae,ab,aa,af,ah,ai,ak];exact ret _ _ y _ _ hM same
end Go.Proofs.YtegbonbgofjlcaaGreat
namespace Go.Vx
open Go
section
variable{P:Program}{c:Ctx}{n0:Kp}{I:St}
theorem Rl{f:FuncId}{cd args ct:List V}{fM s1:St}{v:V}{KV:V->St->Prop}(hc:bN P f ct fM (λr s=>r=v/\s=s1))(hb:xI P f)(dz:alX)(ab:dz.Nodup)(hlen:fM.length=dz.length) (ad:∀(i j:Nat)(o:Ob),dz[i]?=some j->fM[i]?=some o->I[j]?=some (yC (cO dz I.length) o))(aa:bP (cW (cO dz I.length)) ct (args++cd)) (hk:KV (dL (cO dz I.length) v) (yY dz I s1)):qS P c n0 4 (.fn f cd) args I KV fx:=by refine⟨_,_,?_,om,om,by simp[G6],hk⟩;rw[alp dC,alp dC];refine VC.of hc hb dz ab hlen ad aa ?_;simp
end
end Go.Vx
namespace Go.Proofs.YtegbonbgofjlcaaGreat
open Go Go.Vx R Go.Proofs.Tryz
set_option maxRecDepth 100000
def gG:List V:=[.sl .ro xN,.sl .ro (bO.map bL.row)]
theorem wk8(p:Int)(l:cA)(r:cU)(h:(ij p l r).2.2.1):(ij p l r).2.2.2=false:=by
 revert h;unfold ij;repeat' split
 all_goals simp
theorem Rm(p:Int){l:cA}(hl:kE l){r:cU}(hr:fG r):kE (ij p l r).1:=by
 obtain⟨h1,h2,h3,h4⟩:=hl;have h5:=hr.dK;unfold ij;repeat' split
 all_goals first|exact⟨h1,h2,h3,h4⟩|exact⟨h1,h2,h3,h5⟩
theorem Nq{t:Tx}(hg:∀x∈t.bY,kE x):∀x∈kq t,qE x.cmd:=λx hx=>by
 unfold kq at hx;split at hx
 .obtain⟨l,hl,aa⟩:=E3.1 hx;have h:=hg l hl;unfold lG at aa;repeat' split at aa
  all_goals first|(cases aa;exact⟨h.cj,sM⟩)|(cases aa;exact⟨A5 _,h.writes⟩)|(cases aa;exact⟨A5 _,A5 _⟩)|cases aa
 .split at hx;.rw[Bl]at hx;subst hx;exact⟨A5 _,A5 _⟩
  grind
theorem Rn{t:Tx}:(kq t).length<=t.bY.length+1:=by grind[kq]
theorem wp8{ρ:Nat->Nat}(t:Tx){g:Tag}{rows:List (List V)}(h:t.bY.map cA.row=rows):jb ρ (.agg t.row) (.agg (t.eG (.sl g rows))):=by subst h;unfold Tx.row Tx.eG;exact wH ⟨zF rfl,zF rfl,zF rfl,zF rfl,zF rfl,zF rfl,zY,zF rfl,zF rfl,zF rfl,zF rfl,zF rfl,zY,zF rfl,zF rfl,zY,tV⟩
theorem Ro(l:List cA):wU (l.map cA.row) 0 l.length=l.map cA.row:=by have:(λr:List V=>r.map lS)∘cA.row=cA.row:=(by rfl);grind[wU,Ad]
theorem wq8{P:Program}{c:Ctx}{I:St}{t:Tx}{f:FuncId}{cd args ct:List V}{KV:V->St->Prop}(hc:bN P f ct [] λr s=>r=.agg (t.gD 0)/\s=[.cv (t.bY.map cA.row) 11])(hb:xI P f) (aa:bP (cW (cO [] I.length)) ct (args++cd))(hK:KV (.agg (t.eG (.cS I.length 11 t.bY.length 0 t.bY.length))) (I++[.cv (t.bY.map cA.row) 11])):jn P c (.fn f cd) args I KV fx:=by
 refine VC.of hc hb [] Bo rfl sM aa λr s h _=>?_;obtain⟨rfl,rfl⟩:=h;have e:yY [] I [.cv (t.bY.map cA.row) 11]=I++[.cv (t.bY.map cA.row) 11]:=by simp only[yY,fW,B1,Cy,Ag,Bq];rw[yV (n:=0) om (AF 0 _)]
 simp_all[dL,cO,dQ,du,dv,Tx.gD,Tx.eG]
def nC(t:Tx)(B:dq)(r:cU)(cur:List cA):St:=[.box gG,.box t.row,.box B.row,.box r.row,.box (t.eG (.cS 5 11 t.bY.length 0 t.bY.length)),.cv (cur.map cA.row) 11]
theorem Km(t:Tx)(B:dq)(r:cU)(cur:List cA):(nC t B r cur).all (bS 6)=true:=by simp[nC,bS,cV,cR,cA.row,Tx.eG,Tx.row,dq.row,cU.row,gG]
theorem YJ{a b c d u l x:Ob}(t:Tx)(n:Nat)(l2:List cA):yY [4,5] [a,b,c,d,u,l,x] (gr t n l2)=[a,b,c,d,.box (t.eG (.cS 5 11 n 0 n)),.cv (l2.map cA.row) 11,x]:=by simp[yC,cO,cA.row,du,dv,Tx.eG,yY,fW,gr]
theorem xl6{a b c d u l x:Ob}(t:Tx)(l2:List cA):yY [4,5] [a,b,c,d,u,l,x] [.box t.row,.cv (l2.map cA.row) 11]=[a,b,c,d,.box t.row,.cv (l2.map cA.row) 11,x]:=by simp[yC,cA.row,du,dv,Tx.row,yY,fW]
theorem Rp{a b c d x:Ob}(t:Tx)(n:Nat)(l:List cA)(i j:Nat)(o:Ob)(h1:[4,5][i]?=some j)(h2:(gr t n l)[i]?=some o):[a,b,c,d,.box (t.eG (.cS 5 11 n 0 n)),.cv (l.map cA.row) 11,x][j]?=some (yC (cO [4,5] 7) o):=by
 have e1:yC (cO [4,5] 7) (.cv (l.map cA.row) 11)=.cv (l.map cA.row) 11:=yV (n:=0) om (AF 0 _);have e2:yC (cO [4,5] 7) (.box (t.eG (.cS 1 11 n 0 n)))=.box (t.eG (.cS 5 11 n 0 n)):=by rfl
 rcases i with _|_|i;.simp[gr]at h1 h2;grind
 .simp[gr]at h1 h2;grind
 grind
theorem xZ6(ag:Tx->Int->Int->Tx×List dq)(ru:Tx->Tx) (aK:∀t bump bV,j7 t->Pure prog 48 [dW bO,.agg t.row,.int .i64 bump,.int .i64 bV] (.cC [.agg (ag t bump bV).1.row,.sl .ro ((ag t bump bV).2.map dq.row)])) (aW:∀t,j7 t->Pure prog 52 [dW bO,.agg t.row] (.agg (ru t).row)) (t:Tx)(ht:j7 t)(a:dq)(ha:qE a.cmd)(r:cU)(hr:fG r)(bV:Int):Pure prog 17 [dW bO,.agg t.row,.agg a.row,.agg r.row,.int .i64 bV] (.cC [.agg (Eb ag ru t a r bV).1.row,.sl .ro ((Eb ag ru t a r bV).2.map dq.row)]):=by
 have aX:=xK6 t ht;have bp:=ht.bY;have ao:=Np t om ht.ku;have aj:=xS6 (kY a) ha (kq t) (by have:=@Rn t;omega) (Nq ht.ku);have ab:=YF {t with phase:=4} true (by show t.bY.length<=100000;omega);have aq:=aK t 0 bV ht;obtain⟨M,hM⟩:=eX (Eb ag ru t a r bV);rw[hM];unfold Eb at hM;obtain⟨asked,al⟩:∃b,((kq t).any λy=>decide (y=kY a))=b:=⟨_,rfl⟩;have aL:asked=true->t.phase≠3->(t.phase==4)=false:=λh1 h3=>by simp_all[kq];omega
 rw[al]at hM aj;clear al;have an:=Ro t.bY;obtain⟨B,hB⟩:=eX (kY a);have aF:B.row=[.int .i64 a.range,.int .i64 a.cmd.kind,.int .i64 0,.int .i64 a.cmd.node,.int .i64 a.cmd.home,.int .i64 a.cmd.dh.node,.int .i64 a.cmd.dh.dY,.int .i64 a.cmd.dh.seq,.int .i64 a.cmd.dh.attempt,.int .i64 a.cmd.at_.wall,.int .i64 a.cmd.at_.tie,.int .i64 a.cmd.wall,.bool a.cmd.yes,.sl .ro (a.cmd.cj.map ca.row),.sl .ro (a.cmd.writes.map di.row)]:=by rw[<-hB];rfl
 rw[hB]at aj hM;have ar:bS 0 (.box B.row):=Kl 0 B;refine iV 0 func17 ntmps17 results17 λc hc hb=>?_;refine zN (zA ?_);simp[go_sem,dW];refine zN (zA ?_);simp[go_sem];refine wq8 aX cB ⟨zC rfl,tV⟩ ?_;simp[go_sem];refine zN (zA ?_);simp[go_sem];refine zN (zA ?_);simp[go_sem];refine pC ao ?_;simp[go_sem];refine mY 2 aj cB (by rw[aF];rfl) ar ⟨zK,.inl (by simp[dL,dQ,du,dv,cO]),tV⟩ (λr I h=>⟨_,h.2,ar⟩) ?_;rintro r2 o2⟨rfl,h2⟩;obtain rfl:o2=.box B.row:=sU h2;simp[go_sem];have ret:∀(x:Tx)(y:List dq)(g gy:Tag)(rows:List (List V))(I:St),(x,y)=M->x.bY.map cA.row=rows->cz (some (.cC [.agg (x.eG (.sl g rows)),.sl gy (y.map dq.row)])) 0 (λr s=>r=.cC [.agg M.1.row,.sl .ro (M.2.map dq.row)]/\s=[]) I:=λx y g gy rows I h hr=>by subst h;exact zQ (r:=.cC [.agg x.row,.sl .ro (y.map dq.row)]) (yO ⟨wp8 x hr,rP,tV⟩) ⟨rfl,rfl⟩
 by_cases hE:¬asked=true\/r.err=25\/r.err=27;.rw[alq hE]at hM;refine CW 5 11 (t.bY.map cA.row) rfl (Kj _) ?_;refine zA ?_;cases asked with |false=>simp[go_sem,fO,fX,fN,fH,jG,mP,an];exact ret t [] _ .full _ _ hM rfl|true=>
   by_cases au:r.err=25;.have aa:(r.err==25)=true:=sU au;simp[go_sem,fO,fX,fN,fH,jG,mP,an,aa];exact ret t [] _ .full _ _ hM rfl
   .have aa:(r.err==25)=false:=sU au;have ae:(r.err==27)=true:=by simp at hE;simpa using hE.resolve_left au
    simp[go_sem,fO,fX,fN,fH,jG,mP,an,aa,ae];exact ret t [] _ .full _ _ hM rfl
 rw[alp hE]at hM;obtain⟨rfl,au,aY⟩:asked=true/\¬r.err=25/\¬r.err=27:=sU hE;have aa:(r.err==25)=false:=sU au;have ae:(r.err==27)=false:=sU aY;by_cases p3:t.phase=3
 .have av:(t.phase==3)=true:=sU p3;rw[alq p3]at hM;refine CW 5 11 (t.bY.map cA.row) rfl (Kj _) ?_;refine zA ?_;by_cases e0:r.err=0
  .have a7:(r.err !=0)=false:=sU e0;rw[alp (λh=>h e0)]at hM;by_cases hy:r.yes=true;.rw[alq hy]at hM;simp[go_sem,fO,fX,fN,fH,jG,mP,an,aa,ae,av,a7,hy];refine yA [(2,0)] 6 rfl kR kR ?_;simp[go_sem];refine pD ab ?_;simp[go_sem];exact ret {t with phase:=4} _ _ _ _ _ hM rfl
   .have aZ:r.yes=false:=sU hy;rw[alp hy]at hM;obtain⟨G,hG⟩:=eX (ag t 0 bV);rw[hG]at hM aq;simp[go_sem,fO,fX,fN,fH,jG,mP,an,aa,ae,av,a7,aZ];refine pC aq ?_;simp[go_sem];exact ret G.1 G.2 _ _ _ _ hM rfl
  .have a7:(r.err !=0)=true:=sU e0;rw[alq e0]at hM;simp[go_sem,fO,fX,fN,fH,jG,mP,an,aa,ae,av,a7];exact ret t [] _ .full _ _ hM rfl
 have av:(t.phase==3)=false:=sU p3;rw[alp p3]at hM;refine nK (S:=Unit) [4,5,6,7,8,10] (λ_=>[.int .i64 bV,.ptr 0 0,.ptr 1 0,.ptr 2 0,.ptr 3 0,.ptr 4 0]) (λ_=>nC t B r t.bY) (λ_=>True) hc hb ?_ ?_;.refine zA ?_;simp[go_sem,aa,ae,av];exact zH () ⟨tV,bU 6 (by simp[go_sem,nC,gG]) rfl (Km ..) dC (zD sg rfl)⟩
 rintro _ _;obtain⟨aw,aA⟩:=eX (nT t B r [] t.bY);rw[aA]at hM;clear ao aj ab aq;refine zN (zA ?_);simp[go_sem,nC];refine zG (S:=Nat×List cA) [4,5,6,7,8,10,74,75] (λu=>[.int .i64 bV,.ptr 0 0,.ptr 1 0,.ptr 2 0,.ptr 3 0,.ptr 4 0,.int .i64 t.bY.length,.int .i64 u.1]) (λu=>nC t B r u.2) (λu=>t.bY.length-u.1) (λu=>u.1<=t.bY.length/\u.2.length=t.bY.length/\u.2.drop u.1=t.bY.drop u.1/\(∀x∈u.2,kE x)/\nT t B r (u.2.take u.1) (t.bY.drop u.1)=aw) hc hb (0,t.bY) ⟨A5 _,rfl,rfl,ht.ku,aA⟩ ?_ ?_;.exact bU 6 (by simp[go_sem,nC]) rfl (Km ..) dC (zD sg rfl)
 rintro⟨i,cur⟩⟨hi,ah,ba,a8,hinv⟩;simp only at hi ah ba a8 hinv;have aB:=Ro cur;by_cases q:i<t.bY.length;rotate_left;.have bb:i=t.bY.length:=om;subst bb;rw[Cn,nT,Ad om]at hinv;subst hinv;rw[Ki]at hM;refine zN (zA ?_);simp[go_sem];have aG:j7 {t with bY:=cur}:=⟨ht.df,ht.nB,by show cur.length<=4;omega,a8,ht.outs⟩;have aP:=xS7 cur om;have aC:=aW {t with bY:=cur} aG;unfold vz at hM;obtain⟨dn,bc⟩:=eX (cur.any (λl=>l.state !=5));rw[bc]at hM aP;rw[ah]at aB;refine zN (zA ?_);simp[go_sem];refine CW 5 11 (cur.map cA.row) rfl (Kj _) ?_;refine zA ?_;simp[go_sem,fO,fX,fN,fH,jG,mP,aB,ah,nC,gG];refine pC aP ?_;cases dn with |true=>rw[alq rfl]at hM;simp[go_sem];exact ret {t with bY:=cur} [] _ .full _ _ hM rfl|false=>
   rw[alp dC]at hM;by_cases p1:t.phase=1;.have aH:(t.phase==1)=true:=sU p1;rw[alq p1]at hM;obtain⟨G,hG⟩:∃G,ru {t with bY:=cur}=G:=⟨_,rfl⟩;rw[hG]at hM aC;simp[go_sem,aH];refine pC aC ?_;simp[go_sem];exact ret G [] _ .full _ _ hM rfl
   .have aH:(t.phase==1)=false:=sU p1;rw[alp p1]at hM;simp[go_sem,aH];exact ret {t with bY:=cur,phase:=3} [] _ .full _ _ hM rfl
 have bd:=A4 q;have bq:=A4 (l:=cur) (i:=i) om;obtain⟨y,hy⟩:=eX (t.bY[i]);have bf:cur[i]=y:=by grind
 have ax:cur.drop (i+1)=t.bY.drop (i+1):=by grind
 rw[bd,hy,nT]at hinv;have aQ:=ht.ku y (hy▸A9 q);have ay:=YG t y aQ;have aI:=zO q om;have bg:mA t y=match lG t y with|some a=>(a,true)|none=>(Rj,false):=rfl;obtain⟨⟨ak,b⟩,bh⟩:∃p,mA t y=p:=⟨_,rfl⟩;rw[bh]at ay bg;simp only at ay;refine zN (zA ?_);simp[go_sem,q];refine zN (zA ?_);simp[go_sem];refine zN (yt (zN (zA ?_)));simp[go_sem];refine zN (zN ?_);refine yA [(6,0)] 6 rfl kR kR ?_;simp[go_sem,q,hy,nC];refine pD ay ?_;simp[go_sem];have aJ:∀(l2:List cA),l2.length=t.bY.length->l2.drop (i+1)=t.bY.drop (i+1)->(∀x∈l2,kE x)->nT t B r (l2.take (i+1)) (t.bY.drop (i+1))=aw->(i+1<=t.bY.length/\l2.length=t.bY.length/\l2.drop (i+1)=t.bY.drop (i+1)/\(∀x∈l2,kE x)/\nT t B r (l2.take (i+1)) (t.bY.drop (i+1))=aw):=λl2 h1 h2 h3 h4=>⟨q,h1,h2,h3,h4⟩;have aR:cur.take (i+1)=cur.take i++[y]:=by grind
 cases b with |false=>
  have bj:lG t y=none:=by grind
  rw[alp (by rw[bj];simp),<-aR]at hinv;refine zA ?_;simp[go_sem];refine zA ?_;simp[go_sem,aI];exact zH (i+1,cur) ⟨om,aJ cur ah ax a8 hinv,aN 6 (Km ..)⟩|true=>
  have bk:lG t y=some ak:=by grind
  rw[bk]at hinv;have bm:qE ak.cmd:=by
   have h:ak∈[ak]:=Bl.2 rfl;have:=Nq (t:={t with phase:=1,bY:=[y]}) (by grind) ak (by unfold kq;simpa);omega
  have af:=YH ak B bm (by rw[<-hB];exact ha);by_cases e:ak=B;rotate_left;.rw[alr e]at af;rw[alp (λh=>e (alI h)),<-aR]at hinv;refine zA ?_;simp[go_sem];refine pC af ?_;simp[go_sem];refine zA ?_;simp[go_sem,aI];exact zH (i+1,cur) ⟨om,aJ cur ah ax a8 hinv,aN 6 (Km ..)⟩
  rw[als e]at af;rw[alq (by rw[e])]at hinv;have ad:=wE9 t cur i om r hr;rw[bf]at ad;have hex:=wk8 t.phase y r;have aS:=Rm t.phase aQ hr;obtain⟨⟨l',bump,az,wt⟩,hO⟩:∃o,ij t.phase y r=o:=⟨_,rfl⟩;rw[hO]at ad hex aS hinv;simp only at hinv hex aS;refine zN (zA ?_);simp[go_sem];refine pC af ?_;simp[go_sem];refine zA ?_;simp[go_sem];rw[ah]at ad;have ab:(cur.set i l').length=t.bY.length:=by rw[Dn,ah]
  have ai:∀x∈cur.set i l',kE x:=(by grind);have a1:cur.set i l'=cur.take i++l'::t.bY.drop (i+1):=by simp_all[List.set_eq_take_append_cons_drop]
  cases wt with |true=>
   have bn:az=false:=by grind
   subst bn;rw[alp dC,alq rfl]at hinv;subst hinv;rw[Ki]at hM;have a6:bN prog 49 [.ptr 0 0,.jk 1 11 t.bY.length i 0,.agg r.row] (gr t t.bY.length cur) (λx s=>x=.cC [.int .i64 bump,.bool false]/\s=[.box (sK {t with jH:=(r.err,0,[])}).row,.cv (cur.map cA.row) 11]):=ad;refine zN ?_;refine yA [] 7 rfl kR kR ?_;simp[go_sem];refine zJ q ?_;simp[go_sem];refine Rl a6 cB [4,5] dC rfl (Rp t t.bY.length cur) ⟨.inl rfl,.inl rfl,zC rfl,tV⟩ ?_;rw[xl6];simp[go_sem];refine CW 5 11 (cur.map cA.row) rfl (Kj _) ?_;refine zA ?_;simp[go_sem,fO,fX,fN,fH,jG,mP,sK];exact ret (sK {t with jH:=(r.err,0,[])}) [] _ .full _ _ hM rfl|false=>
   have a6:bN prog 49 [.ptr 0 0,.jk 1 11 t.bY.length i 0,.agg r.row] (gr t t.bY.length cur) (λx s=>x=.cC [.int .i64 bump,.bool az]/\s=gr t t.bY.length (cur.set i l')):=by unfold F9 at ad;rw[ah]at ad;exact ad
   have aT:(cur.set i l').drop (i+1)=t.bY.drop (i+1):=by rw[List.drop_set_of_lt om,ax]
   have aU:nT t B r (cur.take i++[l']) (t.bY.drop (i+1))=aw->nT t B r ((cur.set i l').take (i+1)) (t.bY.drop (i+1))=aw:=(by grind);obtain⟨l2,aV⟩:=eX (cur.set i l');rw[aV]at a6 aT aU ab ai a1;cases az with |true=>rw[alq rfl,<-a1]at hinv;subst hinv;rw[Ki]at hM;have aG:j7 {t with bY:=l2}:=⟨ht.df,ht.nB,by show l2.length<=4;omega,ai,ht.outs⟩;have aD:=aK {t with bY:=l2} bump bV aG;obtain⟨G,hG⟩:∃G,ag {t with bY:=l2} bump bV=G:=⟨_,rfl⟩;rw[hG]at hM aD;have aE:=Ro l2;rw[ab]at aE;refine zN ?_;refine yA [] 7 rfl kR kR ?_;simp[go_sem];refine zJ q ?_;simp[go_sem];refine Rl a6 cB [4,5] dC rfl (Rp t t.bY.length cur) ⟨.inl rfl,.inl rfl,zC rfl,tV⟩ ?_;rw[YJ];simp[go_sem];refine CW 5 11 (l2.map cA.row) rfl (Kj _) ?_;refine zA ?_;simp[go_sem,fO,fX,fN,fH,jG,mP,aE,ab,gG];refine pC aD ?_;simp[go_sem];exact ret G.1 G.2 _ _ _ _ hM rfl|false=>rw[alp dC,alp dC]at hinv;have bo:=aL rfl p3;refine zN ?_;refine yA [] 7 rfl kR kR ?_;simp[go_sem];refine zJ q ?_;simp[go_sem];refine Rl a6 cB [4,5] dC rfl (Rp t t.bY.length cur) ⟨.inl rfl,.inl rfl,zC rfl,tV⟩ ?_;rw[YJ];simp[go_sem];refine zA ?_;simp[go_sem,bo];refine zA ?_;simp[go_sem,aI];exact zH (i+1,l2) ⟨om,aJ l2 ab aT ai (aU hinv),aN 6 (Km ..)⟩
end Go.Proofs.YtegbonbgofjlcaaGreat
namespace Go.Proofs.YtegbonbgofjlcaaGreat
open Go Go.Vx R Go.Proofs.Tryz
set_option maxRecDepth 100000
variable {t:Tx}
theorem YK(df:eF)(aa:List Ln):z8 df aa=.cC [.agg (sJ (gb df aa).1),.sl .ro ((qB df aa).map nz)]:=rfl
theorem wq6{l:cA}(h:kE l):vw (lQ l)=[.int .i64 l.range,.sl .ro (l.dK.map dM.row)]:=by have:=h.range;unfold vw lQ;simp only[B8];rw[show((l.range.toNat:Nat):Int)=l.range by omega];rfl
theorem Rq{l:List cA}(hl:l.length<=4)(hg:∀x∈l,kE x):(kW (l.map lQ)).length<=7500:=by
 have h1:=Ni (n:=1000) (l:=l.map lQ) (f:=λx=>xh x.1 x.2) λx hx=>by obtain⟨y,hy,rfl⟩:=Ab.1 hx;have:=(hg y hy).dK.1;grind[xh,lQ]
 grind[kW]
theorem Nr{df:eF}(hl:lr df){vs:List Vw}(hN:(kW vs).length<=7500):YC (gb df (mw vs)).1/\oQ (qB df (mw vs))/\∀q∈qB df (mw vs),q.2.length<=100000:=by obtain⟨m,hT⟩:=X4 vs;have hlen:(mw vs).length<=(kW vs).length:=hT.len;have hk:pz (mw vs):=λx hx=>⟨hT.now.rows x hx,(hT.lines x hx).1⟩;obtain⟨ab,ad⟩:=xE8 hl hT.now (by grind[mw]);obtain⟨_,aa⟩:=xY6 hl hT.now hk (by grind[mw]);exact⟨(by trivial),jy hl hT.now hk,aa⟩
theorem oQ.four{Q:List (Int×List Wr)}(h:oQ Q):Q.length<=4:=by
 have aa:(Q.map (·.1)).Nodup:=D5.2 (h.up.imp om);have:=aa.length_le_of_subset (l₂:=[0,1,2,3]) λg hg=>by obtain⟨y,hy,rfl⟩:=Ab.1 hg;have:=h.dN y hy;grind
 grind
def zx:List V:=[.int .i64 0,.int .i64 0,.int .i64 0,.int .i64 0,.int .i64 0,.int .i64 0,.sl .full [],.int .i64 0,.int .i64 0,.int .i64 0,.int .i64 0,.int .i64 0,.sl .full [],.int .i64 0,.int .i64 0,.sl .full []]
theorem YL{g:Tag}{rows:List (List V)}{I:St}(M:Tx)(hM:t.eG (.sl .ro rows)=M.row):cz (some (.agg (t.eG (.sl g rows)))) 0 (λr s=>r=.agg M.row/\s=[]) I:=zQ (r:=.agg M.row) (by grind[wp9]) sM
theorem YM(t:Tx)(ht:j7 t):Pure prog 52 [dW bO,.agg t.row] (.agg (oR t).row):=by
 have hN:=Rq ht.bY ht.ku;have aa:=XS t.df ht.df (t.bY.map lQ) (by rw[Au];have:=ht.bY;omega) (λx hx=>by obtain⟨y,hy,rfl⟩:=Ab.1 hx;have hg:=ht.ku y hy;have h1:=hg.range;have h2:=hg.dK;refine⟨by show y.range.toNat<1000;omega,by show(y.dK.map _).length<=100000;grind,λq hq=>?_⟩;obtain⟨p,hp,rfl⟩:=Ab.1 (by assumption);grind) hN;rw[YK]at aa;have ab:=(Nr ht.df hN).2;obtain⟨M,hM⟩:=eX (oR t);rw[hM];unfold oR at hM;obtain⟨A,hA⟩:=eX ((gb t.df (mw (t.bY.map lQ))).1);obtain⟨P,hP⟩:=eX (qB t.df (mw (t.bY.map lQ)));rw[hA]at aa hM;rw[hP]at aa hM ab;have ad:∀i(h:i<t.bY.length),vw (lQ t.bY[i])=[.int .i64 t.bY[i].range,.sl .ro (t.bY[i].dK.map dM.row)]:=λi h=>wq6 (ht.ku _ sM);have al:=ht.bY;have an:=ab.1.four;clear hA hP hN;refine iV 0 func52 ntmps52 results52 λc hc hb=>?_;refine zN (zA ?_);simp[go_sem,dW];refine zN (zA ?_);simp[go_sem];refine zN (zA ?_);simp[go_sem];refine wQ 5 2 dC (by rfl) ?_;refine zG (S:=Nat×List Vw) [2,3,4,5,13,14,15] (λu=>[.ptr 0 0,.ptr 1 0,.ptr 2 0,.sl (.app 3) (u.2.map vw),.sl .ro (t.bY.map cA.row),.int .i64 t.bY.length,.int .i64 u.1]) (λu=>[.box gG,.box t.row,.box zx,.app u.2.length 2]) (λu=>t.bY.length-u.1) (λu=>u.1<=t.bY.length/\u.2=(t.bY.take u.1).map lQ) hc hb (0,[]) sM ?_ ?_;.exact bU 4 (by rfl) rfl (by rfl) dC (zD (by rfl) rfl)
 rintro⟨i,out⟩⟨hi,ho⟩;simp only at hi ho;have ao:out.length=i:=by grind
 by_cases q:i<t.bY.length
 .have ei:=zO q om;have hv:=ad i q;obtain⟨y,hy⟩:=eX (t.bY[i]);rw[hy]at hv;have ae:out++[lQ y]=(t.bY.take (i+1)).map lQ:=by rw[ho,Ac q,hy,C2];rfl
  refine zA ?_;simp[go_sem,q,hy];refine zJ ⟨om,zZ rfl⟩ ?_;simp[go_sem,ei];exact zH (i+1,out++[lQ y]) ⟨om,⟨q,ae⟩,bU 4 sM rfl (by rfl) dC (zD (by simp[go_sem,hv]) rfl)⟩
 have h2:out=t.bY.map lQ:=by grind
 rw[<-h2]at aa;clear ho ad h2;refine zN (zA ?_);simp[go_sem,q];refine zN (zA ?_);simp[go_sem];refine zN (zA ?_);simp[go_sem,gG];refine pC aa ?_;simp[go_sem];refine zN (zA ?_);simp[go_sem];by_cases ah:P=[];.subst ah;simp only at hM;refine zA ?_;simp[go_sem];exact YL (t:={t with phase:=4,jH:=A,bY:=[]}) (g:=.full) (rows:=[]) M (by rw[<-hM];rfl)
 have ai:0<P.length:=(by grind);obtain⟨p,hp⟩:=eX (P[0]);have aj:{t with jH:=A,phase:=2,home:=p.1,bY:=P.map xk}=M:=by grind
 have ak:((P.length:Int)==0)=false:=by grind
 clear aa ab hM;obtain⟨tm,af⟩:∃tm:Tx,{t with jH:=A,phase:=2,home:=p.1}=tm:=⟨_,rfl⟩;refine zN (zA ?_);simp[go_sem,ak];refine zN ?_;refine wP [(5,3),(7,3)] 2 5 sM (by rfl) kR ?_;simp[go_sem,ai,hp,nz];refine zN (zA ?_);simp[go_sem];refine Fg 1 12 11 (tm.eG (.sl .full [])) dC (by rw[<-af];rfl) rfl ?_;refine zG (S:=Nat×List cA) [3,4,50,51,52] (λu=>[.ptr 1 0,.ptr 2 0,.sl .ro (P.map nz),.int .i64 P.length,.int .i64 u.1]) (λu=>[.box gG,.box (tm.eG (.sl (.app 5) (u.2.map cA.row))),.box zx,.app out.length 2,.box (sJ A),.app u.2.length 11]) (λu=>P.length-u.1) (λu=>u.1<=P.length/\u.2=(P.take u.1).map xk) hc hb (0,[]) sM ?_ ?_;.exact bU 6 (by rfl) rfl (by rfl) dC (zD (by rfl) rfl)
 rintro⟨j,bY⟩⟨hj,hl⟩;simp only at hj hl;have aq:bY.length=j:=by grind
 by_cases qj:j<P.length;rotate_left
 .have h2:bY=P.map xk:=by grind
  refine zA ?_;simp[go_sem,qj];refine zA ?_;simp[go_sem,zx];exact YL (t:=tm) (rows:=bY.map cA.row) M (by rw[<-aj,<-af,h2];rfl)
 have ej:=zO qj om;obtain⟨y,hy⟩:=eX (P[j]);have ae:bY++[xk y]=(P.take (j+1)).map xk:=by rw[hl,Ac qj,hy,C2];rfl
 refine zA ?_;simp[go_sem,qj,hy,nz];refine zJ ⟨om,zZ rfl⟩ ?_;simp[go_sem,ej];exact zH (j+1,bY++[xk y]) ⟨om,(by grind),bU 6 (by simp[go_sem];exact⟨rfl,rfl,rfl,rfl,by show _=(y.2.map wG).map di.row;rw[B8];rfl,rfl,rfl,rfl,rfl,rfl,rfl⟩) rfl (by rfl) dC (zD (by rfl) rfl)⟩
theorem YN(df:eF):(nR df).length<=4:=by
 have ab:=(WE df).sr;have aa:((nR df).map (·.1)).Nodup:=(by grind);have:=aa.length_le_of_subset (l₂:=[0,1,2,3]) λg hg=>by obtain⟨y,hy,rfl⟩:=Ab.1 hg;have:=Rf df y hy;grind
 grind
theorem xY8{df:eF}(hl:lr df):∀x∈(nR df).map vy,kE x:=λx hx=>by obtain⟨y,hy,rfl⟩:=Ab.1 hx;have h1:=Rf df y hy;have h2:=Yr hl y hy;exact⟨by show 0<=y.1/\y.1<1000;omega,by show y.2.length<=100000;omega,A5 _,A5 _,λp hp=>by cases hp⟩
theorem xY3{Q:List (Int×List Wr)}(h:oQ Q)(hw:∀q∈Q,q.2.length<=100000):∀x∈Q.map xk,kE x:=λx hx=>by obtain⟨y,hy,rfl⟩:=Ab.1 hx;have h1:=h.dN y hy;have h2:=hw y hy;exact⟨by show 0<=y.1/\y.1<1000;omega,A5 _,by show(y.2.map wG).length<=100000;grind,A5 _,λp hp=>by cases hp⟩
theorem Rr(ht:j7 t):j7 (oR t):=by obtain⟨h1,h2,h3⟩:=Nr ht.df (Rq ht.bY ht.ku);unfold oR;obtain⟨P,hP⟩:=eX (qB t.df (mw (t.bY.map lQ)));rw[hP]at h2 h3⊢;cases P with|nil=>exact⟨ht.df,ht.nB,sM,sM,h1⟩|cons p l=>exact⟨ht.df,ht.nB,by show((p::l).map xk).length<=4;rw[Au];exact h2.four,xY3 h2 h3,h1⟩
theorem Rs(ht:j7 t)(bV:Int):j7 (AE t bV):=⟨ht.df,ht.nB,by show((nR t.df).map vy).length<=4;grind[YN],xY8 ht.df,A5 _,λx hx=>by cases hx⟩
theorem YO(ht:j7 t)(bV:Int):j7 (sL t bV):=by grind[sL,Rr,Rs]
def oS(t:Tx)(bV:Int)(v:V):List V:=[.int .i64 t.id.node,.int .i64 t.id.dY,.int .i64 t.id.seq,.int .i64 t.id.attempt,.int .i64 t.df.mode,.int .i64 t.df.n,.sl .ro (t.df.stmts.map bZ.row),.int .i64 1,.int .i64 (if bV<t.bump then t.bump else bV),.int .i64 (lF t.id),.int .i64 t.bump,.int .i64 0,v,.int .i64 0,.int .i64 0,.sl .full []]
theorem wh3{ρ:Nat->Nat}(t:Tx)(bV:Int){g:Tag}{rows:List (List V)}(h:((nR t.df).map vy).map cA.row=rows):cW ρ (.agg (AE t bV).row) (.agg (oS t bV (.sl g rows))):=by subst h;unfold Tx.row oS AE mx;exact xM ⟨zF rfl,zF rfl,zF rfl,zF rfl,zF rfl,zF rfl,zY,zF rfl,zF rfl,zF rfl,zF rfl,zF rfl,zY,zF rfl,zF rfl,zY,tV⟩
theorem YP(t:Tx)(ht:j7 t)(bV:Int):Pure prog 40 [dW bO,.agg t.row,.int .i64 bV] (.agg (sL t bV).row):=by
 have ad:=xW0 t.df (by have:=ht.df.stmts.1;omega) ht.df.stmts.2;have ae:=wD6 t.id;have h4:=YN t.df;have ab:=YM (AE t bV) (Rs ht bV);obtain⟨M,hM⟩:=eX (sL t bV);rw[hM];unfold sL at hM;obtain⟨N,hN⟩:=eX (nR t.df);have af:∀(ρ:Nat->Nat)(g:Tag)(bY:List cA),bY=N.map vy->cW ρ (.agg (AE t bV).row) (.agg (oS t bV (.sl g (bY.map cA.row)))):=(by grind[wh3]);obtain⟨tm,ai⟩:=eX (AE t bV);rw[hN]at ad h4 hM;rw[ai]at ab hM af;clear hN ai;obtain⟨te,ak⟩:∃te:Int,(if xj t.id=true then(1:Int)else 0)=te:=⟨_,rfl⟩;rw[ak]at ae;refine iV 0 func40 ntmps40 results40 λc hc hb=>?_;refine zN (zA ?_);simp[go_sem,dW];refine zN (zA ?_);simp[go_sem];refine pC ae ?_;simp[go_sem];refine zN (zA ?_);simp[go_sem];refine zN (zA ?_);simp[go_sem];refine zN (zA ?_);simp[go_sem];refine pC ad ?_;simp[go_sem];refine Fg 1 12 11 _ dC rfl rfl ?_;refine zG (S:=Nat×List cA) [3,4,6,42,43,44] (λu=>[.ptr 0 0,.ptr 1 0,.ptr 2 0,.sl .ro (N.map p8),.int .i64 N.length,.int .i64 u.1]) (λu=>[.box gG,.box (oS t bV (.sl (.app 3) (u.2.map cA.row))),.box zx,.app u.2.length 11]) (λu=>N.length-u.1) (λu=>u.1<=N.length/\u.2=(N.take u.1).map vy) hc hb (0,[]) sM ?_ ?_;.exact bU 4 (by rfl) rfl (by rfl) dC (zD (by rfl) rfl)
 rintro⟨i,bY⟩⟨hi,hl⟩;simp only at hi hl;have an:bY.length=i:=by grind
 by_cases q:i<N.length;rotate_left
 .have h2:bY=N.map vy:=by grind
  have aa:=λρ g=>af ρ g bY h2;unfold oS at aa;refine zN (zA ?_);simp[go_sem,q];refine zN (zA ?_);simp[go_sem];by_cases aj:N=[]
  .have ah:bY=[]:=by grind
   rw[alq aj]at hM;rw[hM]at ab;subst ah;refine zA ?_;simp[go_sem,oS,gG];refine zL ab cB ⟨zC rfl,aa _ _,tV⟩ rfl ?_;simp[go_sem,zx];exact zQ (r:=.agg M.row) (zC rfl) ⟨rfl,rfl⟩
  .have ah:((bY.length:Int)==0)=false:=by have:N.length≠0:=(by grind);grind
   rw[alp aj]at hM;rw[hM]at aa;refine zA ?_;simp[go_sem,oS,ah,zx];exact zQ (r:=.agg M.row) (aa _ _) ⟨rfl,rfl⟩
 have ei:=zO q om;obtain⟨y,hy⟩:=eX (N[i]);have al:bY++[vy y]=(N.take (i+1)).map vy:=by rw[hl,Ac q,hy,C2];rfl
 refine zA ?_;simp[go_sem,q,hy,oS];refine zJ ⟨om,zZ rfl⟩ ?_;simp[go_sem,ei];exact zH (i+1,bY++[vy y]) ⟨om,⟨q,al⟩,bU 4 (by simp[go_sem];trivial) rfl (by rfl) dC (zD (by rfl) rfl)⟩
theorem wg6(t:Tx)(ht:j7 t)(bump bV:Int):Pure prog 48 [dW bO,.agg t.row,.int .i64 bump,.int .i64 bV] (.cC [.agg (xn t bump bV).1.row,.sl .ro ((xn t bump bV).2.map dq.row)]):=by
 have ab:=YF t false (by have:=ht.bY;omega);have af:=ht.nB;have e1:IntKind.i64.wrap (t.id.attempt+1)=t.id.attempt+1:=(by grind[bX]);obtain⟨M,hM⟩:=eX (xn t bump bV);rw[hM];unfold xn at hM;obtain⟨tidy,aa⟩:∃l,(if t.phase=1then[]else HV t false)=l:=⟨_,rfl⟩;rw[aa]at hM;have ae:([.box gG,.box t.row,.box zx]:St).all (bS 3)=true:=by rfl
 refine iV 0 func48 ntmps48 results48 λc hc hb=>?_;refine zN (zA ?_);simp[go_sem,dW];refine zN (zA ?_);simp[go_sem];refine nK (S:=Unit) [2,3,4,5,8,10] (λ_=>[.int .i64 bump,.int .i64 bV,.ptr 0 0,.ptr 1 0,.ptr 2 0,.sl .ro (tidy.map dq.row)]) (λ_=>[.box gG,.box t.row,.box zx]) (λ_=>True) hc hb ?_ ?_
 .by_cases p1:t.phase=1
  .have ad:(t.phase !=1)=false:=by grind
   rw[alq p1]at aa;subst aa;refine zA ?_;simp[go_sem,ad];exact zH () ⟨tV,bU 3 (by rfl) rfl ae dC ⟨zC rfl,zC rfl,xR rfl,xR rfl,xR rfl,zK,tV⟩⟩
  .have ad:(t.phase !=1)=true:=by grind
   rw[alp p1]at aa;rw[aa]at ab;refine zA ?_;simp[go_sem,ad];refine pC ab ?_;simp[go_sem];exact zH () ⟨tV,bU 3 (by rfl) rfl ae dC ⟨zC rfl,zC rfl,xR rfl,xR rfl,xR rfl,zK,tV⟩⟩
 rintro _ _;by_cases q:10<=t.id.attempt+1
 .have q':decide (10<=t.id.attempt+1)=true:=by grind
  rw[alq q]at hM;unfold mx at hM;have hw:=Ri {t with bump:=if t.bump<bump then bump else t.bump,id:={t.id with attempt:=t.id.attempt+1},jH:=(28,0,[])};obtain⟨W,hW⟩:∃W,sK {t with bump:=if t.bump<bump then bump else t.bump,id:={t.id with attempt:=t.id.attempt+1},jH:=(28,0,[])}=W:=⟨_,rfl⟩;rw[hW]at hw hM;subst hM;refine zA ?_;simp[go_sem,e1,q',zx];refine zL hw cB ⟨xM ⟨zF rfl,zF rfl,zF rfl,zF rfl,zF rfl,zF rfl,zY,zF rfl,zF rfl,zF rfl,zF rfl,zF rfl,zY,zF rfl,zF rfl,zY,tV⟩,tV⟩ rfl ?_;simp[go_sem];exact zQ (zC rfl) sM
 .have q':decide (10<=t.id.attempt+1)=false:=by grind
  rw[alp q]at hM;unfold mx at hM;have hw:=YP {t with bump:=if t.bump<bump then bump else t.bump,id:={t.id with attempt:=t.id.attempt+1}} ⟨ht.df,by grind,ht.bY,ht.ku,ht.outs⟩ bV;obtain⟨W,hW⟩:∃W,sL {t with bump:=if t.bump<bump then bump else t.bump,id:={t.id with attempt:=t.id.attempt+1}} bV=W:=⟨_,rfl⟩;rw[hW]at hw hM;subst hM;refine zA ?_;simp[go_sem,e1,q',zx,gG];refine pC hw ?_;simp[go_sem];exact zQ (zC rfl) sM
theorem Rt(ht:j7 t)(h9:t.id.attempt<=9)(bump bV:Int):j7 (xn t bump bV).1:=by
 have h0:=ht.nB;unfold xn;split;.exact⟨ht.df,by show 0<=t.id.attempt+1/\t.id.attempt+1<=10;omega,A5 _,λx hx=>(by cases hx),A5 _,λx hx=>by cases hx⟩
 .exact YO (t:={t with bump:=mx t.bump bump,id:={t.id with attempt:=t.id.attempt+1}}) ⟨ht.df,by grind,ht.bY,ht.ku,ht.outs⟩ bV
theorem Ru(t:Tx)(ht:j7 t)(a:dq)(ha:qE a.cmd)(r:cU)(hr:fG r)(bV:Int):Pure prog 17 [dW bO,.agg t.row,.agg a.row,.agg r.row,.int .i64 bV] (.cC [.agg (sN t a r bV).1.row,.sl .ro ((sN t a r bV).2.map dq.row)]):=xZ6 xn oR (by grind[wg6]) (by grind[YM]) t ht a ha r hr bV
theorem YQ(id:eZ)(l:eF)(hl:lr l)(bV:Int):Pure prog 15 [dW bO,.agg id.row,.agg l.row,.int .i64 bV] (.agg (sO id l bV).row):=by
 have aj:=YB l hl;have ae:=V8 l hl;have aa:=XS l hl [] dC sM dC;rw[YK,show mw []=[]from rfl]at aa;obtain⟨M,hM⟩:=eX (sO id l bV);rw[hM];unfold sO at hM;obtain⟨A,hA⟩:=eX ((gb l []).1);obtain⟨uJ,hU⟩:=eX (qB l []);rw[hA]at aa hM;rw[hU]at aa;have af:=Ri ⟨{id with attempt:=0},l,0,zS,0,0,[],(1,0,[])⟩;have ah:=Ri ⟨{id with attempt:=0},l,0,zS,0,0,[],A⟩;have ai:=YP ⟨{id with attempt:=0},l,0,zS,0,0,[],(0,0,[])⟩ ⟨hl,sM,sM,sM,sM,sM⟩ bV;obtain⟨⟨ci,cr⟩,hP⟩:∃P,pq l=P:=⟨_,rfl⟩;rw[hP]at ae hM;simp only at hM;refine iV 0 func15 ntmps15 results15 λc hc hb=>?_;refine zN (zA ?_);simp[go_sem,dW];refine zN (zA ?_);simp[go_sem];refine zN ?_;refine yA [(2,0)] 4 rfl (by rfl) kR ?_;simp[go_sem];refine pD aj ?_;simp[go_sem];by_cases q1:l.mode=0;rotate_left
 .have ab:(l.mode !=0)=true:=by grind
  rw[alq q1]at hM;rw[show sK ⟨{id with attempt:=0},l,0,zS,0,0,[],(1,0,[])⟩=M from hM]at af;refine zA ?_;simp[go_sem,ab];refine zL af cB ⟨xM ⟨zF rfl,zF rfl,zF rfl,zF rfl,zF rfl,zF rfl,zY,zF rfl,zF rfl,zF rfl,zF rfl,zF rfl,zY,zF rfl,zF rfl,zY,tV⟩,tV⟩ rfl ?_;simp[go_sem];exact zQ (r:=.agg M.row) (zC rfl) (by trivial)
 have ab:(l.mode !=0)=false:=by grind
 rw[alp om]at hM;refine zA ?_;simp[go_sem,ab];refine pC ae ?_;simp[go_sem,wO];by_cases q2:cr=0;rotate_left
 .have ad:(cr !=0)=true:=by grind
  rw[alq q2]at hM;rw[show sK ⟨{id with attempt:=0},l,0,zS,0,0,[],A⟩=M from hM]at ah;simp[go_sem,ad];refine pC aa ?_;simp[go_sem];refine zL ah cB ⟨xM ⟨zF rfl,zF rfl,zF rfl,zF rfl,zF rfl,zF rfl,zY,zF rfl,zF rfl,zF rfl,zF rfl,zF rfl,zY,zF rfl,zF rfl,zY,tV⟩,tV⟩ rfl ?_;simp[go_sem];exact zQ (r:=.agg M.row) (zC rfl) (by trivial)
 have ad:(cr !=0)=false:=by grind
 rw[alp om]at hM;rw[hM]at ai;simp[go_sem,ad];refine zL ai cB ⟨zC rfl,xM ⟨zF rfl,zF rfl,zF rfl,zF rfl,zF rfl,zF rfl,zY,zF rfl,zF rfl,zF rfl,zF rfl,zF rfl,zY,zF rfl,zF rfl,zY,tV⟩,zC rfl,tV⟩ rfl ?_;simp[go_sem];exact zQ (r:=.agg M.row) (zC rfl) (by trivial)
end Go.Proofs.YtegbonbgofjlcaaGreat
namespace Go.Proofs.YtegbonbgofjlcaaGreat.R
open Go Go.Vx Go.Proofs.Tryz
set_option maxRecDepth 100000
theorem xl2(v:Nat)(hv:v<18446744073709551616):bN prog 415 [fc [],.int .u64 v,.int .i64 8] [] λr s=>r=.cC [ib (be v 8),.int .i64 0]/\s=gL (be v 8):=by
 refine iV 0 func415 ntmps415 results415 λc hc hb=>?_;refine tg 17 dC ?_;refine zA ?_;simp[go_sem,fc,zU];refine zG (S:=Nat×Nat) [0,1,8,9] (λu=>[fc [],.int .u64 u.2,.cS 0 1 8 0 8,.int .i64 (7-(u.1:Int))]) (λu=>[.cv (ic v u.1) 1]) (λu=>8-u.1) (λu=>u.1<=8/\u.2=v/256^u.1) hc hb (0,v) sM ?_ ?_;.exact bU 1 (by rfl) rfl (by rfl) om (zD (by rfl) rfl)
 rintro⟨k,z⟩⟨hk,hz⟩;simp only at hk hz;have ah:z<=v:=hz▸Nat.div_le_self _ _;have ab:=Vb (v:=v) hk;refine zA ?_;simp[go_sem];refine zX (λq=>?_) (λq=>?_)
 .have q:k+1<=8:=by grind
  have e0:((7:Int)-k).toNat=7-k:=om;have e1:IntKind.i64.wrap (7-(k:Int)-1)=7-((k:Int)+1):=by grind[bX]
  have e2:IntKind.u64.wrap ((z:Int)/256)=((z/256:Nat):Int):=by grind[dp]
  have e3:IntKind.u8.wrap ((z:Int).tmod 256)=((UInt8.ofNat z).toNat:Int):=by rw[Cp om,show(z:Int)%256=((z%256:Nat):Int)by omega,uQ];simp
  have aa:=Vc (v:=v) q;rw[<-hz]at aa;simp[go_sem];refine zJ om ?_;have ad:∀h,(ic v k)[7-k]'h=[.int .u8 0]:=λh=>by
   have:(ic v k)[7-k]?=some [.int .u8 0]:=by unfold ic;grind
   grind
  simp at aa;simp[go_sem,ab,show 7-k<8by omega,ad,e1,e2,e3];refine zH (k+1,z/256) ⟨om,(by grind[Nat.div_div_eq_div_mul]),bU 1 (by grind) rfl (Qa (Jx _ _) _) om (zD (by rfl) rfl)⟩
 .have:k=8:=by grind
  subst this;have ae:z=0:=om;subst ae;simp[go_sem,fc,zU];refine zJ (λr h=>by cases h) ?_;have af:wU (ic v 8) 0 8=zU (be v 8):=by rfl
  simp[go_sem,ab,af];refine zJ (by grind[Vd,Jx,zW,zh,sk]) ?_;simp[go_sem];exact Nk [1] sM rfl (s:=gL (be v 8)) (by trivial) (r:=.cC [ib (be v 8),.int .i64 0]) (.inl rfl) sM
theorem xA5(v:Nat)(hv:v<18446744073709551616):bN prog 361 [.int .u64 v] [] λr s=>r=ib (be v 8)/\s=gL (be v 8):=by refine iW 0 func361 ntmps361 results361 λc hc hb=>zM ?_;simp[go_sem];refine DA (xl2 v hv) cB ⟨wX rfl,zC rfl,zC rfl,tV⟩ ?_;rintro r s⟨rfl,rfl⟩;simp[go_sem];exact nJ 1 rfl rfl om (xR rfl) (by trivial)
def nF(b:alW)(v:Int):alW:=b++eQ (gM v)
def tF (b s:alW):alW:=b++eQ s.length++s
def fF(b:alW)(x:Bool):alW:=b++[if x then 1 else 0]
def sF(b:alW)(s:cT):alW:=b++(be (s.wall+9223372036854775808).toNat 8++be (s.tie+9223372036854775808).toNat 8)
def yF(b:alW)(t:eZ):alW:=nF (nF (nF (nF b t.node) t.dY) t.seq) t.attempt
theorem rj(b:alW)(v:Int)(hv:cL v):(nF b v).length<=b.length+10:=by grind[zg,Mq,nF]
theorem HW(b s:alW)(hs:s.length<=1048576):(tF b s).length<=b.length+s.length+10:=by grind[zg,tF]
theorem Rv(b:alW)(x:Bool):(fF b x).length=b.length+1:=by simp[fF]
theorem wB3(b:alW)(s:cT):(sF b s).length=b.length+16:=by grind[sF,zh]
theorem wC9(b:alW)(t:eZ)(ht:t.ok):(yF b t).length<=b.length+40:=by have h1:=rj b t.node ht.node;have h2:=rj (nF b t.node) t.dY ht.dY;have h3:=rj (nF (nF b t.node) t.dY) t.seq ht.seq;have h4:=rj (nF (nF (nF b t.node) t.dY) t.seq) t.attempt ht.attempt;grind[yF]
theorem Rw(b:alW)(v:Int)(aa:b.length<=cN)(hv:cL v):bN prog 206 [fc b,.int .i64 v] [] λr s=>r=ib (nF b v)/\s=gL (nF b v):=by refine iW 0 func206 ntmps206 results206 λc hc hb=>zM ?_;simp[go_sem];refine pC (xZ3 v hv) ?_;simp[go_sem];refine DA (UX b (gM v) aa (Mq hv)) cB ⟨zC rfl,zC rfl,tV⟩ ?_;rintro r s⟨rfl,rfl⟩;simp[go_sem];exact nJ 1 rfl rfl om (xR rfl) (by trivial)
theorem AG(b:alW)(v:Int)(aa:b.length<=cN)(hv:cL v):Pure prog 206 [fc b,.int .i64 v] (fc (nF b v)):=Jv (Rw b v aa hv)
theorem YR(b s:alW)(aa:b.length<=cN)(hs:s.length<=cN):bN prog 210 [fc b,.str s] [] λr st=>r=ib (tF b s)/\st=gL (tF b s):=by refine iW 0 func210 ntmps210 results210 λc hc hb=>zM ?_;simp[go_sem];refine DA (xH9 b s aa hs) cB ⟨zC rfl,zC rfl,tV⟩ ?_;rintro r st⟨rfl,rfl⟩;simp[go_sem];exact nJ 1 rfl rfl om (xR rfl) (by grind[tF,gL])
theorem Rx(b s:alW)(aa:b.length<=cN)(hs:s.length<=cN):Pure prog 210 [fc b,.str s] (fc (tF b s)):=Jv (YR b s aa hs)
theorem YS(b:alW)(x:Bool)(aa:b.length<=cN):bN prog 207 [ib b,.bool x] (gL b) λr s=>r=ib (fF b x)/\s=gL (fF b x):=by
 refine iW 1 func207 ntmps207 results207 λc hc hb=>zM ?_;cases x;.simp[go_sem,ib,gL,zW];refine zJ ⟨by grind,zZ rfl⟩ ?_;simp[go_sem];exact nJ 1 rfl rfl om (xR rfl) (by grind[fF,zU])
 .simp[go_sem,ib,gL,zW];refine zJ ⟨by grind,zZ rfl⟩ ?_;simp[go_sem];exact nJ 1 rfl rfl om (xR rfl) (by grind[fF,zU])
theorem wf8(s:cT)(hs:s.ok):Pure prog 294 [.agg s.row] (fc (be (s.wall+9223372036854775808).toNat 8++be (s.tie+9223372036854775808).toNat 8)):=by
 have h1:=hs.wall;have h2:=hs.tie;have l1:(s.wall+9223372036854775808).toNat<18446744073709551616:=om;have l2:(s.tie+9223372036854775808).toNat<18446744073709551616:=om;have r1:=U9 s.wall h1;have r2:=U9 s.tie h2;generalize(s.wall+9223372036854775808).toNat=o1 at l1 r1⊢;generalize(s.tie+9223372036854775808).toNat=o2 at l2 r2⊢;refine iW 0 func294 ntmps294 results294 λc hc hb=>zM ?_;simp[go_sem];refine yA [(2,0),(3,3),(6,0),(7,0)] 1 rfl (by rfl) kR ?_;simp[go_sem];refine pD r1 ?_;simp[go_sem];refine G8 (xA5 o1 l1) cB (yD rfl) ?_;simp[go_sem,ib,gL];refine pD r2 ?_;simp[go_sem];refine pD (wf9 o2 l2) ?_;simp[go_sem,fc,zh,zW,yC,HU];refine zJ (sk _) ?_;simp[go_sem];have e:zU (be o1 8)++zU (be o2 8)=zU (be o1 8++be o2 8):=by rfl
 rw[e];exact zQ zK sM
theorem wH7(b:alW)(t:eZ)(aa:b.length<=cN-40)(ht:t.ok):bN prog 209 [fc b,.agg t.row] [] λr s=>r=ib (yF b t)/\s=gL (yF b t):=by have h1:=rj b t.node ht.node;have h2:=rj (nF b t.node) t.dY ht.dY;have h3:=rj (nF (nF b t.node) t.dY) t.seq ht.seq;have c1:=AG b t.node om ht.node;have c2:=AG (nF b t.node) t.dY (by grind) ht.dY;have c3:=AG (nF (nF b t.node) t.dY) t.seq (by grind) ht.seq;have c4:=Rw (nF (nF (nF b t.node) t.dY) t.seq) t.attempt (by grind) ht.attempt;unfold yF;generalize nF b t.node=b1 at c1 c2 c3 c4 h1 h2 h3⊢;generalize nF b1 t.dY=b2 at c2 c3 c4 h2 h3⊢;generalize nF b2 t.seq=b3 at c3 c4 h3⊢;refine iW 0 func209 ntmps209 results209 λc hc hb=>zM ?_;simp[go_sem];refine yA [(3,0),(6,0),(9,0),(12,3)] 1 rfl (by rfl) kR ?_;simp[go_sem];refine pD c1 ?_;simp[go_sem];refine pD c2 ?_;simp[go_sem];refine pD c3 ?_;simp[go_sem];refine G8 c4 cB (yD rfl) ?_;simp[go_sem,ib,gL,yC,HU];exact Nk [1] sM rfl (s:=gL (nF b3 t.attempt)) (by trivial) (r:=ib (nF b3 t.attempt)) (.inl rfl) (by trivial)
theorem s_w(b:alW)(s:cT)(aa:b.length<=cN)(hs:s.ok):bN prog 208 [ib b,.agg s.row] (gL b) λr st=>r=ib (sF b s)/\st=gL (sF b s):=by
 have hl:(be (s.wall+9223372036854775808).toNat 8++be (s.tie+9223372036854775808).toNat 8).length=16:=by rfl
 refine iW 1 func208 ntmps208 results208 λc hc hb=>zM ?_;simp[go_sem];refine pC (wf8 s hs) ?_;unfold sF;generalize(be (s.wall+9223372036854775808).toNat 8++be (s.tie+9223372036854775808).toNat 8)=x at hl⊢;simp[go_sem,ib,gL,fc,zW];refine zJ (by simp_all[cN,sk];omega) ?_;simp[go_sem];exact nJ 1 rfl rfl om (xR rfl) ⟨by simp[zU],rfl⟩
def xo(b:alW)(l:List ca):alW:=l.foldl (λb x=>tF (tF b x.lo) x.hi) b
def xp(b:alW)(l:List di):alW:=l.foldl (λb x=>tF (fF (tF b x.key) x.drop) x.data) b
theorem YT:∀(l:List ca)(b:alW),(∀x∈l,x.lo.length<=2000/\x.hi.length<=2000)->(xo b l).length<=b.length+4020*l.length
 |[],b,_=>by simp[xo]|x::l,b,h=>by have h1:=h x sM;have h2:=HW b x.lo om;have h3:=HW (tF b x.lo) x.hi om;have h4:=YT l (tF (tF b x.lo) x.hi) λy hy=>h y (by simp[hy]);simp only[xo,B7]at h4⊢;simp only[Ah];omega
theorem YU:∀(l:List di)(b:alW),(∀x∈l,x.key.length<=2000/\x.data.length<=20000)->(xp b l).length<=b.length+22030*l.length
 |[],b,_=>by simp[xp]|x::l,b,h=>by have h1:=h x sM;have h2:=HW b x.key om;have aa:=Rv (tF b x.key) x.drop;have h3:=HW (fF (tF b x.key) x.drop) x.data om;have h4:=YU l (tF (fF (tF b x.key) x.drop) x.data) λy hy=>h y (by simp[hy]);simp only[xp,B7]at h4⊢;simp only[Ah];omega
structure AH(x:fI):Prop where s:∀y∈x.cj,y.lo.length<=2000/\y.hi.length<=2000w:∀y∈x.writes,y.key.length<=2000/\y.data.length<=20000ns:x.cj.length<=1000nw:x.writes.length<=20000
def iX(x:fI):alW:=nF (nF (nF (nF [1] x.kind) x.cE) x.node) x.home
def oT(x:fI):alW:=nF (fF (nF (sF (yF (iX x) x.dh) x.at_) x.wall) x.yes) x.cj.length
def oU(x:fI):alW:=nF (xo (oT x) x.cj) x.writes.length
def lH (x:fI):alW:=xp (oU x) x.writes
theorem Ed(x:fI)(hx:x.ok)(hs:AH x):Pure prog 139 [.agg x.row] (fc (lH x)):=by
 have a1:=rj [1] x.kind hx.kind;have a2:=rj (nF [1] x.kind) x.cE hx.cE;have a3:=rj (nF (nF [1] x.kind) x.cE) x.node hx.node;have a4:=rj (nF (nF (nF [1] x.kind) x.cE) x.node) x.home hx.home;have c1:=AG [1] x.kind (by unfold cN;simp) hx.kind;have c2:=AG (nF [1] x.kind) x.cE (by unfold cN;simp at a1;omega) hx.cE;have c3:=AG (nF (nF [1] x.kind) x.cE) x.node (by unfold cN;simp at a1;omega) hx.node;have c4:=AG (nF (nF (nF [1] x.kind) x.cE) x.node) x.home (by unfold cN;simp at a1;omega) hx.home;have aj:(iX x).length<=41:=by simp at a1;unfold iX;omega
 have e1:nF (nF (nF (nF [1] x.kind) x.cE) x.node) x.home=iX x:=rfl;have ae:cL x.cj.length:=by have:=hs.ns;unfold cL;omega
 have af:cL x.writes.length:=by have:=hs.nw;unfold cL;omega
 have d1:=wH7 (iX x) x.dh (by unfold cN;omega) hx.dh;have l1:=wC9 (iX x) x.dh hx.dh;have d2:=s_w (yF (iX x) x.dh) x.at_ (by unfold cN;omega) hx.at_;have l2:=wB3 (yF (iX x) x.dh) x.at_;have d3:=Rw (sF (yF (iX x) x.dh) x.at_) x.wall (by unfold cN;omega) hx.wall;have l3:=rj (sF (yF (iX x) x.dh) x.at_) x.wall hx.wall;have d4:=YS (nF (sF (yF (iX x) x.dh) x.at_) x.wall) x.yes (by unfold cN;omega);have l4:=Rv (nF (sF (yF (iX x) x.dh) x.at_) x.wall) x.yes;have d5:=AG (fF (nF (sF (yF (iX x) x.dh) x.at_) x.wall) x.yes) x.cj.length (by unfold cN;omega) ae;have l5:=rj (fF (nF (sF (yF (iX x) x.dh) x.at_) x.wall) x.yes) x.cj.length ae;have e2:nF (fF (nF (sF (yF (iX x) x.dh) x.at_) x.wall) x.yes) x.cj.length=oT x:=rfl;rw[e1]at c4;rw[e2]at d5 l5;have ak:(oT x).length<=200:=om;clear a1 a2 a3 a4 e1 e2 l5;generalize nF [1] x.kind=u1 at c1 c2 c3 c4;generalize nF u1 x.cE=u2 at c2 c3 c4;generalize nF u2 x.node=u3 at c3 c4;generalize al:iX x=k1 at c4 d1 d2 d3 d4 d5 l1 l2 l3 l4;generalize yF k1 x.dh=v1 at d1 d2 d3 d4 d5 l1 l2 l3 l4;generalize sF v1 x.at_=v2 at d2 d3 d4 d5 l2 l3 l4;generalize nF v2 x.wall=v3 at d3 d4 d5 l3 l4;generalize fF v3 x.yes=v4 at d4 d5 l4;refine iV 0 func139 ntmps139 results139 λc hc hb=>?_;refine zA ?_;simp[go_sem];refine yA [(3,0),(6,0),(9,0),(12,0)] 1 rfl kR kR ?_;simp[go_sem];refine wW c1 cB (λ_=>⟨wX rfl,zC rfl,tV⟩) rfl ?_;simp[go_sem];refine pD c2 ?_;simp[go_sem];refine pD c3 ?_;simp[go_sem];refine pD c4 ?_;simp[go_sem];refine yA [(3,3),(6,3),(9,3),(12,3)] 1 rfl kR kR ?_;simp[go_sem];refine G8 d1 cB ⟨wX rfl,zC rfl,tV⟩ ?_;simp[go_sem,ib,gL,yC,HU];refine G7 d2 cB [1] sM rfl (λi j o hi ho=>?_) ⟨.inl rfl,zC rfl,tV⟩ (.inr rfl) ?_;.cases i with |zero=>simp at hi;subst hi;simp[gL]at ho;subst ho;rfl|succ i=>simp at hi
 simp[go_sem,yY,fW,yC,ib,gL];refine G8 d3 cB ⟨wX rfl,zC rfl,tV⟩ ?_;simp[go_sem,ib,gL,yC,HU];refine G7 d4 cB [2] sM rfl (λi j o hi ho=>?_) ⟨.inl rfl,zC rfl,tV⟩ (.inr rfl) ?_;.cases i with |zero=>simp at hi;subst hi;simp[gL]at ho;subst ho;rfl|succ i=>simp at hi
 simp[go_sem,yY,fW,yC,ib,gL];refine zL d5 cB ⟨wX rfl,zC rfl,tV⟩ rfl ?_;simp[go_sem];refine zG (S:=alW×Nat) [1,3,4] (λu=>[.ptr 0 0,fc u.1,.int .i64 u.2]) (λ_=>[.box x.row]) (λu=>x.cj.length-u.2) (λu=>u.2<=x.cj.length/\u.1=xo (oT x) (x.cj.take u.2)) hc hb (oT x,0) ⟨A5 _,rfl⟩ ?_ ?_;.exact aM 1 rfl ⟨.inl rfl,zC rfl,zC rfl,tV⟩
 rintro⟨b,i⟩⟨hi,aa⟩;simp only at hi aa;have ah:b.length<=100000000:=by have:=YT (x.cj.take i) (oT x) λy hy=>hs.s y (B6 hy);have h2:=hs.ns;grind
 refine zA ?_;simp[go_sem];refine zX (λq=>?_) (λq=>?_)
 .have q:i<x.cj.length:=sU q;have ai:=hs.s x.cj[i] (A9 _);have cZ:=(hx.cj.2 x.cj[i] (A9 _));have ad:xo (oT x) (x.cj.take (i+1))=tF (tF b x.cj[i].lo) x.cj[i].hi:=by rw[Cu,A0 q,Option.toList_some,aa];unfold xo;grind
  have g1:=Rx b x.cj[i].lo (by unfold cN;omega) (by unfold cN;omega);have g2:=Rx (tF b x.cj[i].lo) x.cj[i].hi (by have:=HW b x.cj[i].lo om;unfold cN;omega) (by unfold cN;omega);obtain⟨sp,ab⟩:=eX (x.cj[i]);rw[ab]at g1 g2 ad;simp[go_sem];refine yA [(7,0),(14,0)] 1 rfl kR kR ?_;simp[go_sem];refine zJ ⟨q,by simp[A0 q,ca.row]⟩ ?_;simp[go_sem,q,ab];refine pD g1 ?_;simp[go_sem];refine zJ ⟨q,by simp[A0 q,ca.row]⟩ ?_;simp[go_sem,q,ab];refine pD g2 ?_;simp[go_sem];refine zH (tF (tF b sp.lo) sp.hi,i+1) ⟨by simp only;omega,⟨q,ad.symm⟩,aM 1 rfl (zD (by simp[go_sem];rw[zO (n:=100000) (by have:=hs.ns;omega) om];simp) rfl)⟩
 have q:i=x.cj.length:=by simp at q;omega
 subst q;rw[List.take_length]at aa;have l6:=rj b x.writes.length af;have d6:=AG b x.writes.length (by unfold cN;omega) af;have e3:nF b x.writes.length=oU x:=by rw[aa];rfl
 rw[e3]at d6 l6;simp[go_sem];refine zL d6 cB ⟨wX rfl,zC rfl,tV⟩ rfl ?_;simp[go_sem];refine zG (S:=alW×Nat) [1,3,5] (λu=>[.ptr 0 0,fc u.1,.int .i64 u.2]) (λ_=>[.box x.row]) (λu=>x.writes.length-u.2) (λu=>u.2<=x.writes.length/\u.1=xp (oU x) (x.writes.take u.2)) hc hb (oU x,0) ⟨A5 _,rfl⟩ ?_ ?_;.exact aM 1 rfl ⟨.inl rfl,zC rfl,zC rfl,tV⟩
 have an:(oU x).length<=100000010:=om;clear aa ah hi l6 d6 e3;rintro⟨b,i⟩⟨hi,aa⟩;simp only at hi aa;have ah:b.length<=600000000:=by have:=YU (x.writes.take i) (oU x) λy hy=>hs.w y (B6 hy);have h2:=hs.nw;grind
 refine zA ?_;simp[go_sem];refine zX (λq=>?_) (λq=>?_)
 .have q:i<x.writes.length:=sU q;have ai:=hs.w x.writes[i] (A9 _);have ad:xp (oU x) (x.writes.take (i+1))=tF (fF (tF b x.writes[i].key) x.writes[i].drop) x.writes[i].data:=by rw[Cu,A0 q,Option.toList_some,aa];unfold xp;grind
  have m1:=HW b x.writes[i].key om;have m2:=Rv (tF b x.writes[i].key) x.writes[i].drop;have g1:=YR b x.writes[i].key (by unfold cN;omega) (by unfold cN;omega);have g2:=YS (tF b x.writes[i].key) x.writes[i].drop (by unfold cN;omega);have g3:=Rx (fF (tF b x.writes[i].key) x.writes[i].drop) x.writes[i].data (by unfold cN;omega) (by unfold cN;omega);obtain⟨sp,ab⟩:=eX (x.writes[i]);rw[ab]at g1 g2 g3 ad;generalize tF b sp.key=w1 at g1 g2 g3 ad;generalize fF w1 sp.drop=w2 at g2 g3 ad;simp[go_sem];refine yA [(7,3),(14,3),(21,0)] 1 rfl kR kR ?_;have hg:((Option.map di.row x.writes[i]?).getD []).length=3:=by simp[A0 q,di.row]
  simp[go_sem];refine zJ ⟨q,hg⟩ ?_;simp[go_sem,q,ab];refine G8 g1 cB (yD rfl) ?_;simp[go_sem,ib,gL,yC,HU];refine zJ ⟨q,hg⟩ ?_;simp[go_sem,q,ab];refine G7 g2 cB [1] sM rfl (λi j o hi ho=>?_) ⟨.inl rfl,zC rfl,tV⟩ (.inr rfl) ?_;.cases i with |zero=>simp at hi;subst hi;simp[gL]at ho;subst ho;rfl|succ i=>simp at hi
  simp[go_sem,yY,fW,yC,ib,gL];refine zJ ⟨q,hg⟩ ?_;simp[go_sem,q,ab];refine wW g3 cB (λ_=>⟨wX rfl,zC rfl,tV⟩) rfl ?_;simp[go_sem];refine zH (tF w2 sp.data,i+1) ⟨by simp only;omega,⟨q,ad.symm⟩,aM 1 rfl (zD (by simp[go_sem];rw[zO (n:=100000) (by have:=hs.nw;omega) om];simp) rfl)⟩
 have q:i=x.writes.length:=by simp at q;omega
 subst q;rw[List.take_length]at aa;simp[go_sem];exact zQ zK ⟨by rw[aa];rfl,rfl⟩
end Go.Proofs.YtegbonbgofjlcaaGreat.R
namespace Go.Proofs.YtegbonbgofjlcaaGreat
open Go Go.Vx R Go.Proofs.Tryz
set_option maxRecDepth 100000
variable {r:cU}
theorem Ns(n:Nat)(t:Int)(v:bK):(oz n t v).length<=141:=by grind[Vh,oz]
theorem xg4{a s:alW}{b:alW×alW}(ha:a.length<=141)(hb:b.1.length<=142/\b.2.length<=142):(p6 a s b).1.length<=142/\(p6 a s b).2.length<=142:=by grind[p6,oB,uV]
theorem YV(n:Nat)(t:Int)(name:alW):∀(l:List bJ)(b:alW×alW),(b.1.length<=142/\b.2.length<=142)->(uW n t name l b).1.length<=142/\(uW n t name l b).2.length<=142
 |[],b,h=>h|e::l,b,h=>by
  unfold uW;rw[B7];refine YV n t name l _ ?_;split;.exact h
  .exact xg4 (Ns ..) h
theorem yu2(t:Int)(st:bZ):(oC bO t st).1.length<=142/\(oC bO t st).2.length<=142:=by grind[oA,oC,YV,oB]
def xq(s:ca):Prop:=s.lo.length<=142/\s.hi.length<=142
theorem xJ5{st:bZ}:∀p∈qX st,xq p.2:=λp hp=>by
 unfold qX at hp;split at hp;.cases hp
 split at hp
 .obtain⟨r,_,hp⟩:=List.mem_flatMap.1 hp;unfold qf at hp;split at hp;.cases hp
  split at hp;.cases hp
  split at hp;.cases hp
  split at hp;.cases hp
  split at hp;.cases hp
  .rw[Bl.1 hp];refine⟨(by grind[Ns]),?_⟩;grind[Ns]
 .obtain⟨g,_,rfl⟩:=Ab.1 hp;exact yu2 _ _
theorem wl5{r:Int}{x:ca}{uJ:US}(hx:xq x)(hU:∀y∈uJ,∀s∈y.2,xq s):∀y∈mI r x uJ,∀s∈y.2,xq s:=λy hy=>by
 unfold mI at hy;split at hy;.grind
 unfold jw at hy;split at hy;.obtain⟨i,hi⟩:=Aq.1 hy;grind
 grind
theorem YW:∀{ps:List (Int×ca)}{uJ:US},(∀p∈ps,xq p.2)->(∀y∈uJ,∀s∈y.2,xq s)->∀y∈oK ps uJ,∀s∈y.2,xq s |[],_U,_,hU=>hU|p::ps,uJ,hp,hU=>YW (ps:=ps) (uJ:=mI p.1 p.2 uJ) (by grind) (wl5 (by grind) hU)
theorem yW8(df:eF):∀y∈nR df,∀s∈y.2,xq s:=by
 have hU:nR df=oK (df.stmts.flatMap qX) []:=JR df.stmts [];rw[hU];exact YW (λp hp=>by grind[xJ5]) sM
theorem xI2{k d:alW}{g:Int}(h:mJ g k d):k.length<=2000:=by
 obtain⟨_,_,h3⟩:=yU0 h;unfold fT at h3;split at h3;.grind
 split at h3;.grind
 .have:=alv (·.2.1) h3;grind[Ns]
theorem xH7{df:eF}(hl:lr df){b:Mp alW}{aa:List Ln}(hn:dd b aa)(hk:pz aa)(hlen:aa.length<=7500):∀q∈qB df aa,q.2.length<=20000/\∀w∈q.2,w.p.2.length<=2000/\w.data.length<=20000:=by
 intro q hq;unfold qB at hq;by_cases e:(gb df aa).1.1≠0;.grind
 rw[alp e]at hq;obtain⟨⟨b',ab⟩,ad,ah⟩:=Rc hl hn hk om;obtain⟨now,hN⟩:=eX ((gb df aa).2);rw[hN]at ab ad ah hq;have ae:=X5 hn.rows ab.rows hn.jA ab.jA rfl;obtain⟨hr,af⟩:=M8 hn.jA ab.jA;have ai:=Ya aa now;obtain⟨W,hW⟩:=eX (jz aa now);rw[hW]at ae hr af ai hq;rw[Xq hr ae]at hq;obtain⟨r,rfl⟩:∃r:Int,q=(r,W.filter λw=>w.p.1==r):=by simp only[Ai]at hq;rcases hq with h|h|h|h<;>exact⟨_,(Ys h).1⟩
 refine⟨(by grind),λw hw=>?_⟩;have aj:=(Bn.1 hw).1;have key:∀x:Ln,zu x->x.k.length<=2000/\(xP x.v).length<=20000:=λx hx=>⟨xI2 hx,xg6 (p:=x.at) hx⟩;rcases(af w).1 aj with⟨_,g2,⟨x,hx,ak⟩,_⟩|⟨_,x,hx,g2,g3,_⟩;.exact⟨by rw[<-ak];exact(key x (hk x hx).2).1,by grind⟩
 .exact⟨by rw[<-g2];exact(key x (ad x hx).2).1,by rw[<-g3];exact(key x (ad x hx).2).2⟩
structure vC(a:dq):Prop where
 ok:a.cmd.ok
 s:R.AH a.cmd
theorem wC1{a b:List V}(ha:(a.all λv=>cV 2 v))(hb:(b.all λv=>cV 2 v)):([.box a,.box b]:St).all (bS 2)=true:=by rw[Az,Az];show(a.all (cV 2)&&(b.all (cV 2)&&true))=true;grind
theorem YX:∀(n:Nat)(e:bJ),jN e<=n->fP e->Pure prog 211 [.agg e.row,.agg e.row] (.bool true)
 |0,e,hn,_=>by grind[UO]|n+1,e,hn,h1=>by
  have ab:=Hn e;have hlen:=h1.len;have ih:∀x∈e.args,Pure prog 211 [.agg x.row,.agg x.row] (.bool true):=λx hx=>YX n x (by have:=Py _ _ hx;omega) (h1.sub x hx);have aa:([.box e.row,.box e.row]:St).all (bS 2)=true:=wC1 (by rw[bJ.bQ];rfl) (by rw[bJ.bQ];rfl);refine iV 0 func211 ntmps211 results211 λc hc hb=>?_;refine zA ?_;simp[go_sem];refine zG (S:=Nat) [2,3,5] (λi=>[.ptr 0 0,.ptr 1 0,.int .i64 (i:Int)]) (λ_=>[.box e.row,.box e.row]) (λi=>e.args.length-i) (λi=>i<=e.args.length) hc hb 0 om ?_ ?_;.exact aM 2 aa (zD (by rfl) rfl)
  rintro i hi;by_cases q:i<e.args.length;rotate_left;.refine zA ?_;simp[go_sem,q];exact zQ (zC rfl) sM
  have ei:=zO q om;obtain⟨y,hy⟩:=eX (e.args[i]);have hs:=ih y (hy▸A9 q);refine zA ?_;simp[go_sem,q];refine yA [(10,0)] 2 rfl (by rfl) kR ?_;simp[go_sem,q,hy];refine wW hs cB (λ_=>⟨by rw[bJ.bQ];exact zC rfl,by rw[bJ.bQ];exact zC rfl,tV⟩) rfl ?_;simp[go_sem,ei];exact zH (i+1) ⟨om,om,aM 2 aa (zD (by rfl) rfl)⟩
theorem Nt(e:bJ)(he:jt e):Pure prog 211 [.agg e.row,.agg e.row] (.bool true):=YX (jN e) e om he.wide
theorem xm5(st:bZ)(hs:lq st):Pure prog 140 [.agg st.row,.agg st.row] (.bool true):=by
 have hw:=Nt st.cH hs.cH;have ae:=hs.items.1;have af:=hs.rows.1;have ah:=hs.cJ.1;have aa:([.box st.row,.box st.row]:St).all (bS 2)=true:=(by rfl);refine iV 0 func140 ntmps140 results140 λc hc hb=>?_;refine zN (zA ?_);simp[go_sem];refine zN (zA ?_);simp[go_sem];refine zL hw cB ⟨by rw[bJ.bQ];exact zC rfl,by rw[bJ.bQ];exact zC rfl,tV⟩ rfl ?_;simp[go_sem];refine zA ?_;simp[go_sem];refine zG (S:=Nat) [2,3,5] (λi=>[.ptr 0 0,.ptr 1 0,.int .i64 (i:Int)]) (λ_=>[.box st.row,.box st.row]) (λi=>st.items.length-i) (λi=>i<=st.items.length) hc hb 0 om ?_ ?_;.exact bU 2 (by rfl) rfl aa dC (zD (by rfl) rfl)
 rintro i hi;by_cases q:i<st.items.length;.have ei:=zO q om;obtain⟨y,hy⟩:=eX (st.items[i]);have ab:=Nt y.e (hs.items.2 y (by grind)).2;refine zA ?_;simp[go_sem,q];refine yA [(26,0)] 2 rfl (by rfl) kR ?_;simp[go_sem,q,hy];refine wW ab cB (λ_=>⟨by rw[bJ.bQ];exact zC rfl,by rw[bJ.bQ];exact zC rfl,tV⟩) rfl ?_;simp[go_sem,ei];exact zH (i+1) ⟨om,om,bU 2 (by rfl) rfl aa dC (zD (by rfl) rfl)⟩
 clear hi;refine zA ?_;simp[go_sem,q];refine zG (S:=Nat) [2,3,6] (λi=>[.ptr 0 0,.ptr 1 0,.int .i64 (i:Int)]) (λ_=>[.box st.row,.box st.row]) (λi=>st.rows.length-i) (λi=>i<=st.rows.length) hc hb 0 om ?_ ?_;.exact bU 2 (by rfl) rfl aa dC (zD (by rfl) rfl)
 rintro i2 hi;by_cases q2:i2<st.rows.length
 .have ei:=zO q2 om;obtain⟨y,hy⟩:=eX (st.rows[i2]);obtain⟨ai,ad⟩:=hs.rows.2 y (by grind);refine zA ?_;simp[go_sem,q2];refine yA [] 2 rfl (by rfl) kR ?_;simp[go_sem,q2,hy];refine zG (S:=Nat) [2,3,6,7] (λk=>[.ptr 0 0,.ptr 1 0,.int .i64 (i2:Int),.int .i64 (k:Int)]) (λ_=>[.box st.row,.box st.row]) (λk=>y.length-k) (λk=>k<=y.length) hc hb 0 om ?_ ?_;.exact bU 2 (by rfl) rfl aa dC (zD (by rfl) rfl)
  rintro k hk;by_cases qk:k<y.length;.have ek:=zO qk om;obtain⟨z,hz⟩:=eX (y[k]);have ab:=Nt z (ad z (hz▸A9 qk));refine zA ?_;simp[go_sem,q2,hy,qk];refine yA [(16,0)] 2 rfl (by rfl) kR ?_;simp[go_sem,q2,hy,qk,hz];refine wW ab cB (λ_=>⟨by rw[bJ.bQ];exact zC rfl,by rw[bJ.bQ];exact zC rfl,tV⟩) rfl ?_;simp[go_sem,ek];exact zH (k+1) ⟨om,om,bU 2 (by rfl) rfl aa dC (zD (by rfl) rfl)⟩
  refine zA ?_;simp[go_sem,q2,hy,qk,ei];exact zH (i2+1) ⟨om,om,bU 2 (by rfl) rfl aa dC (zD (by rfl) rfl)⟩
 clear hi;refine zA ?_;simp[go_sem,q2];refine zG (S:=Nat) [2,3,8] (λi=>[.ptr 0 0,.ptr 1 0,.int .i64 (i:Int)]) (λ_=>[.box st.row,.box st.row]) (λi=>st.cJ.length-i) (λi=>i<=st.cJ.length) hc hb 0 om ?_ ?_;.exact bU 2 (by rfl) rfl aa dC (zD (by rfl) rfl)
 rintro i3 hi;by_cases q3:i3<st.cJ.length;rotate_left;.refine zA ?_;simp[go_sem,q3];exact zQ (zC rfl) sM
 have ei:=zO q3 om;obtain⟨y,hy⟩:=eX (st.cJ[i3]);have ab:=Nt y.e (hs.cJ.2 y (by grind)).2;refine zA ?_;simp[go_sem,q3];refine yA [(26,0)] 2 rfl (by rfl) kR ?_;simp[go_sem,q3,hy];refine wW ab cB (λ_=>⟨by rw[bJ.bQ];exact zC rfl,by rw[bJ.bQ];exact zC rfl,tV⟩) rfl ?_;simp[go_sem,ei];exact zH (i3+1) ⟨om,om,bU 2 (by rfl) rfl aa dC (zD (by rfl) rfl)⟩
theorem xI6(l:eF)(hl:lr l):Pure prog 62 [.agg l.row,.agg l.row] (.bool true):=by
 have ad:=hl.stmts.1;have aa:([.box l.row,.box l.row]:St).all (bS 2)=true:=(by rfl);refine iV 0 func62 ntmps62 results62 λc hc hb=>?_;refine zA ?_;simp[go_sem];refine zG (S:=Nat) [2,3,5] (λi=>[.ptr 0 0,.ptr 1 0,.int .i64 (i:Int)]) (λ_=>[.box l.row,.box l.row]) (λi=>l.stmts.length-i) (λi=>i<=l.stmts.length) hc hb 0 om ?_ ?_;.exact bU 2 (by rfl) rfl aa dC (zD (by rfl) rfl)
 rintro i hi;by_cases q:i<l.stmts.length;rotate_left;.refine zA ?_;simp[go_sem,q];exact zQ (zC rfl) sM
 have ei:=zO q om;obtain⟨y,hy⟩:=eX (l.stmts[i]);have ab:=xm5 y (hl.stmts.2 y (by grind));refine zA ?_;simp[go_sem,q];refine yA [(10,0)] 2 rfl (by rfl) kR ?_;simp[go_sem,q,hy];refine pD ab ?_;simp[go_sem,ei];exact zH (i+1) ⟨om,om,bU 2 (by rfl) rfl aa dC (zD (by rfl) rfl)⟩
theorem wi4{t:Tx}(ht:j7 t){bY:List cA}(hl:bY.length<=4)(hg:∀x∈bY,kE x):j7 (vz oR t bY):=by
 unfold vz;split;.exact⟨ht.df,ht.nB,hl,hg,ht.outs⟩
 split;.exact Rr (t:={t with bY:=bY}) ⟨ht.df,ht.nB,hl,hg,ht.outs⟩
 .exact⟨ht.df,ht.nB,hl,hg,ht.outs⟩
def Ry:ri->Prop|.done l=>l.length<=4/\∀x∈l,kE x|.wait=>True|.again l _=>l.length<=4/\∀x∈l,kE x
theorem Nu{t:Tx}{a:dq}{r:cU}(hr:fG r):∀{ls acc:List cA},acc.length+ls.length<=4->(∀x∈acc,kE x)->(∀x∈ls,kE x)->Ry (nT t a r acc ls)
 |[],acc,hl,ha,_=>by trivial|l::ls,acc,hl,ha,hg=>by
  have ab:=hg l (B2 ..);have ad:∀x∈ls,kE x:=(by grind);rw[Ah]at hl;have aa:∀y:cA,kE y->∀x∈acc++[y],kE x:=(by grind);rw[nT];split
  .split
   .refine⟨by grind,λx hx=>?_⟩;rcases Ai.1 hx with hx|hx;.grind
    .rcases Af.1 hx with rfl|hx;all_goals grind[Rm]
   split;.trivial
   .exact Nu hr (by simp;omega) (aa _ (Rm _ ab hr)) ad
  .exact Nu hr (by simp;omega) (aa _ ab) ad
theorem YY{t:Tx}(ht:j7 t)(h9:t.id.attempt<=9)(a:dq)(hr:fG r)(bV:Int):j7 (sN t a r bV).1:=by
 unfold sN Eb;split;.exact ht
 split
 .split;.exact ht
  split;.exact⟨ht.df,ht.nB,ht.bY,ht.ku,ht.outs⟩
  grind[Rt]
 .have h:=Nu (t:=t) (a:=kY a) hr (ls:=t.bY) (acc:=[]) (by simpa using ht.bY) sM ht.ku;revert h;generalize nT t (kY a) r [] t.bY=L;intro h;cases L with |done l=>exact wi4 ht h.1 h.2|wait=>exact⟨ht.df,ht.nB,A5 _,λx hx=>(by cases hx),A5 _,λx hx=>by cases hx⟩|again l b=>exact Rt (t:={t with bY:=l}) ⟨ht.df,ht.nB,h.1,h.2,ht.outs⟩ h9 b bV
theorem YZ{l:eF}(hl:lr l)(id:eZ):j7 ⟨{id with attempt:=0},l,0,zS,0,0,[],(0,0,[])⟩:=⟨hl,sM,sM,sM,sM,sM⟩
theorem Y0{l:eF}(hl:lr l)(id:eZ)(bV:Int):j7 (sO id l bV):=by
 unfold sO;split;.exact⟨hl,sM,sM,sM,sM,sM⟩
 split;.exact⟨hl,sM,sM,sM,(Nr hl (vs:=[]) dC).1⟩
 grind[YO,YZ]
theorem Y1(t:Tx):(oR t).id=t.id/\(oR t).at_=t.at_:=by unfold oR;grind
theorem yE0(t:Tx)(bV:Int):(sL t bV).id=t.id/\(sL t bV).at_=⟨mx bV t.bump,lF t.id⟩:=by
 unfold sL;split;.exact Y1 _
 trivial
theorem xf7(id:eZ)(l:eF)(bV:Int):(sO id l bV).id={id with attempt:=0}:=by
 unfold sO;split;.rfl
 split;.rfl
 grind[yE0]
theorem Y2:Pure prog 13 [] (dW bO):=by have aa:=xL9;refine iV 0 func13 ntmps13 results13 λc hc hb=>?_;refine zA ?_;simp[go_sem];refine zL aa cB (by trivial) rfl ?_;simp[go_sem,FU];exact zQ (r:=dW bO) wa6 sM
def qF:alW:=[83,69,76,69,67,84,32,42,32,70,82,79,77,32,71]
def Kn:eZ:=⟨1,1,1,0⟩
def r0:cU:=⟨0,[],zT,0,zS,0,false⟩
def rl:Tx:=sO Kn (tD qF).1 10
def a24:dq:=(kq rl).getD 0 Rj
theorem wG2:((kq rl).length,a24.range,rl.at_.wall)=(1,2,10):=by rfl
theorem wB2:((sN rl a24 r0 20).1.phase,(sN rl a24 r0 20).1.at_.wall)=(4,10):=by rfl
theorem Y3:fG r0:=⟨dC,dC,dC⟩
theorem wn3{ρ:Nat->Nat}(r:cU){g:Tag}:cW ρ (.agg r.row) (.agg [.int .i64 r.err,.sl g (r.dK.map dM.row),.int .i64 r.dh.node,.int .i64 r.dh.dY,.int .i64 r.dh.seq,.int .i64 r.dh.attempt,.int .i64 r.home,.int .i64 r.at_.wall,.int .i64 r.at_.tie,.int .i64 r.wall,.bool r.yes]):=by unfold cU.row;exact xM ⟨zF rfl,zY,zF rfl,zF rfl,zF rfl,zF rfl,zF rfl,zF rfl,zF rfl,zF rfl,zF rfl,tV⟩
theorem xB2(l:eF)(hl:lr l)(bV:Int):j7 (sO Kn l bV)/\(sO Kn l bV).id.attempt<=9:=(by grind[Y0,xf7])
theorem xB3:Pure prog 7 [] (.bool true):=by
 have hl:=UF qF dC;have ae:=UN qF;have aa:=YQ Kn (tD qF).1 ae 10;obtain⟨hT,h9⟩:=xB2 (tD qF).1 ae 10;have ab:=Np rl dC hT.ku;have hr:=wG2;have ah:=wB2;obtain⟨a,ha⟩:∃a,kq rl=[a]:=by have h:=alv Prod.fst hr;simp only at h;cases e:kq rl<;>grind
 have ai:a24=a:=by unfold a24;grind
 have aj:qE a.cmd:=Nq hT.ku a (by show a∈kq rl;grind);have af:=Ru rl hT a aj r0 Y3 20;have ad:=YY (t:=rl) hT h9 a Y3 20;rw[ai]at hr ah;obtain⟨av,aq⟩:=Prod.mk.inj (Prod.mk.inj hr).2;obtain⟨ak,ar⟩:=Prod.mk.inj ah;obtain⟨uJ,hU⟩:=eX (sN rl a r0 20);rw[hU]at af ad ak ar;have al:=YI uJ.1 ad 10;have an:=YI uJ.1 ad 9;rw[alq ⟨ak,om⟩]at al;rw[alp om]at an;rw[ha]at ab;change Pure prog 15 _ (.agg rl.row)at aa;obtain⟨L,hL⟩:=eX ((tD qF).1);rw[hL]at hl aa;obtain⟨T,ao⟩:=eX rl;rw[ao]at aa ab af aq;have g1:(a.range !=2)=false:=by grind
 have g2:(T.at_.wall !=10)=false:=by grind
 have au:=Y2;clear hr ah hU ad aj ai ha hL hT h9 ae ao;unfold qF at hl;unfold Kn at aa;refine iV 0 func7 ntmps7 results7 λc hc hb=>?_;refine zA ?_;simp[go_sem];refine zL au cB (by trivial) rfl ?_;simp[go_sem,dW];refine yA [(2,0),(3,0)] 1 rfl (by rfl) kR ?_;simp[go_sem];refine pD hl ?_;simp[go_sem];refine pD aa ?_;simp[go_sem];refine pC ab ?_;simp[go_sem,g1,g2];refine yA [(6,0)] 2 rfl (by rfl) kR ?_;simp[go_sem];refine wW af cB (λ_=>⟨zC rfl,zC rfl,zC rfl,wn3 r0 (g:=.full),zC rfl,tV⟩) rfl ?_;simp[go_sem];refine pC al ?_;simp[go_sem,sJ];refine pC an ?_;simp[go_sem,sJ];exact zQ (zC rfl) sM
theorem wZ:cL 0:=dC
theorem lI:zS.ok:=⟨dC,dC⟩
def Rz(g:di):Wr:=⟨(0,g.key),g.drop,g.data⟩
theorem xI7(l:List di)(hl:l.length<=100000):Pure prog 141 [.sl .ro (l.map di.row),.sl .ro (l.map di.row)] (.bool true):=by have h:=wa5 (l.map Rz) (by rw[Au];exact hl);rw[B8]at h;exact h
theorem xI5(x:cA)(hx:kE x):Pure prog 63 [.agg x.row,.agg x.row] (.bool true):=by
 have hw:=xI7 x.writes hx.writes;have ab:=hx.cj;have ad:=hx.dK.1;have aa:([.box x.row,.box x.row]:St).all (bS 2)=true:=(by rfl);refine iV 0 func63 ntmps63 results63 λc hc hb=>?_;refine zA ?_;simp[go_sem];refine pC hw ?_;simp[go_sem];refine zG (S:=Nat) [2,3,5] (λi=>[.ptr 0 0,.ptr 1 0,.int .i64 (i:Int)]) (λ_=>[.box x.row,.box x.row]) (λi=>x.cj.length-i) (λi=>i<=x.cj.length) hc hb 0 om ?_ ?_;.exact bU 2 (by rfl) rfl aa dC (zD (by rfl) rfl)
 rintro i hi;by_cases q:i<x.cj.length;.have ei:=zO q om;obtain⟨y,hy⟩:=eX (x.cj[i]);refine zA ?_;simp[go_sem,q];refine yA [] 2 rfl (by rfl) kR ?_;simp[go_sem,q,hy,ei];exact zH (i+1) ⟨om,om,bU 2 (by rfl) rfl aa dC (zD (by rfl) rfl)⟩
 clear hi;refine zA ?_;simp[go_sem,q];refine zG (S:=Nat) [2,3,6] (λi=>[.ptr 0 0,.ptr 1 0,.int .i64 (i:Int)]) (λ_=>[.box x.row,.box x.row]) (λi=>x.dK.length-i) (λi=>i<=x.dK.length) hc hb 0 om ?_ ?_;.exact bU 2 (by rfl) rfl aa dC (zD (by rfl) rfl)
 rintro i2 hi;by_cases q2:i2<x.dK.length;rotate_left;.refine zA ?_;simp[go_sem,q2];exact zQ (zC rfl) sM
 have ei:=zO q2 om;obtain⟨y,hy⟩:=eX (x.dK[i2]);refine zA ?_;simp[go_sem,q2];refine yA [] 2 rfl (by rfl) kR ?_;simp[go_sem,q2,hy,ei];exact zH (i2+1) ⟨om,om,bU 2 (by rfl) rfl aa dC (zD (by rfl) rfl)⟩
theorem wa4(t:Tx)(ht:j7 t):Pure prog 23 [.agg t.row,.agg t.row] (.bool true):=by
 have h1:=xI6 t.df ht.df;obtain⟨⟨ae,ai,ao⟩,aa⟩:∃a,t.jH=a:=⟨_,rfl⟩;have ho:=ht.outs;rw[aa]at ho;have h2:=wa3 ae ai ao ho.1 ho.2;have af:=ht.bY;have ab:([.box t.row,.box t.row]:St).all (bS 2)=true:=(by rfl);refine iV 0 func23 ntmps23 results23 λc hc hb=>?_;refine zA ?_;simp[go_sem,aa];refine pC h1 ?_;simp[go_sem];refine pC h2 ?_;simp[go_sem];refine zG (S:=Nat) [2,3,5] (λi=>[.ptr 0 0,.ptr 1 0,.int .i64 (i:Int)]) (λ_=>[.box t.row,.box t.row]) (λi=>t.bY.length-i) (λi=>i<=t.bY.length) hc hb 0 om ?_ ?_;.exact bU 2 (by simp[go_sem,aa]) rfl ab dC (zD (by rfl) rfl)
 rintro i hi;by_cases q:i<t.bY.length;rotate_left;.refine zA ?_;simp[go_sem,q];exact zQ (zC rfl) sM
 have ei:=zO q om;obtain⟨y,hy⟩:=eX (t.bY[i]);have ad:=xI5 y (ht.ku y (by grind));refine zA ?_;simp[go_sem,q];refine yA [(10,0)] 2 rfl (by rfl) kR ?_;simp[go_sem,q,hy];refine pD ad ?_;simp[go_sem,ei];exact zH (i+1) ⟨om,om,bU 2 (by rfl) rfl ab dC (zD (by rfl) rfl)⟩
structure mB(x:cA):Prop where
 cj:x.cj.length<=1000/\∀s∈x.cj,xq s
 writes:x.writes.length<=20000/\∀w∈x.writes,w.key.length<=2000/\w.data.length<=20000range:0<=x.range/\x.range<1000home:cL x.home
 dh:x.dh.ok
structure RX(r:cU):Prop where
 ok:fG r
 home:cL r.home
 dh:r.dh.ok
theorem Ga:zT.ok:=⟨dC,dC,dC,dC⟩
theorem Ko{a:dq}(k:Int)(hk:0<=k/\k<=10)(h:cL a.cmd.home)(hb:a.cmd.dh.ok)(ht:a.cmd.at_.ok)(e:a.cmd.kind=k/\a.cmd.cE=0/\a.cmd.node=0/\a.cmd.wall=0) (hs:a.cmd.cj.length<=1000/\∀s∈a.cmd.cj,xq s)(hw:a.cmd.writes.length<=20000/\∀w∈a.cmd.writes,w.key.length<=2000/\w.data.length<=20000):vC a:=by
 obtain⟨e1,e2,e3,e4⟩:=e;unfold cL at h;refine⟨⟨om,om,om,h,hb,ht,om,tV,⟨by grind[maxLen],λs aa=>?_⟩,⟨by grind[maxLen],λw ab=>?_⟩⟩,⟨λs aa=>?_,hw.2,hs.1,hw.1⟩⟩;.have:=hs.2 s aa;exact⟨by have:=this.1;grind[maxLen],by have:=this.2;grind[maxLen]⟩
 .have:=hw.2 w ab;exact⟨by grind[maxLen],tV,by grind[maxLen]⟩
 .have:=hs.2 s aa;exact⟨by have:=this.1;omega,by have:=this.2;omega⟩
theorem Y4(p:Int){l:cA}(hl:mB l)(hr:RX r):mB (ij p l r).1:=by
 obtain⟨h1,h2,h3,h4,h5⟩:=hl;unfold ij;repeat' split
 all_goals first|exact⟨h1,h2,h3,h4,h5⟩|exact⟨h1,h2,h3,wZ,Ga⟩|exact⟨h1,h2,h3,hr.home,hr.dh⟩
theorem xY1{w n:Int}(hw:cL w)(hn:0<=n/\n<=100):cL (xm w n):=by grind[cL,xm,mn]
theorem xE5(p:Int)(l:cA)(hr:RX r):cL (ij p l r).2.1:=by
 have h1:=hr.ok.wall;have h2:=hr.ok.at_;unfold ij;repeat' split
 all_goals grind[wZ,xY1]
theorem RA{a b:Int}(ha:cL a)(hb:cL b):cL (mx a b):=by grind[mx]
def tK(key:alW)(s:ca):Bool:=!(Op.bytesLess key s.lo)&&Op.bytesLess key s.hi
theorem Y5(key:alW)(s:ca):Pure prog 229 [.str key,.agg s.row] (.bool (tK key s)):=by
 refine iW 0 func229 ntmps229 results229 λc hc hb=>zM ?_;simp[go_sem];refine(A6 (Op.bytesLess key s.lo)).elim (λh=>?_) (λh=>?_);.simp[go_sem,h];exact zQ (zC rfl) ⟨by grind[tK],rfl⟩
 .simp[go_sem,h];exact zQ (zC rfl) ⟨by grind[tK],rfl⟩
def ji(a b:cT):Bool:=decide (a.wall<b.wall)||(a.wall==b.wall&&decide (a.tie<b.tie))
theorem Kq(a b:cT):Pure prog 160 [.agg a.row,.agg b.row] (.bool (ji a b)):=by
 refine iW 0 func160 ntmps160 results160 λc hc hb=>zM ?_;by_cases h:a.wall<b.wall;.simp[go_sem,h];exact zQ (zC rfl) ⟨by grind[ji],rfl⟩
 .by_cases h2:a.wall=b.wall;.simp[go_sem,h2];exact zQ (zC rfl) ⟨by grind[ji],rfl⟩
  .have aa:(a.wall==b.wall)=false:=(by grind);simp[go_sem,h,aa];exact zQ (zC rfl) ⟨by grind[ji],rfl⟩
def oV(l:List cc)(at_:cT):Option cc:=(l.filter λv=>!ji at_ v.at_).getLast?
def AI(x:bW)(at_:cT):Option alW:=match oV x.cF at_ with|some v=>if v.drop=true then none else some v.data|none=>none
theorem xK9(l:List cc)(v:cc)(at_:cT):oV (l++[v]) at_=if ji at_ v.at_=true then oV l at_ else some v:=by grind[oV]
theorem wF6(x:bW)(at_:cT)(aa:x.cF.length<=maxLen):Pure prog 230 [.agg x.row,.agg at_.row] (.cC [.str ((AI x at_).getD []),.bool (AI x at_).isSome]):=by
 have ab:maxLen=9223372036854775807:=rfl;refine iW 0 func230 ntmps230 results230 λc hc hb=>zM ?_;simp[go_sem];refine zG (S:=Nat×alW×Bool) [2,3,6,7,8] (λs=>[.ptr 0 0,.ptr 1 0,.str s.2.1,.bool s.2.2,.int .i64 s.1]) (λ_=>[.box x.row,.box at_.row]) (λs=>x.cF.length-s.1) (λs=>s.1<=x.cF.length/\(match oV (x.cF.take s.1) at_ with|some v=>s.2.1=v.data/\s.2.2=!v.drop|none=>s.2.1=[]/\s.2.2=false)) hc hb (0,[],false) (by simp[oV]) ?_ ?_;.exact bU 2 rfl rfl rfl om (zD (by rfl) rfl)
 rintro⟨i,d,b⟩⟨hi,hv⟩;refine zA ?_;simp only at hi hv;simp[go_sem];refine zX (λh=>?_) (λh=>?_)
 .have h:i<x.cF.length:=by grind
  have hg:∃v,x.cF[i]=v:=⟨_,rfl⟩;obtain⟨v,hg⟩:=hg;have hs:=xK9 (x.cF.take i) v at_;rw[<-hg,<-Ac h,hg]at hs;simp[go_sem,h,hg];refine pC (Kq at_ v.at_) ?_;refine(A6 (ji at_ v.at_)).elim (λh2=>?_) (λh2=>?_);.rw[h2,alq rfl]at hs;simp[go_sem,h2,zO h om];exact zH (i+1,d,b) ⟨om,(by grind),bU 2 rfl rfl rfl om (zD (by rfl) rfl)⟩
  .rw[h2,alp sM]at hs;simp[go_sem,h2];refine yA [] 3 rfl (by rfl) kR ?_;simp[go_sem,zO h om];exact zH (i+1,v.data,!v.drop) ⟨om,(by grind),bU 2 rfl rfl rfl om (zD (by rfl) rfl)⟩
 .have h:x.cF.length<=i:=by grind
  rw[Ad h]at hv;refine(A6 b).elim (λh2=>?_) (λh2=>?_);.simp[go_sem,h2];refine zQ (zC rfl) ⟨?_,rfl⟩;grind[AI]
  .simp[go_sem,h2];refine zQ (zC rfl) ⟨?_,rfl⟩;grind[AI]
def ik:fL:=⟨⟨0,0,0,0⟩,0,⟨0,0⟩,false,[]⟩
def bars(at_:cT)(x:bW):Bool:=x.locked&&!ji at_ x.lock.at_
theorem xC8{l:List bW}{p:bW->Bool}{i:Nat}(h:i<l.length)(hn:p l[i]=false):(l.drop i).find? p=(l.drop (i+1)).find? p:=by grind[A4]
theorem yY8(cells:List bW)(s:ca)(at_:cT)(hl:cells.length<=4611686018427387903):Pure prog 157 [.sl .ro (cells.map bW.row),.agg s.row,.agg at_.row] (.cC [.agg (((cells.find? λx=>tK x.key s&&bars at_ x).map (·.lock)).getD ik).row,.bool (cells.find? λx=>tK x.key s&&bars at_ x).isSome]):=by
 refine iW 0 func157 ntmps157 results157 λc hc hb=>zM ?_;generalize hq:(λx:bW=>tK x.key s&&bars at_ x)=q;have ae:∀x,q x=(tK x.key s&&bars at_ x):=(by grind);simp[go_sem];refine zG (S:=Nat) [0,4,5,6,7,8] (λi=>[.sl .ro (cells.map bW.row),.ptr 0 0,.ptr 1 0,.ptr 2 0,.bool false,.int .i64 i]) (λ_=>[.box s.row,.box at_.row,.box ik.row]) (λi=>cells.length-i) (λi=>i<=cells.length/\cells.find? q=(cells.drop i).find? q) hc hb 0 sM ?_ ?_;.exact bU 3 rfl rfl rfl om (zD (by rfl) rfl)
 rintro i⟨hi,hf⟩;refine zA ?_;simp[go_sem];refine zX (λh=>?_) (λh=>?_)
 .have h:i<cells.length:=by grind
  have hg:∃x,cells[i]=x:=⟨_,rfl⟩;obtain⟨x,hg⟩:=hg;have af:q x=false->cells.find? q=(cells.drop (i+1)).find? q:=(by grind[xC8]);simp[go_sem,h];refine yA [(6,0),(22,0)] 3 rfl (by rfl) kR ?_;simp[go_sem,h,hg];refine pD (Y5 x.key s) ?_;refine(A6 (tK x.key s)).elim (λab=>?inl) (λab=>?inr);case inr=>simp[go_sem,ab,zO h om];exact zH (i+1) ⟨om,(by grind),bU 3 (by rfl) rfl rfl om (zD (by rfl) rfl)⟩
  case inl=>
  refine(A6 x.locked).elim (λaa=>?inl) (λaa=>?inr);case inr=>simp[go_sem,h,hg,ab,aa,zO h om];exact zH (i+1) ⟨om,⟨h,af (by rw[ae,bars,ab,aa];rfl)⟩,bU 3 (by rfl) rfl rfl om (zD (by rfl) rfl)⟩
  case inl=>
   simp[go_sem,h,hg,ab,aa];refine pD (Kq at_ x.lock.at_) ?_;refine(A6 (ji at_ x.lock.at_)).elim (λad=>?inl) (λad=>?inr);case inl=>simp[go_sem,ad,zO h om];exact zH (i+1) ⟨om,⟨h,af (by rw[ae,bars,ab,aa,ad];rfl)⟩,bU 3 (by rfl) rfl rfl om (zD (by rfl) rfl)⟩
   case inr=>
    have ah:cells.find? q=some x:=by rw[hf,A4 h,List.find?_cons,hg,ae,bars,ab,aa,ad];rfl
    simp[go_sem,h,hg,aa,ad];exact zQ (zC rfl) (by grind)
 .have h:cells.length<=i:=by grind
  rw[A8 h]at hf;simp[go_sem];exact zQ (zC rfl) ⟨by rw[hf];rfl,rfl⟩
def Gb(cells:List bW)(at_:cT)(s:ca):Option fL:=(cells.find? λx=>tK x.key s&&bars at_ x).map (·.lock)
def AJ(x:fL):cU:=⟨20,[],x.dh,x.home,x.at_,0,false⟩
def ee:cU:=⟨0,[],zT,0,zS,0,false⟩
end Go.Proofs.YtegbonbgofjlcaaGreat
