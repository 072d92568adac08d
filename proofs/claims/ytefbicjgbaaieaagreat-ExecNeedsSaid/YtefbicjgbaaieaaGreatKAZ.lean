/-
  Lines of some places alone, plainly: what statements do with them is what they do with all lines, where they look at those places alone; used by the theorem at the end of the claim of needs.
  Conditions: as each theorem states them.
-/
import Derived.Test.YtefbicjgbaaieaaGreatKAY
import Derived.Test.YtefbicjgbaaieaaGreatKAV
import Derived.Test.YtefbicjgbaaieaaGreatKAT
import Derived.Test.YtefbicjgbaaieaaGreatKAS
import Derived.Test.YtefbicjgbaaieaaGreatKAU
set_option maxHeartbeats 8000000
namespace Go.Proofs.YtefbicjgbaaieaaGreat
open Go Go.Vx R Go.Proofs.Tryz
set_option maxRecDepth 100000
variable {l:List Ln}{b:Mp (List UInt8)}{lot:GLot}{st:GStmt}{n:Nat}{T:GTable}{w:Wr}{a:Mp (List UInt8)}{sn:Mp Int}{tn:Nat}{d:List UInt8}{p:Pl}
theorem yQ1 {T:GTable}: ∀{l p:List GAssign},zr3 T p l=0-> ∀x∈l,0<=colF T x.name
 | [],_,_,x,hx=>by cases hx
 |y::l,p,h,x,hx=>by
  rw[zr3]at h
  by_cases q1:colF T y.name<0
  .rw[if_pos q1]at h;cases h
  rw[if_neg q1]at h
  by_cases q2:colF T y.name=T.key∨(colF T y.name=0/\T.place=0)
  .rw[if_pos q2]at h;cases h
  rw[if_neg q2]at h
  by_cases q3:(p.any fun z=>z.name==y.name)=true
  .rw[if_pos q3]at h;cases h
  rw[if_neg q3]at h
  by_cases q4:zv1 T y.e (colK T (colF T y.name))≠0
  .rw[if_pos q4]at h;exact absurd h q4
  rw[if_neg q4]at h
  rcases Ae.1 hx with rfl|hx
  .omega
  .exact yQ1 h x hx
theorem zV1 {mode:Int}: ∀{l:List GStmt} {i:Nat},(zO2 mode l i).2=0-> ∀z∈l,zo6 z=0
 | [],_,_,z,h=>by cases h
 |y::l,i,h,z,hx=>by
  rw[zO2]at h
  by_cases q1:mode≠0/\y.kind≠1
  .rw[if_pos q1]at h;cases h
  rw[if_neg q1]at h
  by_cases q2:zo6 y≠0
  .rw[if_pos q2]at h;exact absurd h q2
  rw[if_neg q2]at h
  rcases Ae.1 hx with rfl|hx
  .simpa using q2
  .exact zV1 h z hx
theorem zI9 (hl:LOk lot) (h:(zn5 lot).2=0): ∀st∈lot.stmts,StOk st:=by
 unfold zn5 at h
 by_cases q:mayL lot=true
 rotate_left
 .rw[if_neg q]at h;cases h
 rw[if_pos q]at h
 intro st aa
 have hc:=zV1 h st aa
 have ab:=hl.stmts.2 st aa
 have hm:mayS st=true:=by
  unfold mayL at q
  rw[A6,Af]at q
  exact q.2 st aa
 unfold zo6 at hc
 have ad:=zr5 st.table
 have hT: ∃T,tabsS[(yG st.table).toNat]? =some T:=by
  rcases ad with h|h
  .exact⟨_,A0 (show(yG st.table).toNat<tabsS.length by have:tabsS.length=3:=rfl;omega)⟩
  .exact⟨_,A0 (show(yG st.table).toNat<tabsS.length by have:tabsS.length=3:=rfl;omega)⟩
 obtain⟨T,hT⟩:=hT
 rw[hT]at hc
 simp only at hc
 have h0:0<=yG st.table:=by
  by_cases q:yG st.table<0
  .rw[if_pos q]at hc;cases hc
  .omega
 rw[if_neg om]at hc
 refine⟨ab,yR7 ab.where_.good,h0,fun k1=> ?_,fun k3=> ?_⟩
 .unfold mayS at hm
  rw[A6,A6]at hm
  have hb:=hm.2.2
  unfold xu8 at hb
  rw[if_pos k1,A6]at hb
  intro he
  rw[he]at hb
  exact absurd hb.1 dC
 .rw[A7,hT]
  rw[if_neg om,if_neg om,if_pos k3]at hc
  by_cases q:zr3 T [] st.sets≠0
  .rw[if_pos q]at hc;exact absurd hc q
  .exact yQ1 (by simpa using q)
theorem xs6 (l:List Ln) (x:Ln):(zC5 l x).length=l.length+1:=(zd7 l x).length_eq
theorem yK6 {t:Nat} {T:GTable}: ∀{rs:List (List GExpr)} {l:List Ln},(insF t T rs l).1.length<=l.length+rs.length
 | [],l=>by rw[insF];simp
 |r::rs,l=>by
  rw[insF]
  split
  .simp
  split
  .simp
  split
  .simp
  refine Ax yK6 ?_
  rw[xs6,Ag];omega
theorem yR4 {T:GTable} {sets:List GAssign}: ∀{m l:List Ln},(updF T sets m l).1.length<=l.length
 | [],l=>A5 _
 |x::m,l=>by
  rw[updF]
  split
  .exact A4 _
  split
  .exact A4 _
  refine Ax yR4 ?_
  unfold putF
  rw[B1]
  exact A5 _
theorem yI2: ∀{m l:List Ln},(delF m l).length<=l.length
 | [],l=>A5 _
 |x::m,l=>by
  rw[delF]
  exact Ax yI2 (Bo _ _)
theorem yx9:(doS st l).2.1.length<=l.length+st.rows.length:=by
 unfold doS
 simp only
 split
 .split
  .simp
  .exact yK6
 split
 .simp
 split
 .simp
 split
 .split
  .simp
  .exact Ax yR4 om
 .exact Ax yI2 om
abbrev Vw:=Nat×List (List UInt8×List UInt8)
def prR (q:List UInt8×List UInt8):List V:= [.str q.1,.str q.2]
def vwR (x:Vw):List V:= [.int .i64 x.1,.sl .ro (x.2.map prR)]
def onF (g:Nat) (l:List (List UInt8×List UInt8)):List (Pl×List UInt8):=l.map fun q=>(((g:Int),q.1),q.2)
def yA (vs:List Vw):List (Pl×List UInt8):=vs.flatMap fun x=>onF x.1 x.2
def xN (vs:List Vw):List Ln:=((yA vs).foldl zv3 ([],[])).2
theorem zr0 (x:Vw) (vs:List Vw):yA (x::vs)=onF x.1 x.2++yA vs:=by unfold yA;rw[C1]
theorem TkI.now_none {s:List (Pl×List UInt8)×List Ln} (h:TkI n s (a,b,sn)) (p:Pl) (h0:sn.at p=none):a.at p=none/\b.at p=none:=by
 have h1:=(h.seen p).1 (get_isNone.2 h0)
 have hb:b.at p=none:=by
  rw[h.now.at_none]
  cases e:atF s.2 p with
  |false=>rfl
  |true=>
   obtain⟨x,hx,aa⟩:=Ac.1 (atF_iff.1 e)
   have:(s.1.any fun e=>e.1==p)=true:=Cn.2 ⟨_,(h.lines x hx).2,by simp[aa]⟩
   rw[this]at h1;cases h1
 exact⟨by rw[show a=b from h.same];exact hb,hb⟩
theorem TkI.pos {s:List (Pl×List UInt8)×List Ln} (h:TkI n s (a,b,sn)) (hn:n<=1000000) (p:Pl) (i:Nat) (v:Int) (h0:sn.at p=some (i,v)):1<=v/\v<=1000000:=by
 have:=h.cnt p v (by show(sn.at p).map (·.2)=some v;rw[h0];rfl)
 omega
theorem yl3 {P:Program} {c:Ctx} {n0:Kp} {σ:St} (k:Nat) {f:FuncId} {caps args args':List V} {σin:St} {v:V} {KV:V->St->Prop} (hc:VCalls P f args' σin (fun r s=>r=v/\s=σin)) (hb:wB P f=true) (hk:σ.take k=σin) (hl:σin.length=k) (hok:σin.all (ltOb k)=true) (hv:ltS k v=true)
  (hn: ∀i,i<k->n0.has i=true) (aa: ∀N,All2 (argS (ren (List.range k) N)) args' (args++caps)) (hK:KV v σ):wVD P c n0 1 (.fn f caps) args σ KV fx:=by
 refine⟨v,σ, ?_,fun _=>rfl,fun _=>KeepN.refl,A5 _,hK⟩
 rw[if_neg dC,if_pos rfl]
 intro s hs
 have ab:s.take k=σin:=by
  rw[<-hk]
  refine Bt fun i=> ?_
  rw[Ai,Ai]
  by_cases q:i<k
  .rw[if_pos q,if_pos q];exact Kp.get (hn i q) hs
  .rw[if_neg q,if_neg q]
 refine zo1 (P:=P) (c:=c) (KV:=fun r s'=>r=v/\s'=s) k hc hb ab hl hok (aa _) ?_ ?_
 .rintro r s' ⟨rfl,rfl⟩
  exact⟨hl,hok,hv⟩
 .rintro r s' ⟨rfl,rfl⟩
  exact⟨rfl,by rw[<-ab];exact Bf k s⟩
theorem yD4 (n:Nat) (h:3<=n) {τ:St} (hR:τ.all (ltOb n)=true):(runS a b sn++τ).all (ltOb n)=true:=by
 rw[Eb,xQ n h,hR];rfl
def ansR (x:Int×Int×List Ot):List V:= [.int .i64 x.1,.int .i64 x.2.1,.sl .ro (x.2.2.map Ot.row)]
def runV (lot:GLot) (was:List Ln):V:= .tup [.agg (ansR (lotF lot was).1),.sl .ro ((if(lotF lot was).1.1≠0 then []else grpF (chgF was (lotF lot was).2)).map putR)]
def schO:Ob:= .box [.sl .ro xG,.sl .ro (tabsS.map GTable.row)]
theorem xi7 (lot:GLot) (hl:LOk lot) (vs:List Vw) (aD:vs.length<=100000) (hv: ∀x∈vs,x.1<1000/\x.2.length<=100000/\ ∀q∈x.2,q.2.length<=maxB) (hN:(yA vs).length<=7500):
  Pure prog 21 [schR tabsS,.agg lot.row,.sl .ro (vs.map vwR)] (runV lot (xN vs)):=by
 have ad:=yO5 lot hl
 obtain⟨aE,av⟩:=hl.stmts
 have ai:=zI9 hl
 obtain⟨⟨ci,cr⟩,hP⟩: ∃P,zn5 lot=P:=⟨_,rfl⟩
 rw[hP]at ad ai
 generalize hM:runV lot (xN vs)=M
 unfold runV lotF at hM
 rw[hP]at hM
 simp only at hM ai
 refine iV 0 func21 ntmps21 results21 fun c hc hb=> ?_
 refine zO (zA ?_)
 simp[go_sem,schR]
 refine zO (zA ?_)
 simp[go_sem]
 refine zJ ad cB (zN (by simp[go_sem,schR]) rfl) rfl ?_
 simp[go_sem,wC]
 by_cases c0:cr=0
 rotate_left
 .have ar:(cr !=0)=true:=by simpa using c0
  rw[if_pos c0]at hM
  simp[go_sem,ar]
  have aF:M= .tup [.agg [.int .i64 cr,.int .i64 ci,.sl .ro []],.sl .ro []]:=by rw[<-hM];simp[c0,ansR]
  exact wG (r:=M) (by rw[aF];exact wD ⟨zc7 ⟨zT rfl,zT rfl,yJ,tV⟩,zx0,tV⟩) ⟨rfl,rfl⟩
 have ar:(cr !=0)=false:=by simpa using c0
 rw[if_neg (fun h=>h c0)]at hM
 simp[go_sem,ar]
 refine ze9 (S:=Unit) [2,4,6,10] (fun _=> [.sl .ro (vs.map vwR),.ptr 5 0,.ptr 6 0,.ptr 3 0]) (fun _=>tkS (mp0 _,mp0 _,mp0 _)++ [schO,.box lot.row,.box [.int .i64 0,.int .i64 0,.sl .full []]]) (fun _=>True) hc hb ?_ ?_
 .refine zA ?_
  simp[go_sem]
  exact zG () ⟨tV,zC9 [3,4,5,6,0,1,2] dC rfl ⟨rfl,rfl,rfl,rfl,rfl,rfl,rfl,tV⟩ ⟨zC rfl,.inl rfl,.inl rfl,.inl rfl,tV⟩⟩
 rintro _ _
 have aw:=hl
 obtain⟨Q,hQ⟩:=eX ((yA vs).foldl zv3 ([],[]))
 have ax:xN vs=Q.2:=by unfold xN;rw[hQ]
 rw[ax]at hM
 clear ax
 refine zO (zA ?_)
 simp[go_sem]
 refine zH (S:=Nat×Nat×(List (Pl×List UInt8)×List Ln)×M3) [4,6,10,36,37,38] (fun u=> [.ptr 5 0,.ptr 6 0,.ptr 3 0,.sl .ro (vs.map vwR),.int .i64 vs.length,.int .i64 u.1])
  (fun u=>tkS u.2.2.2++ [schO,.box lot.row,.box [.int .i64 0,.int .i64 0,.sl .full []]]) (fun u=>vs.length - u.1)
  (fun u=>u.1<=vs.length/\TkI u.2.1 u.2.2.1 u.2.2.2/\u.2.1+(yA (vs.drop u.1)).length=(yA vs).length/\(yA (vs.drop u.1)).foldl zv3 u.2.2.1=Q) hc hb (0,0,([],[]),(mp0 _,mp0 _,mp0 _)) ⟨A4 _,xX7,sm,hQ⟩ ?_ ?_
 .exact zZ sm sg
 rintro⟨i,n,s,a,b,sn⟩ ⟨hi,hT,hn,aa⟩
 simp only at hi hT hn aa
 by_cases q:i<vs.length
 .have ei:=zQ q om
  obtain⟨⟨g,ps⟩,hx⟩: ∃x,vs[i]=x:=⟨_,rfl⟩
  obtain⟨hg,ay,az⟩:=hv (g,ps) (hx▸Aa q)
  simp only at hg ay az
  rw[A8 q,hx,zr0]at hn aa
  rw[Dl]at aa
  rw[Ak]at hn
  refine zA ?_
  simp[go_sem,tkS,runS,runB,schO,q,hx,vwR]
  refine zH (S:=Nat×Nat×(List (Pl×List UInt8)×List Ln)×M3) [4,6,10,12,36,37,38,43,44,45] (fun u=> [.ptr 5 0,.ptr 6 0,.ptr 3 0,.ptr 7 0,.sl .ro (vs.map vwR),.int .i64 vs.length,.int .i64 i,.sl .ro (ps.map prR),.int .i64 ps.length,.int .i64 u.1])
   (fun u=>tkS u.2.2.2++ [schO,.box lot.row,.box [.int .i64 0,.int .i64 0,.sl .full []],.box (vwR (g,ps))]) (fun u=>ps.length - u.1)
   (fun u=>u.1<=ps.length/\TkI u.2.1 u.2.2.1 u.2.2.2/\u.2.1+((onF g (ps.drop u.1)).length+(yA (vs.drop (i+1))).length)=(yA vs).length/\(yA (vs.drop (i+1))).foldl zv3 ((onF g (ps.drop u.1)).foldl zv3 u.2.2.1)=Q) hc hb (0,n,s,a,b,sn) ⟨A4 _,hT,hn,aa⟩ ?_ ?_
  .exact at_w rfl sm sg
  rintro⟨j,n1,s1,a1,b1,aj⟩ ⟨hj,ae,ak,ab⟩
  simp only at hj ae ak ab
  by_cases qj:j<ps.length
  .have ej:=zQ qj om
   obtain⟨⟨k,d⟩,hp⟩: ∃x,ps[j]=x:=⟨_,rfl⟩
   have hd:=az (k,d) (hp▸Aa qj)
   simp only at hd
   have a6:onF g (ps.drop j)=(((g:Int),k),d)::onF g (ps.drop (j+1)):=by
    rw[A8 qj,hp];rfl
   rw[a6,Ag]at ak
   rw[a6,Bb]at ab
   have ag:=wd8 g hg k d hd a1 b1 aj (by rw[show a1=b1 from ae.same];exact ae.now.ok) ae.now.ok ae.sn (ae.now_none _) (ae.pos om _)
   have au:=ae.step (((g:Int),k),d)
   obtain⟨⟨a2,b2,a7⟩,aG⟩: ∃M3,ya1 ((g:Int),k) d (a1,b1,aj)=M3:=⟨_,rfl⟩
   simp only at au
   rw[aG]at ag au
   refine zA ?_
   simp[go_sem,tkS,runS,runB,schO,qj,hp,vwR,prR]
   refine zo1 4 ag cB rfl rfl (xQ 4 dC a1 b1 aj) (zb4 (n:=4) rfl) ?_ ?_
   .rintro r s' ⟨rfl,rfl⟩
    exact⟨rfl,xQ 4 dC a2 b2 a7,rfl⟩
   rintro r s' ⟨rfl,rfl⟩
   simp[go_sem,tkS,runS,runB,ej]
   exact zG (j+1,n1+1,zv3 s1 (((g:Int),k),d),a2,b2,a7) ⟨by show ps.length - (j+1)<ps.length - j;omega,⟨qj,au,by show n1+1+((onF g (ps.drop (j+1))).length+(yA (vs.drop (i+1))).length)=(yA vs).length;omega,ab⟩,at_n 8 (by rfl) rfl (yD4 8 dC (by simp[ltOb,ltC,ltK])) dC (zF sg rfl)⟩
  .have:j=ps.length:=om
   subst this
   rw[D6]at ak ab
   refine zA ?_
   simp[go_sem,tkS,runS,runB,schO,ei]
   exact zG (i+1,n1,s1,a1,b1,aj) ⟨by show vs.length - (i+1)<vs.length - i;omega,⟨q,ae,by show n1+(yA (vs.drop (i+1))).length=(yA vs).length;simp[onF]at ak;omega,ab⟩,at_n 7 (by rfl) rfl (yD4 7 dC (by simp[ltOb,ltC,ltK])) dC (zF sg rfl)⟩
 .have:i=vs.length:=om
  subst this
  rw[D6]at hn aa
  have hs:s=Q:=aa
  subst hs
  have aT:n<=7500:=by simp[yA]at hn;simp[yA]at hN;omega
  have aH:a=b:=hT.same
  subst aH
  have ah:NowOk a s.2:=hT.now
  have aI:s.2.length<=n:=hT.len
  obtain⟨af,al⟩:=eX s.2
  rw[al]at hM ah aI
  clear hT hn aa hN al hv aD
  obtain⟨D,hD⟩:=eX (doL lot.stmts 0 [] af)
  rw[hD]at hM
  have aJ:D.1.1≠0->M= .tup [.agg (ansR D.1),.sl .ro []]:=fun h=>by rw[<-hM];simp[h]
  have aK:D.1.1=0->M= .tup [.agg (ansR D.1),.sl .ro ((grpF (chgF af D.2)).map putR)]:=fun h=>by rw[<-hM];simp[h]
  have ay:D.1.1=0∨D.1.1≠0:=om
  have an:=ai c0
  clear hM ai ad hl aw
  obtain⟨lm,ln,L⟩:=lot
  simp only at aE av hD an
  refine zA ?_
  simp[go_sem,tkS,runS,runB,schO]
  refine zK0 6 2 2 [.int .i64 0,.int .i64 0,.sl .full []] dC rfl rfl ?_
  refine zO (zA ?_)
  simp[go_sem]
  refine zH (S:=Nat×Mp (List UInt8)×List Ln×List Ot) [6,10,57,58,59] (fun u=> [.ptr 6 0,.ptr 3 0,.sl .ro (L.map GStmt.row),.int .i64 L.length,.int .i64 u.1])
   (fun u=>tkS (a,u.2.1,sn)++ [schO,.box (GLot.row ⟨lm,ln,L⟩),.box [.int .i64 0,.int .i64 0,.sl (.app 7) (u.2.2.2.map Ot.row)],.app u.2.2.2.length 2]) (fun u=>L.length - u.1)
   (fun u=>u.1<=L.length/\NowOk u.2.1 u.2.2.1/\u.2.2.2.length=u.1/\u.2.2.1.length<=7500+20*u.1/\doL (L.drop u.1) u.1 u.2.2.2 u.2.2.1=D) hc hb (0,a,af,[]) ⟨A4 _,ah,rfl,by show af.length<=7500+20*0;omega,hD⟩ ?_ ?_
  .exact at_w rfl sm sg
  rintro⟨i,b,l,outs⟩ ⟨hi,hn,a8,aL,aa⟩
  simp only at hi hn a8 aL aa
  by_cases q:i<L.length
  rotate_left
  .rw[Ab om,doL]at aa
   refine zA ?_
   simp[go_sem,tkS,runS,runB,schO,q]
   have ao:=wd1 a b sn af l ah hn om om
   have aP:D.2=l:=by rw[<-aa]
   have aA:D.1=(0,0,outs):=by rw[<-aa]
   have hM:=aK (by rw[aA])
   rw[aA,aP]at hM
   obtain⟨PW,aQ⟩:=eX (grpF (chgF af l))
   rw[aQ]at ao hM
   refine zO ?_
   refine wQ [(2,1)] 7 sm kR kR ?_
   simp[go_sem]
   refine yl3 4 ao cB rfl rfl (xQ 4 dC a b sn) rfl (fun i hi=>by simp[go_sem];omega) (fun N=>zb4 (n:=4) rfl) ?_
   simp[go_sem]
   refine zA ?_
   simp[go_sem]
   exact wG (r:=M) (by rw[hM];exact wD ⟨zc7 ⟨zT rfl,zT rfl,yJ,tV⟩,zx0,tV⟩) ⟨rfl,rfl⟩
  have ei:=zQ q om
  obtain⟨x,hx⟩:=eX (L[i])
  have aB:x∈L:=hx▸Aa q
  have aq:=xq9 x (an x aB) a b sn l hn om
  have hlen:=yx9 (st:=x) (l:=l)
  have aS:=(av x aB).rows.1
  rw[A8 q,hx,doL]at aa
  obtain⟨E,hE⟩:=eX (doS x l)
  rw[hE]at aa aq hlen
  refine zA ?_
  simp[go_sem,tkS,runS,runB,schO,q,hx]
  refine zo1 4 aq cB rfl rfl (xQ 4 dC a b sn) (zb4 (n:=4) rfl) ?_ ?_
  .rintro r s' ⟨b',rfl,rfl,_⟩
   exact⟨rfl,xQ 4 dC a b' sn,rfl⟩
  rintro r s' ⟨b',rfl,rfl,aR⟩
  by_cases e0:E.2.2=0
  rotate_left
  .have aC:(E.2.2 !=0)=true:=by simpa using e0
   rw[if_pos e0]at aa
   have hM:=aJ (by rw[<-aa];exact e0)
   simp[go_sem,runS,runB,aC,Ot.row]
   exact wG (r:=M) (by rw[hM,<-aa];exact wD ⟨zc7 ⟨zT rfl,zT rfl,yJ,tV⟩,zx0,tV⟩) ⟨rfl,rfl⟩
  have aC:(E.2.2 !=0)=false:=by simpa using e0
  rw[if_neg (fun h=>h e0)]at aa
  simp[go_sem,runS,runB,e0,Ot.row]
  refine zI ⟨om,zV rfl⟩ ?_
  simp[go_sem,ei]
  exact zG (i+1,b',E.2.1,outs++ [E.1]) ⟨by show L.length - (i+1)<L.length - i;omega,⟨q,aR e0,by show(outs++ [E.1]).length=i+1;simp[a8],by show E.2.1.length<=7500+20*(i+1);omega,aa⟩,at_n 8 (by simp[Ot.row]) rfl (yD4 8 dC (by simp[ltOb,ltC,ltK])) dC (zF sg rfl)⟩
theorem yO4 (h:(zn5 lot).2=0): ∀st∈lot.stmts,mayS st=true/\zo6 st=0:=by
 unfold zn5 at h
 by_cases q:mayL lot=true
 rotate_left
 .rw[if_neg q]at h;cases h
 rw[if_pos q]at h
 intro st aa
 refine⟨?_,zV1 h st aa⟩
 unfold mayL at q
 rw[A6,Af]at q
 exact q.2 st aa
theorem yK7 {tn:Nat} {T:GTable} (hT:tabsS[tn]? =some T): ∀{R:List (List GExpr)} {b:Mp (List UInt8)} {l:List Ln},(∀r∈R,∀e∈r,EOk e)->NowOk b l->(insF tn T R l).2=0-> ∃b',NowOk b' (insF tn T R l).1
 | [],b,l,_,hn,_=>⟨b,hn⟩
 |r::R,b,l,he,hn,h=>by
  rw[insF]at h⊢
  have ad:=yb7 r [] (he r (Au ..)) (fun v hv=>by cases hv)
  by_cases q1:(evsX noT [] r []).2≠0
  .rw[if_pos q1]at h;exact absurd h q1
  rw[if_neg q1]at h⊢
  obtain⟨_,ae⟩:=ad (by simpa using q1)
  have aa:=yc0 tn T hT (evsX noT [] r []).1
  by_cases q2:(keyS tn T (evsX noT [] r []).1).2.2≠0
  .rw[if_pos q2]at h;exact absurd h q2
  rw[if_neg q2]at h⊢
  obtain⟨ab,af,ag⟩:=aa (by simpa using q2)
  by_cases q3:atF l ((keyS tn T (evsX noT [] r []).1).1,(keyS tn T (evsX noT [] r []).1).2.1)=true
  .rw[if_pos q3]at h;cases h
  rw[if_neg q3]at h⊢
  exact yK7 hT (fun x hx=>he x (An _ hx)) (hn.ins (x:=⟨(keyS tn T (evsX noT [] r []).1).1,(keyS tn T (evsX noT [] r []).1).2.1,(evsX noT [] r []).1⟩) ⟨⟨tn,T,af,hT,ab⟩,ag,ae⟩ (Bool.eq_false_iff.2 q3)) h
theorem yI3: ∀{m:List Ln} {b:Mp (List UInt8)} {l:List Ln},NowOk b l-> ∃b',NowOk b' (delF m l)
 | [],b,_,hn=>⟨b,hn⟩
 |x::m,b,l,hn=>by
  rw[delF]
  exact yI3 (hn.del x.at)
theorem yy0 (aa:StOk st) (hn:NowOk b l) (h:(doS st l).2.2=0): ∃b',NowOk b' (doS st l).2.1:=by
 obtain⟨tn,ab⟩: ∃tn:Nat,yG st.table=tn:=⟨(yG st.table).toNat,by have:=aa.tab;omega⟩
 have ad:tn<3:=by
  have h:=zu6 (fun T:GTable=>T.name==st.table) tabsS 0
  have h2:tabsS.length=3:=rfl
  unfold yG at ab
  omega
 obtain⟨T,hT⟩: ∃T,tabsS[tn]? =some T:=⟨_,A0 (show tn<tabsS.length from ad)⟩
 unfold doS at h⊢
 simp only[ab,Ay]at h⊢
 rw[show tabsS.getD tn noT=T by rw[A7,hT];rfl]at h⊢
 by_cases k2:st.kind=2
 .rw[if_pos k2]at h⊢
  by_cases q:(insF tn T st.rows l).2≠0
  .rw[if_pos q]at h;exact absurd h q
  .rw[if_neg q]
   exact yK7 hT (fun r hr=>(aa.ok.rows.2 r hr).2) hn (by simpa using q)
 rw[if_neg k2]at h⊢
 by_cases q:(metF tn T st l).2≠0
 .rw[if_pos q]at h;exact absurd h q
 rw[if_neg q]at h⊢
 by_cases k1:st.kind=1
 .rw[if_pos k1];exact⟨b,hn⟩
 rw[if_neg k1]at h⊢
 by_cases k3:st.kind=3
 .rw[if_pos k3]at h⊢
  by_cases q2:(updF T st.sets (metF tn T st l).1 l).2≠0
  .rw[if_pos q2]at h;exact absurd h q2
  .rw[if_neg q2]
   refine⟨_,yk8 hT aa.ok hn (fun x hx=> ?_) (by simpa using q2)⟩
   obtain⟨h1,h2⟩:=zI6 x hx
   exact⟨atF_iff.2 (Ac.2 ⟨x,h1,rfl⟩),hn.rows x h1,zK8 ad h2⟩
 .rw[if_neg k3]
  exact yI3 hn
abbrev Pr:=List UInt8×List UInt8
theorem yv8: ∀(tn:Nat) (T:GTable),tabsS[tn]? =some T->tn=0->T.place=0:=by
 intro tn T h h0
 subst h0
 have e:tabsS[0]? =some T:=h
 exact(by decide: ∀T,tabsS[0]? =some T->T.place=0) T e
theorem xn7 (hT:tabsS[tn]? =some T) {row aa:List GValue} (h1:mayT T.cols row=0) (h2:mayT T.cols aa=0) (hk:aa.getD T.key.toNat zeroV=row.getD T.key.toNat zeroV) (hp:T.place=0->aa.getD 0 zeroV=row.getD 0 zeroV):keyS tn T aa=keyS tn T row:=by
 have hr:zS1 tn aa=zS1 tn row:=by
  unfold zS1
  by_cases h0:tn=0
  .rw[if_pos h0,if_pos h0,hp (yv8 tn T hT h0)]
  .rw[if_neg h0,if_neg h0]
 unfold keyS
 rw[if_neg (show ¬mayT T.cols aa≠0 from fun h=>h h2),if_neg (show ¬mayT T.cols row≠0 from fun h=>h h1),hr,hk]
 by_cases h0:tn=0
 .rw[hp (yv8 tn T hT h0)]
 .rw[if_neg (fun h=>h0 h.1),if_neg (fun h=>h0 h.1)]
theorem xB6 {x:Ln} (h:LnOk x) (aa:(ofS x.r).1=(tn:Int)) (hT:tabsS[tn]? =some T) (hk:keyS tn T x.v=(x.r,x.k,0)):LnK x:=by
 unfold LnK zq7
 rw[h.read,aa,Ay,show tabsS.getD tn noT=T by rw[A7,hT];rfl,hk,h.err]
 simp
theorem xP6 {x:Ln} (h:LnOk x) (hK:LnK x) (aa:(ofS x.r).1=(tn:Int)) (hT:tabsS[tn]? =some T):keyS tn T x.v=(x.r,x.k,0):=by
 unfold LnK zq7 at hK
 rw[h.read,aa,Ay,show tabsS.getD tn noT=T by rw[A7,hT];rfl]at hK
 simp only[A6,decide_eq_true_eq]at hK
 exact hK.2.2
theorem xz8 {l:List GValue} {i j:Nat} {v:GValue} (h:i≠j):(l.set i v).getD j zeroV=l.getD j zeroV:=by
 rw[A7,A7,Bu h]
theorem yj7 {T:GTable} {old:List GValue} {c:Nat} (hc:(c:Int)=T.key∨((c:Int)=0/\T.place=0)): ∀{sets p:List GAssign} {row:List GValue},zr3 T p sets=0->(setF T old sets row).2=0->(setF T old sets row).1.getD c zeroV=row.getD c zeroV
 | [],_,row,_,_=>rfl
 |y::l,p,row,h,h2=>by
  rw[setF]at h2⊢
  by_cases q:(evR T old y.e).2≠0
  .rw[if_pos q]at h2;exact absurd h2 q
  rw[if_neg q]at h2⊢
  rw[zr3]at h
  by_cases q1:colF T y.name<0
  .rw[if_pos q1]at h;cases h
  rw[if_neg q1]at h
  by_cases q2:colF T y.name=T.key∨(colF T y.name=0/\T.place=0)
  .rw[if_pos q2]at h;cases h
  rw[if_neg q2]at h
  by_cases q3:(p.any fun z=>z.name==y.name)=true
  .rw[if_pos q3]at h;cases h
  rw[if_neg q3]at h
  by_cases q4:zv1 T y.e (colK T (colF T y.name))≠0
  .rw[if_pos q4]at h;exact absurd h q4
  rw[if_neg q4]at h
  rw[yj7 hc h h2]
  refine xz8 fun e=>q2 ?_
  have e2:colF T y.name=(c:Int):=om
  rw[e2]
  exact hc
def LsK (l:List Ln):Prop:= ∀x∈l,LnOk x/\LnK x
theorem xA1 {tn:Nat} {T:GTable} (hT:tabsS[tn]? =some T): ∀{R:List (List GExpr)} {l:List Ln},(∀r∈R,∀e∈r,EOk e)->LsK l->(insF tn T R l).2=0->LsK (insF tn T R l).1
 | [],l,_,hn,_=>hn
 |r::R,l,he,hn,h=>by
  rw[insF]at h⊢
  have ag:=yb7 r [] (he r (Au ..)) (fun v hv=>by cases hv)
  by_cases q1:(evsX noT [] r []).2≠0
  .rw[if_pos q1]at h;exact absurd h q1
  rw[if_neg q1]at h⊢
  obtain⟨_,ah⟩:=ag (by simpa using q1)
  have aa:=yc0 tn T hT (evsX noT [] r []).1
  obtain⟨⟨kr,kk,ke⟩,ab⟩: ∃ks,keyS tn T (evsX noT [] r []).1=ks:=⟨_,rfl⟩
  rw[ab]at h aa⊢
  simp only at h aa⊢
  by_cases q2:ke≠0
  .rw[if_pos q2]at h;exact absurd h q2
  rw[if_neg q2]at h⊢
  have ad:ke=0:=by simpa using q2
  obtain⟨ae,af,ai⟩:=aa ad
  by_cases q3:atF l (kr,kk)=true
  .rw[if_pos q3]at h;cases h
  rw[if_neg q3]at h⊢
  have hx:LnOk ⟨kr,kk,(evsX noT [] r []).1⟩:=⟨⟨tn,T,af,hT,ae⟩,ai,ah⟩
  refine xA1 hT (fun x hx=>he x (An _ hx)) (fun z hz=> ?_) h
  rcases Ae.1 ((zd7 l _).mem_iff.1 hz)with rfl|hz
  .exact⟨hx,xB6 hx af hT (by rw[ab,ad])⟩
  .exact hn z hz
theorem xv9: ∀{m l:List Ln},LsK l->LsK (delF m l)
 | [],l,h=>h
 |x::m,l,h=>by
  rw[delF]
  exact xv9 (fun y hy=>h y (Aw.1 hy).1)
theorem xI4 {tn:Nat} {T:GTable} (hT:tabsS[tn]? =some T) {st:GStmt} (ag:SOk st) (hc:zr3 T [] st.sets=0): ∀{m l:List Ln},LsK l->(∀x∈m,LnOk x/\LnK x/\(ofS x.r).1=(tn:Int))->(updF T st.sets m l).2=0->LsK (updF T st.sets m l).1
 | [],_,hn,_,_=>hn
 |x::m,l,hn,hm,h0=>by
  obtain⟨ab,ak,ae⟩:=hm x (Au ..)
  obtain⟨ao,aq⟩:=(by decide: ∀T∈tabsS,0<=T.key/\T.key<T.cols.length) T (As hT)
  rw[updF]at h0⊢
  have aa:=fun(c:Nat) (al:(c:Int)=T.key∨((c:Int)=0/\T.place=0))=>yj7 (T:=T) (old:=x.v) al (sets:=st.sets) (p:= []) (row:=x.v) hc
  have ah:=yc7 (T:=T) ab.ok (sets:=st.sets) (row:=x.v) (fun y hy=>(ag.sets.2 y hy).2) ab.ok
  obtain⟨E,hE⟩:=eX (setF T x.v st.sets x.v)
  rw[hE]at h0 aa ah⊢
  by_cases q:E.2≠0
  .rw[if_pos q]at h0;exact absurd h0 q
  rw[if_neg q]at h0⊢
  have q0:E.2=0:=by simpa using q
  by_cases q2:mayT T.cols E.1≠0
  .rw[if_pos q2]at h0;exact absurd h0 q2
  rw[if_neg q2]at h0⊢
  have m0:mayT T.cols E.1=0:=by simpa using q2
  obtain⟨af,T',ar,ai,an⟩:=ab.tab
  have:af=tn:=om
  subst this
  rw[hT]at ai
  cases ai
  have ad:LnOk ⟨x.r,x.k,E.1⟩:=⟨⟨af,T,ae,hT,m0⟩,ab.err,(ah q0).2⟩
  have aj:keyS af T E.1=(x.r,x.k,0):=by
   rw[xn7 hT an m0 (aa T.key.toNat (.inl om) q0) (fun hp=>aa 0 (.inr ⟨rfl,hp⟩) q0)]
   exact xP6 ab ak ae hT
  refine xI4 hT ag hc (fun z hz=> ?_) (fun y hy=>hm y (An _ hy)) h0
  unfold putF at hz
  obtain⟨y,hy,rfl⟩:=Ac.1 hz
  by_cases e:y.at=x.at
  .rw[if_pos e]
   have e1:y.r=x.r:=congrArg Prod.fst e
   have e2:y.k=x.k:=congrArg Prod.snd e
   rw[e1,e2]
   exact⟨ad,xB6 ad ae hT aj⟩
  .rw[if_neg e]
   exact hn y hy
theorem wg0 (aa:StOk st) (hc:zo6 st=0) (_hn:NowOk b l) (hk:LsK l) (h:(doS st l).2.2=0):LsK (doS st l).2.1:=by
 obtain⟨tn,ab⟩: ∃tn:Nat,yG st.table=tn:=⟨(yG st.table).toNat,by have:=aa.tab;omega⟩
 have ad:tn<3:=by
  have h:=zu6 (fun T:GTable=>T.name==st.table) tabsS 0
  have h2:tabsS.length=3:=rfl
  unfold yG at ab
  omega
 obtain⟨T,hT⟩: ∃T,tabsS[tn]? =some T:=⟨_,A0 (show tn<tabsS.length from ad)⟩
 unfold zo6 at hc
 rw[ab,Ay,hT]at hc
 simp only at hc
 rw[if_neg om]at hc
 unfold doS at h⊢
 simp only[ab,Ay]at h⊢
 rw[show tabsS.getD tn noT=T by rw[A7,hT];rfl]at h⊢
 by_cases k2:st.kind=2
 .rw[if_pos k2]at h⊢
  by_cases q:(insF tn T st.rows l).2≠0
  .rw[if_pos q]at h;exact absurd h q
  .rw[if_neg q]
   exact xA1 hT (fun r hr=>(aa.ok.rows.2 r hr).2) hk (by simpa using q)
 rw[if_neg k2]at h⊢
 by_cases q:(metF tn T st l).2≠0
 .rw[if_pos q]at h;exact absurd h q
 rw[if_neg q]at h⊢
 by_cases k1:st.kind=1
 .rw[if_pos k1];exact hk
 rw[if_neg k1]at h⊢
 by_cases k3:st.kind=3
 .rw[if_pos k3]at h⊢
  by_cases q2:(updF T st.sets (metF tn T st l).1 l).2≠0
  .rw[if_pos q2]at h;exact absurd h q2
  .rw[if_neg q2]
   have ae:zr3 T [] st.sets=0:=by
    rw[if_neg k1,if_neg k2,if_pos k3]at hc
    by_cases z:zr3 T [] st.sets≠0
    .rw[if_pos z]at hc;exact hc
    .simpa using z
   refine xI4 hT aa.ok ae hk (fun x hx=> ?_) (by simpa using q2)
   obtain⟨h1,h2⟩:=zI6 x hx
   exact⟨(hk x h1).1,(hk x h1).2,zK8 ad h2⟩
 .rw[if_neg k3]
  exact xv9 hk
theorem xW4: ∀{ss:List GStmt} {i:Nat} {acc:List Ot} {b:Mp (List UInt8)} {l:List Ln},(∀x∈ss,StOk x/\zo6 x=0)->NowOk b l->LsK l->(doL ss i acc l).1.1=0->(∃b',NowOk b' (doL ss i acc l).2)/\LsK (doL ss i acc l).2/\(doL ss i acc l).2.length<=l.length+20*ss.length
 | [],i,acc,b,l,_,hn,hk,_=>⟨⟨b,hn⟩,hk,by rw[doL];simp⟩
 |x::ss,i,acc,b,l,hs,hn,hk,h=>by
  rw[doL]at h⊢
  obtain⟨hx,aa⟩:=hs x (Au ..)
  by_cases q:(doS x l).2.2≠0
  .rw[if_pos q]at h;exact absurd h q
  rw[if_neg q]at h⊢
  have q0:(doS x l).2.2=0:=by simpa using q
  obtain⟨b',ab⟩:=yy0 hx hn q0
  have hlen:=yx9 (st:=x) (l:=l)
  have hr:=hx.ok.rows.1
  obtain⟨h1,h2,h3⟩:=xW4 (fun y hy=>hs y (An _ hy)) ab (wg0 hx aa hn hk q0) h
  exact⟨h1,h2,by rw[Ag];omega⟩
theorem TkI.run: ∀(ps:List (Pl×List UInt8)) {n:Nat} {s:List (Pl×List UInt8)×List Ln} {m:M3},TkI n s m-> ∃m',TkI (n+ps.length) (ps.foldl zv3 s) m'
 | [],n,s,m,h=>⟨m,h⟩
 |p::ps,n,s,m,h=>by
  obtain⟨m',h'⟩:=TkI.run ps (h.step p)
  exact⟨m',by rw[Ag,show n+(ps.length+1)=n+1+ps.length by omega];exact h'⟩
theorem zI4 (vs:List Vw): ∃m,TkI (yA vs).length ((yA vs).foldl zv3 ([],[])) m:=by
 obtain⟨m,h⟩:=TkI.run (yA vs) xX7
 rw[Ad]at h
 exact⟨m,h⟩
theorem xs8 {l:List Wr} {aa now:List Ln} (h1: ∀x∈aa,LnOk x) (h2: ∀x∈now,LnOk x) (hw:Rise (aa.map Ln.at)) (hn:Rise (now.map Ln.at)) (hl:l=chgF aa now): ∀w∈l,w.p.1=0∨w.p.1=1∨w.p.1=2∨w.p.1=3:=fun w ad=>by
 rw[hl]at ad
 have hr: ∀x:Ln,LnOk x->x.r=0∨x.r=1∨x.r=2∨x.r=3:=fun x hx=>by
  have:=hx.err
  unfold ofS at this
  by_cases a0:x.r=0
  .exact .inl a0
  by_cases a1:x.r=1
  .exact .inr (.inl a1)
  by_cases a2:x.r=2
  .exact .inr (.inr (.inl a2))
  by_cases a3:x.r=3
  .exact .inr (.inr (.inr a3))
  rw[if_neg a0,if_neg a1,if_neg a2,if_neg a3]at this
  cases this
 rcases((zQ5 hw hn).2 w).1 ad with ⟨_,_,⟨x,hx,ab⟩,_⟩|⟨_,x,hx,ab,_,_⟩
 .rw[<-ab];exact hr x (h1 x hx)
 .rw[<-ab];exact hr x (h2 x hx)
theorem yB5 (hl:LOk lot) (hn:NowOk b l) (hk:LsK l) (h:(lotF lot l).1.1=0):(∃b',NowOk b' (lotF lot l).2)/\LsK (lotF lot l).2/\(lotF lot l).2.length<=l.length+240:=by
 unfold lotF at h⊢
 by_cases q:(zn5 lot).2≠0
 .rw[if_pos q]at h;exact absurd h q
 rw[if_neg q]at h⊢
 have q0:(zn5 lot).2=0:=by simpa using q
 by_cases q2:(doL lot.stmts 0 [] l).1.1≠0
 .rw[if_pos q2]at h;exact absurd h q2
 rw[if_neg q2]at h⊢
 obtain⟨h1,h2,h3⟩:=xW4 (fun x hx=>⟨zI9 hl q0 x hx,(yO4 q0 x hx).2⟩) hn hk h
 have:=hl.stmts.1
 exact⟨h1,h2,om⟩
theorem xG0 (l:List Wr) (hl:l.length<=100000):Pure prog 64 [.sl .ro (l.map wrR),.sl .ro (l.map wrR)] (.bool true):=by
 refine iV 0 func64 ntmps64 results64 fun c hc hb=> ?_
 refine zA ?_
 simp[go_sem]
 refine zH (S:=Nat) [0,1,5] (fun i=> [.sl .ro (l.map wrR),.sl .ro (l.map wrR),.int .i64 i]) (fun _=> []) (fun i=>l.length - i) (fun i=>i<=l.length) hc hb 0 (A4 _) ?_ ?_
 .exact aO
 rintro i hi
 by_cases q:i<l.length
 rotate_left
 .refine zA ?_
  simp[go_sem,q]
  exact wR
 have ei:=zQ q om
 obtain⟨⟨⟨yr,yk⟩,yd,yb⟩,hy⟩: ∃y,l[i]=y:=⟨_,rfl⟩
 refine zA ?_
 simp[go_sem,q]
 refine yS [] 0 rfl kR kR ?_
 simp[go_sem,q,hy,wrR]
 exact zG (i+1) ⟨om,om,at_0 rfl (zN (by simp[go_sem,ei]) rfl)⟩
theorem yY4 (l:List (Int×List Wr)) (hl:l.length<=100000) (hw: ∀x∈l,x.2.length<=100000):Pure prog 32 [.sl .ro (l.map putR),.sl .ro (l.map putR)] (.bool true):=by
 refine iV 0 func32 ntmps32 results32 fun c hc hb=> ?_
 refine zA ?_
 simp[go_sem]
 refine zH (S:=Nat) [0,1,5] (fun i=> [.sl .ro (l.map putR),.sl .ro (l.map putR),.int .i64 i]) (fun _=> []) (fun i=>l.length - i) (fun i=>i<=l.length) hc hb 0 (A4 _) ?_ ?_
 .exact aO
 rintro i hi
 by_cases q:i<l.length
 rotate_left
 .refine zA ?_
  simp[go_sem,q]
  exact wR
 have ei:=zQ q om
 obtain⟨⟨g,ws⟩,hy⟩: ∃y,l[i]=y:=⟨_,rfl⟩
 have hs:=xG0 ws (hw (g,ws) (hy▸Aa q))
 refine zA ?_
 simp[go_sem,q]
 refine yS [(22,0)] 0 rfl kR kR ?_
 simp[go_sem,q,hy,putR]
 refine pD hs ?_
 simp[go_sem]
 exact zG (i+1) ⟨om,om,at_0 rfl (zN (by simp[go_sem,ei]) rfl)⟩
theorem yY5 (l:List (List GValue)) (hl:l.length<=100000) (hw: ∀x∈l,x.length<=100000):Pure prog 29 [.sl .ro (l.map fun r=> [V.sl .ro (r.map GValue.row)]),.sl .ro (l.map fun r=> [V.sl .ro (r.map GValue.row)])] (.bool true):=by
 refine iV 0 func29 ntmps29 results29 fun c hc hb=> ?_
 refine zA ?_
 simp[go_sem]
 refine zH (S:=Nat) [0,1,5] (fun i=> [.sl .ro (l.map fun r=> [V.sl .ro (r.map GValue.row)]),.sl .ro (l.map fun r=> [V.sl .ro (r.map GValue.row)]),.int .i64 i]) (fun _=> []) (fun i=>l.length - i) (fun i=>i<=l.length) hc hb 0 (A4 _) ?_ ?_
 .exact aO
 rintro i hi
 by_cases q:i<l.length
 rotate_left
 .refine zA ?_
  simp[go_sem,q]
  exact wR
 have ei:=zQ q om
 obtain⟨r,hy⟩: ∃y,l[i]=y:=⟨_,rfl⟩
 have hr:=hw r (hy▸Aa q)
 refine zA ?_
 simp[go_sem,q]
 refine yS [] 0 rfl kR kR ?_
 simp[go_sem,q,hy]
 refine zH (S:=Nat) [0,1,5,6] (fun j=> [.sl .ro (l.map fun r=> [V.sl .ro (r.map GValue.row)]),.sl .ro (l.map fun r=> [V.sl .ro (r.map GValue.row)]),.int .i64 i,.int .i64 j]) (fun _=> []) (fun j=>r.length - j) (fun j=>j<=r.length) hc hb 0 (A4 _) ?_ ?_
 .exact aO
 rintro j hj
 by_cases qj:j<r.length
 rotate_left
 .refine zA ?_
  simp[go_sem,q,hy,qj,ei]
  exact zG (i+1) ⟨om,om,aO⟩
 have ej:=zQ qj om
 obtain⟨⟨vk,vn,vs⟩,hv⟩: ∃y,r[j]=y:=⟨_,rfl⟩
 refine zA ?_
 simp[go_sem,q,hy,qj]
 refine yS [] 0 rfl kR kR ?_
 simp[go_sem,q,hy,qj,hv,GValue.row,ej]
 exact zG (j+1) ⟨om,om,aO⟩
theorem xF9 (er ix:Int) (outs:List Ot) (hl:outs.length<=100000) (hw: ∀x∈outs,x.rows.length<=100000/\ ∀r∈x.rows,r.length<=100000):Pure prog 22 [.agg (ansR (er,ix,outs)),.agg (ansR (er,ix,outs))] (.bool true):=by
 refine iV 0 func22 ntmps22 results22 fun c hc hb=> ?_
 refine zA ?_
 simp[go_sem,ansR]
 refine zH (S:=Nat) [2,3,5] (fun i=> [.ptr 0 0,.ptr 1 0,.int .i64 i]) (fun _=> [.box (ansR (er,ix,outs)),.box (ansR (er,ix,outs))]) (fun i=>outs.length - i) (fun i=>i<=outs.length) hc hb 0 (A4 _) ?_ ?_
 .exact at_w (by simp[ansR]) sm sg
 rintro i hi
 by_cases q:i<outs.length
 rotate_left
 .refine zA ?_
  simp[go_sem,q,ansR]
  exact wR
 have ei:=zQ q om
 obtain⟨⟨cn,rs⟩,hy⟩: ∃y,outs[i]=y:=⟨_,rfl⟩
 obtain⟨h1,h2⟩:=hw ⟨cn,rs⟩ (hy▸Aa q)
 have hs:=yY5 rs h1 h2
 refine zA ?_
 simp[go_sem,q,ansR]
 refine xJ4 [(12,3),(13,3)] 2 10 sm kR (by rw[hc];exact A4 _) hb kR rfl (by repeat' (first|exact LtE.env0|refine LtE.upd ?_ (by simp[ltS,ltA,ltC,ltK]))) (by simp only[C8,Dt];exact rfl) (by simp only[Dm,Bg];exact rfl) ?_
 simp[go_sem,q,hy,Ot.row]
 refine⟨by repeat' (first|exact LtE.env0|refine LtE.upd ?_ (by simp[ltS,ltA,ltC,ltK])), ?_⟩
 refine pC hs ?_
 simp[go_sem,ei]
 exact zG (i+1) ⟨om,om,aN 2 (by simp[ltOb,ltC,ltK])⟩
theorem xn8 (l:List (Int×List Wr)) (hl:l.length<=100000):Pure prog 33 [.sl .ro (l.map putR)] (.sl .ro (l.map putR)):=by
 refine iV 0 func33 ntmps33 results33 fun c hc hb=> ?_
 refine zA ?_
 simp[go_sem]
 refine zi6 3 2 dC sg ?_
 refine zH (S:=Nat×List (Int×List Wr)) [0,3,4] (fun u=> [.sl .ro (l.map putR),.sl (.app 0) (u.2.map putR),.int .i64 u.1]) (fun u=> [.app u.2.length 2]) (fun u=>l.length - u.1) (fun u=>u.1<=l.length/\u.2=l.take u.1) hc hb (0,[]) ⟨A4 _,sm⟩ ?_ ?_
 .exact aN 1 rfl
 rintro⟨i,out⟩ ⟨hi,ho⟩
 simp only at hi ho
 have ab:out.length=i:=by rw[ho,Bi];omega
 by_cases q:i<l.length
 rotate_left
 .have h2:out=l:=by rw[ho];exact Al om
  refine zA ?_
  simp[go_sem,q]
  exact wG (by rw[h2];exact zK) ⟨rfl,rfl⟩
 have ei:=zQ q om
 obtain⟨⟨g,ps⟩,hy⟩: ∃y,l[i]=y:=⟨_,rfl⟩
 have aa:out++ [(g,ps)]=l.take (i+1):=by rw[ho,C0 q,hy]
 refine zA ?_
 simp[go_sem,q]
 refine wQ [(13,3)] 0 sm kR kR ?_
 simp[go_sem,q,hy,putR]
 refine zI ⟨om,zV rfl⟩ ?_
 simp[go_sem,ei]
 exact zG (i+1,out++ [(g,ps)]) ⟨by show l.length - (i+1)<l.length - i;omega,⟨q,aa⟩,aM 1 rfl (zF (by simp[go_sem,putR]) rfl)⟩
def insP (k d:List UInt8):Bool->List Pr->List Pr
 |b,[]=>if b=true then []else [(k,d)]
 |b,x::l=>(if(!b&&Op.bytesLess k x.1)=true then [(k,d)]else [])++((if x.1=k then []else [x])++insP k d (b||Op.bytesLess k x.1) l)
def zw9 (l:List Pr):Prop:=l.Pairwise fun a b=>Op.bytesLess a.1 b.1=true
theorem zA9 (k d:List UInt8): ∀l:List Pr,insP k d true l=l.filter fun x=> !decide (x.1=k)
 | []=>rfl
 |x::l=>by
  rw[insP,Dx,zA9 k d l,Ck]
  by_cases q:x.1=k<;>simp[q]
theorem zV8 (k d:List UInt8): ∀(b:Bool) (l:List Pr),(insP k d b l).Perm ((if b=true then []else [(k,d)])++l.filter fun x=> !decide (x.1=k))
 |b,[]=>by rw[insP];simp
 |true,x::l=>by rw[zA9];simp
 |false,x::l=>by
  rw[insP]
  by_cases q:Op.bytesLess k x.1=true
  .rw[q,Ep,zA9]
   have hx:x.1≠k:=fun e=>by rw[e,zd8]at q;cases q
   simp[hx]
  .have q':Op.bytesLess k x.1=false:=by simpa using q
   rw[q',Cb]
   have ih:=zV8 k d false l
   by_cases e:x.1=k
   .simp[e]at ih⊢
    exact ih
   .simp[e]at ih⊢
    exact(ih.cons x).trans (List.Perm.swap ..)
theorem insP_mem {k:List UInt8} {b:Bool} {l:List Pr} {x:Pr}:x∈insP k d b l↔(b=false/\x=(k,d))∨(x∈l/\x.1≠k):=by
 rw[(zV8 k d b l).mem_iff,Av,Aw]
 cases b<;>simp
theorem ys5 (k d:List UInt8): ∀(b:Bool) {l:List Pr},zw9 l->zw9 (insP k d b l)
 |true,l,h=>by rw[zA9];exact List.Pairwise.sublist C5 h
 |false,[],_=>by rw[insP,if_neg dC];exact List.pairwise_singleton ..
 |false,x::l,h=>by
  have h2:=h
  unfold zw9 at h2
  rw[Bw]at h2
  rw[insP]
  by_cases q:Op.bytesLess k x.1=true
  .have hx:x.1≠k:=fun e=>by rw[e,zd8]at q;cases q
   rw[q,Ep,zA9,if_pos (by rfl),if_neg hx]
   show zw9 ((k,d)::x::l.filter _)
   unfold zw9
   refine Bw.2 ⟨fun y hy=> ?_,Bw.2 ⟨fun y hy=>h2.1 y (Aw.1 hy).1,List.Pairwise.sublist C5 h2.2⟩⟩
   rcases Ae.1 hy with rfl|hy
   .exact q
   .exact zq0 _ _ _ q (h2.1 y (Aw.1 hy).1)
  .have q':Op.bytesLess k x.1=false:=by simpa using q
   rw[q',Cb,Bool.and_false,if_neg dC,Cs]
   have ih:=ys5 k d false h2.2
   by_cases e:x.1=k
   .rw[if_pos e];exact ih
   .rw[if_neg e]
    show zw9 (x::insP k d false l)
    unfold zw9
    refine Bw.2 ⟨fun y hy=> ?_,ih⟩
    rcases insP_mem.1 hy with ⟨_,rfl⟩|⟨hy,_⟩
    .rcases zA3 x.1 k with r|r|r
     .exact r
     .exact absurd r e
     .rw[q']at r;cases r
    .exact h2.1 y hy
def xA3 (w:Wr) (l:List Pr):List Pr:=insP w.p.2 w.data w.drop l
def doR (g:Int) (P:List (List Pr)) (w:Wr):List (List Pr):=P.set g.toNat (xA3 w (P.getD g.toNat []))
def doQ (P:List (List Pr)) (q:Int×List Wr):List (List Pr):=if q.1<0∨8<=q.1 then P else q.2.foldl (doR q.1) P
def doP (P:List (List Pr)) (qs:List (Int×List Wr)):List (List Pr):=qs.foldl doQ P
theorem xc7 (g:Int) (P:List (List Pr)) (w:Wr):(doR g P w).length=P.length:=by unfold doR;simp
theorem xO2 {out:List (Int×List Wr)} (hw:0<=w.p.1/\w.p.1<8) (P:List (List Pr)):doP P (grpS out w)=doR w.p.1 (doP P out) w:=by
 have hq: ∀P,doQ P (w.p.1,[w])=doR w.p.1 P w:=fun P=>by unfold doQ;rw[if_neg (by simp only;omega)];rfl
 unfold grpS
 cases q:out.getLast? with
 |none=>
  rw[List.getLast?_eq_none_iff.1 q]
  exact hq P
 |some p=>
  have ho:out=out.dropLast++ [p]:=by
   have h:=List.getLast?_eq_some_iff.1 q
   obtain⟨ys,rfl⟩:=h
   simp
  simp only
  by_cases e:p.1=w.p.1
  .rw[if_pos e]
   unfold doP
   rw[Dl,Bb,Eq]
   conv=>rhs;rw[ho,Dl,Bb,Eq]
   unfold doQ
   simp only
   rw[if_neg om,if_neg om,Dl,e]
   rfl
  .rw[if_neg e]
   unfold doP
   rw[Dl,Bb,Eq]
   exact hq _
theorem xc6 (P:List (List Pr)): ∀(l:List Wr) (out:List (Int×List Wr)),(∀w∈l,0<=w.p.1/\w.p.1<8)->doP P (l.foldl grpS out)=l.foldl (fun P w=>doR w.p.1 P w) (doP P out)
 | [],_,_=>rfl
 |w::l,out,h=>by
  rw[Bb,Bb,xc6 P l _ fun x hx=>h x (An _ hx),xO2 (h w (Au ..))]
def hasP (P:List (List Pr)) (p:Pl) (d:List UInt8):Prop:=0<=p.1/\ ∃l,P[p.1.toNat]? =some l/\(p.2,d)∈l
theorem xM8 {P:List (List Pr)} (h0:0<=w.p.1) (h8:w.p.1.toNat<P.length):hasP (doR w.p.1 P w) p d↔(p=w.p/\w.drop=false/\d=w.data)∨(p≠w.p/\hasP P p d):=by
 obtain⟨g,k⟩:=p
 obtain⟨⟨wg,wk⟩,wd,wb⟩:=w
 simp only at h0 h8
 unfold hasP doR xA3
 simp only
 rw[A7,A0 h8,Option.getD_some]
 by_cases e:g=wg
 .subst e
  rw[Ba h8,A0 h8]
  constructor
  .rintro⟨_,l,hl,hm⟩
   cases hl
   rcases insP_mem.1 hm with ⟨h1,h2⟩|⟨h1,h2⟩
   .cases h2;exact .inl ⟨rfl,h1,rfl⟩
   .exact .inr ⟨fun e=>h2 (by cases e;rfl),h0,_,rfl,h1⟩
  .rintro(⟨h1,h2,h3⟩|⟨h1,_,l,hl,hm⟩)
   .cases h1;exact⟨h0,_,rfl,insP_mem.2 (.inl ⟨h2,by rw[h3]⟩)⟩
   .cases hl
    exact⟨h0,_,rfl,insP_mem.2 (.inr ⟨hm,fun e=>h1 (by simp only at e;rw[e])⟩)⟩
 .constructor
  .rintro⟨hg,l,hl,hm⟩
   rw[Bu om]at hl
   exact .inr ⟨fun x=>e (by cases x;rfl),hg,l,hl,hm⟩
  .rintro(⟨h1,_⟩|⟨_,hg,l,hl,hm⟩)
   .exact absurd (by cases h1;rfl) e
   .exact⟨hg,l,by rw[Bu om];exact hl,hm⟩
theorem yK1 {p:Pl} {d:List UInt8}: ∀{ws:List Wr} {P:List (List Pr)},(∀w∈ws,0<=w.p.1/\w.p.1.toNat<P.length)->hasP (ws.foldl (fun P w=>doR w.p.1 P w) P) p d->(∃w∈ws,w.p=p/\w.drop=false/\d=w.data)∨((∀w∈ws,w.p≠p)/\hasP P p d)
 | [],P,_,h=> .inr ⟨fun w hw=>(by cases hw),h⟩
 |w::ws,P,hw,h=>by
  have aa:=hw w (Au ..)
  rw[Bb]at h
  rcases yK1 (fun x hx=>by rw[xc7];exact hw x (An _ hx)) h with ⟨x,hx,h1⟩|⟨h1,h2⟩
  .exact .inl ⟨x,An _ hx,h1⟩
  .rcases(xM8 aa.1 aa.2).1 h2 with ⟨h3,h4,h5⟩|⟨h3,h4⟩
   .exact .inl ⟨w,Au ..,h3.symm,h4,h5⟩
   .refine .inr ⟨fun x hx=> ?_,h4⟩
    rcases Ae.1 hx with rfl|hx
    .exact fun e=>h3 e.symm
    .exact h1 x hx
theorem xw5 {g:Int} {P:List (List Pr)} (h: ∀l∈P,zw9 l): ∀l∈doR g P w,zw9 l:=fun l hl=>by
 unfold doR at hl
 rcases Cq hl with hl|rfl
 .exact h l hl
 .refine ys5 _ _ _ ?_
  rw[A7]
  cases q:P[g.toNat]? with
  |none=>exact List.Pairwise.nil
  |some l=>exact h l (As q)
theorem yr8: ∀{ws:List Wr} {P:List (List Pr)},(∀l∈P,zw9 l)-> ∀l∈ws.foldl (fun P w=>doR w.p.1 P w) P,zw9 l
 | [],_,h=>h
 |w::ws,P,h=>by rw[Bb];exact yr8 (xw5 h)
theorem yr7: ∀(ws:List Wr) (P:List (List Pr)),(ws.foldl (fun P w=>doR w.p.1 P w) P).length=P.length
 | [],_=>rfl
 |w::ws,P=>by rw[Bb,yr7 ws,xc7]
def vsG:Nat->List (List Pr)->List Vw
 |_,[]=> []
 |i,l::P=>(i,l)::vsG (i+1) P
theorem yd3: ∀(i:Nat) (P:List (List Pr)),(vsG i P).length=P.length
 |_,[]=>rfl
 |i,l::P=>by rw[vsG,Ag,Ag,yd3]
theorem yd4: ∀{i:Nat} {P:List (List Pr)} {x:Vw},x∈vsG i P->i<=x.1/\x.1<i+P.length/\P[x.1 - i]? =some x.2
 |_,[],_,h=>by cases h
 |i,l::P,x,h=>by
  rw[vsG]at h
  rcases Ae.1 h with rfl|h
  .refine⟨A5 _,sm, ?_⟩
   simp
  .obtain⟨h1,h2,h3⟩:=yd4 h
   refine⟨om,by rw[Ag];omega, ?_⟩
   rw[show x.1 - i=(x.1 - (i+1))+1 by omega,Cz]
   exact h3
theorem yw5: ∀(i:Nat) (P:List (List Pr)),((vsG i P).map (·.1)).Nodup
 |_,[]=>D9
 |i,l::P=>by
  rw[vsG,Aj,C9]
  refine⟨fun h=> ?_,yw5 (i+1) P⟩
  obtain⟨x,hx,e⟩:=Ac.1 h
  have:=(yd4 hx).1
  simp only at e
  omega
theorem yd2: ∀(P:List (List Pr)) (i j:Nat),(vsG i P)[j]? =(P[j]?).map fun l=>(i+j,l)
 | [],_,_=>rfl
 |l::P,i,0=>rfl
 |l::P,i,j+1=>by
  rw[vsG,Cz,Cz,yd2 P (i+1) j]
  rw[show i+1+j=i+(j+1) by omega]
theorem yu3 {i:Nat} {P:List (List Pr)} {q:Pl×List UInt8} (h:q∈yA (vsG i P)):(i:Int)<=q.1.1/\P[q.1.1.toNat - i]? ≠none/\ ∀l,P[q.1.1.toNat - i]? =some l->(q.1.2,q.2)∈l:=by
 unfold yA at h
 obtain⟨x,hx,hq⟩:=Dr.1 h
 obtain⟨h1,h2,h3⟩:=yd4 hx
 obtain⟨y,hy,rfl⟩:=Ac.1 hq
 simp only
 rw[show((x.1:Int)).toNat=x.1 from Ay _,h3]
 exact⟨om,sm,fun l hl=>by cases hl;exact hy⟩
theorem yu2 {P:List (List Pr)} {q:Pl×List UInt8} (h:q∈yA (vsG 0 P)):hasP P q.1 q.2:=by
 obtain⟨h1,h2,h3⟩:=yu3 h
 rw[Nat.sub_zero]at h2 h3
 obtain⟨l,hl⟩:=Option.ne_none_iff_exists'.1 h2
 exact⟨om,l,hl,h3 l hl⟩
theorem yt6: ∀{P:List (List Pr)} {i g:Nat} {k d:List UInt8} {l:List Pr},P[g]? =some l->(k,d)∈l->((((i+g:Nat):Int),k),d)∈yA (vsG i P)
 | [],_,_,_,_,_,h,_=>by simp at h
 |m::P,i,0,k,d,l,h,hm=>by
  simp at h
  subst h
  rw[vsG,zr0]
  exact D3 _ (Ac.2 ⟨(k,d),hm,sm⟩)
 |m::P,i,g+1,k,d,l,h,hm=>by
  rw[Cz]at h
  rw[vsG,zr0]
  refine Ea _ ?_
  rw[show i+(g+1)=i+1+g by omega]
  exact yt6 h hm
theorem ys1 {P:List (List Pr)} (h:hasP P p d):(p,d)∈yA (vsG 0 P):=by
 obtain⟨h0,l,hl,hm⟩:=h
 have:=yt6 (i:=0) hl hm
 rw[Ad,Int.toNat_of_nonneg h0]at this
 exact this
theorem zE5: ∀{P:List (List Pr)} {i:Nat},(∀l∈P,zw9 l)->Rise ((yA (vsG i P)).map (·.1))
 | [],_,_=>List.Pairwise.nil
 |l::P,i,h=>by
  rw[vsG,zr0,Ca]
  refine Cd.2 ⟨?_,zE5 fun x hx=>h x (An _ hx),fun a ha b hb=> ?_⟩
  .unfold onF
   rw[Bk]
   refine C2.2 ((h l (Au ..)).imp fun{a b} aa=> ?_)
   simp[xB,aa]
  .obtain⟨x,hx,rfl⟩:=Ac.1 ha
   obtain⟨y,hy,rfl⟩:=Ac.1 hb
   obtain⟨z,hz,rfl⟩:=Ac.1 hx
   have:=(yu3 hy).1
   simp only[xB,Bv,decide_eq_true_eq]
   exact .inl om
theorem yj5: ∀{ps:List (Pl×List UInt8)} {s:List (Pl×List UInt8)×List Ln},((s.1++ps).map (·.1)).Nodup->(ps.foldl zv3 s).1=s.1++ps
 | [],s,_=>by simp
 |q::ps,s,h=>by
  have hq:(s.1.any fun e=>e.1==q.1)=false:=by
   cases e:s.1.any fun e=>e.1==q.1 with
   |false=>rfl
   |true=>
    obtain⟨x,hx,aa⟩:=Cn.1 e
    rw[Ca,Co]at h
    exact absurd (by simpa using aa) (h.2.2 x.1 (Ac.2 ⟨x,hx,rfl⟩) q.1 sm)
  have hs:(zv3 s q).1=s.1++ [q]:=by
   unfold zv3
   rw[if_neg (by rw[hq];decide)]
  rw[Bb,yj5 (by rw[hs];simpa using h),hs]
  simp
structure StI (n:Nat) (P:List (List Pr)):Prop where
 eight:P.length=8
 rise: ∀l∈P,zw9 l
 rows: ∀q∈yA (vsG 0 P),zq7 q.1.1 q.1.2 q.2=true
 len:(yA (vsG 0 P)).length<=n
theorem yU3 {data:List UInt8} (h:zq7 p.1 p.2 data=true):data.length<=20000:=by
 obtain⟨h1,h2⟩:=yP4 h
 obtain⟨tn,T,_,hT,hm⟩:=h1.tab
 have hL:=zB2 ((by decide: ∀T∈tabsS,T.cols.length<=20) T (As hT)) h1.ok hm
 have:=zV2 hL (rowF tabsS (ofS p.1).1 data).1.length
 rw[show zG0 (rowF tabsS (ofS p.1).1 data).1 (rowF tabsS (ofS p.1).1 data).1.length=data from h2]at this
 exact this
theorem wh6:StI 0 [[],[],[],[],[],[],[],[]]:=
 ⟨rfl,fun l hl=>by
  have:l= []:=by simpa using hl
  subst this;exact List.Pairwise.nil,fun q hq=>by simp[vsG,yA,onF]at hq,by simp[vsG,yA,onF]⟩
theorem StI.vs {P:List (List Pr)} (h:StI n P) (hn:n<=7500):(vsG 0 P).length=8/\(∀x∈vsG 0 P,x.1<1000/\x.2.length<=7500/\ ∀q∈x.2,q.2.length<=maxB)/\((vsG 0 P).map (·.1)).Nodup/\(yA (vsG 0 P)).length<=7500:=by
 refine⟨by rw[yd3];exact h.eight,fun x hx=> ?_,yw5 _ _,Ax h.len hn⟩
 obtain⟨h1,h2,h3⟩:=yd4 hx
 rw[h.eight]at h2
 refine⟨om, ?_,fun q hq=> ?_⟩
 .have:(onF x.1 x.2).Sublist (yA (vsG 0 P)):=by
   unfold yA
   obtain⟨A,B,e⟩:=List.append_of_mem hx
   rw[e,Ej,C1]
   exact(List.sublist_append_left _ _).trans (List.sublist_append_right _ _)
  have h4:=this.length_le
  have h5:(onF x.1 x.2).length=x.2.length:=by simp[onF]
  have:=h.len
  omega
 .have hm:(((x.1:Int),q.1),q.2)∈yA (vsG 0 P):=Dr.2 ⟨x,hx,Ac.2 ⟨q,hq,rfl⟩⟩
  have:=yU3 (p:=((x.1:Int),q.1)) (h.rows _ hm)
  exact Ax this dC
theorem StI.step {P:List (List Pr)} (h:StI n P) (hl:LOk lot):StI (n+240) (doP P (if(lotF lot (xN (vsG 0 P))).1.1≠0 then []else grpF (chgF (xN (vsG 0 P)) (lotF lot (xN (vsG 0 P))).2))):=by
 by_cases e0:(lotF lot (xN (vsG 0 P))).1.1≠0
 .rw[if_pos e0]
  exact⟨h.eight,h.rise,h.rows,by show(yA (vsG 0 P)).length<=_;have:=h.len;omega⟩
 rw[if_neg e0]
 obtain⟨m,hT⟩:=zI4 (vsG 0 P)
 have aj:((yA (vsG 0 P)).map (·.1)).Nodup:=(zE5 h.rise).nodup
 have af:((yA (vsG 0 P)).foldl zv3 ([],[])).1=yA (vsG 0 P):=by
  rw[yj5 (by simpa using aj)];rfl
 obtain⟨aa,hw⟩:=eX (xN (vsG 0 P))
 have ab:NowOk m.2.1 aa:=by rw[<-hw];exact hT.now
 have aq:LsK aa:=by rw[<-hw];exact fun x hx=>⟨hT.now.rows x hx,(hT.lines x hx).1⟩
 have a1:aa.length<=(yA (vsG 0 P)).length:=by rw[<-hw];exact hT.len
 have ag: ∀q∈yA (vsG 0 P),∃x∈aa,x.at=q.1/\yO x.v=q.2:=fun q hq=>by
  rw[<-hw]
  exact hT.rows q (by rw[af];exact hq) (h.rows q hq)
 rw[hw]at e0⊢
 obtain⟨now,hN⟩:=eX ((lotF lot aa).2)
 obtain⟨⟨b',ad⟩,hk,hlen⟩:=yB5 hl ab aq (by simpa using e0)
 rw[hN]at ad hk hlen⊢
 have ak:=xs8 ab.rows ad.rows ab.rise ad.rise rfl
 have ah:=(zQ5 ab.rise ad.rise).2
 unfold grpF
 rw[xc6 P _ [] (fun w hw=>by rcases ak w hw with h|h|h|h<;>omega)]
 show StI (n+240) ((chgF aa now).foldl (fun P w=>doR w.p.1 P w) P)
 have ae: ∀q∈yA (vsG 0 ((chgF aa now).foldl (fun P w=>doR w.p.1 P w) P)),∃x∈now,(x.at,yO x.v)=q:=fun q hq=>by
  rcases yK1 (fun w hw=>by rw[h.eight];rcases ak w hw with h|h|h|h<;>omega) (yu2 hq)with ⟨w,ar,h1,h2,h3⟩|⟨h1,h2⟩
  .rcases(ah w).1 ar with ⟨g1,_⟩|⟨_,x,hx,g2,g3,_⟩
   .rw[g1]at h2;cases h2
   .exact⟨x,hx,by rw[g2,h1,g3,<-h3]⟩
  .obtain⟨y,hy,al,au⟩:=ag q (ys1 h2)
   have av:atF now q.1=true:=by
    cases e:atF now q.1 with
    |true=>rfl
    |false=>exact absurd rfl (h1 ⟨q.1,true,[]⟩ ((ah _).2 (.inl ⟨rfl,rfl,⟨y,hy,al⟩,e⟩)))
   obtain⟨x,hx,ai⟩:=Ac.1 (atF_iff.1 av)
   by_cases e:yO x.v=q.2
   .exact⟨x,hx,by rw[ai,e]⟩
   .refine absurd ai (h1 ⟨x.at,false,yO x.v⟩ ((ah _).2 (.inr ⟨rfl,x,hx,rfl,rfl,fun z hz aw e2=>e ?_⟩)))
    have ax:z=y:=by
     have ay:=ab.rise.nodup
     obtain⟨i,hi,rfl⟩:=Dn hz
     obtain⟨j,hj,rfl⟩:=Dn hy
     have az:i=j:=by
      have h1:(aa.map Ln.at)[i]'(by simpa using hi)=(aa.map Ln.at)[j]'(by simpa using hj):=by
       rw[D7,D7,aw,ai,al]
      exact(Er ay).1 h1
     subst az;rfl
    rw[<-e2,ax,au]
 have an:=yr8 (ws:=chgF aa now) h.rise
 refine⟨by rw[yr7];exact h.eight,an,fun q hq=> ?_, ?_⟩
 .obtain⟨x,hx,rfl⟩:=ae q hq
  exact(hk x hx).2
 .have ao:(yA (vsG 0 ((chgF aa now).foldl (fun P w=>doR w.p.1 P w) P))).Nodup:=(C2.1 (zE5 an).nodup).imp fun h e=>h (congrArg _ e)
  have hle:=ao.length_le_of_subset (l₂:=now.map fun x=>(x.at,yO x.v)) fun q hq=>by
   obtain⟨x,hx,rfl⟩:=ae q hq
   exact Ac.2 ⟨x,hx,rfl⟩
  rw[B1]at hle
  have:=h.len
  omega
theorem xd1 {T:GTable} {row:List GValue}: ∀{l:List GExpr} {acc:List GValue},(evsX T row l acc).1.length<=acc.length+l.length
 | [],acc=>by rw[evsX];simp
 |e::l,acc=>by
  rw[evsX]
  split
  .exact A4 _
  .refine Ax xd1 ?_
   simp;omega
theorem yk3 {T:GTable} {l:List Ln}: ∀{xs:List GItem} {acc:List GValue},(zz2 T l xs acc).1.length<=acc.length+xs.length
 | [],acc=>by rw[zz2];simp
 |x::xs,acc=>by
  rw[zz2]
  split
  .split
   .exact A4 _
   .refine Ax yk3 ?_
    simp;omega
  .refine Ax yk3 ?_
   simp;omega
def RsOk (N:Nat) (rs:List (List GValue)):Prop:=rs.length<=N/\ ∀r∈rs,r.length<=100
theorem yO6 {T:GTable} {items:List GItem} (hi:items.length<=100): ∀{l:List Ln} {acc:List (List GValue)} {N:Nat},(∀x∈l,x.v.length<=100)->RsOk N acc->RsOk (N+l.length) (zs9 T items l acc).1
 | [],acc,N,_,h=>by rw[zs9];exact⟨by have:=h.1;simp;omega,h.2⟩
 |x::l,acc,N,hl,h=>by
  have aa: ∀y∈l,y.v.length<=100:=fun y hy=>hl y (An _ hy)
  have step: ∀r:List GValue,r.length<=100->RsOk (N+(x::l).length) (zs9 T items l (acc++ [r])).1:=fun r hr=>by
   have h2:RsOk (N+1) (acc++ [r]):=⟨by have:=h.1;simp;omega,fun y hy=>by
    rcases Av.1 hy with hy|hy
    .exact h.2 y hy
    .rw[Bl]at hy;rw[hy];exact hr⟩
   have h3:=yO6 hi aa h2 (T:=T)
   exact⟨by have:=h3.1;rw[Ag];omega,h3.2⟩
  rw[zs9]
  split
  .exact step _ (hl x (Au ..))
  .split
   .exact⟨A4 _,fun r hr=>by cases hr⟩
   .refine step _ (Ax xd1 ?_)
    simp;exact hi
theorem xS4 (hi:st.items.length<=100) (hl: ∀x∈l,x.v.length<=100):RsOk (1+l.length) (selF T st l).1.rows:=by
 have none_:RsOk (1+l.length) []:=⟨A4 _,fun r hr=>by cases hr⟩
 unfold selF
 split
 .split
  .exact none_
  .refine⟨sm,fun r hr=> ?_⟩
   rw[Bl]at hr
   rw[hr]
   refine Ax yk3 ?_
   simpa using hi
 .obtain⟨m,hm⟩:=eX (limF st.limit (if 0<=colF T st.order then zw4 (colF T st.order).toNat st.down l else l))
  rw[hm]
  simp only
  have aa:(∀x∈m,x∈l)/\m.length<=l.length:=by
   have h0: ∀k:List Ln,(∀x∈k,x∈l)/\k.length<=l.length->(∀x∈limF st.limit k,x∈l)/\(limF st.limit k).length<=l.length:=fun k hk=>by
    unfold limF
    split
    .exact⟨fun x hx=>hk.1 x (Bs hx),by rw[Bi];omega⟩
    .exact hk
   rw[<-hm]
   refine h0 _ ?_
   split
   .exact⟨fun x hx=>(zP7 _ _ _).mem_iff.1 hx,by rw[(zP7 _ _ _).length_eq];exact A5 _⟩
   .exact⟨fun x hx=>hx,A5 _⟩
  split
  .exact none_
  .have h:=yO6 (T:=T) hi (l:=m) (acc:= []) (N:=0) (fun x hx=>hl x (aa.1 x hx)) ⟨A5 _,fun r hr=>by cases hr⟩
   exact⟨by have:=h.1;have:=aa.2;simp only;omega,h.2⟩
theorem xw6 (aa:SOk st) (hl: ∀x∈l,x.v.length<=100):RsOk (1+l.length) (doS st l).1.rows:=by
 have none_:RsOk (1+l.length) []:=⟨A4 _,fun r hr=>by cases hr⟩
 unfold doS
 simp only
 split
 .split<;>exact none_
 split
 .exact none_
 split
 .have h:=xS4 (T:=tabsS.getD (yG st.table).toNat noT) (st:=st) (l:=(metF (yG st.table).toNat (tabsS.getD (yG st.table).toNat noT) st l).1) (by have:=aa.items.1;omega) (fun x hx=>hl x (zI6 x hx).1)
  have hlen:=yM7 (t:=((yG st.table).toNat:Int)) (T:=tabsS.getD (yG st.table).toNat noT) (st:=st) (l:=l)
  exact⟨Ax h.1 om,h.2⟩
 split
 .split<;>exact none_
 .exact none_
theorem yI7: ∀{ss:List GStmt} {i:Nat} {acc:List Ot} {b:Mp (List UInt8)} {l:List Ln} {N:Nat},(∀x∈ss,StOk x)->NowOk b l->l.length+20*ss.length<=N->(∀o∈acc,RsOk (1+N) o.rows)->(∀o∈(doL ss i acc l).1.2.2,RsOk (1+N) o.rows)/\(doL ss i acc l).1.2.2.length<=acc.length+ss.length
 | [],i,acc,b,l,N,_,_,_,ha=>by rw[doL];exact⟨ha,sm⟩
 |x::ss,i,acc,b,l,N,hs,hn,hN,ha=>by
  rw[doL]
  have hx:=hs x (Au ..)
  rw[Ag]at hN
  by_cases q:(doS x l).2.2≠0
  .rw[if_pos q];exact⟨fun o ho=>(by cases ho),A4 _⟩
  rw[if_neg q]
  obtain⟨b',ab⟩:=yy0 hx hn (by simpa using q)
  have hlen:=yx9 (st:=x) (l:=l)
  have hr:=hx.ok.rows.1
  have ho:=xw6 hx.ok (l:=l) (fun y hy=>by have:=(yh2 (hn.rows y hy)).2;omega)
  obtain⟨h1,h2⟩:=yI7 (i:=i+1) (acc:=acc++ [(doS x l).1]) (N:=N) (fun y hy=>hs y (An _ hy)) ab om (fun o aa=>by
   rcases Av.1 aa with aa|aa
   .exact ha o aa
   .rw[Bl]at aa;subst aa;exact⟨by have:=ho.1;omega,ho.2⟩)
  exact⟨h1,by rw[Ak,Bn]at h2;rw[Ag];omega⟩
theorem xo1 (hl:LOk lot) (hn:NowOk b l) (hlen:l.length<=7500):(lotF lot l).1.2.2.length<=100000/\ ∀x∈(lotF lot l).1.2.2,x.rows.length<=100000/\ ∀r∈x.rows,r.length<=100000:=by
 have aa:=hl.stmts.1
 unfold lotF
 by_cases q:(zn5 lot).2≠0
 .rw[if_pos q];exact⟨A4 _,fun x hx=>by cases hx⟩
 rw[if_neg q]
 obtain⟨h1,h2⟩:=yI7 (ss:=lot.stmts) (i:=0) (acc:= []) (N:=10000) (zI9 hl (by simpa using q)) hn om (fun o ho=>by cases ho)
 have h3:(doL lot.stmts 0 [] l).1.2.2.length<=100000/\ ∀x∈(doL lot.stmts 0 [] l).1.2.2,x.rows.length<=100000/\ ∀r∈x.rows,r.length<=100000:=
  ⟨by simp at h2;omega,fun x hx=>⟨by have:=(h1 x hx).1;omega,fun r hr=>by have:=(h1 x hx).2 r hr;omega⟩⟩
 split<;>exact h3
theorem xO3 {N:Nat} {out:List (Int×List Wr)} (h:out.length<=N/\ ∀q∈out,q.2.length<=N):(grpS out w).length<=N+1/\ ∀q∈grpS out w,q.2.length<=N+1:=by
 unfold grpS
 cases e:out.getLast? with
 |none=>exact⟨sm,fun q hq=>by rw[Bl]at hq;rw[hq];simp⟩
 |some p=>
  have hp:=h.2 p (List.mem_of_getLast? e)
  simp only
  split
  .refine⟨by have:=h.1;simp;omega,fun q hq=> ?_⟩
   rcases Av.1 hq with hq|hq
   .have:=h.2 q (List.dropLast_subset _ hq);omega
   .rw[Bl]at hq;rw[hq];simp;exact hp
  .refine⟨by have:=h.1;simp;omega,fun q hq=> ?_⟩
   rcases Av.1 hq with hq|hq
   .have:=h.2 q hq;omega
   .rw[Bl]at hq;rw[hq];simp
theorem xd8: ∀{l:List Wr} {out:List (Int×List Wr)} {N:Nat},out.length<=N/\(∀q∈out,q.2.length<=N)->(l.foldl grpS out).length<=N+l.length/\ ∀q∈l.foldl grpS out,q.2.length<=N+l.length
 | [],out,N,h=>⟨by have:=h.1;simpa using this,fun q hq=>by have:=h.2 q hq;simpa using this⟩
 |w::l,out,N,h=>by
  have h2:=xd8 (l:=l) (xO3 (w:=w) h)
  rw[Bb,Ag]
  exact⟨by have:=h2.1;omega,fun q hq=>by have:=h2.2 q hq;omega⟩
theorem xv5 (aa now:List Ln):(chgF aa now).length<=aa.length+now.length:=by
 have hf: ∀(f:Ln->Wr) (m:List Ln) (l:List Wr),(m.foldl (fun l x=>insW l (f x)) l).length=l.length+m.length:=fun f m=>by
  induction m with
  |nil=>intro l;simp
  |cons x m ih=>intro l;rw[Bb,ih,(zV9 _ _).length_eq,Ag,Ag];omega
 unfold chgF
 rw[hf (fun x=>⟨x.at,false,yO x.v⟩),hf (fun x=>⟨x.at,true,[]⟩)]
 have h1:=Bo (fun x=> !(aa.any fun y=>decide (y.at=x.at)&&decide (yO y.v=yO x.v))) now
 have h2:=Bo (fun x:Ln=> !atF now x.at) aa
 simp only[Dp]
 omega
def zr1 (lot:GLot) (was:List Ln):List (Int×List Wr):=if(lotF lot was).1.1≠0 then []else grpF (chgF was (lotF lot was).2)
theorem xF0 (hl:LOk lot) (hn:NowOk b l) (hk:LsK l) (hlen:l.length<=7500):(zr1 lot l).length<=100000/\ ∀q∈zr1 lot l,q.2.length<=100000:=by
 unfold zr1
 by_cases q:(lotF lot l).1.1≠0
 .rw[if_pos q];exact⟨A4 _,fun x hx=>by cases hx⟩
 rw[if_neg q]
 obtain⟨_,_,h⟩:=yB5 hl hn hk (by simpa using q)
 have h2:=xv5 l (lotF lot l).2
 have h3:=xd8 (l:=chgF l (lotF lot l).2) (out:= []) (N:=0) ⟨A5 _,fun q hq=>by cases hq⟩
 unfold grpF
 exact⟨by have:=h3.1;omega,fun q hq=>by have:=h3.2 q hq;omega⟩
section
variable {c:Pl->Bool}
variable {l:List Ln}{st:GStmt}
theorem yu9 {m:List Ln} (h:Rise (l.map Ln.at)) (g:Rise (m.map Ln.at)) (hp:l.Perm m):l=m:=
 hp.eq_of_pairwise (fun a b _ _ h g=>by rw[zO6 h]at g;cases g) (C2.1 h) (C2.1 g)
theorem zB5 (h:Rise (l.map Ln.at)) (f:Ln->Bool):Rise ((l.filter f).map Ln.at):=List.Pairwise.sublist (C5.map _) h
theorem yT4 {p:Pl} (h:c p=true):atF (l.filter fun x=>c x.at) p=atF l p:=by
 unfold atF
 rw[List.any_filter]
 congr 1;funext x
 by_cases e:x.at=p
 .subst e;simp[h]
 .simp[e]
theorem xJ9 {x:Ln} (hr:Rise (l.map Ln.at)) (hx:c x.at=true) (hn:atF l x.at=false):zC5 (l.filter fun x=>c x.at) x=(zC5 l x).filter fun x=>c x.at:=by
 refine yu9 (zF6 (zB5 hr _) (by rw[yT4 hx];exact hn)) (zB5 (zF6 hr hn) _) ((zd7 _ _).trans ?_)
 have:=(zd7 l x).filter fun x=>c x.at
 rw[Ck,if_pos (by simpa using hx)]at this
 exact this.symm
theorem xs7 {x:Ln} (hx:c x.at=false):(zC5 l x).filter (fun x=>c x.at)=l.filter fun x=>c x.at:=by
 unfold zC5
 rw[Dd,Ck,if_neg (by rw[hx];decide),<-Dd,Ce]
theorem xR2 (l:List Ln) (p:Pl) (row:List GValue):putF (l.filter fun x=>c x.at) p row=(putF l p row).filter fun x=>c x.at:=by
 unfold putF
 rw[List.filter_map]
 congr 2;funext x
 simp only[Function.comp]
 split<;>rfl
theorem xE7 {p:Pl} {row:List GValue} (h:c p=false):(putF l p row).filter (fun x=>c x.at)=l.filter fun x=>c x.at:=by
 unfold putF
 induction l with
 |nil=>rfl
 |cons x l ih=>
  rw[Aj,Ck,Ck,ih]
  by_cases e:x.at=p
  .have e2:c x.at=false:=by rw[e];exact h
   rw[if_pos e,if_neg (by rw[show(Ln.mk x.r x.k row).at=x.at from rfl,e2];decide),if_neg (by rw[e2];decide)]
  .rw[if_neg e]
theorem xk1 {T:GTable} {sets:List GAssign}: ∀{m l:List Ln},updF T sets m (l.filter fun x=>c x.at)=((updF T sets m l).1.filter fun x=>c x.at,(updF T sets m l).2)
 | [],l=>rfl
 |x::m,l=>by
  rw[updF,updF,xR2,xk1]
  split
  .rfl
  split<;>rfl
theorem yR5 {T:GTable} {sets:List GAssign}: ∀{m l:List Ln},(∀x∈m,c x.at=false)->(updF T sets m l).2=0->(updF T sets m l).1.filter (fun x=>c x.at)=l.filter fun x=>c x.at
 | [],l,_,_=>rfl
 |x::m,l,h,he=>by
  rw[updF]at he⊢
  by_cases q1:(setF T x.v sets x.v).2≠0
  .rw[if_pos q1]at he;exact absurd he q1
  rw[if_neg q1]at he⊢
  by_cases q2:mayT T.cols (setF T x.v sets x.v).1≠0
  .rw[if_pos q2]at he;exact absurd he q2
  rw[if_neg q2]at he⊢
  rw[yR5 (fun y hy=>h y (An _ hy)) he,xE7 (h x (Au ..))]
theorem xc4: ∀{m l:List Ln},delF m (l.filter fun x=>c x.at)=(delF m l).filter fun x=>c x.at
 | [],l=>rfl
 |x::m,l=>by rw[delF,delF,<-xc4,E9,E9];congr 2;funext y;exact Bool.and_comm ..
theorem yI4: ∀{m l:List Ln},(∀x∈m,c x.at=false)->(delF m l).filter (fun x=>c x.at)=l.filter fun x=>c x.at
 | [],l,_=>rfl
 |x::m,l,h=>by
  rw[delF,yI4 fun y hy=>h y (An _ hy),E9]
  refine Ed fun y _=> ?_
  by_cases e:y.at=x.at
  .rw[e,h x (Au ..)];rfl
  .simp[e]
def xe1 (tn:Nat) (T:GTable) (r:List GExpr) (p:Pl):Prop:=(evsX noT [] r []).2=0/\keyS tn T (evsX noT [] r []).1=(p.1,p.2,0)
theorem xe0 {tn:Nat} {T:GTable}: ∀{rs:List (List GExpr)} {l:List Ln},(∀r∈rs,∀p,xe1 tn T r p->c p=true)->Rise (l.map Ln.at)->insF tn T rs (l.filter fun x=>c x.at)=((insF tn T rs l).1.filter fun x=>c x.at,(insF tn T rs l).2)
 | [],l,_,_=>rfl
 |r::rs,l,h,hr=>by
  rw[insF,insF]
  by_cases q1:(evsX noT [] r []).2≠0
  .rw[if_pos q1,if_pos q1];rfl
  rw[if_neg q1,if_neg q1]
  by_cases q2:(keyS tn T (evsX noT [] r []).1).2.2≠0
  .rw[if_pos q2,if_pos q2];rfl
  rw[if_neg q2,if_neg q2]
  have hc:=h r (Au ..) ((keyS tn T (evsX noT [] r []).1).1,(keyS tn T (evsX noT [] r []).1).2.1) ⟨by simpa using q1,Et rfl (Et rfl (by simpa using q2))⟩
  rw[yT4 hc]
  by_cases q3:atF l ((keyS tn T (evsX noT [] r []).1).1,(keyS tn T (evsX noT [] r []).1).2.1)=true
  .rw[if_pos q3,if_pos q3];rfl
  have aa:atF l ((keyS tn T (evsX noT [] r []).1).1,(keyS tn T (evsX noT [] r []).1).2.1)=false:=by simpa using q3
  obtain⟨y,hy⟩: ∃y:Ln,(⟨(keyS tn T (evsX noT [] r []).1).1,(keyS tn T (evsX noT [] r []).1).2.1,(evsX noT [] r []).1⟩:Ln)=y:=⟨_,rfl⟩
  have ab:y.at=((keyS tn T (evsX noT [] r []).1).1,(keyS tn T (evsX noT [] r []).1).2.1):=by rw[<-hy];rfl
  rw[<-ab]at aa hc
  rw[if_neg q3,if_neg q3,hy,xJ9 hr hc aa]
  exact xe0 (fun x hx=>h x (An _ hx)) (zF6 hr aa)
theorem yK8 {tn:Nat} {T:GTable}: ∀{rs:List (List GExpr)} {l:List Ln},(∀r∈rs,∀p,xe1 tn T r p->c p=false)->(insF tn T rs l).2=0->(insF tn T rs l).1.filter (fun x=>c x.at)=l.filter fun x=>c x.at
 | [],l,_,_=>rfl
 |r::rs,l,h,he=>by
  rw[insF]at he⊢
  by_cases q1:(evsX noT [] r []).2≠0
  .rw[if_pos q1]at he;exact absurd he q1
  rw[if_neg q1]at he⊢
  by_cases q2:(keyS tn T (evsX noT [] r []).1).2.2≠0
  .rw[if_pos q2]at he;exact absurd he q2
  rw[if_neg q2]at he⊢
  have hc:=h r (Au ..) ((keyS tn T (evsX noT [] r []).1).1,(keyS tn T (evsX noT [] r []).1).2.1) ⟨by simpa using q1,Et rfl (Et rfl (by simpa using q2))⟩
  by_cases q3:atF l ((keyS tn T (evsX noT [] r []).1).1,(keyS tn T (evsX noT [] r []).1).2.1)=true
  .rw[if_pos q3]at he;cases he
  rw[if_neg q3]at he⊢
  rw[yK8 (fun x hx=>h x (An _ hx)) he,xs7 hc]
structure Cv (c:Pl->Bool) (st:GStmt):Prop where
 box:st.kind≠2-> ∀x,zi8 (yG st.table).toNat st x=true->c x.at=true
 ins:st.kind=2-> ∀r∈st.rows,∀p,xe1 (yG st.table).toNat (tabsS.getD (yG st.table).toNat noT) r p->c p=true
theorem xQ0 {t:Int} {T:GTable} (h: ∀x,zi8 t st x=true->c x.at=true):metF t T st (l.filter fun x=>c x.at)=metF t T st l:=by
 unfold metF
 rw[E9,show(fun x=>zi8 t st x&&c x.at)=zi8 t st from funext fun x=>by
  cases e:zi8 t st x
  .rfl
  .rw[h x e];rfl]
theorem xZ5 (h:Cv c st) (hr:Rise (l.map Ln.at)):doS st (l.filter fun x=>c x.at)=((doS st l).1,(doS st l).2.1.filter fun x=>c x.at,(doS st l).2.2):=by
 unfold doS
 simp only
 by_cases k2:st.kind=2
 .rw[if_pos k2,if_pos k2,xe0 (h.ins k2) hr]
  simp only
  split<;>rfl
 rw[if_neg k2,if_neg k2,xQ0 (h.box k2)]
 split
 .rfl
 split
 .rfl
 split
 .rw[xk1]
  simp only
  split<;>rfl
 .rw[xc4]
theorem xM9 (h:Cv c st) (he:(doS st l).2.2=0):(doS st l).2.1.filter (fun x=> !c x.at)=l.filter fun x=> !c x.at:=by
 unfold doS at he⊢
 simp only at he⊢
 by_cases k2:st.kind=2
 .rw[if_pos k2]at he⊢
  by_cases q:(insF (yG st.table).toNat (tabsS.getD (yG st.table).toNat noT) st.rows l).2≠0
  .rw[if_pos q]at he;exact absurd he q
  rw[if_neg q]
  exact yK8 (c:=fun p=> !c p) (fun r hr p hp=>by rw[h.ins k2 r hr p hp];rfl) (by simpa using q)
 rw[if_neg k2]at he⊢
 by_cases q:(metF (yG st.table).toNat (tabsS.getD (yG st.table).toNat noT) st l).2≠0
 .rw[if_pos q]at he;exact absurd he q
 rw[if_neg q]at he⊢
 have hm: ∀x∈(metF (yG st.table).toNat (tabsS.getD (yG st.table).toNat noT) st l).1,(!c x.at)=false:=fun x hx=>by rw[h.box k2 x (zI6 x hx).2];rfl
 split at he
 .split
  .rfl
  .contradiction
 rename_i k1
 rw[if_neg k1]
 by_cases k3:st.kind=3
 .rw[if_pos k3]at he⊢
  by_cases q:(updF (tabsS.getD (yG st.table).toNat noT) st.sets (metF (yG st.table).toNat (tabsS.getD (yG st.table).toNat noT) st l).1 l).2≠0
  .rw[if_pos q]at he;exact absurd he q
  rw[if_neg q]
  exact yR5 (c:=fun p=> !c p) hm (by simpa using q)
 .rw[if_neg k3]
  exact yI4 (c:=fun p=> !c p) hm
theorem xw4: ∀{ss:List GStmt} {i:Nat} {acc:List Ot} {b:Mp (List UInt8)} {l:List Ln},(∀st∈ss,StOk st/\Cv c st)->NowOk b l->doL ss i acc (l.filter fun x=>c x.at)=((doL ss i acc l).1,(doL ss i acc l).2.filter fun x=>c x.at)
 | [],_,_,_,_,_,_=>rfl
 |x::ss,i,acc,b,l,h,hn=>by
  obtain⟨hx,hc⟩:=h x (Au ..)
  rw[doL,doL,xZ5 hc hn.rise]
  simp only
  by_cases q:(doS x l).2.2≠0
  .rw[if_pos q,if_pos q];rfl
  rw[if_neg q,if_neg q]
  obtain⟨b',aa⟩:=yy0 hx hn (by simpa using q)
  exact xw4 (fun y hy=>h y (An _ hy)) aa
theorem xc5: ∀{ss:List GStmt} {i:Nat} {acc:List Ot} {l:List Ln},(∀st∈ss,Cv c st)->(doL ss i acc l).1.1=0->(doL ss i acc l).2.filter (fun x=> !c x.at)=l.filter fun x=> !c x.at
 | [],_,_,_,_,_=>rfl
 |x::ss,i,acc,l,h,he=>by
  rw[doL]at he⊢
  by_cases q:(doS x l).2.2≠0
  .rw[if_pos q]at he;exact absurd he q
  rw[if_neg q]at he⊢
  rw[xc5 (fun y hy=>h y (An _ hy)) he,xM9 (h x (Au ..)) (by simpa using q)]
theorem xM1 {aa now:List Ln} (hw:Rise (aa.map Ln.at)) (hn:Rise (now.map Ln.at)) (h:now.filter (fun x=> !c x.at)=aa.filter fun x=> !c x.at):chgF (aa.filter fun x=>c x.at) (now.filter fun x=>c x.at)=chgF aa now:=by
 obtain⟨a1,a2⟩:=zQ5 (zB5 hw fun x=>c x.at) (zB5 hn fun x=>c x.at)
 obtain⟨b1,b2⟩:=zQ5 hw hn
 refine yj2 a1 b1 fun w=>(a2 w).trans (Iff.trans ?_ (b2 w).symm)
 have side: ∀x:Ln,c x.at=false->(x∈aa↔x∈now):=fun x hx=>by
  have h1:x∈now.filter (fun x=> !c x.at)↔x∈aa.filter fun x=> !c x.at:=by rw[h]
  rw[Aw,Aw,hx]at h1
  simpa using h1.symm
 unfold isW
 cases e:c w.p with
 |true=>
  rw[yT4 e]
  refine or_congr (and_congr_right fun _=>and_congr_right fun _=>and_congr_left fun _=> ?_) (and_congr_right fun _=> ?_)
  .exact⟨fun⟨x,h1,h2⟩=>⟨x,(Aw.1 h1).1,h2⟩,fun⟨x,h1,h2⟩=>⟨x,Aw.2 ⟨h1,by rw[h2];exact e⟩,h2⟩⟩
  .constructor
   .rintro⟨x,h1,h2,h3,h4⟩
    exact⟨x,(Aw.1 h1).1,h2,h3,fun y hy h5=>h4 y (Aw.2 ⟨hy,by rw[h5,h2];exact e⟩) h5⟩
   .rintro⟨x,h1,h2,h3,h4⟩
    exact⟨x,Aw.2 ⟨h1,by rw[h2];exact e⟩,h2,h3,fun y hy h5=>h4 y (Aw.1 hy).1 h5⟩
 |false=>
  constructor
  .rintro(⟨_,_,⟨x,h1,h2⟩,_⟩|⟨_,x,h1,h2,_⟩)
   .have:=(Aw.1 h1).2;rw[h2,e]at this;cases this
   .have:=(Aw.1 h1).2;rw[h2,e]at this;cases this
  .rintro(⟨_,_,⟨x,h1,h2⟩,h3⟩|⟨_,x,h1,h2,_,h4⟩)
   .have:=atF_iff.2 (Ac.2 ⟨x,(side x (by rw[h2];exact e)).1 h1,h2⟩)
    rw[h3]at this;cases this
   .exact absurd rfl (h4 x ((side x (by rw[h2];exact e)).2 h1) rfl)
theorem xP7 {lot:GLot} (hl:LOk lot) {b:Mp (List UInt8)} (hn:NowOk b l) (hk:LsK l) (h:(zn5 lot).2=0-> ∀st∈lot.stmts,Cv c st):(lotF lot (l.filter fun x=>c x.at)).1=(lotF lot l).1/\zr1 lot (l.filter fun x=>c x.at)=zr1 lot l:=by
 have h1:lotF lot (l.filter fun x=>c x.at)=((lotF lot l).1,(lotF lot l).2.filter fun x=>c x.at):=by
  unfold lotF
  by_cases q:(zn5 lot).2≠0
  .rw[if_pos q,if_pos q]
  have q0:(zn5 lot).2=0:=by simpa using q
  rw[if_neg q,if_neg q,xw4 (fun st aa=>⟨zI9 hl q0 st aa,h q0 st aa⟩) hn]
  split<;>rfl
 refine⟨by rw[h1], ?_⟩
 unfold zr1
 rw[h1]
 by_cases q:(lotF lot l).1.1≠0
 .rw[if_pos q,if_pos q]
 rw[if_neg q,if_neg q]
 obtain⟨⟨b',ab⟩,_,_⟩:=yB5 hl hn hk (by simpa using q)
 refine congrArg grpF (xM1 hn.rise ab.rise ?_)
 unfold lotF at q⊢
 by_cases q1:(zn5 lot).2≠0
 .rw[if_pos q1]at q;exact absurd q1 q
 rw[if_neg q1]at q⊢
 by_cases q2:(doL lot.stmts 0 [] l).1.1≠0
 .rw[if_pos q2]at q;exact absurd q2 q
 rw[if_neg q2]
 exact xc5 (h (by simpa using q1)) (by simpa using q2)
end
end Go.Proofs.YtefbicjgbaaieaaGreat
