/-
  The law's store: All and Do, over trees; used by the theorems at the end of the Exec claims.
  Conditions: as each theorem states them.
-/
import Derived.Test.YtefbicjgbaaieaaGreatPAX
import Derived.Test.YtefbicjgbaaieaaGreatPAU
import Derived.Test.YtefbicjgbaaieaaGreatPAT
import Derived.Test.YtefbicjgbaaieaaGreatPAS
set_option maxHeartbeats 8000000
namespace Go.Proofs.YtefbicjgbaaieaaGreat
open Go Go.Vx R Go.Proofs.Tryz
set_option maxRecDepth 100000
variable {b:Mp (List UInt8)}{lot:GLot}{l:List Ln}{n:Nat}{w:Wr}{st:GStmt}{a:Mp (List UInt8)}{sn:Mp Int}{tn:Nat}{T:GTable}{d:List UInt8}{p:Pl}
theorem yJ8 {T:GTable}: ∀{l p:List GAssign},zr3 T p l=0-> ∀x∈l,0<=colF T x.name
 | [],_,_,x,hx=>by cases hx
 |y::l,p,h,x,hx=>by
  rw[zr3]at h
  by_cases q1:colF T y.name<0
  .rw[if_pos q1]at h;cases h
  rw[if_neg q1]at h
  by_cases q2:colF T y.name=T.key∨(colF T y.name=0/\T.place=0)
  .rw[if_pos q2]at h;cases h
  rw[if_neg q2]at h
  by_cases q3:(p.any fun z=>z.name==y.name)=true
  .rw[if_pos q3]at h;cases h
  rw[if_neg q3]at h
  by_cases q4:zv3 T y.e (colK T (colF T y.name))≠0
  .rw[if_pos q4]at h;exact absurd h q4
  rw[if_neg q4]at h
  rcases Ak.1 hx with rfl|hx
  .omega
  .exact yJ8 h x hx
theorem zS5 {mode:Int}: ∀{l:List GStmt} {i:Nat},(zM3 mode l i).2=0-> ∀z∈l,zo8 z=0
 | [],_,_,z,h=>by cases h
 |y::l,i,h,z,hx=>by
  rw[zM3]at h
  by_cases q1:mode≠0/\y.kind≠1
  .rw[if_pos q1]at h;cases h
  rw[if_neg q1]at h
  by_cases q2:zo8 y≠0
  .rw[if_pos q2]at h;exact absurd h q2
  rw[if_neg q2]at h
  rcases Ak.1 hx with rfl|hx
  .simpa using q2
  .exact zS5 h z hx
theorem yI3 (hl:LOk lot) (h:(zy4 lot).2=0): ∀st∈lot.stmts,StOk st:=by
 unfold zy4 at h
 by_cases q:mayL lot=true
 rotate_left
 .rw[if_neg q]at h;cases h
 rw[if_pos q]at h
 intro st aa
 have hc:=zS5 h st aa
 have ab:=hl.stmts.2 st aa
 have hm:mayS st=true:=by
  unfold mayL at q
  rw[A8,Aj]at q
  exact q.2 st aa
 unfold zo8 at hc
 have ad:=zX3 st.table
 have hT: ∃T,tabsS[(zd9 st.table).toNat]? =some T:=by
  rcases ad with h|h
  .exact⟨_,A4 (show(zd9 st.table).toNat<tabsS.length by have:tabsS.length=3:=rfl;omega)⟩
  .exact⟨_,A4 (show(zd9 st.table).toNat<tabsS.length by have:tabsS.length=3:=rfl;omega)⟩
 obtain⟨T,hT⟩:=hT
 rw[hT]at hc
 simp only at hc
 have h0:0<=zd9 st.table:=by
  by_cases q:zd9 st.table<0
  .rw[if_pos q]at hc;cases hc
  .omega
 rw[if_neg om]at hc
 refine⟨ab,xA3 ab.where_.good,h0,fun k1=> ?_,fun k3=> ?_⟩
 .unfold mayS at hm
  rw[A8,A8]at hm
  have hb:=hm.2.2
  unfold xn6 at hb
  rw[if_pos k1,A8]at hb
  intro he
  rw[he]at hb
  exact absurd hb.1 dc
 .rw[A9,hT]
  rw[if_neg om,if_neg om,if_pos k3]at hc
  by_cases q:zr3 T [] st.sets≠0
  .rw[if_pos q]at hc;exact absurd hc q
  .exact yJ8 (by simpa using q)
theorem xl5 (l:List Ln) (x:Ln):(zR7 l x).length=l.length+1:=(zi2 l x).length_eq
theorem yE7 {t:Nat} {T:GTable}: ∀{rs:List (List GExpr)} {l:List Ln},(insF t T rs l).1.length<=l.length+rs.length
 | [],l=>by rw[insF];simp
 |r::rs,l=>by
  rw[insF]
  split
  .simp
  split
  .simp
  split
  .simp
  refine B2 yE7 ?_
  rw[xl5,Al];omega
theorem yL5 {T:GTable} {sets:List GAssign}: ∀{m l:List Ln},(updF T sets m l).1.length<=l.length
 | [],l=>A6 _
 |x::m,l=>by
  rw[updF]
  split
  .exact A7 _
  split
  .exact A7 _
  refine B2 yL5 ?_
  unfold putF
  rw[Aw]
  exact A6 _
theorem yC8: ∀{m l:List Ln},(delF m l).length<=l.length
 | [],l=>A6 _
 |x::m,l=>by
  rw[delF]
  exact B2 yC8 (Bl _ _)
theorem yW5:(doS st l).2.1.length<=l.length+st.rows.length:=by
 unfold doS
 simp only
 split
 .split
  .simp
  .exact yE7
 split
 .simp
 split
 .simp
 split
 .split
  .simp
  .exact B2 yL5 om
 .exact B2 yC8 om
abbrev Vw:=Nat×List (List UInt8×List UInt8)
def prR (q:List UInt8×List UInt8):List V:= [.str q.1,.str q.2]
def vwR (x:Vw):List V:= [.int .i64 x.1,.sl .ro (x.2.map prR)]
def onF (g:Nat) (l:List (List UInt8×List UInt8)):List (Pl×List UInt8):=l.map fun q=>(((g:Int),q.1),q.2)
def yL (vs:List Vw):List (Pl×List UInt8):=vs.flatMap fun x=>onF x.1 x.2
def wU (vs:List Vw):List Ln:=((yL vs).foldl zy1 ([],[])).2
theorem zy3 (x:Vw) (vs:List Vw):yL (x::vs)=onF x.1 x.2++yL vs:=by unfold yL;rw[Bq]
theorem TkI.now_none {s:List (Pl×List UInt8)×List Ln} (h:TkI n s (a,b,sn)) (p:Pl) (h0:sn.at p=none):a.at p=none/\b.at p=none:=by
 have h1:=(h.seen p).1 (get_isNone.2 h0)
 have hb:b.at p=none:=by
  rw[h.now.at_none]
  cases e:atF s.2 p with
  |false=>rfl
  |true=>
   obtain⟨x,hx,aa⟩:=Ag.1 (atF_iff.1 e)
   have:(s.1.any fun e=>e.1==p)=true:=Dd.2 ⟨_,(h.lines x hx).2,by simp[aa]⟩
   rw[this]at h1;cases h1
 exact⟨by rw[show a=b from h.same];exact hb,hb⟩
theorem TkI.pos {s:List (Pl×List UInt8)×List Ln} (h:TkI n s (a,b,sn)) (hn:n<=1000000) (p:Pl) (i:Nat) (v:Int) (h0:sn.at p=some (i,v)):1<=v/\v<=1000000:=by
 have:=h.cnt p v (by show(sn.at p).map (·.2)=some v;rw[h0];rfl)
 omega
theorem yM3 {P:Program} {c:Ctx} {n0:Kp} {σ:St} (k:Nat) {f:FuncId} {caps args args':List V} {σin:St} {v:V} {KV:V->St->Prop} (hc:VCalls P f args' σin (fun r s=>r=v/\s=σin)) (hb:wC P f=true) (hk:σ.take k=σin) (hl:σin.length=k) (hok:σin.all (ltOb k)=true) (hv:ltS k v=true)
  (hn: ∀i,i<k->n0.has i=true) (aa: ∀N,All2 (argS (ren (List.range k) N)) args' (args++caps)) (hK:KV v σ):wVD P c n0 1 (.fn f caps) args σ KV fx:=by
 refine⟨v,σ, ?_,fun _=>rfl,fun _=>KeepN.refl,A6 _,hK⟩
 rw[if_neg dc,if_pos rfl]
 intro s hs
 have ab:s.take k=σin:=by
  rw[<-hk]
  refine C7 fun i=> ?_
  rw[Ai,Ai]
  by_cases q:i<k
  .rw[if_pos q,if_pos q];exact Kp.get (hn i q) hs
  .rw[if_neg q,if_neg q]
 refine ze1 (P:=P) (c:=c) (KV:=fun r s'=>r=v/\s'=s) k hc hb ab hl hok (aa _) ?_ ?_
 .rintro r s' ⟨rfl,rfl⟩
  exact⟨hl,hok,hv⟩
 .rintro r s' ⟨rfl,rfl⟩
  exact⟨rfl,by rw[<-ab];exact Bv k s⟩
theorem yy2 (n:Nat) (h:3<=n) {τ:St} (hR:τ.all (ltOb n)=true):(runS a b sn++τ).all (ltOb n)=true:=by
 rw[Ei,xJ n h,hR];rfl
def ansR (x:Int×Int×List Ot):List V:= [.int .i64 x.1,.int .i64 x.2.1,.sl .ro (x.2.2.map Ot.row)]
def runV (lot:GLot) (was:List Ln):V:= .tup [.agg (ansR (lotF lot was).1),.sl .ro ((if(lotF lot was).1.1≠0 then []else grpF (chgF was (lotF lot was).2)).map putR)]
def schO:Ob:= .box [.sl .ro xX,.sl .ro (tabsS.map GTable.row)]
theorem xy1 (lot:GLot) (hl:LOk lot) (vs:List Vw) (aC:vs.length<=100000) (hv: ∀x∈vs,x.1<1000/\x.2.length<=100000/\ ∀q∈x.2,q.2.length<=maxB) (hN:(yL vs).length<=7500):
  Pure prog 21 [schR tabsS,.agg lot.row,.sl .ro (vs.map vwR)] (runV lot (wU vs)):=by
 have ad:=yI4 lot hl
 obtain⟨aD,au⟩:=hl.stmts
 have ah:=yI3 hl
 obtain⟨⟨ci,cr⟩,hP⟩: ∃P,zy4 lot=P:=⟨_,rfl⟩
 rw[hP]at ad ah
 generalize hM:runV lot (wU vs)=M
 unfold runV lotF at hM
 rw[hP]at hM
 simp only at hM ah
 refine iV 0 func21 ntmps21 results21 fun c hc hb=> ?_
 refine zP (zA ?_)
 simp[go_sem,schR]
 refine zP (zA ?_)
 simp[go_sem]
 refine zM ad cB (zO (by simp[go_sem,schR]) rfl) rfl ?_
 simp[go_sem,wB]
 by_cases c0:cr=0
 rotate_left
 .have aq:(cr !=0)=true:=by simpa using c0
  rw[if_pos c0]at hM
  simp[go_sem,aq]
  have aE:M= .tup [.agg [.int .i64 cr,.int .i64 ci,.sl .ro []],.sl .ro []]:=by rw[<-hM];simp[c0,ansR]
  exact wW (r:=M) (by rw[aE];exact xT ⟨zc9 ⟨zU rfl,zU rfl,yS,tV⟩,zt3,tV⟩) ⟨rfl,rfl⟩
 have aq:(cr !=0)=false:=by simpa using c0
 rw[if_neg (fun h=>h c0)]at hM
 simp[go_sem,aq]
 refine zf5 (S:=Unit) [2,4,6,10] (fun _=> [.sl .ro (vs.map vwR),.ptr 5 0,.ptr 6 0,.ptr 3 0]) (fun _=>tkS (mp0 _,mp0 _,mp0 _)++ [schO,.box lot.row,.box [.int .i64 0,.int .i64 0,.sl .full []]]) (fun _=>True) hc hb ?_ ?_
 .refine zA ?_
  simp[go_sem]
  exact zH () ⟨tV,zJ1 [3,4,5,6,0,1,2] dc rfl ⟨rfl,rfl,rfl,rfl,rfl,rfl,rfl,tV⟩ ⟨zC rfl,.inl rfl,.inl rfl,.inl rfl,tV⟩⟩
 rintro _ _
 have av:=hl
 obtain⟨Q,hQ⟩:=eX ((yL vs).foldl zy1 ([],[]))
 have aw:wU vs=Q.2:=by unfold wU;rw[hQ]
 rw[aw]at hM
 clear aw
 refine zP (zA ?_)
 simp[go_sem]
 refine zI (S:=Nat×Nat×(List (Pl×List UInt8)×List Ln)×M3) [4,6,10,36,37,38] (fun u=> [.ptr 5 0,.ptr 6 0,.ptr 3 0,.sl .ro (vs.map vwR),.int .i64 vs.length,.int .i64 u.1])
  (fun u=>tkS u.2.2.2++ [schO,.box lot.row,.box [.int .i64 0,.int .i64 0,.sl .full []]]) (fun u=>vs.length - u.1)
  (fun u=>u.1<=vs.length/\TkI u.2.1 u.2.2.1 u.2.2.2/\u.2.1+(yL (vs.drop u.1)).length=(yL vs).length/\(yL (vs.drop u.1)).foldl zy1 u.2.2.1=Q) hc hb (0,0,([],[]),(mp0 _,mp0 _,mp0 _)) ⟨A7 _,xO1,sm,hQ⟩ ?_ ?_
 .exact zW sm sg
 rintro⟨i,n,s,a,b,sn⟩ ⟨hi,hT,hn,aa⟩
 simp only at hi hT hn aa
 by_cases q:i<vs.length
 .have ei:=zS q om
  obtain⟨⟨g,ps⟩,hx⟩: ∃x,vs[i]=x:=⟨_,rfl⟩
  obtain⟨hg,ax,ay⟩:=hv (g,ps) (hx▸Ac q)
  simp only at hg ax ay
  rw[Aa q,hx,zy3]at hn aa
  rw[Dk]at aa
  rw[B0]at hn
  refine zA ?_
  simp[go_sem,tkS,runS,runB,schO,q,hx,vwR]
  refine zI (S:=Nat×Nat×(List (Pl×List UInt8)×List Ln)×M3) [4,6,10,12,36,37,38,43,44,45] (fun u=> [.ptr 5 0,.ptr 6 0,.ptr 3 0,.ptr 7 0,.sl .ro (vs.map vwR),.int .i64 vs.length,.int .i64 i,.sl .ro (ps.map prR),.int .i64 ps.length,.int .i64 u.1])
   (fun u=>tkS u.2.2.2++ [schO,.box lot.row,.box [.int .i64 0,.int .i64 0,.sl .full []],.box (vwR (g,ps))]) (fun u=>ps.length - u.1)
   (fun u=>u.1<=ps.length/\TkI u.2.1 u.2.2.1 u.2.2.2/\u.2.1+((onF g (ps.drop u.1)).length+(yL (vs.drop (i+1))).length)=(yL vs).length/\(yL (vs.drop (i+1))).foldl zy1 ((onF g (ps.drop u.1)).foldl zy1 u.2.2.1)=Q) hc hb (0,n,s,a,b,sn) ⟨A7 _,hT,hn,aa⟩ ?_ ?_
  .exact at_w rfl sm sg
  rintro⟨j,n1,s1,a1,b1,ai⟩ ⟨hj,ae,aj,ab⟩
  simp only at hj ae aj ab
  by_cases qj:j<ps.length
  .have ej:=zS qj om
   obtain⟨⟨k,d⟩,hp⟩: ∃x,ps[j]=x:=⟨_,rfl⟩
   have hd:=ay (k,d) (hp▸Ac qj)
   simp only at hd
   have az:onF g (ps.drop j)=(((g:Int),k),d)::onF g (ps.drop (j+1)):=by
    rw[Aa qj,hp];rfl
   rw[az,Al]at aj
   rw[az,Bi]at ab
   have af:=xU5 g hg k d hd a1 b1 ai (by rw[show a1=b1 from ae.same];exact ae.now.ok) ae.now.ok ae.sn (ae.now_none _) (ae.pos om _)
   have ar:=ae.step (((g:Int),k),d)
   obtain⟨⟨a2,b2,a6⟩,aF⟩: ∃M3,zX5 ((g:Int),k) d (a1,b1,ai)=M3:=⟨_,rfl⟩
   simp only at ar
   rw[aF]at af ar
   refine zA ?_
   simp[go_sem,tkS,runS,runB,schO,qj,hp,vwR,prR]
   refine ze1 4 af cB rfl rfl (xJ 4 dc a1 b1 ai) (zb8 (n:=4) rfl) ?_ ?_
   .rintro r s' ⟨rfl,rfl⟩
    exact⟨rfl,xJ 4 dc a2 b2 a6,rfl⟩
   rintro r s' ⟨rfl,rfl⟩
   simp[go_sem,tkS,runS,runB,ej]
   exact zH (j+1,n1+1,zy1 s1 (((g:Int),k),d),a2,b2,a6) ⟨by show ps.length - (j+1)<ps.length - j;omega,⟨qj,ar,by show n1+1+((onF g (ps.drop (j+1))).length+(yL (vs.drop (i+1))).length)=(yL vs).length;omega,ab⟩,at_n 8 (by rfl) rfl (yy2 8 dc (by simp[ltOb,ltC,ltK])) dc (zF sg rfl)⟩
  .have:j=ps.length:=om
   subst this
   rw[Cy]at aj ab
   refine zA ?_
   simp[go_sem,tkS,runS,runB,schO,ei]
   exact zH (i+1,n1,s1,a1,b1,ai) ⟨by show vs.length - (i+1)<vs.length - i;omega,⟨q,ae,by show n1+(yL (vs.drop (i+1))).length=(yL vs).length;simp[onF]at aj;omega,ab⟩,at_n 7 (by rfl) rfl (yy2 7 dc (by simp[ltOb,ltC,ltK])) dc (zF sg rfl)⟩
 .have:i=vs.length:=om
  subst this
  rw[Cy]at hn aa
  have hs:s=Q:=aa
  subst hs
  have aS:n<=7500:=by simp[yL]at hn;simp[yL]at hN;omega
  have aG:a=b:=hT.same
  subst aG
  have ag:NowOk a s.2:=hT.now
  have aH:s.2.length<=n:=hT.len
  obtain⟨was,ak⟩:=eX s.2
  rw[ak]at hM ag aH
  clear hT hn aa hN ak hv aC
  obtain⟨D,hD⟩:=eX (doL lot.stmts 0 [] was)
  rw[hD]at hM
  have aI:D.1.1≠0->M= .tup [.agg (ansR D.1),.sl .ro []]:=fun h=>by rw[<-hM];simp[h]
  have aJ:D.1.1=0->M= .tup [.agg (ansR D.1),.sl .ro ((grpF (chgF was D.2)).map putR)]:=fun h=>by rw[<-hM];simp[h]
  have ax:D.1.1=0∨D.1.1≠0:=om
  have al:=ah c0
  clear hM ah ad hl av
  obtain⟨lm,ln,L⟩:=lot
  simp only at aD au hD al
  refine zA ?_
  simp[go_sem,tkS,runS,runB,schO]
  refine zI4 6 2 2 [.int .i64 0,.int .i64 0,.sl .full []] dc rfl rfl ?_
  refine zP (zA ?_)
  simp[go_sem]
  refine zI (S:=Nat×Mp (List UInt8)×List Ln×List Ot) [6,10,57,58,59] (fun u=> [.ptr 6 0,.ptr 3 0,.sl .ro (L.map GStmt.row),.int .i64 L.length,.int .i64 u.1])
   (fun u=>tkS (a,u.2.1,sn)++ [schO,.box (GLot.row ⟨lm,ln,L⟩),.box [.int .i64 0,.int .i64 0,.sl (.app 7) (u.2.2.2.map Ot.row)],.app u.2.2.2.length 2]) (fun u=>L.length - u.1)
   (fun u=>u.1<=L.length/\NowOk u.2.1 u.2.2.1/\u.2.2.2.length=u.1/\u.2.2.1.length<=7500+20*u.1/\doL (L.drop u.1) u.1 u.2.2.2 u.2.2.1=D) hc hb (0,a,was,[]) ⟨A7 _,ag,rfl,by show was.length<=7500+20*0;omega,hD⟩ ?_ ?_
  .exact at_w rfl sm sg
  rintro⟨i,b,l,outs⟩ ⟨hi,hn,a7,aK,aa⟩
  simp only at hi hn a7 aK aa
  by_cases q:i<L.length
  rotate_left
  .rw[Ad om,doL]at aa
   refine zA ?_
   simp[go_sem,tkS,runS,runB,schO,q]
   have an:=xT8 a b sn was l ag hn om om
   have aL:D.2=l:=by rw[<-aa]
   have a8:D.1=(0,0,outs):=by rw[<-aa]
   have hM:=aJ (by rw[a8])
   rw[a8,aL]at hM
   obtain⟨PW,aP⟩:=eX (grpF (chgF was l))
   rw[aP]at an hM
   refine zP ?_
   refine zc3 [(2,1)] 7 sm kR kR ?_
   simp[go_sem]
   refine yM3 4 an cB rfl rfl (xJ 4 dc a b sn) rfl (fun i hi=>by simp[go_sem];omega) (fun N=>zb8 (n:=4) rfl) ?_
   simp[go_sem]
   refine zA ?_
   simp[go_sem]
   exact wW (r:=M) (by rw[hM];exact xT ⟨zc9 ⟨zU rfl,zU rfl,yS,tV⟩,zt3,tV⟩) ⟨rfl,rfl⟩
  have ei:=zS q om
  obtain⟨x,hx⟩:=eX (L[i])
  have aA:x∈L:=hx▸Ac q
  have ao:=xj9 x (al x aA) a b sn l hn om
  have hlen:=yW5 (st:=x) (l:=l)
  have aR:=(au x aA).rows.1
  rw[Aa q,hx,doL]at aa
  obtain⟨E,hE⟩:=eX (doS x l)
  rw[hE]at aa ao hlen
  refine zA ?_
  simp[go_sem,tkS,runS,runB,schO,q,hx]
  refine ze1 4 ao cB rfl rfl (xJ 4 dc a b sn) (zb8 (n:=4) rfl) ?_ ?_
  .rintro r s' ⟨b',rfl,rfl,_⟩
   exact⟨rfl,xJ 4 dc a b' sn,rfl⟩
  rintro r s' ⟨b',rfl,rfl,aQ⟩
  by_cases e0:E.2.2=0
  rotate_left
  .have aB:(E.2.2 !=0)=true:=by simpa using e0
   rw[if_pos e0]at aa
   have hM:=aI (by rw[<-aa];exact e0)
   simp[go_sem,runS,runB,aB,Ot.row]
   exact wW (r:=M) (by rw[hM,<-aa];exact xT ⟨zc9 ⟨zU rfl,zU rfl,yS,tV⟩,zt3,tV⟩) ⟨rfl,rfl⟩
  have aB:(E.2.2 !=0)=false:=by simpa using e0
  rw[if_neg (fun h=>h e0)]at aa
  simp[go_sem,runS,runB,e0,Ot.row]
  refine zG ⟨om,zX rfl⟩ ?_
  simp[go_sem,ei]
  exact zH (i+1,b',E.2.1,outs++ [E.1]) ⟨by show L.length - (i+1)<L.length - i;omega,⟨q,aQ e0,by show(outs++ [E.1]).length=i+1;simp[a7],by show E.2.1.length<=7500+20*(i+1);omega,aa⟩,at_n 8 (by simp[Ot.row]) rfl (yy2 8 dc (by simp[ltOb,ltC,ltK])) dc (zF sg rfl)⟩
theorem yI2 (h:(zy4 lot).2=0): ∀st∈lot.stmts,mayS st=true/\zo8 st=0:=by
 unfold zy4 at h
 by_cases q:mayL lot=true
 rotate_left
 .rw[if_neg q]at h;cases h
 rw[if_pos q]at h
 intro st aa
 refine⟨?_,zS5 h st aa⟩
 unfold mayL at q
 rw[A8,Aj]at q
 exact q.2 st aa
theorem yE8 {tn:Nat} {T:GTable} (hT:tabsS[tn]? =some T): ∀{R:List (List GExpr)} {b:Mp (List UInt8)} {l:List Ln},(∀r∈R,∀e∈r,EOk e)->NowOk b l->(insF tn T R l).2=0-> ∃b',NowOk b' (insF tn T R l).1
 | [],b,l,_,hn,_=>⟨b,hn⟩
 |r::R,b,l,he,hn,h=>by
  rw[insF]at h⊢
  have ad:=zY9 r [] (he r (B8 ..)) (fun v hv=>by cases hv)
  by_cases q1:(evsX noT [] r []).2≠0
  .rw[if_pos q1]at h;exact absurd h q1
  rw[if_neg q1]at h⊢
  obtain⟨_,ae⟩:=ad (by simpa using q1)
  have aa:=zZ2 tn T hT (evsX noT [] r []).1
  by_cases q2:(keyS tn T (evsX noT [] r []).1).2.2≠0
  .rw[if_pos q2]at h;exact absurd h q2
  rw[if_neg q2]at h⊢
  obtain⟨ab,af,ag⟩:=aa (by simpa using q2)
  by_cases q3:atF l ((keyS tn T (evsX noT [] r []).1).1,(keyS tn T (evsX noT [] r []).1).2.1)=true
  .rw[if_pos q3]at h;cases h
  rw[if_neg q3]at h⊢
  exact yE8 hT (fun x hx=>he x (B1 _ hx)) (hn.ins (x:=⟨(keyS tn T (evsX noT [] r []).1).1,(keyS tn T (evsX noT [] r []).1).2.1,(evsX noT [] r []).1⟩) ⟨⟨tn,T,af,hT,ab⟩,ag,ae⟩ (Bool.eq_false_iff.2 q3)) h
theorem yC9: ∀{m:List Ln} {b:Mp (List UInt8)} {l:List Ln},NowOk b l-> ∃b',NowOk b' (delF m l)
 | [],b,_,hn=>⟨b,hn⟩
 |x::m,b,l,hn=>by
  rw[delF]
  exact yC9 (hn.del x.at)
theorem xE6 (aa:StOk st) (hn:NowOk b l) (h:(doS st l).2.2=0): ∃b',NowOk b' (doS st l).2.1:=by
 obtain⟨tn,ab⟩: ∃tn:Nat,zd9 st.table=tn:=⟨(zd9 st.table).toNat,by have:=aa.tab;omega⟩
 have ad:tn<3:=by
  have h:=zu8 (fun T:GTable=>T.name==st.table) tabsS 0
  have h2:tabsS.length=3:=rfl
  unfold zd9 at ab
  omega
 obtain⟨T,hT⟩: ∃T,tabsS[tn]? =some T:=⟨_,A4 (show tn<tabsS.length from ad)⟩
 unfold doS at h⊢
 simp only[ab,B6]at h⊢
 rw[show tabsS.getD tn noT=T by rw[A9,hT];rfl]at h⊢
 by_cases k2:st.kind=2
 .rw[if_pos k2]at h⊢
  by_cases q:(insF tn T st.rows l).2≠0
  .rw[if_pos q]at h;exact absurd h q
  .rw[if_neg q]
   exact yE8 hT (fun r hr=>(aa.ok.rows.2 r hr).2) hn (by simpa using q)
 rw[if_neg k2]at h⊢
 by_cases q:(metF tn T st l).2≠0
 .rw[if_pos q]at h;exact absurd h q
 rw[if_neg q]at h⊢
 by_cases k1:st.kind=1
 .rw[if_pos k1];exact⟨b,hn⟩
 rw[if_neg k1]at h⊢
 by_cases k3:st.kind=3
 .rw[if_pos k3]at h⊢
  by_cases q2:(updF T st.sets (metF tn T st l).1 l).2≠0
  .rw[if_pos q2]at h;exact absurd h q2
  .rw[if_neg q2]
   refine⟨_,yh5 hT aa.ok hn (fun x hx=> ?_) (by simpa using q2)⟩
   obtain⟨h1,h2⟩:=ye7 x hx
   exact⟨atF_iff.2 (Ag.2 ⟨x,h1,rfl⟩),hn.rows x h1,zJ2 ad h2⟩
 .rw[if_neg k3]
  exact yC9 hn
abbrev Pr:=List UInt8×List UInt8
theorem yr3: ∀(tn:Nat) (T:GTable),tabsS[tn]? =some T->tn=0->T.place=0:=by
 intro tn T h h0
 subst h0
 have e:tabsS[0]? =some T:=h
 exact(by decide: ∀T,tabsS[0]? =some T->T.place=0) T e
theorem xg5 (hT:tabsS[tn]? =some T) {row aa:List GValue} (h1:mayT T.cols row=0) (h2:mayT T.cols aa=0) (hk:aa.getD T.key.toNat zeroV=row.getD T.key.toNat zeroV) (hp:T.place=0->aa.getD 0 zeroV=row.getD 0 zeroV):keyS tn T aa=keyS tn T row:=by
 have hr:yq2 tn aa=yq2 tn row:=by
  unfold yq2
  by_cases h0:tn=0
  .rw[if_pos h0,if_pos h0,hp (yr3 tn T hT h0)]
  .rw[if_neg h0,if_neg h0]
 unfold keyS
 rw[if_neg (show ¬mayT T.cols aa≠0 from fun h=>h h2),if_neg (show ¬mayT T.cols row≠0 from fun h=>h h1),hr,hk]
 by_cases h0:tn=0
 .rw[hp (yr3 tn T hT h0)]
 .rw[if_neg (fun h=>h0 h.1),if_neg (fun h=>h0 h.1)]
theorem xu4 {x:Ln} (h:LnOk x) (aa:(ofS x.r).1=(tn:Int)) (hT:tabsS[tn]? =some T) (hk:keyS tn T x.v=(x.r,x.k,0)):LnK x:=by
 unfold LnK zs9
 rw[h.read,aa,B6,show tabsS.getD tn noT=T by rw[A9,hT];rfl,hk,h.err]
 simp
theorem yY5 {x:Ln} (h:LnOk x) (hK:LnK x) (aa:(ofS x.r).1=(tn:Int)) (hT:tabsS[tn]? =some T):keyS tn T x.v=(x.r,x.k,0):=by
 unfold LnK zs9 at hK
 rw[h.read,aa,B6,show tabsS.getD tn noT=T by rw[A9,hT];rfl]at hK
 simp only[A8,decide_eq_true_eq]at hK
 exact hK.2.2
theorem xs9 {l:List GValue} {i j:Nat} {v:GValue} (h:i≠j):(l.set i v).getD j zeroV=l.getD j zeroV:=by
 rw[A9,A9,Ah h]
theorem yg6 {T:GTable} {old:List GValue} {c:Nat} (hc:(c:Int)=T.key∨((c:Int)=0/\T.place=0)): ∀{sets p:List GAssign} {row:List GValue},zr3 T p sets=0->(setF T old sets row).2=0->(setF T old sets row).1.getD c zeroV=row.getD c zeroV
 | [],_,row,_,_=>rfl
 |y::l,p,row,h,h2=>by
  rw[setF]at h2⊢
  by_cases q:(evR T old y.e).2≠0
  .rw[if_pos q]at h2;exact absurd h2 q
  rw[if_neg q]at h2⊢
  rw[zr3]at h
  by_cases q1:colF T y.name<0
  .rw[if_pos q1]at h;cases h
  rw[if_neg q1]at h
  by_cases q2:colF T y.name=T.key∨(colF T y.name=0/\T.place=0)
  .rw[if_pos q2]at h;cases h
  rw[if_neg q2]at h
  by_cases q3:(p.any fun z=>z.name==y.name)=true
  .rw[if_pos q3]at h;cases h
  rw[if_neg q3]at h
  by_cases q4:zv3 T y.e (colK T (colF T y.name))≠0
  .rw[if_pos q4]at h;exact absurd h q4
  rw[if_neg q4]at h
  rw[yg6 hc h h2]
  refine xs9 fun e=>q2 ?_
  have e2:colF T y.name=(c:Int):=om
  rw[e2]
  exact hc
def LsK (l:List Ln):Prop:= ∀x∈l,LnOk x/\LnK x
theorem xt1 {tn:Nat} {T:GTable} (hT:tabsS[tn]? =some T): ∀{R:List (List GExpr)} {l:List Ln},(∀r∈R,∀e∈r,EOk e)->LsK l->(insF tn T R l).2=0->LsK (insF tn T R l).1
 | [],l,_,hn,_=>hn
 |r::R,l,he,hn,h=>by
  rw[insF]at h⊢
  have ag:=zY9 r [] (he r (B8 ..)) (fun v hv=>by cases hv)
  by_cases q1:(evsX noT [] r []).2≠0
  .rw[if_pos q1]at h;exact absurd h q1
  rw[if_neg q1]at h⊢
  obtain⟨_,ah⟩:=ag (by simpa using q1)
  have aa:=zZ2 tn T hT (evsX noT [] r []).1
  obtain⟨⟨kr,kk,ke⟩,ab⟩: ∃ks,keyS tn T (evsX noT [] r []).1=ks:=⟨_,rfl⟩
  rw[ab]at h aa⊢
  simp only at h aa⊢
  by_cases q2:ke≠0
  .rw[if_pos q2]at h;exact absurd h q2
  rw[if_neg q2]at h⊢
  have ad:ke=0:=by simpa using q2
  obtain⟨ae,af,ai⟩:=aa ad
  by_cases q3:atF l (kr,kk)=true
  .rw[if_pos q3]at h;cases h
  rw[if_neg q3]at h⊢
  have hx:LnOk ⟨kr,kk,(evsX noT [] r []).1⟩:=⟨⟨tn,T,af,hT,ae⟩,ai,ah⟩
  refine xt1 hT (fun x hx=>he x (B1 _ hx)) (fun z hz=> ?_) h
  rcases Ak.1 ((zi2 l _).mem_iff.1 hz)with rfl|hz
  .exact⟨hx,xu4 hx af hT (by rw[ab,ad])⟩
  .exact hn z hz
theorem xp2: ∀{m l:List Ln},LsK l->LsK (delF m l)
 | [],l,h=>h
 |x::m,l,h=>by
  rw[delF]
  exact xp2 (fun y hy=>h y (Bd.1 hy).1)
theorem xA1 {tn:Nat} {T:GTable} (hT:tabsS[tn]? =some T) {st:GStmt} (ag:SOk st) (hc:zr3 T [] st.sets=0): ∀{m l:List Ln},LsK l->(∀x∈m,LnOk x/\LnK x/\(ofS x.r).1=(tn:Int))->(updF T st.sets m l).2=0->LsK (updF T st.sets m l).1
 | [],_,hn,_,_=>hn
 |x::m,l,hn,hm,h0=>by
  obtain⟨ab,ak,ae⟩:=hm x (B8 ..)
  obtain⟨ao,aq⟩:=(by decide: ∀T∈tabsS,0<=T.key/\T.key<T.cols.length) T (B5 hT)
  rw[updF]at h0⊢
  have aa:=fun(c:Nat) (al:(c:Int)=T.key∨((c:Int)=0/\T.place=0))=>yg6 (T:=T) (old:=x.v) al (sets:=st.sets) (p:= []) (row:=x.v) hc
  have ah:=zZ8 (T:=T) ab.ok (sets:=st.sets) (row:=x.v) (fun y hy=>(ag.sets.2 y hy).2) ab.ok
  obtain⟨E,hE⟩:=eX (setF T x.v st.sets x.v)
  rw[hE]at h0 aa ah⊢
  by_cases q:E.2≠0
  .rw[if_pos q]at h0;exact absurd h0 q
  rw[if_neg q]at h0⊢
  have q0:E.2=0:=by simpa using q
  by_cases q2:mayT T.cols E.1≠0
  .rw[if_pos q2]at h0;exact absurd h0 q2
  rw[if_neg q2]at h0⊢
  have m0:mayT T.cols E.1=0:=by simpa using q2
  obtain⟨af,T',ar,ai,an⟩:=ab.tab
  have:af=tn:=om
  subst this
  rw[hT]at ai
  cases ai
  have ad:LnOk ⟨x.r,x.k,E.1⟩:=⟨⟨af,T,ae,hT,m0⟩,ab.err,(ah q0).2⟩
  have aj:keyS af T E.1=(x.r,x.k,0):=by
   rw[xg5 hT an m0 (aa T.key.toNat (.inl om) q0) (fun hp=>aa 0 (.inr ⟨rfl,hp⟩) q0)]
   exact yY5 ab ak ae hT
  refine xA1 hT ag hc (fun z hz=> ?_) (fun y hy=>hm y (B1 _ hy)) h0
  unfold putF at hz
  obtain⟨y,hy,rfl⟩:=Ag.1 hz
  by_cases e:y.at=x.at
  .rw[if_pos e]
   have e1:y.r=x.r:=congrArg Prod.fst e
   have e2:y.k=x.k:=congrArg Prod.snd e
   rw[e1,e2]
   exact⟨ad,xu4 ad ae hT aj⟩
  .rw[if_neg e]
   exact hn y hy
theorem xX1 (aa:StOk st) (hc:zo8 st=0) (_hn:NowOk b l) (hk:LsK l) (h:(doS st l).2.2=0):LsK (doS st l).2.1:=by
 obtain⟨tn,ab⟩: ∃tn:Nat,zd9 st.table=tn:=⟨(zd9 st.table).toNat,by have:=aa.tab;omega⟩
 have ad:tn<3:=by
  have h:=zu8 (fun T:GTable=>T.name==st.table) tabsS 0
  have h2:tabsS.length=3:=rfl
  unfold zd9 at ab
  omega
 obtain⟨T,hT⟩: ∃T,tabsS[tn]? =some T:=⟨_,A4 (show tn<tabsS.length from ad)⟩
 unfold zo8 at hc
 rw[ab,B6,hT]at hc
 simp only at hc
 rw[if_neg om]at hc
 unfold doS at h⊢
 simp only[ab,B6]at h⊢
 rw[show tabsS.getD tn noT=T by rw[A9,hT];rfl]at h⊢
 by_cases k2:st.kind=2
 .rw[if_pos k2]at h⊢
  by_cases q:(insF tn T st.rows l).2≠0
  .rw[if_pos q]at h;exact absurd h q
  .rw[if_neg q]
   exact xt1 hT (fun r hr=>(aa.ok.rows.2 r hr).2) hk (by simpa using q)
 rw[if_neg k2]at h⊢
 by_cases q:(metF tn T st l).2≠0
 .rw[if_pos q]at h;exact absurd h q
 rw[if_neg q]at h⊢
 by_cases k1:st.kind=1
 .rw[if_pos k1];exact hk
 rw[if_neg k1]at h⊢
 by_cases k3:st.kind=3
 .rw[if_pos k3]at h⊢
  by_cases q2:(updF T st.sets (metF tn T st l).1 l).2≠0
  .rw[if_pos q2]at h;exact absurd h q2
  .rw[if_neg q2]
   have ae:zr3 T [] st.sets=0:=by
    rw[if_neg k1,if_neg k2,if_pos k3]at hc
    by_cases z:zr3 T [] st.sets≠0
    .rw[if_pos z]at hc;exact hc
    .simpa using z
   refine xA1 hT aa.ok ae hk (fun x hx=> ?_) (by simpa using q2)
   obtain⟨h1,h2⟩:=ye7 x hx
   exact⟨(hk x h1).1,(hk x h1).2,zJ2 ad h2⟩
 .rw[if_neg k3]
  exact xp2 hk
theorem xM9: ∀{ss:List GStmt} {i:Nat} {acc:List Ot} {b:Mp (List UInt8)} {l:List Ln},(∀x∈ss,StOk x/\zo8 x=0)->NowOk b l->LsK l->(doL ss i acc l).1.1=0->(∃b',NowOk b' (doL ss i acc l).2)/\LsK (doL ss i acc l).2/\(doL ss i acc l).2.length<=l.length+20*ss.length
 | [],i,acc,b,l,_,hn,hk,_=>⟨⟨b,hn⟩,hk,by rw[doL];simp⟩
 |x::ss,i,acc,b,l,hs,hn,hk,h=>by
  rw[doL]at h⊢
  obtain⟨hx,aa⟩:=hs x (B8 ..)
  by_cases q:(doS x l).2.2≠0
  .rw[if_pos q]at h;exact absurd h q
  rw[if_neg q]at h⊢
  have q0:(doS x l).2.2=0:=by simpa using q
  obtain⟨b',ab⟩:=xE6 hx hn q0
  have hlen:=yW5 (st:=x) (l:=l)
  have hr:=hx.ok.rows.1
  obtain⟨h1,h2,h3⟩:=xM9 (fun y hy=>hs y (B1 _ hy)) ab (xX1 hx aa hn hk q0) h
  exact⟨h1,h2,by rw[Al];omega⟩
theorem TkI.run: ∀(ps:List (Pl×List UInt8)) {n:Nat} {s:List (Pl×List UInt8)×List Ln} {m:M3},TkI n s m-> ∃m',TkI (n+ps.length) (ps.foldl zy1 s) m'
 | [],n,s,m,h=>⟨m,h⟩
 |p::ps,n,s,m,h=>by
  obtain⟨m',h'⟩:=TkI.run ps (h.step p)
  exact⟨m',by rw[Al,show n+(ps.length+1)=n+1+ps.length by omega];exact h'⟩
theorem ye3 (vs:List Vw): ∃m,TkI (yL vs).length ((yL vs).foldl zy1 ([],[])) m:=by
 obtain⟨m,h⟩:=TkI.run (yL vs) xO1
 rw[Af]at h
 exact⟨m,h⟩
theorem xl6 {l:List Wr} {was now:List Ln} (h1: ∀x∈was,LnOk x) (h2: ∀x∈now,LnOk x) (hw:Rise (was.map Ln.at)) (hn:Rise (now.map Ln.at)) (hl:l=chgF was now): ∀w∈l,w.p.1=0∨w.p.1=1∨w.p.1=2∨w.p.1=3:=fun w ab=>by
 rw[hl]at ab
 have hr: ∀x:Ln,LnOk x->x.r=0∨x.r=1∨x.r=2∨x.r=3:=fun x hx=>by
  have:=hx.err
  unfold ofS at this
  by_cases a0:x.r=0
  .exact .inl a0
  by_cases a1:x.r=1
  .exact .inr (.inl a1)
  by_cases a2:x.r=2
  .exact .inr (.inr (.inl a2))
  by_cases a3:x.r=3
  .exact .inr (.inr (.inr a3))
  rw[if_neg a0,if_neg a1,if_neg a2,if_neg a3]at this
  cases this
 rcases((yt2 hw hn).2 w).1 ab with ⟨_,_,⟨x,hx,aa⟩,_⟩|⟨_,x,hx,aa,_,_⟩
 .rw[<-aa];exact hr x (h1 x hx)
 .rw[<-aa];exact hr x (h2 x hx)
theorem yY8 (hl:LOk lot) (hn:NowOk b l) (hk:LsK l) (h:(lotF lot l).1.1=0):(∃b',NowOk b' (lotF lot l).2)/\LsK (lotF lot l).2/\(lotF lot l).2.length<=l.length+240:=by
 unfold lotF at h⊢
 by_cases q:(zy4 lot).2≠0
 .rw[if_pos q]at h;exact absurd h q
 rw[if_neg q]at h⊢
 have q0:(zy4 lot).2=0:=by simpa using q
 by_cases q2:(doL lot.stmts 0 [] l).1.1≠0
 .rw[if_pos q2]at h;exact absurd h q2
 rw[if_neg q2]at h⊢
 obtain⟨h1,h2,h3⟩:=xM9 (fun x hx=>⟨yI3 hl q0 x hx,(yI2 q0 x hx).2⟩) hn hk h
 have:=hl.stmts.1
 exact⟨h1,h2,om⟩
def insP (k d:List UInt8):Bool->List Pr->List Pr
 |b,[]=>if b=true then []else [(k,d)]
 |b,x::l=>(if(!b&&Op.bytesLess k x.1)=true then [(k,d)]else [])++((if x.1=k then []else [x])++insP k d (b||Op.bytesLess k x.1) l)
def zz9 (l:List Pr):Prop:=l.Pairwise fun a b=>Op.bytesLess a.1 b.1=true
theorem zA6 (k d:List UInt8): ∀l:List Pr,insP k d true l=l.filter fun x=> !decide (x.1=k)
 | []=>rfl
 |x::l=>by
  rw[insP,Dr,zA6 k d l,Co]
  by_cases q:x.1=k<;>simp[q]
theorem zT1 (k d:List UInt8): ∀(b:Bool) (l:List Pr),(insP k d b l).Perm ((if b=true then []else [(k,d)])++l.filter fun x=> !decide (x.1=k))
 |b,[]=>by rw[insP];simp
 |true,x::l=>by rw[zA6];simp
 |false,x::l=>by
  rw[insP]
  by_cases q:Op.bytesLess k x.1=true
  .rw[q,En,zA6]
   have hx:x.1≠k:=fun e=>by rw[e,wH]at q;cases q
   simp[hx]
  .have q':Op.bytesLess k x.1=false:=by simpa using q
   rw[q',Ce]
   have ih:=zT1 k d false l
   by_cases e:x.1=k
   .simp[e]at ih⊢
    exact ih
   .simp[e]at ih⊢
    exact(ih.cons x).trans (List.Perm.swap ..)
theorem insP_mem {k:List UInt8} {b:Bool} {l:List Pr} {x:Pr}:x∈insP k d b l↔(b=false/\x=(k,d))∨(x∈l/\x.1≠k):=by
 rw[(zT1 k d b l).mem_iff,Ba,Bd]
 cases b<;>simp
theorem yo5 (k d:List UInt8): ∀(b:Bool) {l:List Pr},zz9 l->zz9 (insP k d b l)
 |true,l,h=>by rw[zA6];exact List.Pairwise.sublist Cc h
 |false,[],_=>by rw[insP,if_neg dc];exact List.pairwise_singleton ..
 |false,x::l,h=>by
  have h2:=h
  unfold zz9 at h2
  rw[Cw]at h2
  rw[insP]
  by_cases q:Op.bytesLess k x.1=true
  .have hx:x.1≠k:=fun e=>by rw[e,wH]at q;cases q
   rw[q,En,zA6,if_pos (by rfl),if_neg hx]
   show zz9 ((k,d)::x::l.filter _)
   unfold zz9
   refine Cw.2 ⟨fun y hy=> ?_,Cw.2 ⟨fun y hy=>h2.1 y (Bd.1 hy).1,List.Pairwise.sublist Cc h2.2⟩⟩
   rcases Ak.1 hy with rfl|hy
   .exact q
   .exact zn1 _ _ _ q (h2.1 y (Bd.1 hy).1)
  .have q':Op.bytesLess k x.1=false:=by simpa using q
   rw[q',Ce,Bool.and_false,if_neg dc,Ck]
   have ih:=yo5 k d false h2.2
   by_cases e:x.1=k
   .rw[if_pos e];exact ih
   .rw[if_neg e]
    show zz9 (x::insP k d false l)
    unfold zz9
    refine Cw.2 ⟨fun y hy=> ?_,ih⟩
    rcases insP_mem.1 hy with ⟨_,rfl⟩|⟨hy,_⟩
    .rcases zn0 x.1 k with r|r|r
     .exact r
     .exact absurd r e
     .rw[q']at r;cases r
    .exact h2.1 y hy
def xt3 (w:Wr) (l:List Pr):List Pr:=insP w.p.2 w.data w.drop l
def doR (g:Int) (P:List (List Pr)) (w:Wr):List (List Pr):=P.set g.toNat (xt3 w (P.getD g.toNat []))
def doQ (P:List (List Pr)) (q:Int×List Wr):List (List Pr):=if q.1<0∨8<=q.1 then P else q.2.foldl (doR q.1) P
def doP (P:List (List Pr)) (qs:List (Int×List Wr)):List (List Pr):=qs.foldl doQ P
theorem yW4 (g:Int) (P:List (List Pr)) (w:Wr):(doR g P w).length=P.length:=by unfold doR;simp
theorem xF5 {out:List (Int×List Wr)} (hw:0<=w.p.1/\w.p.1<8) (P:List (List Pr)):doP P (grpS out w)=doR w.p.1 (doP P out) w:=by
 have hq: ∀P,doQ P (w.p.1,[w])=doR w.p.1 P w:=fun P=>by unfold doQ;rw[if_neg (by simp only;omega)];rfl
 unfold grpS
 cases q:out.getLast? with
 |none=>
  rw[List.getLast?_eq_none_iff.1 q]
  exact hq P
 |some p=>
  have ho:out=out.dropLast++ [p]:=by
   have h:=List.getLast?_eq_some_iff.1 q
   obtain⟨ys,rfl⟩:=h
   simp
  simp only
  by_cases e:p.1=w.p.1
  .rw[if_pos e]
   unfold doP
   rw[Dk,Bi,Ep]
   conv=>rhs;rw[ho,Dk,Bi,Ep]
   unfold doQ
   simp only
   rw[if_neg om,if_neg om,Dk,e]
   rfl
  .rw[if_neg e]
   unfold doP
   rw[Dk,Bi,Ep]
   exact hq _
theorem yW3 (P:List (List Pr)): ∀(l:List Wr) (out:List (Int×List Wr)),(∀w∈l,0<=w.p.1/\w.p.1<8)->doP P (l.foldl grpS out)=l.foldl (fun P w=>doR w.p.1 P w) (doP P out)
 | [],_,_=>rfl
 |w::l,out,h=>by
  rw[Bi,Bi,yW3 P l _ fun x hx=>h x (B1 _ hx),xF5 (h w (B8 ..))]
def hasP (P:List (List Pr)) (p:Pl) (d:List UInt8):Prop:=0<=p.1/\ ∃l,P[p.1.toNat]? =some l/\(p.2,d)∈l
theorem xE5 {P:List (List Pr)} (h0:0<=w.p.1) (h8:w.p.1.toNat<P.length):hasP (doR w.p.1 P w) p d↔(p=w.p/\w.drop=false/\d=w.data)∨(p≠w.p/\hasP P p d):=by
 obtain⟨g,k⟩:=p
 obtain⟨⟨wg,wk⟩,wd,wb⟩:=w
 simp only at h0 h8
 unfold hasP doR xt3
 simp only
 rw[A9,A4 h8,Es]
 by_cases e:g=wg
 .subst e
  rw[Ar h8,A4 h8]
  constructor
  .rintro⟨_,l,hl,hm⟩
   cases hl
   rcases insP_mem.1 hm with ⟨h1,h2⟩|⟨h1,h2⟩
   .cases h2;exact .inl ⟨rfl,h1,rfl⟩
   .exact .inr ⟨fun e=>h2 (by cases e;rfl),h0,_,rfl,h1⟩
  .rintro(⟨h1,h2,h3⟩|⟨h1,_,l,hl,hm⟩)
   .cases h1;exact⟨h0,_,rfl,insP_mem.2 (.inl ⟨h2,by rw[h3]⟩)⟩
   .cases hl
    exact⟨h0,_,rfl,insP_mem.2 (.inr ⟨hm,fun e=>h1 (by simp only at e;rw[e])⟩)⟩
 .constructor
  .rintro⟨hg,l,hl,hm⟩
   rw[Ah om]at hl
   exact .inr ⟨fun x=>e (by cases x;rfl),hg,l,hl,hm⟩
  .rintro(⟨h1,_⟩|⟨_,hg,l,hl,hm⟩)
   .exact absurd (by cases h1;rfl) e
   .exact⟨hg,l,by rw[Ah om];exact hl,hm⟩
theorem yE3 {p:Pl} {d:List UInt8}: ∀{ws:List Wr} {P:List (List Pr)},(∀w∈ws,0<=w.p.1/\w.p.1.toNat<P.length)->hasP (ws.foldl (fun P w=>doR w.p.1 P w) P) p d->(∃w∈ws,w.p=p/\w.drop=false/\d=w.data)∨((∀w∈ws,w.p≠p)/\hasP P p d)
 | [],P,_,h=> .inr ⟨fun w hw=>(by cases hw),h⟩
 |w::ws,P,hw,h=>by
  have aa:=hw w (B8 ..)
  rw[Bi]at h
  rcases yE3 (fun x hx=>by rw[yW4];exact hw x (B1 _ hx)) h with ⟨x,hx,h1⟩|⟨h1,h2⟩
  .exact .inl ⟨x,B1 _ hx,h1⟩
  .rcases(xE5 aa.1 aa.2).1 h2 with ⟨h3,h4,h5⟩|⟨h3,h4⟩
   .exact .inl ⟨w,B8 ..,h3.symm,h4,h5⟩
   .refine .inr ⟨fun x hx=> ?_,h4⟩
    rcases Ak.1 hx with rfl|hx
    .exact fun e=>h3 e.symm
    .exact h1 x hx
theorem xp7 {g:Int} {P:List (List Pr)} (h: ∀l∈P,zz9 l): ∀l∈doR g P w,zz9 l:=fun l hl=>by
 unfold doR at hl
 rcases Ci hl with hl|rfl
 .exact h l hl
 .refine yo5 _ _ _ ?_
  rw[A9]
  cases q:P[g.toNat]? with
  |none=>exact List.Pairwise.nil
  |some l=>exact h l (B5 q)
theorem yo1: ∀{ws:List Wr} {P:List (List Pr)},(∀l∈P,zz9 l)-> ∀l∈ws.foldl (fun P w=>doR w.p.1 P w) P,zz9 l
 | [],_,h=>h
 |w::ws,P,h=>by rw[Bi];exact yo1 (xp7 h)
theorem yo0: ∀(ws:List Wr) (P:List (List Pr)),(ws.foldl (fun P w=>doR w.p.1 P w) P).length=P.length
 | [],_=>rfl
 |w::ws,P=>by rw[Bi,yo0 ws,yW4]
def vsG:Nat->List (List Pr)->List Vw
 |_,[]=> []
 |i,l::P=>(i,l)::vsG (i+1) P
theorem ya3: ∀(i:Nat) (P:List (List Pr)),(vsG i P).length=P.length
 |_,[]=>rfl
 |i,l::P=>by rw[vsG,Al,Al,ya3]
theorem ya4: ∀{i:Nat} {P:List (List Pr)} {x:Vw},x∈vsG i P->i<=x.1/\x.1<i+P.length/\P[x.1 - i]? =some x.2
 |_,[],_,h=>by cases h
 |i,l::P,x,h=>by
  rw[vsG]at h
  rcases Ak.1 h with rfl|h
  .refine⟨A6 _,sm, ?_⟩
   simp
  .obtain⟨h1,h2,h3⟩:=ya4 h
   refine⟨om,by rw[Al];omega, ?_⟩
   rw[show x.1 - i=(x.1 - (i+1))+1 by omega,Ct]
   exact h3
theorem ys0: ∀(i:Nat) (P:List (List Pr)),((vsG i P).map (·.1)).Nodup
 |_,[]=>D7
 |i,l::P=>by
  rw[vsG,As,Cb]
  refine⟨fun h=> ?_,ys0 (i+1) P⟩
  obtain⟨x,hx,e⟩:=Ag.1 h
  have:=(ya4 hx).1
  simp only at e
  omega
theorem yz4: ∀(P:List (List Pr)) (i j:Nat),(vsG i P)[j]? =(P[j]?).map fun l=>(i+j,l)
 | [],_,_=>rfl
 |l::P,i,0=>rfl
 |l::P,i,j+1=>by
  rw[vsG,Ct,Ct,yz4 P (i+1) j]
  rw[show i+1+j=i+(j+1) by omega]
theorem yp8 {i:Nat} {P:List (List Pr)} {q:Pl×List UInt8} (h:q∈yL (vsG i P)):(i:Int)<=q.1.1/\P[q.1.1.toNat - i]? ≠none/\ ∀l,P[q.1.1.toNat - i]? =some l->(q.1.2,q.2)∈l:=by
 unfold yL at h
 obtain⟨x,hx,hq⟩:=List.mem_flatMap.1 h
 obtain⟨h1,h2,h3⟩:=ya4 hx
 obtain⟨y,hy,rfl⟩:=Ag.1 hq
 simp only
 rw[show((x.1:Int)).toNat=x.1 from B6 _,h3]
 exact⟨om,sm,fun l hl=>by cases hl;exact hy⟩
theorem xj1 {P:List (List Pr)} {q:Pl×List UInt8} (h:q∈yL (vsG 0 P)):hasP P q.1 q.2:=by
 obtain⟨h1,h2,h3⟩:=yp8 h
 rw[Nat.sub_zero]at h2 h3
 obtain⟨l,hl⟩:=Option.ne_none_iff_exists'.1 h2
 exact⟨om,l,hl,h3 l hl⟩
theorem yp4: ∀{P:List (List Pr)} {i g:Nat} {k d:List UInt8} {l:List Pr},P[g]? =some l->(k,d)∈l->((((i+g:Nat):Int),k),d)∈yL (vsG i P)
 | [],_,_,_,_,_,h,_=>by simp at h
 |m::P,i,0,k,d,l,h,hm=>by
  simp at h
  subst h
  rw[vsG,zy3]
  exact Dg _ (Ag.2 ⟨(k,d),hm,sm⟩)
 |m::P,i,g+1,k,d,l,h,hm=>by
  rw[Ct]at h
  rw[vsG,zy3]
  refine List.mem_append_right _ ?_
  rw[show i+(g+1)=i+1+g by omega]
  exact yp4 h hm
theorem xf4 {P:List (List Pr)} (h:hasP P p d):(p,d)∈yL (vsG 0 P):=by
 obtain⟨h0,l,hl,hm⟩:=h
 have:=yp4 (i:=0) hl hm
 rw[Af,Int.toNat_of_nonneg h0]at this
 exact this
theorem zM9: ∀{P:List (List Pr)} {i:Nat},(∀l∈P,zz9 l)->Rise ((yL (vsG i P)).map (·.1))
 | [],_,_=>List.Pairwise.nil
 |l::P,i,h=>by
  rw[vsG,zy3,Do]
  refine Dh.2 ⟨?_,zM9 fun x hx=>h x (B1 _ hx),fun a ha b hb=> ?_⟩
  .unfold onF
   rw[Bw]
   refine D8.2 ((h l (B8 ..)).imp fun{a b} aa=> ?_)
   simp[yX,aa]
  .obtain⟨x,hx,rfl⟩:=Ag.1 ha
   obtain⟨y,hy,rfl⟩:=Ag.1 hb
   obtain⟨z,hz,rfl⟩:=Ag.1 hx
   have:=(yp8 hy).1
   simp only[yX,Bn,decide_eq_true_eq]
   exact .inl om
theorem yJ5: ∀{ps:List (Pl×List UInt8)} {s:List (Pl×List UInt8)×List Ln},((s.1++ps).map (·.1)).Nodup->(ps.foldl zy1 s).1=s.1++ps
 | [],s,_=>by simp
 |q::ps,s,h=>by
  have hq:(s.1.any fun e=>e.1==q.1)=false:=by
   cases e:s.1.any fun e=>e.1==q.1 with
   |false=>rfl
   |true=>
    obtain⟨x,hx,aa⟩:=Dd.1 e
    rw[Do,Di]at h
    exact absurd (by simpa using aa) (h.2.2 x.1 (Ag.2 ⟨x,hx,rfl⟩) q.1 sm)
  have hs:(zy1 s q).1=s.1++ [q]:=by
   unfold zy1
   rw[if_neg (by rw[hq];decide)]
  rw[Bi,yJ5 (by rw[hs];simpa using h),hs]
  simp
structure StI (n:Nat) (P:List (List Pr)):Prop where
 eight:P.length=8
 rise: ∀l∈P,zz9 l
 rows: ∀q∈yL (vsG 0 P),zs9 q.1.1 q.1.2 q.2=true
 len:(yL (vsG 0 P)).length<=n
theorem yO2 {data:List UInt8} (h:zs9 p.1 p.2 data=true):data.length<=20000:=by
 obtain⟨h1,h2⟩:=yJ0 h
 obtain⟨tn,T,_,hT,hm⟩:=h1.tab
 have hL:=zA9 ((by decide: ∀T∈tabsS,T.cols.length<=20) T (B5 hT)) h1.ok hm
 have:=zS6 hL (rowF tabsS (ofS p.1).1 data).1.length
 rw[show zF1 (rowF tabsS (ofS p.1).1 data).1 (rowF tabsS (ofS p.1).1 data).1.length=data from h2]at this
 exact this
theorem xY4:StI 0 [[],[],[],[],[],[],[],[]]:=
 ⟨rfl,fun l hl=>by
  have:l= []:=by simpa using hl
  subst this;exact List.Pairwise.nil,fun q hq=>by simp[vsG,yL,onF]at hq,by simp[vsG,yL,onF]⟩
theorem StI.vs {P:List (List Pr)} (h:StI n P) (hn:n<=7500):(vsG 0 P).length=8/\(∀x∈vsG 0 P,x.1<1000/\x.2.length<=7500/\ ∀q∈x.2,q.2.length<=maxB)/\((vsG 0 P).map (·.1)).Nodup/\(yL (vsG 0 P)).length<=7500:=by
 refine⟨by rw[ya3];exact h.eight,fun x hx=> ?_,ys0 _ _,B2 h.len hn⟩
 obtain⟨h1,h2,h3⟩:=ya4 hx
 rw[h.eight]at h2
 refine⟨om, ?_,fun q hq=> ?_⟩
 .have:(onF x.1 x.2).Sublist (yL (vsG 0 P)):=by
   unfold yL
   obtain⟨A,B,e⟩:=List.append_of_mem hx
   rw[e,Ed,Bq]
   exact(List.sublist_append_left _ _).trans (List.sublist_append_right _ _)
  have h4:=this.length_le
  have h5:(onF x.1 x.2).length=x.2.length:=by simp[onF]
  have:=h.len
  omega
 .have hm:(((x.1:Int),q.1),q.2)∈yL (vsG 0 P):=List.mem_flatMap.2 ⟨x,hx,Ag.2 ⟨q,hq,rfl⟩⟩
  have:=yO2 (p:=((x.1:Int),q.1)) (h.rows _ hm)
  exact B2 this dc
theorem StI.step {P:List (List Pr)} (h:StI n P) (hl:LOk lot):StI (n+240) (doP P (if(lotF lot (wU (vsG 0 P))).1.1≠0 then []else grpF (chgF (wU (vsG 0 P)) (lotF lot (wU (vsG 0 P))).2))):=by
 by_cases e0:(lotF lot (wU (vsG 0 P))).1.1≠0
 .rw[if_pos e0]
  exact⟨h.eight,h.rise,h.rows,by show(yL (vsG 0 P)).length<=_;have:=h.len;omega⟩
 rw[if_neg e0]
 obtain⟨m,hT⟩:=ye3 (vsG 0 P)
 have ai:((yL (vsG 0 P)).map (·.1)).Nodup:=(zM9 h.rise).nodup
 have ae:((yL (vsG 0 P)).foldl zy1 ([],[])).1=yL (vsG 0 P):=by
  rw[yJ5 (by simpa using ai)];rfl
 obtain⟨was,hw⟩:=eX (wU (vsG 0 P))
 have aa:NowOk m.2.1 was:=by rw[<-hw];exact hT.now
 have ao:LsK was:=by rw[<-hw];exact fun x hx=>⟨hT.now.rows x hx,(hT.lines x hx).1⟩
 have az:was.length<=(yL (vsG 0 P)).length:=by rw[<-hw];exact hT.len
 have af: ∀q∈yL (vsG 0 P),∃x∈was,x.at=q.1/\yH x.v=q.2:=fun q hq=>by
  rw[<-hw]
  exact hT.rows q (by rw[ae];exact hq) (h.rows q hq)
 rw[hw]at e0⊢
 obtain⟨now,hN⟩:=eX ((lotF lot was).2)
 obtain⟨⟨b',ab⟩,hk,hlen⟩:=yY8 hl aa ao (by simpa using e0)
 rw[hN]at ab hk hlen⊢
 have aj:=xl6 aa.rows ab.rows aa.rise ab.rise rfl
 have ag:=(yt2 aa.rise ab.rise).2
 unfold grpF
 rw[yW3 P _ [] (fun w hw=>by rcases aj w hw with h|h|h|h<;>omega)]
 show StI (n+240) ((chgF was now).foldl (fun P w=>doR w.p.1 P w) P)
 have ad: ∀q∈yL (vsG 0 ((chgF was now).foldl (fun P w=>doR w.p.1 P w) P)),∃x∈now,(x.at,yH x.v)=q:=fun q hq=>by
  rcases yE3 (fun w hw=>by rw[h.eight];rcases aj w hw with h|h|h|h<;>omega) (xj1 hq)with ⟨w,aq,h1,h2,h3⟩|⟨h1,h2⟩
  .rcases(ag w).1 aq with ⟨g1,_⟩|⟨_,x,hx,g2,g3,_⟩
   .rw[g1]at h2;cases h2
   .exact⟨x,hx,by rw[g2,h1,g3,<-h3]⟩
  .obtain⟨y,hy,ak,ar⟩:=af q (xf4 h2)
   have au:atF now q.1=true:=by
    cases e:atF now q.1 with
    |true=>rfl
    |false=>exact absurd rfl (h1 ⟨q.1,true,[]⟩ ((ag _).2 (.inl ⟨rfl,rfl,⟨y,hy,ak⟩,e⟩)))
   obtain⟨x,hx,ah⟩:=Ag.1 (atF_iff.1 au)
   by_cases e:yH x.v=q.2
   .exact⟨x,hx,by rw[ah,e]⟩
   .refine absurd ah (h1 ⟨x.at,false,yH x.v⟩ ((ag _).2 (.inr ⟨rfl,x,hx,rfl,rfl,fun z hz av e2=>e ?_⟩)))
    have aw:z=y:=by
     have ax:=aa.rise.nodup
     obtain⟨i,hi,rfl⟩:=List.getElem_of_mem hz
     obtain⟨j,hj,rfl⟩:=List.getElem_of_mem hy
     have ay:i=j:=by
      have h1:(was.map Ln.at)[i]'(by simpa using hi)=(was.map Ln.at)[j]'(by simpa using hj):=by
       rw[Er,Er,av,ah,ak]
      exact(List.getElem_inj ax).1 h1
     subst ay;rfl
    rw[<-e2,aw,ar]
 have al:=yo1 (ws:=chgF was now) h.rise
 refine⟨by rw[yo0];exact h.eight,al,fun q hq=> ?_, ?_⟩
 .obtain⟨x,hx,rfl⟩:=ad q hq
  exact(hk x hx).2
 .have an:(yL (vsG 0 ((chgF was now).foldl (fun P w=>doR w.p.1 P w) P))).Nodup:=(D8.1 (zM9 al).nodup).imp fun h e=>h (congrArg _ e)
  have hle:=an.length_le_of_subset (l₂:=now.map fun x=>(x.at,yH x.v)) fun q hq=>by
   obtain⟨x,hx,rfl⟩:=ad q hq
   exact Ag.2 ⟨x,hx,rfl⟩
  rw[Aw]at hle
  have:=h.len
  omega
theorem xF6 {N:Nat} {out:List (Int×List Wr)} (h:out.length<=N/\ ∀q∈out,q.2.length<=N):(grpS out w).length<=N+1/\ ∀q∈grpS out w,q.2.length<=N+1:=by
 unfold grpS
 cases e:out.getLast? with
 |none=>exact⟨sm,fun q hq=>by rw[Ca]at hq;rw[hq];simp⟩
 |some p=>
  have hp:=h.2 p (List.mem_of_getLast? e)
  simp only
  split
  .refine⟨by have:=h.1;simp;omega,fun q hq=> ?_⟩
   rcases Ba.1 hq with hq|hq
   .have:=h.2 q (List.dropLast_subset _ hq);omega
   .rw[Ca]at hq;rw[hq];simp;exact hp
  .refine⟨by have:=h.1;simp;omega,fun q hq=> ?_⟩
   rcases Ba.1 hq with hq|hq
   .have:=h.2 q hq;omega
   .rw[Ca]at hq;rw[hq];simp
theorem yX4: ∀{l:List Wr} {out:List (Int×List Wr)} {N:Nat},out.length<=N/\(∀q∈out,q.2.length<=N)->(l.foldl grpS out).length<=N+l.length/\ ∀q∈l.foldl grpS out,q.2.length<=N+l.length
 | [],out,N,h=>⟨by have:=h.1;simpa using this,fun q hq=>by have:=h.2 q hq;simpa using this⟩
 |w::l,out,N,h=>by
  have h2:=yX4 (l:=l) (xF6 (w:=w) h)
  rw[Bi,Al]
  exact⟨by have:=h2.1;omega,fun q hq=>by have:=h2.2 q hq;omega⟩
theorem xo4 (was now:List Ln):(chgF was now).length<=was.length+now.length:=by
 have hf: ∀(f:Ln->Wr) (m:List Ln) (l:List Wr),(m.foldl (fun l x=>insW l (f x)) l).length=l.length+m.length:=fun f m=>by
  induction m with
  |nil=>intro l;simp
  |cons x m ih=>intro l;rw[Bi,ih,(zT2 _ _).length_eq,Al,Al];omega
 unfold chgF
 rw[hf (fun x=>⟨x.at,false,yH x.v⟩),hf (fun x=>⟨x.at,true,[]⟩)]
 have h1:=Bl (fun x=> !(was.any fun y=>decide (y.at=x.at)&&decide (yH y.v=yH x.v))) now
 have h2:=Bl (fun x:Ln=> !atF now x.at) was
 simp only[Db]
 omega
def zw3 (lot:GLot) (was:List Ln):List (Int×List Wr):=if(lotF lot was).1.1≠0 then []else grpF (chgF was (lotF lot was).2)
theorem xx2 (hl:LOk lot) (hn:NowOk b l) (hk:LsK l) (hlen:l.length<=7500):(zw3 lot l).length<=100000/\ ∀q∈zw3 lot l,q.2.length<=100000:=by
 unfold zw3
 by_cases q:(lotF lot l).1.1≠0
 .rw[if_pos q];exact⟨A7 _,fun x hx=>by cases hx⟩
 rw[if_neg q]
 obtain⟨_,_,h⟩:=yY8 hl hn hk (by simpa using q)
 have h2:=xo4 l (lotF lot l).2
 have h3:=yX4 (l:=chgF l (lotF lot l).2) (out:= []) (N:=0) ⟨A6 _,fun q hq=>by cases hq⟩
 unfold grpF
 exact⟨by have:=h3.1;omega,fun q hq=>by have:=h3.2 q hq;omega⟩
def digL:Nat->Nat->List UInt8->List UInt8
 |0,_,acc=>acc
 |f+1,u,acc=>if u=0 then acc else digL f (u/10) ((48+UInt8.ofNat (u%10))::acc)
def digF (n:Nat):List UInt8:=if n=0 then [48]else digL 20 n []
theorem xp6 (r:Nat) (h:r<10):((48:UInt8)::List.take r [49,50,51,52,53,54,55,56,57]).drop r= [(48+UInt8.ofNat r)]:=by
 have:r=0∨r=1∨r=2∨r=3∨r=4∨r=5∨r=6∨r=7∨r=8∨r=9:=om
 rcases this with rfl|rfl|rfl|rfl|rfl|rfl|rfl|rfl|rfl|rfl<;>rfl
theorem yD0: ∀(f u:Nat) (acc:List UInt8),(digL f u acc).length<=f+acc.length
 |0,u,acc=>by rw[digL];omega
 |f+1,u,acc=>by
  rw[digL]
  split
  .omega
  .have:=yD0 f (u/10) ((48+UInt8.ofNat (u%10))::acc);simp only[Al]at this;omega
theorem yb7 (n:Nat):(digF n).length<=20:=by
 unfold digF
 split
 .decide
 .have:=yD0 20 n [];simpa using this
theorem yb0 (n:Nat) (hn:n<=9223372036854775807):Pure prog 27 [.int .i64 n] (.str (digF n)):=by
 generalize hM:digF n=M
 unfold digF at hM
 have ret: ∀(r:List UInt8) (σ:St),r=M->wret (some (.str r)) 0 (fun r s=>r= .str M/\s= []) σ:=fun r σ h=>by subst h;exact wR
 refine iV 0 func27 ntmps27 results27 fun c hc hb=> ?_
 refine zA ?_
 simp[go_sem]
 by_cases q0:n=0
 .rw[if_pos q0]at hM
  simp[go_sem,q0]
  exact ret _ _ hM
 rw[if_neg q0]at hM
 have ae:((n:Int)==0)=false:=by simpa using q0
 have ab:decide ((n:Int)<0)=false:=decide_eq_false om
 have eu:IntKind.u64.wrap (n:Int)=(n:Int):=Vx.u64_id om om
 simp[go_sem,ae,ab,eu]
 refine zI (S:=Nat×List UInt8) [0,3,4] (fun u=> [.int .i64 n,.int .u64 (u.1:Int),.str u.2]) (fun _=> []) (fun u=>u.1)
  (fun u=>u.1<=n/\ ∃f,u.1<10^f/\u.2.length+f<=20/\digL f u.1 u.2=M) hc hb (n,[]) ⟨A6 _,20,by simp only;omega,sm,hM⟩ ?_ ?_
 .exact aO
 rintro⟨u,s⟩ ⟨hu,f,hf,hs,hinv⟩
 simp only at hu hf hs hinv
 by_cases q:u=0
 .subst q
  have hinv:s=M:=by
   rw[<-hinv]
   cases f with
   |zero=>rfl
   |succ f=>rw[digL,if_pos rfl]
  refine zA ?_
  simp[go_sem,ab]
  exact ret _ _ hinv
 obtain⟨f,rfl⟩: ∃g,f=g+1:=by
  cases f with
  |zero=>simp at hf;omega
  |succ f=>exact⟨f,rfl⟩
 rw[digL,if_neg q]at hinv
 have hq:0<u:=om
 have er:(u:Int).tmod 10=((u%10:Nat):Int):=by rw[Int.tmod_eq_emod_of_nonneg om];omega
 have aa:IntKind.u64.wrap (((u%10:Nat):Int)+1)=((u%10+1:Nat):Int):=by rw[Vx.u64_id om om];omega
 have af:(u:Int).tdiv 10=((u/10:Nat):Int):=by rw[Int.tdiv_eq_ediv_of_nonneg om];omega
 have ed:IntKind.u64.wrap ((u:Int).tdiv 10)=((u/10:Nat):Int):=by
  rw[Int.tdiv_eq_ediv_of_nonneg om,Vx.u64_id om om];omega
 have ad:=xp6 (u%10) (Cv _ dc)
 obtain⟨r,hr⟩:=eX (u%10)
 have ah:r<10:=om
 rw[hr]at er aa ad hinv
 have ag:IntKind.u64.wrap ((u:Int)/10)=(u:Int)/10:=Vx.u64_id om om
 have ai:((r:Int)).toNat=r:=B6 r
 have aj:((r+1:Nat):Int).toNat=r+1:=B6 _
 refine zA ?_
 simp only[Int.natCast_add,Cj]at aa
 simp[go_sem,hq,er,aa]
 refine zG om ?_
 simp[go_sem,ad]
 refine zG om ?_
 simp[go_sem,af,ag]
 refine zH (u/10,(48+UInt8.ofNat r)::s) ⟨by simp only;omega,⟨by simp only;omega,f,by simp only;rw[Eo]at hf;omega,by simp;omega,hinv⟩, ?_⟩
 exact aO
theorem zY6 (k n:Int) (hk:i64R k) (h1:1<=n) (h2:n<=1000):Pure prog 80 [.int .i64 k,.int .i64 n] (.int .i64 (k%n)):=by
 obtain⟨ae,af⟩:=hk
 have q1:decide (n<1)=false:=decide_eq_false om
 have q0: ¬n<1:=om
 have qz: ¬n=0:=om
 have he:=Eu k (b:=n) om
 have hl:=El k (b:=n) om
 have ht:=Int.tmod_eq_emod (a:=k) (b:=n)
 obtain⟨r,hr⟩:=eX (k%n)
 obtain⟨t,ab⟩:=eX (k.tmod n)
 rw[hr]at he hl ht⊢
 rw[ab]at ht
 have ag:((n.natAbs:Nat):Int)=n:=om
 have ad:t=r∨t=r - n:=by
  split at ht
  .left;omega
  .right;omega
 have et:IntKind.i64.wrap t=t:=i64_id om om
 have er:IntKind.i64.wrap r=r:=i64_id om om
 have ret: ∀(v:Int) (σ:St),v=r->wret (some (.int .i64 v)) 0 (fun r' s=>r'= .int .i64 r/\s= []) σ:=fun v σ h=>by subst h;exact wR
 refine iV 0 func80 ntmps80 results80 fun c hc hb=> ?_
 refine zA ?_
 simp[go_sem,q0]
 refine zG qz ?_
 simp[go_sem,ab]
 rcases ad with e|e
 .have q2:decide (t<0)=false:=decide_eq_false om
  have aa: ¬t<0:=om
  simp[go_sem,aa]
  exact ret _ _ e
 .have q2:decide (t<0)=true:=decide_eq_true om
  have aa:t<0:=om
  have e3:t+n=r:=om
  simp[go_sem,aa,e3,er]
  exact wR
def numP (k:Int):List UInt8:=if k.tmod 41=40 then [57,50,50,51,51,55,50,48,51,54,56,53,52,55,55,53,56,48,55]else digF (k%12).toNat
theorem yH5 (k:Int):(numP k).length<=20:=by
 unfold numP
 split
 .decide
 .exact yb7 _
theorem yf3 (k:Int) (hk:i64R k):Pure prog 81 [.int .i64 k] (.str (numP k)):=by
 have hp:=zY6 k 12 hk dc dc
 have hd:=yb0 (k%12).toNat om
 rw[show(((k%12).toNat:Nat):Int)=k%12 by omega]at hd
 obtain⟨aa,ab⟩:=hk
 have ht:=Int.tmod_eq_emod (a:=k) (b:=41)
 have et:IntKind.i64.wrap (k.tmod 41)=k.tmod 41:=by
  have:=Eu k (b:=41) dc
  have:=El k (b:=41) dc
  split at ht<;>exact i64_id om om
 generalize hM:numP k=M
 unfold numP at hM
 obtain⟨u,hu⟩:=eX (k.tmod 41)
 rw[hu]at et hM
 clear ht
 have ret: ∀(v:List UInt8) (σ:St),v=M->wret (some (.str v)) 0 (fun r' s=>r'= .str M/\s= []) σ:=fun v σ h=>by subst h;exact wR
 refine iV 0 func81 ntmps81 results81 fun c hc hb=> ?_
 refine zA ?_
 by_cases q:u=40
 .rw[if_pos q]at hM
  have q':(u==40)=true:=by simpa using q
  simp[go_sem,hu,q']
  exact ret _ _ hM
 .rw[if_neg q]at hM
  have q':(u==40)=false:=by simpa using q
  simp[go_sem,hu,q']
  refine pC hp ?_
  simp[go_sem]
  refine pC hd ?_
  simp[go_sem]
  exact ret _ _ hM
theorem xR9 (k:Int) (hk:i64R k): ∃t:List UInt8,t.length<=20/\Pure prog 82 [.int .i64 k] (.str t):=by
 have hp:=zY6 k 5 hk dc dc
 have h0:=Eu k (b:=5) dc
 have h1:=El k (b:=5) dc
 obtain⟨r,hr⟩:=eX (k%5)
 rw[hr]at hp h0 h1
 have:r=0∨r=1∨r=2∨r=3∨r=4:=om
 have walk: ∀r:Int,(r=0∨r=1∨r=2∨r=3∨r=4)->Pure prog 80 [.int .i64 k,.int .i64 5] (.int .i64 r)->Pure prog 82 [.int .i64 k] (.str [39,97+UInt8.ofNat r.toNat,39]):=fun r aa hp=>by
  refine iV 0 func82 ntmps82 results82 fun c hc hb=> ?_
  refine zA ?_
  simp[go_sem]
  refine pC hp ?_
  rcases aa with rfl|rfl|rfl|rfl|rfl
  all_goals
   simp[go_sem]
   refine zG (fun x hx=>⟨_,Ca.1 hx⟩) ?_
   simp[go_sem,zq0]
   exact wR
 exact⟨_,sm,walk r this hp⟩
theorem xz8 (k:Int) (_hk:i64R k): ∃t:List UInt8,t.length<=20/\Pure prog 83 [.int .i64 k] (.str t):=by
 have ht:=Int.tmod_eq_emod (a:=k) (b:=2)
 have et:IntKind.i64.wrap (k.tmod 2)=k.tmod 2:=by
  have:=Eu k (b:=2) dc
  have:=El k (b:=2) dc
  split at ht<;>exact i64_id om om
 obtain⟨u,hu⟩:=eX (k.tmod 2)
 rw[hu]at et
 clear ht
 by_cases q:u=0
 .refine⟨[84,82,85,69],dc, ?_⟩
  have q':(u==0)=true:=by simpa using q
  refine iV 0 func83 ntmps83 results83 fun c hc hb=> ?_
  refine zA ?_
  simp[go_sem,hu,q']
  exact wR
 .refine⟨[70,65,76,83,69],dc, ?_⟩
  have q':(u==0)=false:=by simpa using q
  refine iV 0 func83 ntmps83 results83 fun c hc hb=> ?_
  refine zA ?_
  simp[go_sem,hu,q']
  exact wR
def stF (r n g v b:List UInt8):Nat->List UInt8
 |0=> [73,78,83,69,82,84,32,73,78,84,79,32,84,32,86,65,76,85,69,83,32,40]++r++ [44,32]++n++ [44,32,39,118]++v++ [39,44,32]++v++ [41]
 |1=> [73,78,83,69,82,84,32,73,78,84,79,32,84,32,86,65,76,85,69,83,32,40]++r++ [44,32]++n++ [44,32,39,118]++v++ [39,44,32]++v++ [41]
 |2=> [73,78,83,69,82,84,32,73,78,84,79,32,71,32,86,65,76,85,69,83,32,40]++g++ [44,32]++v++ [44,32,78,85,76,76,41]
 |3=> [85,80,68,65,84,69,32,84,32,83,69,84,32,78,32,61,32,78,32,43,32]++v++ [32,87,72,69,82,69,32,75,32,61,32]++n
 |4=> [85,80,68,65,84,69,32,84,32,83,69,84,32,78,32,61,32]++v++ [44,32,86,32,61,32,39,120,39,32,87,72,69,82,69,32,82,32,61,32]++r++ [32,65,78,68,32,75,32,62,61,32]++n
 |5=> [85,80,68,65,84,69,32,71,32,83,69,84,32,78,32,61,32,78,32,42,32]++v++ [32,87,72,69,82,69,32,75,32,61,32]++g
 |6=> [68,69,76,69,84,69,32,70,82,79,77,32,84,32,87,72,69,82,69,32,75,32,60,32]++v
 |7=> [68,69,76,69,84,69,32,70,82,79,77,32,71,32,87,72,69,82,69,32,75,32,61,32]++g
 |8=> [83,69,76,69,67,84,32,42,32,70,82,79,77,32,84]
 |9=> [83,69,76,69,67,84,32,75,44,32,78,32,43,32,49,32,70,82,79,77,32,84,32,87,72,69,82,69,32,82,32,61,32]++r++ [32,79,82,68,69,82,32,66,89,32,78,32,68,69,83,67,32,76,73,77,73,84,32]++v
 |10=> [83,69,76,69,67,84,32,42,32,70,82,79,77,32,71]
 |11=> [83,69,76,69,67,84,32,67,79,85,78,84,40,42,41,44,32,83,85,77,40,78,41,32,70,82,79,77,32,84,32,87,72,69,82,69,32,75,32,60,62,32]++n
 |12=> [83,69,76,69,67,84,32,42,32,70,82,79,77,32,71,32,87,72,69,82,69,32,75,32,61,32]++g
 |13=> [73,78,83,69,82,84,32,73,78,84,79,32,72,32,86,65,76,85,69,83,32,40]++b++ [44,32]++v++ [41]
 |14=> [85,80,68,65,84,69,32,72,32,83,69,84,32,78,32,61,32,78,32,45,32]++v
 |15=> [83,69,76,69,67,84,32,83,85,77,40,78,32,47,32]++v++ [41,32,70,82,79,77,32,72]
 |16=> [73,78,83,69,82,84,32,73,78,84,79,32,84,32,86,65,76,85,69,83,32,40]++r++ [44,32]++n++ [44,32,78,85,76,76,44,32]++v++ [41,44,32,40,49,44,32]++v++ [44,32,39,116,119,111,39,44,32,78,85,76,76,41]
 |17=> [83,69,76,69,67,84,32,78,32,70,82,79,77,32,84,32,87,72,69,82,69,32,75,32,61,32]++n
 |18=> [85,80,68,65,84,69,32,71,32,83,69,84,32,78,32,61,32,78,32,43,32,49,44,32,66,32,61,32,78,32,62,32]++v
 |_=> [83,69,76,69,67,84,32,86,32,70,82,79,77,32,84,32,87,72,69,82,69,32,78,32,73,83,32,78,85,76,76,32,79,82,32,75,32,62,61,32]++n++ [32,79,82,68,69,82,32,66,89,32,86]
theorem xJ6 {r n g v b:List UInt8} (hr:r.length<=20) (hn:n.length<=20) (hg:g.length<=20) (hv:v.length<=20) (hb:b.length<=20) (k:Nat):(stF r n g v b k).length<=300:=by
 unfold stF
 split<;>simp<;>omega
theorem zQ5 (a:GAct) (ha:a.ok): ∃t:List UInt8,t.length<=300/\Pure prog 37 [.agg a.row] (.str t):=by
 have hw:=zY6 a.what 20 ha.what dc dc
 have ae:=zY6 a.a 2 ha.a dc dc
 have ad:=yb0 (a.a%2).toNat om
 rw[show(((a.a%2).toNat:Nat):Int)=a.a%2 by omega]at ad
 have af:=yf3 a.b ha.b
 have ag:=yf3 a.c ha.c
 obtain⟨g,al,hg⟩:=xR9 a.b ha.b
 obtain⟨tr,an,ht⟩:=xz8 a.a ha.a
 have h0:=Eu a.what (b:=20) dc
 have h1:=El a.what (b:=20) dc
 obtain⟨w,ah⟩: ∃w:Nat,a.what%20=w:=⟨(a.what%20).toNat,om⟩
 have ai:w<20:=om
 rw[ah]at hw
 clear ah h0 h1
 obtain⟨r,hr⟩:=eX (digF (a.a%2).toNat)
 have ao:r.length<=20:=by rw[<-hr];exact yb7 _
 rw[hr]at ad
 obtain⟨rm,aj⟩:=eX (a.a%2)
 rw[aj]at ae ad
 clear hr aj
 obtain⟨n,hn⟩:=eX (numP a.b)
 have aq:n.length<=20:=by rw[<-hn];exact yH5 _
 rw[hn]at af
 clear hn
 obtain⟨v,hv⟩:=eX (numP a.c)
 have ar:v.length<=20:=by rw[<-hv];exact yH5 _
 rw[hv]at ag
 clear hv ha
 obtain⟨wh,aa,ab,ac⟩:=a
 simp only at hw ae af ag hg ht
 refine⟨stF r n g v tr w,xJ6 ao aq al ar an w, ?_⟩
 obtain⟨M,hM⟩:=eX (stF r n g v tr w)
 rw[hM]
 have ret: ∀(x:List UInt8) (σ:St),x=M->wret (some (.str x)) 0 (fun r s=>r= .str M/\s= []) σ:=fun x σ h=>by subst h;exact wR
 refine iV 0 func37 ntmps37 results37 fun c hc hb=> ?_
 refine zA ?_
 simp[go_sem]
 refine yV [(2,0),(3,0),(6,0),(9,0)] 1 rfl kR kR ?_
 simp[go_sem]
 refine pD ae ?_
 simp[go_sem]
 refine pD ad ?_
 simp[go_sem]
 refine pD af ?_
 simp[go_sem]
 refine pD hg ?_
 simp[go_sem]
 refine pC ag ?_
 simp[go_sem]
 refine pC hw ?_
 have ak:w=0∨w=1∨w=2∨w=3∨w=4∨w=5∨w=6∨w=7∨w=8∨w=9∨w=10∨w=11∨w=12∨w=13∨w=14∨w=15∨w=16∨w=17∨w=18∨w=19:=om
 clear hw ai
 rcases ak with rfl|rfl|rfl|rfl|rfl|rfl|rfl|rfl|rfl|rfl|rfl|rfl|rfl|rfl|rfl|rfl|rfl|rfl|rfl|rfl
 .simp[go_sem]
  repeat (refine zG (by first|omega|(simp;omega)) ?_;simp[go_sem])
  exact ret _ _ (by rw[<-hM];simp[stF])
 .simp[go_sem]
  repeat (refine zG (by first|omega|(simp;omega)) ?_;simp[go_sem])
  exact ret _ _ (by rw[<-hM];simp[stF])
 .simp[go_sem]
  repeat (refine zG (by first|omega|(simp;omega)) ?_;simp[go_sem])
  exact ret _ _ (by rw[<-hM];simp[stF])
 .simp[go_sem]
  repeat (refine zG (by first|omega|(simp;omega)) ?_;simp[go_sem])
  exact ret _ _ (by rw[<-hM];simp[stF])
 .simp[go_sem]
  repeat (refine zG (by first|omega|(simp;omega)) ?_;simp[go_sem])
  exact ret _ _ (by rw[<-hM];simp[stF])
 .simp[go_sem]
  repeat (refine zG (by first|omega|(simp;omega)) ?_;simp[go_sem])
  exact ret _ _ (by rw[<-hM];simp[stF])
 .simp[go_sem]
  repeat (refine zG (by first|omega|(simp;omega)) ?_;simp[go_sem])
  exact ret _ _ (by rw[<-hM];simp[stF])
 .simp[go_sem]
  repeat (refine zG (by first|omega|(simp;omega)) ?_;simp[go_sem])
  exact ret _ _ (by rw[<-hM];simp[stF])
 .simp[go_sem]
  repeat (refine zG (by first|omega|(simp;omega)) ?_;simp[go_sem])
  exact ret _ _ (by rw[<-hM];simp[stF])
 .simp[go_sem]
  repeat (refine zG (by first|omega|(simp;omega)) ?_;simp[go_sem])
  exact ret _ _ (by rw[<-hM];simp[stF])
 .simp[go_sem]
  repeat (refine zG (by first|omega|(simp;omega)) ?_;simp[go_sem])
  exact ret _ _ (by rw[<-hM];simp[stF])
 .simp[go_sem]
  repeat (refine zG (by first|omega|(simp;omega)) ?_;simp[go_sem])
  exact ret _ _ (by rw[<-hM];simp[stF])
 .simp[go_sem]
  repeat (refine zG (by first|omega|(simp;omega)) ?_;simp[go_sem])
  exact ret _ _ (by rw[<-hM];simp[stF])
 .simp[go_sem]
  refine pC ht ?_
  simp[go_sem]
  repeat (refine zG (by first|omega|(simp;omega)) ?_;simp[go_sem])
  exact ret _ _ (by rw[<-hM];simp[stF])
 .simp[go_sem]
  repeat (refine zG (by first|omega|(simp;omega)) ?_;simp[go_sem])
  exact ret _ _ (by rw[<-hM];simp[stF])
 .simp[go_sem]
  repeat (refine zG (by first|omega|(simp;omega)) ?_;simp[go_sem])
  exact ret _ _ (by rw[<-hM];simp[stF])
 .simp[go_sem]
  repeat (refine zG (by first|omega|(simp;omega)) ?_;simp[go_sem])
  exact ret _ _ (by rw[<-hM];simp[stF])
 .simp[go_sem]
  repeat (refine zG (by first|omega|(simp;omega)) ?_;simp[go_sem])
  exact ret _ _ (by rw[<-hM];simp[stF])
 .simp[go_sem]
  repeat (refine zG (by first|omega|(simp;omega)) ?_;simp[go_sem])
  exact ret _ _ (by rw[<-hM];simp[stF])
 .simp[go_sem]
  repeat (refine zG (by first|omega|(simp;omega)) ?_;simp[go_sem])
  exact ret _ _ (by rw[<-hM];simp[stF])
end Go.Proofs.YtefbicjgbaaieaaGreat
namespace Go.Proofs.YtefbicjgbaaieaaGreat
open Go Go.Vx R Go.Proofs.Tryz
set_option maxRecDepth 100000
open Classical in
noncomputable def actT (a:GAct):List UInt8:=if h:a.ok then Classical.choose (zQ5 a h)else []
theorem xm6 {a:GAct} (h:a.ok):(actT a).length<=300/\Pure prog 37 [.agg a.row] (.str (actT a)):=by
 unfold actT
 rw[dif_pos h]
 exact Classical.choose_spec (zQ5 a h)
noncomputable def txF:List GAct->Nat->List UInt8->List UInt8
 | [],_,s=>s
 |a::l,i,s=>if i<3 then txF l (i+1) ((if 0<i then s++ [59,32]else s)++actT a)else s
theorem xc3: ∀{l:List GAct} {i:Nat} {s:List UInt8},(∀a∈l,a.ok)->i<=3->(txF l i s).length<=s.length+302*(3 - i)
 | [],i,s,_,_=>by rw[txF];omega
 |a::l,i,s,h,hi=>by
  rw[txF]
  split
  .rename_i q
   have ha:=(xm6 (h a (B8 ..))).1
   refine B2 (xc3 (fun x hx=>h x (B1 _ hx)) om) ?_
   rw[B0]
   have:(if 0<i then s++ [59,32]else s).length<=s.length+2:=by split<;>simp
   omega
  .omega
noncomputable def yr6 (l:List GAct):List UInt8:=if txF l 0 []= []then [83,69,76,69,67,84,32,42,32,70,82,79,77,32,71]else txF l 0 []
theorem xk9 {l:List GAct} (h: ∀a∈l,a.ok):(yr6 l).length<=2000:=by
 unfold yr6
 have:=xc3 (s:= []) h (A7 3)
 split
 .decide
 .simp at this;omega
theorem xU6 (l:List GAct) (_hl:l.length<=maxLen) (hok: ∀a∈l,a.ok):Pure prog 15 [.sl .ro (l.map GAct.row),.int .i64 0,.int .i64 0] (.str (yr6 l)):=by
 obtain⟨M,hM⟩:=eX (yr6 l)
 rw[hM]
 unfold yr6 at hM
 obtain⟨T,hT⟩:=eX (txF l 0 [])
 rw[hT]at hM
 have ret: ∀(x:List UInt8) (σ:St),x=M->wret (some (.str x)) 0 (fun r s=>r= .str M/\s= []) σ:=fun x σ h=>by subst h;exact wR
 refine iV 0 func15 ntmps15 results15 fun c hc hb=> ?_
 refine zA ?_
 simp[go_sem]
 refine zI (S:=Nat×List UInt8) [0,1,7,8] (fun u=> [.sl .ro (l.map GAct.row),.int .i64 0,.str u.2,.int .i64 u.1]) (fun _=> []) (fun u=>l.length - u.1) (fun u=>u.1<=l.length/\u.1<=3/\u.2.length<=302*u.1/\txF (l.drop u.1) u.1 u.2=T) hc hb (0,[]) ⟨A7 _,A7 _,A7 _,hT⟩ ?_ ?_
 .exact aO
 rintro⟨i,s⟩ ⟨hi,af,hs,hinv⟩
 simp only at hi af hs hinv
 by_cases q:i<l.length/\i<3
 rotate_left
 .have ab:s=T:=by
   by_cases q1:i<l.length
   .rw[Aa q1,txF,if_neg om]at hinv
    exact hinv
   .rw[Ad om]at hinv
    exact hinv
  refine zA ?_
  by_cases q1:i<l.length
  .have q3: ¬i<3:=om
   have ad:decide ((i:Int)<3)=false:=decide_eq_false om
   simp[go_sem,q1,ad]
   by_cases q0:s= []
   .have aa:s.isEmpty=true:=by simpa using q0
    rw[if_pos (by rw[<-ab];exact q0)]at hM
    simp[go_sem,aa]
    exact ret _ _ hM
   .have aa:s.isEmpty=false:=by simpa using q0
    rw[if_neg (by rw[<-ab];exact q0)]at hM
    simp[go_sem,aa]
    exact ret _ _ (by rw[ab];exact hM)
  .simp[go_sem,q1]
   by_cases q0:s= []
   .have aa:s.isEmpty=true:=by simpa using q0
    rw[if_pos (by rw[<-ab];exact q0)]at hM
    simp[go_sem,aa]
    exact ret _ _ hM
   .have aa:s.isEmpty=false:=by simpa using q0
    rw[if_neg (by rw[<-ab];exact q0)]at hM
    simp[go_sem,aa]
    exact ret _ _ (by rw[ab];exact hM)
 obtain⟨q1,q3⟩:=q
 have ei:=zS q3 om
 have ad:decide ((i:Int)<3)=true:=decide_eq_true om
 obtain⟨a,ha⟩:=eX (l[i])
 obtain⟨ag,ae⟩:=xm6 (hok a (ha▸Ac q1))
 rw[Aa q1,ha,txF,if_pos q3]at hinv
 by_cases q0:0<i
 .have aa:decide (0<(i:Int))=true:=decide_eq_true om
  rw[if_pos q0]at hinv
  refine zA ?_
  simp[go_sem,q1,ad,q0]
  refine zG (by first|omega|(simp;omega)) ?_
  simp[go_sem,q1,ha]
  refine pC ae ?_
  simp[go_sem]
  refine zG (by first|omega|(simp;omega)) ?_
  simp[go_sem,ei]
  exact zH (i+1,s++ [59,32]++actT a) ⟨by show l.length - (i+1)<l.length - i;omega,⟨q1,q3,by simp;omega,hinv⟩,aO⟩
 .have aa:decide (0<(i:Int))=false:=decide_eq_false om
  rw[if_neg q0]at hinv
  refine zA ?_
  simp[go_sem,q1,ad,q0]
  simp[go_sem,ha]
  refine pC ae ?_
  simp[go_sem]
  refine zG (by first|omega|(simp;omega)) ?_
  simp[go_sem,ei]
  exact zH (i+1,s++actT a) ⟨by show l.length - (i+1)<l.length - i;omega,⟨q1,q3,by simp;omega,hinv⟩,aO⟩
end Go.Proofs.YtefbicjgbaaieaaGreat
namespace Go.Proofs.YtefbicjgbaaieaaGreat
open Go Go.Vx R Go.Proofs.Tryz
set_option maxRecDepth 100000
def yT (P:List (List Pr)):List V:=P.map fun l=> .sl .ro (l.map prR)
theorem yb5 {P:List (List Pr)} {i:Nat} (h:i<P.length):(yT P)[i]? =some (.sl .ro ((P[i]).map prR)):=by simp[yT,h]
theorem zM2 (P:List (List Pr)):(yT P).length=P.length:=by simp[yT]
theorem yh0 (P:List (List Pr)) (h8:P.length=8):VCalls prog 16 [.ptr 0 0] [.box (yT P)] (fun r s=>r= .sl .ro ((vsG 0 P).map vwR)/\s= [.box (yT P)]):=by
 obtain⟨C,hC⟩:=eX (yT P)
 have ae:C.length=8:=by rw[<-hC,zM2,h8]
 have af: ∀i,i<8->C[i]? =some (.sl .ro ((P.getD i []).map prR)):=fun i hi=>by
  rw[<-hC,yb5 om,A9,A4 om];rfl
 have aa: ∀n,ltOb n (.box C)=true:=fun n=>by rw[<-hC];simp[ltOb,ltC,ltK,yT]
 rw[hC]
 clear hC
 refine iV 1 func16 ntmps16 results16 fun c hc hb=> ?_
 refine zA ?_
 simp[go_sem]
 refine zo3 3 2 dc sg ?_
 refine zI (S:=Nat×List Vw) [0,3,4] (fun u=> [.ptr 0 0,.sl (.app 1) (u.2.map vwR),.int .i64 u.1]) (fun u=> [.box C,.app u.2.length 2]) (fun u=>8 - u.1) (fun u=>u.1<=8/\u.2=(vsG 0 P).take u.1) hc hb (0,[]) ⟨A7 _,sm⟩ ?_ ?_
 .exact aN 2 (by rw[Am,aa];rfl)
 rintro⟨i,out⟩ ⟨hi,ho⟩
 simp only at hi ho
 by_cases q:i<8
 rotate_left
 .have h2:out=vsG 0 P:=by rw[ho];exact Az (by rw[ya3];omega)
  have q': ¬(i:Int)<8:=om
  refine zA ?_
  simp[go_sem,q']
  exact zs6 1 rfl (by simp[aa]) (A6 _) zL ⟨by rw[h2],rfl⟩
 have ag:out.length=i:=by rw[ho,Cd,ya3];omega
 have ei:=zS q om
 have q':(i:Int)<8:=om
 have ab:(vsG 0 P)[i]? =some (i,P.getD i []):=by
  rw[yz4,A4 om,A9,A4 om]
  simp
 have ad:out++ [(i,P.getD i [])]=(vsG 0 P).take (i+1):=by
  rw[ho,Dj,ab];rfl
 obtain⟨p,hp⟩:=eX (P.getD i [])
 have hC:=af i q
 rw[hp]at hC ad
 rw[A4 om]at hC
 have hC:=Option.some.inj hC
 refine zA ?_
 simp[go_sem,q,q',hC,ae]
 refine zG ⟨om,zX rfl⟩ ?_
 simp[go_sem,ei]
 exact zH (i+1,out++ [(i,p)]) ⟨by show 8 - (i+1)<8 - i;omega,⟨q,ad⟩,aM 2 (by rw[Am,aa];rfl) (zF (by simp[go_sem,vwR]) rfl)⟩
theorem xw9 (l:List Pr):xW (l.map prR)=true:=by simp[xW,prR,zg8]
theorem xj5 (l:List Pr):zb0 (l.map prR) 0 l.length=l.map prR:=by
 unfold zb0
 rw[Bh,Az sm,Bw]
 exact Bs fun _ _=>rfl
theorem yN5 (id:Nat) (rows:List (List V)) (P:List (List Pr)):(yT P).map (frzC id rows)=yT P:=by
 unfold yT
 rw[Bw]
 exact Bs fun _ _=>rfl
theorem yN6 (P:List (List Pr)) (i:Nat) (l:List Pr) (h:i<P.length):(yT P).take i++ .sl .ro (l.map prR)::(yT P).drop (i+1)=yT (P.set i l):=by
 have h2:=List.set_eq_take_append_cons_drop (l:=yT P) (i:=i) (a:=V.sl .ro (l.map prR))
 rw[if_pos (by rw[zM2];exact h)]at h2
 rw[<-h2]
 unfold yT
 rw[List.map_set]
theorem xk6 (P:List (List Pr)) (h8:P.length=8) (ad: ∀l∈P,l.length<=10000) (qs:List (Int×List Wr)) (hq:qs.length<=100000) (hw: ∀q∈qs,q.2.length<=100000):VCalls prog 17 [.ptr 0 0,.sl .ro (qs.map putR)] [.box (yT P)] (fun r s=>r= .tup []/\s= [.box (yT (doP P qs))]):=by
 obtain⟨F,hF⟩:=eX (doP P qs)
 rw[hF]
 have ae: ∀n (P:List (List Pr)),ltOb n (.box (yT P))=true:=fun n P=>by simp[ltOb,ltC,ltK,yT]
 refine iV 1 func17 ntmps17 results17 fun c hc hb=> ?_
 refine zA ?_
 simp[go_sem]
 refine zI (S:=Nat×List (List Pr)) [0,1,4] (fun u=> [.ptr 0 0,.sl .ro (qs.map putR),.int .i64 u.1]) (fun u=> [.box (yT u.2)]) (fun u=>qs.length - u.1) (fun u=>u.1<=qs.length/\u.2.length=8/\(∀l∈u.2,l.length<=10000+100000*u.1)/\doP u.2 (qs.drop u.1)=F) hc hb (0,P) ⟨A7 _,h8,fun l hl=>by have:=ad l hl;simp only;omega,hF⟩ ?_ ?_
 .exact aN 1 (by rw[Am,ae];rfl)
 rintro⟨i,P⟩ ⟨hi,h8,ad,hinv⟩
 simp only at hi h8 ad hinv
 by_cases q:i<qs.length
 rotate_left
 .have h2:P=F:=by rw[Ad om]at hinv;exact hinv
  refine zA ?_
  simp[go_sem,q]
  exact zs6 1 rfl (by simp[ae]) (A6 _) (zC rfl) ⟨rfl,by rw[h2];rfl⟩
 have ei:=zS q om
 obtain⟨⟨g,ws⟩,hx⟩: ∃x,qs[i]=x:=⟨_,rfl⟩
 have ak:=hw (g,ws) (hx▸Ac q)
 simp only at ak
 rw[Aa q,hx]at hinv
 change doP (doQ P (g,ws)) (qs.drop (i+1))=F at hinv
 unfold doQ at hinv
 simp only at hinv
 by_cases qg:g<0∨8<=g
 .rw[if_pos qg]at hinv
  have fin: ∀l∈P,l.length<=10000+100000*(i+1):=fun l hl=>by have:=ad l hl;omega
  rcases Classical.em (g<0)with q0|q0
  .have ah:decide (g<0)=true:=decide_eq_true q0
   refine zA ?_
   simp[go_sem,q,hx,putR,q0,ei]
   exact zH (i+1,P) ⟨by show qs.length - (i+1)<qs.length - i;omega,⟨q,h8,fin,hinv⟩,aN 1 (by rw[Am,ae];rfl)⟩
  .have ah:decide (g<0)=false:=decide_eq_false q0
   have q8:8<=g:=om
   have al:decide (8<=g)=true:=decide_eq_true q8
   refine zA ?_
   simp[go_sem,q,hx,putR,q0,q8,ei]
   exact zH (i+1,P) ⟨by show qs.length - (i+1)<qs.length - i;omega,⟨q,h8,fin,hinv⟩,aN 1 (by rw[Am,ae];rfl)⟩
 rw[if_neg qg]at hinv
 obtain⟨gn,rfl⟩: ∃gn:Nat,g=gn:=⟨g.toNat,om⟩
 have ax:gn<8:=om
 have q0: ¬(gn:Int)<0:=om
 have q8: ¬8<=(gn:Int):=om
 have ah:decide ((gn:Int)<0)=false:=decide_eq_false q0
 have al:decide (8<=(gn:Int))=false:=decide_eq_false q8
 refine zA ?_
 simp[go_sem,q,hx,putR,ah,q8]
 refine zI (S:=Nat×List (List Pr)) [0,1,4,5] (fun u=> [.ptr 0 0,.sl .ro (qs.map putR),.int .i64 i,.int .i64 u.1]) (fun u=> [.box (yT u.2)]) (fun u=>ws.length - u.1) (fun u=>u.1<=ws.length/\u.2.length=8/\(∀l∈u.2,l.length<=10000+100000*i+u.1)/\doP ((ws.drop u.1).foldl (doR gn) u.2) (qs.drop (i+1))=F) hc hb (0,P) ⟨A7 _,h8,ad,hinv⟩ ?_ ?_
 .exact aN 1 (by rw[Am,ae];rfl)
 rintro⟨k,P⟩ ⟨hk,h8,ad,hinv⟩
 simp only at hk h8 ad hinv
 by_cases qk:k<ws.length
 rotate_left
 .rw[Ad om,Ep]at hinv
  refine zA ?_
  simp[go_sem,q,hx,putR,qk,ei]
  exact zH (i+1,P) ⟨by show qs.length - (i+1)<qs.length - i;omega,⟨q,h8,fun l hl=>by have:=ad l hl;simp only;omega,hinv⟩,aN 1 (by rw[Am,ae];rfl)⟩
 have ek:=zS qk om
 obtain⟨⟨⟨wr,wk⟩,wd,wb⟩,hy⟩: ∃x,ws[k]=x:=⟨_,rfl⟩
 rw[Aa qk,hy,Bi]at hinv
 obtain⟨p,hp⟩:=eX (P[gn]'om)
 have ay:=ad p (hp▸Ac _)
 have an:doR gn P ⟨(wr,wk),wd,wb⟩=P.set gn (insP wk wb wd p):=by
  unfold doR xt3
  rw[B6,A9,A4 om,hp];rfl
 rw[an]at hinv
 have ao:(yT P).length=8:=by rw[zM2,h8]
 have aq:(yT P)[gn]'om= .sl .ro (p.map prR):=by
  have:=yb5 (P:=P) (i:=gn) om
  rw[A4 om,hp]at this
  exact Option.some.inj this
 have ar:(yT P)[gn]? =some (.sl .ro (p.map prR)):=by rw[A4 om,aq]
 have az:p.length<40000000000:=om
 have af: ∀a:List Pr,([.box (yT P),.box [.str wk,.bool wd,.str wb],.lst (a.map prR) 2]:St).all (ltOb 3)=true:=fun a=>by rw[Am,ae,Be];simp[ltOb,ltC,ltK,prR]
 obtain⟨Z,hZ⟩:=eX (insP wk wb wd p)
 rw[hZ]at hinv
 have a1:Z.length<=p.length+1:=by
  rw[<-hZ,(zT1 wk wb wd p).length_eq,B0]
  have:=Bl (fun x:Pr=> !decide (x.1=wk)) p
  split<;>simp<;>omega
 refine zP (zA ?_)
 simp[go_sem,q,hx,putR,qk]
 refine zP (zj0 (zP (zA ?_)))
 simp[go_sem,q,hx,putR,qk,hy,wrR]
 refine zP (zA ?_)
 simp[go_sem]
 refine zK6 7 2 dc sg ?_
 refine zP (zA ?_)
 simp[go_sem]
 refine zP ?_
 refine zP ?_
 refine yV [] 3 rfl kR kR ?_
 simp[go_sem,q,hx,putR]
 refine zG om ?_
 simp[go_sem,ar]
 refine zj0 ?_
 refine zI (S:=Nat×List Pr×Bool) [0,1,4,5,6,7,8,60,61,62] (fun u=> [.ptr 0 0,.sl .ro (qs.map putR),.int .i64 i,.int .i64 k,.ptr 1 0,.lsv 2 2 u.2.1.length 0 u.2.1.length,.bool u.2.2,.sl .ro (p.map prR),.int .i64 p.length,.int .i64 u.1])
   (fun u=> [.box (yT P),.box [.str wk,.bool wd,.str wb],.lst (u.2.1.map prR) 2]) (fun u=>p.length - u.1)
   (fun u=>u.1<=p.length/\u.2.1.length<=2*u.1/\u.2.1++insP wk wb u.2.2 (p.drop u.1)=Z) hc hb (0,[],wd) ⟨A7 _,A7 _,hZ⟩ ?_ ?_
 .exact aN 3 (by rw[Am,ae];rfl)
 .rintro⟨j,acc,b⟩ ⟨hj,au,aa⟩
  simp only at hj au aa
  by_cases qj:j<p.length
  rotate_left
  .rw[Ad om,insP]at aa
   refine zA ?_
   simp[go_sem,qj]
   refine zf5 (S:=Unit) [0,1,4,5,7] (fun _=> [.ptr 0 0,.sl .ro (qs.map putR),.int .i64 i,.int .i64 k,.lsv 2 2 Z.length 0 Z.length]) (fun _=> [.box (yT P),.box [.str wk,.bool wd,.str wb],.lst (Z.map prR) 2]) (fun _=>True) hc hb ?_ ?_
   .cases b with
    |true=>
     have hz:acc=Z:=by simpa using aa
     refine zA ?_
     simp[go_sem]
     exact zH () ⟨tV,at_n 3 (by simp[go_sem,hz]) rfl (af _) dc (zF (by simp[go_sem,hz]) rfl)⟩
    |false=>
     have hz:acc++ [(wk,wb)]=Z:=by simpa using aa
     have av:Z.length=acc.length+1:=by rw[<-hz];simp
     refine zA ?_
     simp[go_sem,Bz]
     refine zG ⟨zX rfl,om⟩ ?_
     simp[go_sem]
     exact zH () ⟨tV,at_n 3 (by simp[go_sem,<-hz,prR]) rfl (af _) dc (zF (by simp[go_sem,av]) rfl)⟩
   rintro _ _
   refine zq3 2 2 (Z.map prR) rfl (xw9 Z) ?_
   refine yV [] 3 (by simp[zm7]) kR kR ?_
   simp[go_sem,frzS,frzA,frzC,frzK,zm7,zP1,q,hx,putR,xj5,yN5]
   refine zG om ?_
   have h7:gn<=7:=om
   simp[go_sem,ao,h7,yN6 P gn Z om]
   have aj: ∀l∈P.set gn Z,l.length<=10000+100000*i+(k+1):=fun l hl=>by
    rcases Ci hl with hl|rfl
    .have:=ad l hl;omega
    .omega
   refine zA ?_
   simp[go_sem,ek]
   exact zH (k+1,P.set gn Z) ⟨by show ws.length - (k+1)<ws.length - k;omega,⟨qk,by simp[h8],aj,hinv⟩,aN 1 (by rw[Am,ae];rfl)⟩
  have ej:=zS qj om
  obtain⟨⟨xk,xd⟩,ag⟩: ∃x,p[j]=x:=⟨_,rfl⟩
  rw[Aa qj,ag,insP]at aa
  simp only at aa
  have fin: ∀(ab:List Pr) (b':Bool),ab.length<=acc.length+2->ab++insP wk wb b' (p.drop (j+1))=Z->p.length - (j+1)<p.length - j/\(j+1<=p.length/\ab.length<=2*(j+1)/\ab++insP wk wb b' (p.drop (j+1))=Z):=fun ab b' h1 h2=>⟨om,qj,om,h2⟩
  by_cases e:xk=wk
  .subst e
   rw[wH]at aa
   have hn:(xk !=xk)=false:=sm
   have hl:Op.bytesLess xk xk=false:=wH _
   obtain⟨g1,g2⟩:=fin acc b om (by simpa using aa)
   cases b with
   |true=>
    refine zA ?_
    simp[go_sem,qj,ag,prR,ej]
    exact zH (j+1,acc,true) ⟨g1,g2,aN 3 (af _)⟩
   |false=>
    refine zA ?_
    simp[go_sem,qj,ag,prR,hl,ej]
    exact zH (j+1,acc,false) ⟨g1,g2,aN 3 (af _)⟩
  have hn:(xk==wk)=false:=by simpa using e
  have a6: ¬xk=wk:=e
  rw[if_neg e]at aa
  have a7: ∀ab:List Pr,ab.length<=2*p.length+2->(ab.length+1)*32<=140737488355328:=fun _ h=>by omega
  cases b with
  |true=>
   obtain⟨g1,g2⟩:=fin (acc++ [(xk,xd)]) true sm (by simpa using aa)
   refine zA ?_
   simp[go_sem,qj,ag,prR,hn,Bz]
   refine zG ⟨zX rfl,om⟩ ?_
   simp[go_sem,ej]
   exact zH (j+1,acc++ [(xk,xd)],true) ⟨g1,g2,at_n 3 (by simp[go_sem,prR]) rfl (af _) dc (zF sg rfl)⟩
  |false=>
   by_cases hl:Op.bytesLess wk xk=true
   .rw[hl]at aa
    obtain⟨g1,g2⟩:=fin (acc++ [(wk,wb),(xk,xd)]) true sm (by simpa using aa)
    have ai:Op.bytesLess xk wk=false:=by
     cases z:Op.bytesLess xk wk with
     |false=>rfl
     |true=>have:=zn1 _ _ _ hl z;rw[wH]at this;cases this
    refine zA ?_
    simp[go_sem,qj,ag,prR,hn,ai,Bz]
    refine zG ⟨zX rfl,om⟩ ?_
    simp[go_sem,hn,Bz]
    refine zG ⟨zX rfl,om⟩ ?_
    simp[go_sem,ej]
    exact zH (j+1,acc++ [(wk,wb),(xk,xd)],true) ⟨g1,g2,at_n 3 (by simp[go_sem,prR]) rfl (af _) dc (zF sg rfl)⟩
   .have aw:Op.bytesLess wk xk=false:=by simpa using hl
    rw[aw]at aa
    obtain⟨g1,g2⟩:=fin (acc++ [(xk,xd)]) false sm (by simpa using aa)
    have ai:Op.bytesLess xk wk=true:=by
     rcases zn0 xk wk with z|z|z
     .exact z
     .exact absurd z e
     .exact absurd z hl
    refine zA ?_
    simp[go_sem,qj,ag,prR,hn,ai,Bz]
    refine zG ⟨zX rfl,om⟩ ?_
    simp[go_sem,ej]
    exact zH (j+1,acc++ [(xk,xd)],false) ⟨g1,g2,at_n 3 (by simp[go_sem,prR]) rfl (af _) dc (zF sg rfl)⟩
end Go.Proofs.YtefbicjgbaaieaaGreat
