/-
  antipodeplay: the text of some acts; used by the theorems at the end of the Exec claims.
  Conditions: as each theorem states them.
-/
import Derived.Test.YtefbicjgbaaieaaGreatQAY
import Derived.Test.YtefbicjgbaaieaaGreatQAV
import Derived.Test.YtefbicjgbaaieaaGreatQAT
import Derived.Test.YtefbicjgbaaieaaGreatQAS
set_option maxHeartbeats 8000000
namespace Go.Proofs.YtefbicjgbaaieaaGreat
open Go Go.Vx R Go.Proofs.Tryz
set_option maxRecDepth 100000
variable{lot:GLot}{b:Mp (List UInt8)}{l:List Ln}{st:GStmt}{n:Nat}{was:List Ln}{d:List UInt8}{w:Wr}{a:Mp (List UInt8)}{sn:Mp Int}{tn:Nat}{T:GTable}{p:Pl}{g:Int}
theorem yN7{T:GTable}:∀{l p:List GAssign},zf9 T p l=0->∀x∈l,0<=colF T x.name
 |[],_,_,x,hx=>by cases hx|y::l,p,h,x,hx=>by
  rw[zf9]at h;by_cases q1:colF T y.name<0;.rw[if_pos q1]at h;cases h
  rw[if_neg q1]at h;by_cases q2:colF T y.name=T.key∨(colF T y.name=0/\T.place=0);.rw[if_pos q2]at h;cases h
  rw[if_neg q2]at h;by_cases q3:(p.any λz=>z.name==y.name)=true;.rw[if_pos q3]at h;cases h
  rw[if_neg q3]at h;by_cases q4:zr7 T y.e (colK T (colF T y.name))≠0;.rw[if_pos q4]at h;exact absurd h q4
  rw[if_neg q4]at h;rcases Ag.1 hx with rfl|hx;.omega
  .exact yN7 h x hx
theorem zU6{mode:Int}:∀{l:List GStmt}{i:Nat},(zv7 mode l i).2=0->∀z∈l,zm5 z=0
 |[],_,_,z,h=>by cases h|y::l,i,h,z,hx=>by
  rw[zv7]at h;by_cases q1:mode≠0/\y.kind≠1;.rw[if_pos q1]at h;cases h
  rw[if_neg q1]at h;by_cases q2:zm5 y≠0;.rw[if_pos q2]at h;exact absurd h q2
  rw[if_neg q2]at h;rcases Ag.1 hx with rfl|hx;.simpa using q2
  .exact zU6 h z hx
theorem yL9(hl:LOk lot)(h:(zn6 lot).2=0):∀st∈lot.stmts,StOk st:=by
 unfold zn6 at h;by_cases q:mayL lot=true;rotate_left;.rw[if_neg q]at h;cases h
 rw[if_pos q]at h;intro st aa;have hc:=zU6 h st aa;have ab:=hl.stmts.2 st aa;have hm:mayS st=true:=by unfold mayL at q;rw[A6,Af]at q;exact q.2 st aa
 unfold zm5 at hc;have ad:=zJ4 st.table;have hT:∃T,tabsS[(ze0 st.table).toNat]?=some T:=by
  rcases ad with h|h;.exact⟨_,A0 (show(ze0 st.table).toNat<tabsS.length by have:tabsS.length=3:=rfl;omega)⟩
  .exact⟨_,A0 (show(ze0 st.table).toNat<tabsS.length by have:tabsS.length=3:=rfl;omega)⟩
 obtain⟨T,hT⟩:=hT;rw[hT]at hc;simp only at hc;have h0:0<=ze0 st.table:=by
  by_cases q:ze0 st.table<0;.rw[if_pos q]at hc;cases hc
  .omega
 rw[if_neg om]at hc;refine⟨ab,xE2 ab.where_.good,h0,λk1=>?_,λk3=>?_⟩;.unfold mayS at hm;rw[A6,A6]at hm;have hb:=hm.2.2;unfold yF2 at hb;rw[if_pos k1,A6]at hb;intro he;rw[he]at hb;exact absurd hb.1 dc
 .rw[A7,hT];rw[if_neg om,if_neg om,if_pos k3]at hc;by_cases q:zf9 T [] st.sets≠0;.rw[if_pos q]at hc;exact absurd hc q
  .exact yN7 (by simpa using q)
theorem xo4(l:List Ln)(x:Ln):(zT9 l x).length=l.length+1:=(zj3 l x).length_eq
theorem yI6{t:Nat}{T:GTable}:∀{rs:List (List GExpr)}{l:List Ln},(insF t T rs l).1.length<=l.length+rs.length
 |[],l=>by rw[insF];simp|r::rs,l=>by
  rw[insF];split;.simp
  split;.simp
  split;.simp
  refine B3 yI6 ?_;rw[xo4,Ah];omega
theorem yP0{T:GTable}{sets:List GAssign}:∀{m l:List Ln},(updF T sets m l).1.length<=l.length
 |[],l=>A3 _|x::m,l=>by
  rw[updF];split;.exact A2 _
  split;.exact A2 _
  refine B3 yP0 ?_;unfold putF;rw[Ay];exact A3 _
theorem yG4:∀{m l:List Ln},(delF m l).length<=l.length
 |[],l=>A3 _|x::m,l=>by rw[delF];exact B3 yG4 (Bt _ _)
theorem yZ9:(doS st l).2.1.length<=l.length+st.rows.length:=by
 unfold doS;simp only;split
 .split;.simp
  .exact yI6
 split;.simp
 split;.simp
 split
 .split;.simp
  .exact B3 yP0 om
 .exact B3 yG4 om
abbrev Vw:=Nat×List (List UInt8×List UInt8)
def prR(q:List UInt8×List UInt8):List V:=[.str q.1,.str q.2]
def vwR(x:Vw):List V:=[.int .i64 x.1,.sl .ro (x.2.map prR)]
def onF(g:Nat)(l:List (List UInt8×List UInt8)):List (Pl×List UInt8):=l.map λq=>(((g:Int),q.1),q.2)
def yP(vs:List Vw):List (Pl×List UInt8):=vs.flatMap λx=>onF x.1 x.2
def zd0(vs:List Vw):List Ln:=((yP vs).foldl zy4 ([],[])).2
theorem zy6(x:Vw)(vs:List Vw):yP (x::vs)=onF x.1 x.2++yP vs:=by unfold yP;rw[Bm]
theorem TkI.now_none{s:List (Pl×List UInt8)×List Ln}(h:TkI n s (a,b,sn))(p:Pl)(h0:sn.at p=none):a.at p=none/\b.at p=none:=by
 have h1:=(h.seen p).1 (get_isNone.2 h0);have hb:b.at p=none:=by rw[h.now.at_none];cases e:atF s.2 p with |false=>rfl|true=>obtain⟨x,hx,aa⟩:=Ac.1 (atF_iff.1 e);have:(s.1.any λe=>e.1==p)=true:=D6.2 ⟨_,(h.lines x hx).2,by simp[aa]⟩;rw[this]at h1;cases h1
 exact⟨by rw[show a=b from h.same];exact hb,hb⟩
theorem TkI.pos{s:List (Pl×List UInt8)×List Ln}(h:TkI n s (a,b,sn))(hn:n<=1000000)(p:Pl)(i:Nat)(v:Int)(h0:sn.at p=some (i,v)):1<=v/\v<=1000000:=by have:=h.cnt p v (by show(sn.at p).map (·.2)=some v;rw[h0];rfl);omega
theorem yP8{P:Program}{c:Ctx}{n0:Kp}{σ:St}(k:Nat){f:FuncId}{caps args args':List V}{σin:St}{v:V}{KV:V->St->Prop}(hc:VCalls P f args' σin (λr s=>r=v/\s=σin))(hb:wG P f=true)(hk:σ.take k=σin)(hl:σin.length=k)(hok:σin.all (ltOb k)=true)(hv:ltS k v=true)(hn:∀i,i<k->n0.has i=true)(aa:∀N,All2 (argS (ren (List.range k) N)) args' (args++caps))(hK:KV v σ):wVD P c n0 1 (.fn f caps) args σ KV fx:=by
 refine⟨v,σ,?_,λ_=>rfl,λ_=>KeepN.refl,A3 _,hK⟩;rw[if_neg dc,if_pos rfl];intro s hs;have ab:s.take k=σin:=by
  rw[<-hk];refine Bx λi=>?_;rw[Ae,Ae];by_cases q:i<k;.rw[if_pos q,if_pos q];exact Kp.get (hn i q) hs
  .rw[if_neg q,if_neg q]
 refine zp1 (P:=P) (c:=c) (KV:=λr s'=>r=v/\s'=s) k hc hb ab hl hok (aa _) ?_ ?_;.rintro r s'⟨rfl,rfl⟩;exact⟨hl,hok,hv⟩
 .rintro r s'⟨rfl,rfl⟩;exact⟨rfl,by rw[<-ab];exact Bq k s⟩
theorem yB7(n:Nat)(h:3<=n){τ:St}(hR:τ.all (ltOb n)=true):(runS a b sn++τ).all (ltOb n)=true:=by rw[Ej,xU n h,hR];rfl
def ansR(x:Int×Int×List Ot):List V:=[.int .i64 x.1,.int .i64 x.2.1,.sl .ro (x.2.2.map Ot.row)]
def runV(lot:GLot)(was:List Ln):V:=.tup [.agg (ansR (lotF lot was).1),.sl .ro ((if(lotF lot was).1.1≠0then[]else grpF (chgF was (lotF lot was).2)).map putR)]
def schO:Ob:=.box [.sl .ro yT,.sl .ro (tabsS.map GTable.row)]
theorem xB8(lot:GLot)(hl:LOk lot)(vs:List Vw)(aC:vs.length<=100000)(hv:∀x∈vs,x.1<1000/\x.2.length<=100000/\∀q∈x.2,q.2.length<=maxB)(hN:(yP vs).length<=7500):Pure prog 21 [schR tabsS,.agg lot.row,.sl .ro (vs.map vwR)] (runV lot (zd0 vs)):=by
 have ad:=yM0 lot hl;obtain⟨aD,au⟩:=hl.stmts;have ah:=yL9 hl;obtain⟨⟨ci,cr⟩,hP⟩:∃P,zn6 lot=P:=⟨_,rfl⟩;rw[hP]at ad ah;generalize hM:runV lot (zd0 vs)=M;unfold runV lotF at hM;rw[hP]at hM;simp only at hM ah;refine iV 0 func21 ntmps21 results21 λc hc hb=>?_;refine zR (zA ?_);simp[go_sem,schR];refine zR (zA ?_);simp[go_sem];refine zJ ad cB (zL (by simp[go_sem,schR]) rfl) rfl ?_;simp[go_sem,yL];by_cases c0:cr=0;rotate_left
 .have aq:(cr !=0)=true:=by simpa using c0
  rw[if_pos c0]at hM;simp[go_sem,aq];have aE:M=.tup [.agg [.int .i64 cr,.int .i64 ci,.sl .ro []],.sl .ro []]:=by rw[<-hM];simp[c0,ansR]
  exact wA (r:=M) (by rw[aE];exact wF ⟨zd4 ⟨zU rfl,zU rfl,yY,tV⟩,zt7,tV⟩) ⟨rfl,rfl⟩
 have aq:(cr !=0)=false:=by simpa using c0
 rw[if_neg (λh=>h c0)]at hM;simp[go_sem,aq];refine xX (S:=Unit) [2,4,6,10] (λ_=>[.sl .ro (vs.map vwR),.ptr 5 0,.ptr 6 0,.ptr 3 0]) (λ_=>tkS (mp0 _,mp0 _,mp0 _)++[schO,.box lot.row,.box [.int .i64 0,.int .i64 0,.sl .full []]]) (λ_=>True) hc hb ?_ ?_;.refine zA ?_;simp[go_sem];exact zG () ⟨tV,zD2 [3,4,5,6,0,1,2] dc rfl ⟨rfl,rfl,rfl,rfl,rfl,rfl,rfl,tV⟩ ⟨zD rfl,.inl rfl,.inl rfl,.inl rfl,tV⟩⟩
 rintro _ _;have av:=hl;obtain⟨Q,hQ⟩:=eX ((yP vs).foldl zy4 ([],[]));have aw:zd0 vs=Q.2:=by unfold zd0;rw[hQ]
 rw[aw]at hM;clear aw;refine zR (zA ?_);simp[go_sem];refine zH (S:=Nat×Nat×(List (Pl×List UInt8)×List Ln)×M3) [4,6,10,36,37,38] (λu=>[.ptr 5 0,.ptr 6 0,.ptr 3 0,.sl .ro (vs.map vwR),.int .i64 vs.length,.int .i64 u.1]) (λu=>tkS u.2.2.2++[schO,.box lot.row,.box [.int .i64 0,.int .i64 0,.sl .full []]]) (λu=>vs.length-u.1) (λu=>u.1<=vs.length/\TkI u.2.1 u.2.2.1 u.2.2.2/\u.2.1+(yP (vs.drop u.1)).length=(yP vs).length/\(yP (vs.drop u.1)).foldl zy4 u.2.2.1=Q) hc hb (0,0,([],[]),(mp0 _,mp0 _,mp0 _)) ⟨A2 _,xS6,sm,hQ⟩ ?_ ?_;.exact zX sm sg
 rintro⟨i,n,s,a,b,sn⟩⟨hi,hT,hn,aa⟩;simp only at hi hT hn aa;by_cases q:i<vs.length
 .have ei:=zS q om;obtain⟨⟨g,ps⟩,hx⟩:∃x,vs[i]=x:=⟨_,rfl⟩;obtain⟨hg,ax,ay⟩:=hv (g,ps) (hx▸A8 q);simp only at hg ax ay;rw[A5 q,hx,zy6]at hn aa;rw[Cq]at aa;rw[B2]at hn;refine zA ?_;simp[go_sem,tkS,runS,runB,schO,q,hx,vwR];refine zH (S:=Nat×Nat×(List (Pl×List UInt8)×List Ln)×M3) [4,6,10,12,36,37,38,43,44,45] (λu=>[.ptr 5 0,.ptr 6 0,.ptr 3 0,.ptr 7 0,.sl .ro (vs.map vwR),.int .i64 vs.length,.int .i64 i,.sl .ro (ps.map prR),.int .i64 ps.length,.int .i64 u.1]) (λu=>tkS u.2.2.2++[schO,.box lot.row,.box [.int .i64 0,.int .i64 0,.sl .full []],.box (vwR (g,ps))]) (λu=>ps.length-u.1) (λu=>u.1<=ps.length/\TkI u.2.1 u.2.2.1 u.2.2.2/\u.2.1+((onF g (ps.drop u.1)).length+(yP (vs.drop (i+1))).length)=(yP vs).length/\(yP (vs.drop (i+1))).foldl zy4 ((onF g (ps.drop u.1)).foldl zy4 u.2.2.1)=Q) hc hb (0,n,s,a,b,sn) ⟨A2 _,hT,hn,aa⟩ ?_ ?_;.exact at_w rfl sm sg
  rintro⟨j,n1,s1,a1,b1,ai⟩⟨hj,ae,aj,ab⟩;simp only at hj ae aj ab;by_cases qj:j<ps.length
  .have ej:=zS qj om;obtain⟨⟨k,d⟩,hp⟩:∃x,ps[j]=x:=⟨_,rfl⟩;have hd:=ay (k,d) (hp▸A8 qj);simp only at hd;have az:onF g (ps.drop j)=(((g:Int),k),d)::onF g (ps.drop (j+1)):=by rw[A5 qj,hp];rfl
   rw[az,Ah]at aj;rw[az,Bf]at ab;have af:=xY7 g hg k d hd a1 b1 ai (by rw[show a1=b1 from ae.same];exact ae.now.ok) ae.now.ok ae.sn (ae.now_none _) (ae.pos om _);have ar:=ae.step (((g:Int),k),d);obtain⟨⟨a2,b2,a6⟩,aF⟩:∃M3,zZ7 ((g:Int),k) d (a1,b1,ai)=M3:=⟨_,rfl⟩;simp only at ar;rw[aF]at af ar;refine zA ?_;simp[go_sem,tkS,runS,runB,schO,qj,hp,vwR,prR];refine zp1 4 af cB rfl rfl (xU 4 dc a1 b1 ai) (zd5 (n:=4) rfl) ?_ ?_;.rintro r s'⟨rfl,rfl⟩;exact⟨rfl,xU 4 dc a2 b2 a6,rfl⟩
   rintro r s'⟨rfl,rfl⟩;simp[go_sem,tkS,runS,runB,ej];exact zG (j+1,n1+1,zy4 s1 (((g:Int),k),d),a2,b2,a6) ⟨by show ps.length-(j+1)<ps.length-j;omega,⟨qj,ar,by show n1+1+((onF g (ps.drop (j+1))).length+(yP (vs.drop (i+1))).length)=(yP vs).length;omega,ab⟩,at_n 8 (by rfl) rfl (yB7 8 dc (by simp[ltOb,ltC,ltK])) dc (zC sg rfl)⟩
  .have:j=ps.length:=om;subst this;rw[C6]at aj ab;refine zA ?_;simp[go_sem,tkS,runS,runB,schO,ei];exact zG (i+1,n1,s1,a1,b1,ai) ⟨by show vs.length-(i+1)<vs.length-i;omega,⟨q,ae,by show n1+(yP (vs.drop (i+1))).length=(yP vs).length;simp[onF]at aj;omega,ab⟩,at_n 7 (by rfl) rfl (yB7 7 dc (by simp[ltOb,ltC,ltK])) dc (zC sg rfl)⟩
 .have:i=vs.length:=om;subst this;rw[C6]at hn aa;have hs:s=Q:=aa;subst hs;have aS:n<=7500:=by simp[yP]at hn;simp[yP]at hN;omega
  have aG:a=b:=hT.same;subst aG;have ag:NowOk a s.2:=hT.now;have aH:s.2.length<=n:=hT.len;obtain⟨was,ak⟩:=eX s.2;rw[ak]at hM ag aH;clear hT hn aa hN ak hv aC;obtain⟨D,hD⟩:=eX (doL lot.stmts 0 [] was);rw[hD]at hM;have aI:D.1.1≠0->M=.tup [.agg (ansR D.1),.sl .ro []]:=λh=>by rw[<-hM];simp[h]
  have aJ:D.1.1=0->M=.tup [.agg (ansR D.1),.sl .ro ((grpF (chgF was D.2)).map putR)]:=λh=>by rw[<-hM];simp[h]
  have ax:D.1.1=0∨D.1.1≠0:=om;have al:=ah c0;clear hM ah ad hl av;obtain⟨lm,ln,L⟩:=lot;simp only at aD au hD al;refine zA ?_;simp[go_sem,tkS,runS,runB,schO];refine zJ9 6 2 2 [.int .i64 0,.int .i64 0,.sl .full []] dc rfl rfl ?_;refine zR (zA ?_);simp[go_sem];refine zH (S:=Nat×Mp (List UInt8)×List Ln×List Ot) [6,10,57,58,59] (λu=>[.ptr 6 0,.ptr 3 0,.sl .ro (L.map GStmt.row),.int .i64 L.length,.int .i64 u.1]) (λu=>tkS (a,u.2.1,sn)++[schO,.box (GLot.row ⟨lm,ln,L⟩),.box [.int .i64 0,.int .i64 0,.sl (.app 7) (u.2.2.2.map Ot.row)],.app u.2.2.2.length 2]) (λu=>L.length-u.1) (λu=>u.1<=L.length/\NowOk u.2.1 u.2.2.1/\u.2.2.2.length=u.1/\u.2.2.1.length<=7500+20*u.1/\doL (L.drop u.1) u.1 u.2.2.2 u.2.2.1=D) hc hb (0,a,was,[]) ⟨A2 _,ag,rfl,by show was.length<=7500+20*0;omega,hD⟩ ?_ ?_;.exact at_w rfl sm sg
  rintro⟨i,b,l,outs⟩⟨hi,hn,a7,aK,aa⟩;simp only at hi hn a7 aK aa;by_cases q:i<L.length;rotate_left
  .rw[A9 om,doL]at aa;refine zA ?_;simp[go_sem,tkS,runS,runB,schO,q];have an:=xY0 a b sn was l ag hn om om;have aL:D.2=l:=by rw[<-aa]
   have a8:D.1=(0,0,outs):=by rw[<-aa]
   have hM:=aJ (by rw[a8]);rw[a8,aL]at hM;obtain⟨PW,aP⟩:=eX (grpF (chgF was l));rw[aP]at an hM;refine zR ?_;refine yR [(2,1)] 7 sm kR kR ?_;simp[go_sem];refine yP8 4 an cB rfl rfl (xU 4 dc a b sn) rfl (λi hi=>by simp[go_sem];omega) (λN=>zd5 (n:=4) rfl) ?_;simp[go_sem];refine zA ?_;simp[go_sem];exact wA (r:=M) (by rw[hM];exact wF ⟨zd4 ⟨zU rfl,zU rfl,yY,tV⟩,zt7,tV⟩) ⟨rfl,rfl⟩
  have ei:=zS q om;obtain⟨x,hx⟩:=eX (L[i]);have aA:x∈L:=hx▸A8 q;have ao:=xn0 x (al x aA) a b sn l hn om;have hlen:=yZ9 (st:=x) (l:=l);have aR:=(au x aA).rows.1;rw[A5 q,hx,doL]at aa;obtain⟨E,hE⟩:=eX (doS x l);rw[hE]at aa ao hlen;refine zA ?_;simp[go_sem,tkS,runS,runB,schO,q,hx];refine zp1 4 ao cB rfl rfl (xU 4 dc a b sn) (zd5 (n:=4) rfl) ?_ ?_;.rintro r s'⟨b',rfl,rfl,_⟩;exact⟨rfl,xU 4 dc a b' sn,rfl⟩
  rintro r s'⟨b',rfl,rfl,aQ⟩;by_cases e0:E.2.2=0;rotate_left
  .have aB:(E.2.2!=0)=true:=by simpa using e0
   rw[if_pos e0]at aa;have hM:=aI (by rw[<-aa];exact e0);simp[go_sem,runS,runB,aB,Ot.row];exact wA (r:=M) (by rw[hM,<-aa];exact wF ⟨zd4 ⟨zU rfl,zU rfl,yY,tV⟩,zt7,tV⟩) ⟨rfl,rfl⟩
  have aB:(E.2.2!=0)=false:=by simpa using e0
  rw[if_neg (λh=>h e0)]at aa;simp[go_sem,runS,runB,e0,Ot.row];refine zI ⟨om,zV rfl⟩ ?_;simp[go_sem,ei];exact zG (i+1,b',E.2.1,outs++[E.1]) ⟨by show L.length-(i+1)<L.length-i;omega,⟨q,aQ e0,by show(outs++[E.1]).length=i+1;simp[a7],by show E.2.1.length<=7500+20*(i+1);omega,aa⟩,at_n 8 (by simp[Ot.row]) rfl (yB7 8 dc (by simp[ltOb,ltC,ltK])) dc (zC sg rfl)⟩
theorem yL8(h:(zn6 lot).2=0):∀st∈lot.stmts,mayS st=true/\zm5 st=0:=by
 unfold zn6 at h;by_cases q:mayL lot=true;rotate_left;.rw[if_neg q]at h;cases h
 rw[if_pos q]at h;intro st aa;refine⟨?_,zU6 h st aa⟩;unfold mayL at q;rw[A6,Af]at q;exact q.2 st aa
theorem yI7{tn:Nat}{T:GTable}(hT:tabsS[tn]?=some T):∀{R:List (List GExpr)}{b:Mp (List UInt8)}{l:List Ln},(∀r∈R,∀e∈r,EOk e)->NowOk b l->(insF tn T R l).2=0->∃b',NowOk b' (insF tn T R l).1
 |[],b,l,_,hn,_=>⟨b,hn⟩|r::R,b,l,he,hn,h=>by
  rw[insF]at h⊢;have ad:=yb2 r [] (he r (Bb ..)) (λv hv=>by cases hv);by_cases q1:(evsX noT [] r []).2≠0;.rw[if_pos q1]at h;exact absurd h q1
  rw[if_neg q1]at h⊢;obtain⟨_,ae⟩:=ad (by simpa using q1);have aa:=yb6 tn T hT (evsX noT [] r []).1;by_cases q2:(keyS tn T (evsX noT [] r []).1).2.2≠0;.rw[if_pos q2]at h;exact absurd h q2
  rw[if_neg q2]at h⊢;obtain⟨ab,af,ag⟩:=aa (by simpa using q2);by_cases q3:atF l ((keyS tn T (evsX noT [] r []).1).1,(keyS tn T (evsX noT [] r []).1).2.1)=true;.rw[if_pos q3]at h;cases h
  rw[if_neg q3]at h⊢;exact yI7 hT (λx hx=>he x (B4 _ hx)) (hn.ins (x:=⟨(keyS tn T (evsX noT [] r []).1).1,(keyS tn T (evsX noT [] r []).1).2.1,(evsX noT [] r []).1⟩) ⟨⟨tn,T,af,hT,ab⟩,ag,ae⟩ (Bool.eq_false_iff.2 q3)) h
theorem yG5:∀{m:List Ln}{b:Mp (List UInt8)}{l:List Ln},NowOk b l->∃b',NowOk b' (delF m l)
 |[],b,_,hn=>⟨b,hn⟩|x::m,b,l,hn=>by rw[delF];exact yG5 (hn.del x.at)
theorem xI7(aa:StOk st)(hn:NowOk b l)(h:(doS st l).2.2=0):∃b',NowOk b' (doS st l).2.1:=by
 obtain⟨tn,ab⟩:∃tn:Nat,ze0 st.table=tn:=⟨(ze0 st.table).toNat,by have:=aa.tab;omega⟩;have ad:tn<3:=by have h:=zr4 (λT:GTable=>T.name==st.table) tabsS 0;have h2:tabsS.length=3:=rfl;unfold ze0 at ab;omega
 obtain⟨T,hT⟩:∃T,tabsS[tn]?=some T:=⟨_,A0 (show tn<tabsS.length from ad)⟩;unfold doS at h⊢;simp only[ab,Az]at h⊢;rw[show tabsS.getD tn noT=T by rw[A7,hT];rfl]at h⊢;by_cases k2:st.kind=2
 .rw[if_pos k2]at h⊢;by_cases q:(insF tn T st.rows l).2≠0;.rw[if_pos q]at h;exact absurd h q
  .rw[if_neg q];exact yI7 hT (λr hr=>(aa.ok.rows.2 r hr).2) hn (by simpa using q)
 rw[if_neg k2]at h⊢;by_cases q:(metF tn T st l).2≠0;.rw[if_pos q]at h;exact absurd h q
 rw[if_neg q]at h⊢;by_cases k1:st.kind=1;.rw[if_pos k1];exact⟨b,hn⟩
 rw[if_neg k1]at h⊢;by_cases k3:st.kind=3
 .rw[if_pos k3]at h⊢;by_cases q2:(updF T st.sets (metF tn T st l).1 l).2≠0;.rw[if_pos q2]at h;exact absurd h q2
  .rw[if_neg q2];refine⟨_,yk4 hT aa.ok hn (λx hx=>?_) (by simpa using q2)⟩;obtain⟨h1,h2⟩:=yh1 x hx;exact⟨atF_iff.2 (Ac.2 ⟨x,h1,rfl⟩),hn.rows x h1,zK6 ad h2⟩
 .rw[if_neg k3];exact yG5 hn
abbrev Pr:=List UInt8×List UInt8
theorem yu4:∀(tn:Nat)(T:GTable),tabsS[tn]?=some T->tn=0->T.place=0:=by intro tn T h h0;subst h0;have e:tabsS[0]?=some T:=h;exact(by decide:∀T,tabsS[0]?=some T->T.place=0) T e
theorem xj1(hT:tabsS[tn]?=some T){row aa:List GValue}(h1:mayT T.cols row=0)(h2:mayT T.cols aa=0)(hk:aa.getD T.key.toNat zeroV=row.getD T.key.toNat zeroV)(hp:T.place=0->aa.getD 0 zeroV=row.getD 0 zeroV):keyS tn T aa=keyS tn T row:=by
 have hr:zS1 tn aa=zS1 tn row:=by
  unfold zS1;by_cases h0:tn=0;.rw[if_pos h0,if_pos h0,hp (yu4 tn T hT h0)]
  .rw[if_neg h0,if_neg h0]
 unfold keyS;rw[if_neg (show¬mayT T.cols aa≠0fromλh=>h h2),if_neg (show¬mayT T.cols row≠0fromλh=>h h1),hr,hk];by_cases h0:tn=0;.rw[hp (yu4 tn T hT h0)]
 .rw[if_neg (λh=>h0 h.1),if_neg (λh=>h0 h.1)]
theorem xx2{x:Ln}(h:LnOk x)(aa:(ofS x.r).1=(tn:Int))(hT:tabsS[tn]?=some T)(hk:keyS tn T x.v=(x.r,x.k,0)):LnK x:=by unfold LnK zl0;rw[h.read,aa,Az,show tabsS.getD tn noT=T by rw[A7,hT];rfl,hk,h.err];simp
theorem xL2{x:Ln}(h:LnOk x)(hK:LnK x)(aa:(ofS x.r).1=(tn:Int))(hT:tabsS[tn]?=some T):keyS tn T x.v=(x.r,x.k,0):=by unfold LnK zl0 at hK;rw[h.read,aa,Az,show tabsS.getD tn noT=T by rw[A7,hT];rfl]at hK;simp only[A6,decide_eq_true_eq]at hK;exact hK.2.2
theorem xv3{l:List GValue}{i j:Nat}{v:GValue}(h:i≠j):(l.set i v).getD j zeroV=l.getD j zeroV:=by rw[A7,A7,Ad h]
theorem yj4{T:GTable}{old:List GValue}{c:Nat}(hc:(c:Int)=T.key∨((c:Int)=0/\T.place=0)):∀{sets p:List GAssign}{row:List GValue},zf9 T p sets=0->(setF T old sets row).2=0->(setF T old sets row).1.getD c zeroV=row.getD c zeroV
 |[],_,row,_,_=>rfl|y::l,p,row,h,h2=>by
  rw[setF]at h2⊢;by_cases q:(evR T old y.e).2≠0;.rw[if_pos q]at h2;exact absurd h2 q
  rw[if_neg q]at h2⊢;rw[zf9]at h;by_cases q1:colF T y.name<0;.rw[if_pos q1]at h;cases h
  rw[if_neg q1]at h;by_cases q2:colF T y.name=T.key∨(colF T y.name=0/\T.place=0);.rw[if_pos q2]at h;cases h
  rw[if_neg q2]at h;by_cases q3:(p.any λz=>z.name==y.name)=true;.rw[if_pos q3]at h;cases h
  rw[if_neg q3]at h;by_cases q4:zr7 T y.e (colK T (colF T y.name))≠0;.rw[if_pos q4]at h;exact absurd h q4
  rw[if_neg q4]at h;rw[yj4 hc h h2];refine xv3 λe=>q2 ?_;have e2:colF T y.name=(c:Int):=om;rw[e2];exact hc
def LsK(l:List Ln):Prop:=∀x∈l,LnOk x/\LnK x
theorem xv7{tn:Nat}{T:GTable}(hT:tabsS[tn]?=some T):∀{R:List (List GExpr)}{l:List Ln},(∀r∈R,∀e∈r,EOk e)->LsK l->(insF tn T R l).2=0->LsK (insF tn T R l).1
 |[],l,_,hn,_=>hn|r::R,l,he,hn,h=>by
  rw[insF]at h⊢;have ag:=yb2 r [] (he r (Bb ..)) (λv hv=>by cases hv);by_cases q1:(evsX noT [] r []).2≠0;.rw[if_pos q1]at h;exact absurd h q1
  rw[if_neg q1]at h⊢;obtain⟨_,ah⟩:=ag (by simpa using q1);have aa:=yb6 tn T hT (evsX noT [] r []).1;obtain⟨⟨kr,kk,ke⟩,ab⟩:∃ks,keyS tn T (evsX noT [] r []).1=ks:=⟨_,rfl⟩;rw[ab]at h aa⊢;simp only at h aa⊢;by_cases q2:ke≠0;.rw[if_pos q2]at h;exact absurd h q2
  rw[if_neg q2]at h⊢;have ad:ke=0:=by simpa using q2
  obtain⟨ae,af,ai⟩:=aa ad;by_cases q3:atF l (kr,kk)=true;.rw[if_pos q3]at h;cases h
  rw[if_neg q3]at h⊢;have hx:LnOk ⟨kr,kk,(evsX noT [] r []).1⟩:=⟨⟨tn,T,af,hT,ae⟩,ai,ah⟩;refine xv7 hT (λx hx=>he x (B4 _ hx)) (λz hz=>?_) h;rcases Ag.1 ((zj3 l _).mem_iff.1 hz)with rfl|hz;.exact⟨hx,xx2 hx af hT (by rw[ab,ad])⟩
  .exact hn z hz
theorem xr7:∀{m l:List Ln},LsK l->LsK (delF m l)
 |[],l,h=>h|x::m,l,h=>by rw[delF];exact xr7 (λy hy=>h y (B1.1 hy).1)
theorem xE0{tn:Nat}{T:GTable}(hT:tabsS[tn]?=some T){st:GStmt}(ag:SOk st)(hc:zf9 T [] st.sets=0):∀{m l:List Ln},LsK l->(∀x∈m,LnOk x/\LnK x/\(ofS x.r).1=(tn:Int))->(updF T st.sets m l).2=0->LsK (updF T st.sets m l).1
 |[],_,hn,_,_=>hn|x::m,l,hn,hm,h0=>by
  obtain⟨ab,ak,ae⟩:=hm x (Bb ..);obtain⟨ao,aq⟩:=(by decide:∀T∈tabsS,0<=T.key/\T.key<T.cols.length) T (B7 hT);rw[updF]at h0⊢;have aa:=λ(c:Nat)(al:(c:Int)=T.key∨((c:Int)=0/\T.place=0))=>yj4 (T:=T) (old:=x.v) al (sets:=st.sets) (p:=[]) (row:=x.v) hc;have ah:=yc6 (T:=T) ab.ok (sets:=st.sets) (row:=x.v) (λy hy=>(ag.sets.2 y hy).2) ab.ok;obtain⟨E,hE⟩:=eX (setF T x.v st.sets x.v);rw[hE]at h0 aa ah⊢;by_cases q:E.2≠0;.rw[if_pos q]at h0;exact absurd h0 q
  rw[if_neg q]at h0⊢;have q0:E.2=0:=by simpa using q
  by_cases q2:mayT T.cols E.1≠0;.rw[if_pos q2]at h0;exact absurd h0 q2
  rw[if_neg q2]at h0⊢;have m0:mayT T.cols E.1=0:=by simpa using q2
  obtain⟨af,T',ar,ai,an⟩:=ab.tab;have:af=tn:=om;subst this;rw[hT]at ai;cases ai;have ad:LnOk ⟨x.r,x.k,E.1⟩:=⟨⟨af,T,ae,hT,m0⟩,ab.err,(ah q0).2⟩;have aj:keyS af T E.1=(x.r,x.k,0):=by rw[xj1 hT an m0 (aa T.key.toNat (.inl om) q0) (λhp=>aa 0 (.inr ⟨rfl,hp⟩) q0)];exact xL2 ab ak ae hT
  refine xE0 hT ag hc (λz hz=>?_) (λy hy=>hm y (B4 _ hy)) h0;unfold putF at hz;obtain⟨y,hy,rfl⟩:=Ac.1 hz;by_cases e:y.at=x.at;.rw[if_pos e];have e1:y.r=x.r:=congrArg Prod.fst e;have e2:y.k=x.k:=congrArg Prod.snd e;rw[e1,e2];exact⟨ad,xx2 ad ae hT aj⟩
  .rw[if_neg e];exact hn y hy
theorem wa9(aa:StOk st)(hc:zm5 st=0)(_hn:NowOk b l)(hk:LsK l)(h:(doS st l).2.2=0):LsK (doS st l).2.1:=by
 obtain⟨tn,ab⟩:∃tn:Nat,ze0 st.table=tn:=⟨(ze0 st.table).toNat,by have:=aa.tab;omega⟩;have ad:tn<3:=by have h:=zr4 (λT:GTable=>T.name==st.table) tabsS 0;have h2:tabsS.length=3:=rfl;unfold ze0 at ab;omega
 obtain⟨T,hT⟩:∃T,tabsS[tn]?=some T:=⟨_,A0 (show tn<tabsS.length from ad)⟩;unfold zm5 at hc;rw[ab,Az,hT]at hc;simp only at hc;rw[if_neg om]at hc;unfold doS at h⊢;simp only[ab,Az]at h⊢;rw[show tabsS.getD tn noT=T by rw[A7,hT];rfl]at h⊢;by_cases k2:st.kind=2
 .rw[if_pos k2]at h⊢;by_cases q:(insF tn T st.rows l).2≠0;.rw[if_pos q]at h;exact absurd h q
  .rw[if_neg q];exact xv7 hT (λr hr=>(aa.ok.rows.2 r hr).2) hk (by simpa using q)
 rw[if_neg k2]at h⊢;by_cases q:(metF tn T st l).2≠0;.rw[if_pos q]at h;exact absurd h q
 rw[if_neg q]at h⊢;by_cases k1:st.kind=1;.rw[if_pos k1];exact hk
 rw[if_neg k1]at h⊢;by_cases k3:st.kind=3
 .rw[if_pos k3]at h⊢;by_cases q2:(updF T st.sets (metF tn T st l).1 l).2≠0;.rw[if_pos q2]at h;exact absurd h q2
  .rw[if_neg q2];have ae:zf9 T [] st.sets=0:=by
    rw[if_neg k1,if_neg k2,if_pos k3]at hc;by_cases z:zf9 T [] st.sets≠0;.rw[if_pos z]at hc;exact hc
    .simpa using z
   refine xE0 hT aa.ok ae hk (λx hx=>?_) (by simpa using q2);obtain⟨h1,h2⟩:=yh1 x hx;exact⟨(hk x h1).1,(hk x h1).2,zK6 ad h2⟩
 .rw[if_neg k3];exact xr7 hk
theorem xR4:∀{ss:List GStmt}{i:Nat}{acc:List Ot}{b:Mp (List UInt8)}{l:List Ln},(∀x∈ss,StOk x/\zm5 x=0)->NowOk b l->LsK l->(doL ss i acc l).1.1=0->(∃b',NowOk b' (doL ss i acc l).2)/\LsK (doL ss i acc l).2/\(doL ss i acc l).2.length<=l.length+20*ss.length
 |[],i,acc,b,l,_,hn,hk,_=>⟨⟨b,hn⟩,hk,by rw[doL];simp⟩|x::ss,i,acc,b,l,hs,hn,hk,h=>by
  rw[doL]at h⊢;obtain⟨hx,aa⟩:=hs x (Bb ..);by_cases q:(doS x l).2.2≠0;.rw[if_pos q]at h;exact absurd h q
  rw[if_neg q]at h⊢;have q0:(doS x l).2.2=0:=by simpa using q
  obtain⟨b',ab⟩:=xI7 hx hn q0;have hlen:=yZ9 (st:=x) (l:=l);have hr:=hx.ok.rows.1;obtain⟨h1,h2,h3⟩:=xR4 (λy hy=>hs y (B4 _ hy)) ab (wa9 hx aa hn hk q0) h;exact⟨h1,h2,by rw[Ah];omega⟩
theorem TkI.run:∀(ps:List (Pl×List UInt8)){n:Nat}{s:List (Pl×List UInt8)×List Ln}{m:M3},TkI n s m->∃m',TkI (n+ps.length) (ps.foldl zy4 s) m'
 |[],n,s,m,h=>⟨m,h⟩|p::ps,n,s,m,h=>by obtain⟨m',h'⟩:=TkI.run ps (h.step p);exact⟨m',by rw[Ah,show n+(ps.length+1)=n+1+ps.length by omega];exact h'⟩
theorem yg6(vs:List Vw):∃m,TkI (yP vs).length ((yP vs).foldl zy4 ([],[])) m:=by obtain⟨m,h⟩:=TkI.run (yP vs) xS6;rw[Ab]at h;exact⟨m,h⟩
theorem yv4{l:List Wr}{now:List Ln}(h1:∀x∈was,LnOk x)(h2:∀x∈now,LnOk x)(hw:Rise (was.map Ln.at))(hn:Rise (now.map Ln.at))(hl:l=chgF was now):∀w∈l,w.p.1=0∨w.p.1=1∨w.p.1=2∨w.p.1=3:=λw ab=>by
 rw[hl]at ab;have hr:∀x:Ln,LnOk x->x.r=0∨x.r=1∨x.r=2∨x.r=3:=λx hx=>by
  have:=hx.err;unfold ofS at this;by_cases a0:x.r=0;.exact .inl a0
  by_cases a1:x.r=1;.exact .inr (.inl a1)
  by_cases a2:x.r=2;.exact .inr (.inr (.inl a2))
  by_cases a3:x.r=3;.exact .inr (.inr (.inr a3))
  rw[if_neg a0,if_neg a1,if_neg a2,if_neg a3]at this;cases this
 rcases((ya9 hw hn).2 w).1 ab with⟨_,_,⟨x,hx,aa⟩,_⟩|⟨_,x,hx,aa,_,_⟩;.rw[<-aa];exact hr x (h1 x hx)
 .rw[<-aa];exact hr x (h2 x hx)
theorem yz0(hl:LOk lot)(hn:NowOk b l)(hk:LsK l)(h:(lotF lot l).1.1=0):(∃b',NowOk b' (lotF lot l).2)/\LsK (lotF lot l).2/\(lotF lot l).2.length<=l.length+240:=by
 unfold lotF at h⊢;by_cases q:(zn6 lot).2≠0;.rw[if_pos q]at h;exact absurd h q
 rw[if_neg q]at h⊢;have q0:(zn6 lot).2=0:=by simpa using q
 by_cases q2:(doL lot.stmts 0 [] l).1.1≠0;.rw[if_pos q2]at h;exact absurd h q2
 rw[if_neg q2]at h⊢;obtain⟨h1,h2,h3⟩:=xR4 (λx hx=>⟨yL9 hl q0 x hx,(yL8 q0 x hx).2⟩) hn hk h;have:=hl.stmts.1;exact⟨h1,h2,om⟩
def insP(k d:List UInt8):Bool->List Pr->List Pr |b,[]=>if b=true then[]else[(k,d)]|b,x::l=>(if(!b&&Op.bytesLess k x.1)=true then[(k,d)]else[])++((if x.1=k then[]else[x])++insP k d (b||Op.bytesLess k x.1) l)
def zA4(l:List Pr):Prop:=l.Pairwise λa b=>Op.bytesLess a.1 b.1=true
theorem zB2(k d:List UInt8):∀l:List Pr,insP k d true l=l.filter λx=>!decide (x.1=k)
 |[]=>rfl|x::l=>by rw[insP,De,zB2 k d l,Dq];by_cases q:x.1=k<;>simp[q]
theorem zV4(k d:List UInt8):∀(b:Bool)(l:List Pr),(insP k d b l).Perm ((if b=true then[]else[(k,d)])++l.filter λx=>!decide (x.1=k))
 |b,[]=>by rw[insP];simp|true,x::l=>by rw[zB2];simp|false,x::l=>by
  rw[insP];by_cases q:Op.bytesLess k x.1=true
  .rw[q,Eo,zB2];have hx:x.1≠k:=λe=>by rw[e,zh3]at q;cases q
   simp[hx]
  .have q':Op.bytesLess k x.1=false:=by simpa using q
   rw[q',C8];have ih:=zV4 k d false l;by_cases e:x.1=k;.simp[e]at ih⊢;exact ih
   .simp[e]at ih⊢;exact(ih.cons x).trans (List.Perm.swap ..)
theorem insP_mem{k:List UInt8}{b:Bool}{l:List Pr}{x:Pr}:x∈insP k d b l↔(b=false/\x=(k,d))∨(x∈l/\x.1≠k):=by rw[(zV4 k d b l).mem_iff,Aq,B1];cases b<;>simp
theorem yr7(k d:List UInt8):∀(b:Bool){l:List Pr},zA4 l->zA4 (insP k d b l)
 |true,l,h=>by rw[zB2];exact List.Pairwise.sublist C4 h|false,[],_=>by rw[insP,if_neg dc];exact List.pairwise_singleton ..|false,x::l,h=>by
  have h2:=h;unfold zA4 at h2;rw[Cv]at h2;rw[insP];by_cases q:Op.bytesLess k x.1=true
  .have hx:x.1≠k:=λe=>by rw[e,zh3]at q;cases q
   rw[q,Eo,zB2,if_pos (by rfl),if_neg hx];show zA4 ((k,d)::x::l.filter _);unfold zA4;refine Cv.2 ⟨λy hy=>?_,Cv.2 ⟨λy hy=>h2.1 y (B1.1 hy).1,List.Pairwise.sublist C4 h2.2⟩⟩;rcases Ag.1 hy with rfl|hy;.exact q
   .exact zv5 _ _ _ q (h2.1 y (B1.1 hy).1)
  .have q':Op.bytesLess k x.1=false:=by simpa using q
   rw[q',C8,Bool.and_false,if_neg dc,Cu];have ih:=yr7 k d false h2.2;by_cases e:x.1=k;.rw[if_pos e];exact ih
   .rw[if_neg e];show zA4 (x::insP k d false l);unfold zA4;refine Cv.2 ⟨λy hy=>?_,ih⟩;rcases insP_mem.1 hy with⟨_,rfl⟩|⟨hy,_⟩
    .rcases zA5 x.1 k with r|r|r;.exact r
     .exact absurd r e
     .rw[q']at r;cases r
    .exact h2.1 y hy
def xv9(w:Wr)(l:List Pr):List Pr:=insP w.p.2 w.data w.drop l
def doR(g:Int)(P:List (List Pr))(w:Wr):List (List Pr):=P.set g.toNat (xv9 w (P.getD g.toNat []))
def doQ(P:List (List Pr))(q:Int×List Wr):List (List Pr):=if q.1<0∨8<=q.1then P else q.2.foldl (doR q.1) P
def doP(P:List (List Pr))(qs:List (Int×List Wr)):List (List Pr):=qs.foldl doQ P
theorem yZ8(g:Int)(P:List (List Pr))(w:Wr):(doR g P w).length=P.length:=by unfold doR;simp
theorem xJ8{out:List (Int×List Wr)}(hw:0<=w.p.1/\w.p.1<8)(P:List (List Pr)):doP P (grpS out w)=doR w.p.1 (doP P out) w:=by
 have hq:∀P,doQ P (w.p.1,[w])=doR w.p.1 P w:=λP=>by unfold doQ;rw[if_neg (by simp only;omega)];rfl
 unfold grpS;cases q:out.getLast? with|none=>rw[List.getLast?_eq_none_iff.1 q];exact hq P|some p=>
  have ho:out=out.dropLast++[p]:=by have h:=List.getLast?_eq_some_iff.1 q;obtain⟨ys,rfl⟩:=h;simp
  simp only;by_cases e:p.1=w.p.1
  .rw[if_pos e];unfold doP;rw[Cq,Bf,Ep];conv=>rhs;rw[ho,Cq,Bf,Ep]
   unfold doQ;simp only;rw[if_neg om,if_neg om,Cq,e];rfl
  .rw[if_neg e];unfold doP;rw[Cq,Bf,Ep];exact hq _
theorem yZ7(P:List (List Pr)):∀(l:List Wr)(out:List (Int×List Wr)),(∀w∈l,0<=w.p.1/\w.p.1<8)->doP P (l.foldl grpS out)=l.foldl (λP w=>doR w.p.1 P w) (doP P out)
 |[],_,_=>rfl|w::l,out,h=>by rw[Bf,Bf,yZ7 P l _ λx hx=>h x (B4 _ hx),xJ8 (h w (Bb ..))]
def hasP(P:List (List Pr))(p:Pl)(d:List UInt8):Prop:=0<=p.1/\∃l,P[p.1.toNat]?=some l/\(p.2,d)∈l
theorem xI6{P:List (List Pr)}(h0:0<=w.p.1)(h8:w.p.1.toNat<P.length):hasP (doR w.p.1 P w) p d↔(p=w.p/\w.drop=false/\d=w.data)∨(p≠w.p/\hasP P p d):=by
 obtain⟨g,k⟩:=p;obtain⟨⟨wg,wk⟩,wd,wb⟩:=w;simp only at h0 h8;unfold hasP doR xv9;simp only;rw[A7,A0 h8,Ea];by_cases e:g=wg
 .subst e;rw[Aj h8,A0 h8];constructor
  .rintro⟨_,l,hl,hm⟩;cases hl;rcases insP_mem.1 hm with⟨h1,h2⟩|⟨h1,h2⟩;.cases h2;exact .inl ⟨rfl,h1,rfl⟩
   .exact .inr ⟨λe=>h2 (by cases e;rfl),h0,_,rfl,h1⟩
  .rintro(⟨h1,h2,h3⟩|⟨h1,_,l,hl,hm⟩);.cases h1;exact⟨h0,_,rfl,insP_mem.2 (.inl ⟨h2,by rw[h3]⟩)⟩
   .cases hl;exact⟨h0,_,rfl,insP_mem.2 (.inr ⟨hm,λe=>h1 (by simp only at e;rw[e])⟩)⟩
 .constructor;.rintro⟨hg,l,hl,hm⟩;rw[Ad om]at hl;exact .inr ⟨λx=>e (by cases x;rfl),hg,l,hl,hm⟩
  .rintro(⟨h1,_⟩|⟨_,hg,l,hl,hm⟩);.exact absurd (by cases h1;rfl) e
   .exact⟨hg,l,by rw[Ad om];exact hl,hm⟩
theorem yI0{p:Pl}{d:List UInt8}:∀{ws:List Wr}{P:List (List Pr)},(∀w∈ws,0<=w.p.1/\w.p.1.toNat<P.length)->hasP (ws.foldl (λP w=>doR w.p.1 P w) P) p d->(∃w∈ws,w.p=p/\w.drop=false/\d=w.data)∨((∀w∈ws,w.p≠p)/\hasP P p d)
 |[],P,_,h=>.inr ⟨λw hw=>(by cases hw),h⟩|w::ws,P,hw,h=>by
  have aa:=hw w (Bb ..);rw[Bf]at h;rcases yI0 (λx hx=>by rw[yZ8];exact hw x (B4 _ hx)) h with⟨x,hx,h1⟩|⟨h1,h2⟩;.exact .inl ⟨x,B4 _ hx,h1⟩
  .rcases(xI6 aa.1 aa.2).1 h2 with⟨h3,h4,h5⟩|⟨h3,h4⟩;.exact .inl ⟨w,Bb ..,h3.symm,h4,h5⟩
   .refine .inr ⟨λx hx=>?_,h4⟩;rcases Ag.1 hx with rfl|hx;.exactλe=>h3 e.symm
    .exact h1 x hx
theorem xs4{P:List (List Pr)}(h:∀l∈P,zA4 l):∀l∈doR g P w,zA4 l:=λl hl=>by
 unfold doR at hl;rcases Ch hl with hl|rfl;.exact h l hl
 .refine yr7 _ _ _ ?_;rw[A7];cases q:P[g.toNat]?with |none=>exact List.Pairwise.nil|some l=>exact h l (B7 q)
theorem yr2:∀{ws:List Wr}{P:List (List Pr)},(∀l∈P,zA4 l)->∀l∈ws.foldl (λP w=>doR w.p.1 P w) P,zA4 l |[],_,h=>h|w::ws,P,h=>by rw[Bf];exact yr2 (xs4 h)
theorem yr1:∀(ws:List Wr)(P:List (List Pr)),(ws.foldl (λP w=>doR w.p.1 P w) P).length=P.length|[],_=>rfl|w::ws,P=>by rw[Bf,yr1 ws,yZ8]
def vsG:Nat->List (List Pr)->List Vw |_,[]=>[]|i,l::P=>(i,l)::vsG (i+1) P
theorem yd1:∀(i:Nat)(P:List (List Pr)),(vsG i P).length=P.length|_,[]=>rfl|i,l::P=>by rw[vsG,Ah,Ah,yd1]
theorem yd2:∀{i:Nat}{P:List (List Pr)}{x:Vw},x∈vsG i P->i<=x.1/\x.1<i+P.length/\P[x.1-i]?=some x.2
 |_,[],_,h=>by cases h|i,l::P,x,h=>by
  rw[vsG]at h;rcases Ag.1 h with rfl|h;.refine⟨A3 _,sm,?_⟩;simp
  .obtain⟨h1,h2,h3⟩:=yd2 h;refine⟨om,by rw[Ah];omega,?_⟩;rw[show x.1-i=(x.1-(i+1))+1by omega,Cs];exact h3
theorem yv0:∀(i:Nat)(P:List (List Pr)),((vsG i P).map (·.1)).Nodup
 |_,[]=>D0|i,l::P=>by rw[vsG,Al,Cc];refine⟨λh=>?_,yv0 (i+1) P⟩;obtain⟨x,hx,e⟩:=Ac.1 h;have:=(yd2 hx).1;simp only at e;omega
theorem yC8:∀(P:List (List Pr))(i j:Nat),(vsG i P)[j]?=(P[j]?).map λl=>(i+j,l)
 |[],_,_=>rfl|l::P,i,0=>rfl|l::P,i,j+1=>by rw[vsG,Cs,Cs,yC8 P (i+1) j];rw[show i+1+j=i+(j+1)by omega]
theorem yt0{i:Nat}{P:List (List Pr)}{q:Pl×List UInt8}(h:q∈yP (vsG i P)):(i:Int)<=q.1.1/\P[q.1.1.toNat-i]?≠none/\∀l,P[q.1.1.toNat-i]?=some l->(q.1.2,q.2)∈l:=by unfold yP at h;obtain⟨x,hx,hq⟩:=List.mem_flatMap.1 h;obtain⟨h1,h2,h3⟩:=yd2 hx;obtain⟨y,hy,rfl⟩:=Ac.1 hq;simp only;rw[show((x.1:Int)).toNat=x.1from Az _,h3];exact⟨om,sm,λl hl=>by cases hl;exact hy⟩
theorem xl7{P:List (List Pr)}{q:Pl×List UInt8}(h:q∈yP (vsG 0 P)):hasP P q.1 q.2:=by obtain⟨h1,h2,h3⟩:=yt0 h;rw[Nat.sub_zero]at h2 h3;obtain⟨l,hl⟩:=Option.ne_none_iff_exists'.1 h2;exact⟨om,l,hl,h3 l hl⟩
theorem ys5:∀{P:List (List Pr)}{i g:Nat}{k d:List UInt8}{l:List Pr},P[g]?=some l->(k,d)∈l->((((i+g:Nat):Int),k),d)∈yP (vsG i P)
 |[],_,_,_,_,_,h,_=>by simp at h|m::P,i,0,k,d,l,h,hm=>by simp at h;subst h;rw[vsG,zy6];exact Di _ (Ac.2 ⟨(k,d),hm,sm⟩) |m::P,i,g+1,k,d,l,h,hm=>by rw[Cs]at h;rw[vsG,zy6];refine List.mem_append_right _ ?_;rw[show i+(g+1)=i+1+g by omega];exact ys5 h hm
theorem xi0{P:List (List Pr)}(h:hasP P p d):(p,d)∈yP (vsG 0 P):=by obtain⟨h0,l,hl,hm⟩:=h;have:=ys5 (i:=0) hl hm;rw[Ab,Int.toNat_of_nonneg h0]at this;exact this
theorem zO9:∀{P:List (List Pr)}{i:Nat},(∀l∈P,zA4 l)->Rise ((yP (vsG i P)).map (·.1))
 |[],_,_=>List.Pairwise.nil|l::P,i,h=>by
  rw[vsG,zy6,Dm];refine C9.2 ⟨?_,zO9 λx hx=>h x (B4 _ hx),λa ha b hb=>?_⟩;.unfold onF;rw[Br];refine Da.2 ((h l (Bb ..)).imp λ{a b}aa=>?_);simp[yZ,aa]
  .obtain⟨x,hx,rfl⟩:=Ac.1 ha;obtain⟨y,hy,rfl⟩:=Ac.1 hb;obtain⟨z,hz,rfl⟩:=Ac.1 hx;have:=(yt0 hy).1;simp only[yZ,Bv,decide_eq_true_eq];exact .inl om
theorem yN4:∀{ps:List (Pl×List UInt8)}{s:List (Pl×List UInt8)×List Ln},((s.1++ps).map (·.1)).Nodup->(ps.foldl zy4 s).1=s.1++ps
 |[],s,_=>by simp|q::ps,s,h=>by
  have hq:(s.1.any λe=>e.1==q.1)=false:=by cases e:s.1.any λe=>e.1==q.1with|false=>rfl|true=>obtain⟨x,hx,aa⟩:=D6.1 e;rw[Dm,Dj]at h;exact absurd (by simpa using aa) (h.2.2 x.1 (Ac.2 ⟨x,hx,rfl⟩) q.1 sm)
  have hs:(zy4 s q).1=s.1++[q]:=by unfold zy4;rw[if_neg (by rw[hq];decide)]
  rw[Bf,yN4 (by rw[hs];simpa using h),hs];simp
structure StI(n:Nat)(P:List (List Pr)):Prop where
 eight:P.length=8rise:∀l∈P,zA4 l
 rows:∀q∈yP (vsG 0 P),zl0 q.1.1 q.1.2 q.2=true
 len:(yP (vsG 0 P)).length<=n
theorem ye2{data:List UInt8}(h:zl0 p.1 p.2 data=true):data.length<=20000:=by obtain⟨h1,h2⟩:=yM9 h;obtain⟨tn,T,_,hT,hm⟩:=h1.tab;have hL:=zB5 ((by decide:∀T∈tabsS,T.cols.length<=20) T (B7 hT)) h1.ok hm;have:=zU7 hL (rowF tabsS (ofS p.1).1 data).1.length;rw[show zG1 (rowF tabsS (ofS p.1).1 data).1 (rowF tabsS (ofS p.1).1 data).1.length=data from h2]at this;exact this
theorem wc2:StI 0 [[],[],[],[],[],[],[],[]]:=⟨rfl,λl hl=>by
  have:l=[]:=by simpa using hl
  subst this;exact List.Pairwise.nil,λq hq=>by simp[vsG,yP,onF]at hq,by simp[vsG,yP,onF]⟩
theorem StI.vs{P:List (List Pr)}(h:StI n P)(hn:n<=7500):(vsG 0 P).length=8/\(∀x∈vsG 0 P,x.1<1000/\x.2.length<=7500/\∀q∈x.2,q.2.length<=maxB)/\((vsG 0 P).map (·.1)).Nodup/\(yP (vsG 0 P)).length<=7500:=by
 refine⟨by rw[yd1];exact h.eight,λx hx=>?_,yv0 _ _,B3 h.len hn⟩;obtain⟨h1,h2,h3⟩:=yd2 hx;rw[h.eight]at h2;refine⟨om,?_,λq hq=>?_⟩
 .have:(onF x.1 x.2).Sublist (yP (vsG 0 P)):=by unfold yP;obtain⟨A,B,e⟩:=List.append_of_mem hx;rw[e,Ed,Bm];exact(List.sublist_append_left _ _).trans (List.sublist_append_right _ _)
  have h4:=this.length_le;have h5:(onF x.1 x.2).length=x.2.length:=by simp[onF]
  have:=h.len;omega
 .have hm:(((x.1:Int),q.1),q.2)∈yP (vsG 0 P):=List.mem_flatMap.2 ⟨x,hx,Ac.2 ⟨q,hq,rfl⟩⟩;have:=ye2 (p:=((x.1:Int),q.1)) (h.rows _ hm);exact B3 this dc
theorem StI.step{P:List (List Pr)}(h:StI n P)(hl:LOk lot):StI (n+240) (doP P (if(lotF lot (zd0 (vsG 0 P))).1.1≠0then[]else grpF (chgF (zd0 (vsG 0 P)) (lotF lot (zd0 (vsG 0 P))).2))):=by
 by_cases e0:(lotF lot (zd0 (vsG 0 P))).1.1≠0;.rw[if_pos e0];exact⟨h.eight,h.rise,h.rows,by show(yP (vsG 0 P)).length<=_;have:=h.len;omega⟩
 rw[if_neg e0];obtain⟨m,hT⟩:=yg6 (vsG 0 P);have ai:((yP (vsG 0 P)).map (·.1)).Nodup:=(zO9 h.rise).nodup;have ae:((yP (vsG 0 P)).foldl zy4 ([],[])).1=yP (vsG 0 P):=by rw[yN4 (by simpa using ai)];rfl
 obtain⟨was,hw⟩:=eX (zd0 (vsG 0 P));have aa:NowOk m.2.1 was:=by rw[<-hw];exact hT.now
 have ao:LsK was:=by rw[<-hw];exactλx hx=>⟨hT.now.rows x hx,(hT.lines x hx).1⟩
 have az:was.length<=(yP (vsG 0 P)).length:=by rw[<-hw];exact hT.len
 have af:∀q∈yP (vsG 0 P),∃x∈was,x.at=q.1/\yN x.v=q.2:=λq hq=>by rw[<-hw];exact hT.rows q (by rw[ae];exact hq) (h.rows q hq)
 rw[hw]at e0⊢;obtain⟨now,hN⟩:=eX ((lotF lot was).2);obtain⟨⟨b',ab⟩,hk,hlen⟩:=yz0 hl aa ao (by simpa using e0);rw[hN]at ab hk hlen⊢;have aj:=yv4 aa.rows ab.rows aa.rise ab.rise rfl;have ag:=(ya9 aa.rise ab.rise).2;unfold grpF;rw[yZ7 P _ [] (λw hw=>by rcases aj w hw with h|h|h|h<;>omega)];show StI (n+240) ((chgF was now).foldl (λP w=>doR w.p.1 P w) P);have ad:∀q∈yP (vsG 0 ((chgF was now).foldl (λP w=>doR w.p.1 P w) P)),∃x∈now,(x.at,yN x.v)=q:=λq hq=>by
  rcases yI0 (λw hw=>by rw[h.eight];rcases aj w hw with h|h|h|h<;>omega) (xl7 hq)with⟨w,aq,h1,h2,h3⟩|⟨h1,h2⟩
  .rcases(ag w).1 aq with⟨g1,_⟩|⟨_,x,hx,g2,g3,_⟩;.rw[g1]at h2;cases h2
   .exact⟨x,hx,by rw[g2,h1,g3,<-h3]⟩
  .obtain⟨y,hy,ak,ar⟩:=af q (xi0 h2);have au:atF now q.1=true:=by cases e:atF now q.1with |true=>rfl|false=>exact absurd rfl (h1 ⟨q.1,true,[]⟩ ((ag _).2 (.inl ⟨rfl,rfl,⟨y,hy,ak⟩,e⟩)))
   obtain⟨x,hx,ah⟩:=Ac.1 (atF_iff.1 au);by_cases e:yN x.v=q.2;.exact⟨x,hx,by rw[ah,e]⟩
   .refine absurd ah (h1 ⟨x.at,false,yN x.v⟩ ((ag _).2 (.inr ⟨rfl,x,hx,rfl,rfl,λz hz av e2=>e ?_⟩)));have aw:z=y:=by
     have ax:=aa.rise.nodup;obtain⟨i,hi,rfl⟩:=List.getElem_of_mem hz;obtain⟨j,hj,rfl⟩:=List.getElem_of_mem hy;have ay:i=j:=by
      have h1:(was.map Ln.at)[i]'(by simpa using hi)=(was.map Ln.at)[j]'(by simpa using hj):=by rw[Eq,Eq,av,ah,ak]
      exact(List.getElem_inj ax).1 h1
     subst ay;rfl
    rw[<-e2,aw,ar]
 have al:=yr2 (ws:=chgF was now) h.rise;refine⟨by rw[yr1];exact h.eight,al,λq hq=>?_,?_⟩;.obtain⟨x,hx,rfl⟩:=ad q hq;exact(hk x hx).2
 .have an:(yP (vsG 0 ((chgF was now).foldl (λP w=>doR w.p.1 P w) P))).Nodup:=(Da.1 (zO9 al).nodup).imp λh e=>h (congrArg _ e);have hle:=an.length_le_of_subset (l₂:=now.map λx=>(x.at,yN x.v)) λq hq=>by obtain⟨x,hx,rfl⟩:=ad q hq;exact Ac.2 ⟨x,hx,rfl⟩
  rw[Ay]at hle;have:=h.len;omega
theorem xJ9{N:Nat}{out:List (Int×List Wr)}(h:out.length<=N/\∀q∈out,q.2.length<=N):(grpS out w).length<=N+1/\∀q∈grpS out w,q.2.length<=N+1:=by unfold grpS;cases e:out.getLast? with |none=>exact⟨sm,λq hq=>by rw[Ci]at hq;rw[hq];simp⟩|some p=>
  have hp:=h.2 p (List.mem_of_getLast? e);simp only;split
  .refine⟨by have:=h.1;simp;omega,λq hq=>?_⟩;rcases Aq.1 hq with hq|hq;.have:=h.2 q (List.dropLast_subset _ hq);omega
   .rw[Ci]at hq;rw[hq];simp;exact hp
  .refine⟨by have:=h.1;simp;omega,λq hq=>?_⟩;rcases Aq.1 hq with hq|hq;.have:=h.2 q hq;omega
   .rw[Ci]at hq;rw[hq];simp
theorem xa8:∀{l:List Wr}{out:List (Int×List Wr)}{N:Nat},out.length<=N/\(∀q∈out,q.2.length<=N)->(l.foldl grpS out).length<=N+l.length/\∀q∈l.foldl grpS out,q.2.length<=N+l.length
 |[],out,N,h=>⟨by have:=h.1;simpa using this,λq hq=>by have:=h.2 q hq;simpa using this⟩|w::l,out,N,h=>by have h2:=xa8 (l:=l) (xJ9 (w:=w) h);rw[Bf,Ah];exact⟨by have:=h2.1;omega,λq hq=>by have:=h2.2 q hq;omega⟩
theorem xr2(was now:List Ln):(chgF was now).length<=was.length+now.length:=by
 have hf:∀(f:Ln->Wr)(m:List Ln)(l:List Wr),(m.foldl (λl x=>insW l (f x)) l).length=l.length+m.length:=λf m=>by induction m with |nil=>intro l;simp|cons x m ih=>intro l;rw[Bf,ih,(zV5 _ _).length_eq,Ah,Ah];omega
 unfold chgF;rw[hf (λx=>⟨x.at,false,yN x.v⟩),hf (λx=>⟨x.at,true,[]⟩)];have h1:=Bt (λx=>!(was.any λy=>decide (y.at=x.at)&&decide (yN y.v=yN x.v))) now;have h2:=Bt (λx:Ln=>!atF now x.at) was;simp only[Dc];omega
def zo6(lot:GLot)(was:List Ln):List (Int×List Wr):=if(lotF lot was).1.1≠0then[]else grpF (chgF was (lotF lot was).2)
theorem xA3(hl:LOk lot)(hn:NowOk b l)(hk:LsK l)(hlen:l.length<=7500):(zo6 lot l).length<=100000/\∀q∈zo6 lot l,q.2.length<=100000:=by
 unfold zo6;by_cases q:(lotF lot l).1.1≠0;.rw[if_pos q];exact⟨A2 _,λx hx=>by cases hx⟩
 rw[if_neg q];obtain⟨_,_,h⟩:=yz0 hl hn hk (by simpa using q);have h2:=xr2 l (lotF lot l).2;have h3:=xa8 (l:=chgF l (lotF lot l).2) (out:=[]) (N:=0) ⟨A3 _,λq hq=>by cases hq⟩;unfold grpF;exact⟨by have:=h3.1;omega,λq hq=>by have:=h3.2 q hq;omega⟩
structure PutOk(Q:List (Int×List Wr)):Prop where
 rng:∀q∈Q,0<=q.1/\q.1<=3/\q.2≠[]up:Q.Pairwise λa b=>a.1<b.1keys:∀q∈Q,q.2.Pairwise λa b=>Op.bytesLess a.p.2 b.p.2=true
 wr:∀q∈Q,∀w∈q.2,(w.drop=true->w.data=[])/\(w.drop=false->zl0 q.1 w.p.2 w.data=true)
theorem yc5(l:List Wr)(r:Int):(rngW l r).Pairwise λa b=>a.1<b.1:=by unfold rngW;split<;>simp
theorem xN3{l:List Wr}{r:Int}{q:Int×List Wr}(h:q∈rngW l r):q=(r,l.filter λw=>w.p.1==r)/\q.2≠[]:=by
 unfold rngW at h;split at h;.cases h
 .rename_i e;simp at h;subst h;exact⟨rfl,e⟩
theorem xJ3(l:List Wr):(rngW l 0++(rngW l 1++(rngW l 2++rngW l 3))).Pairwise λa b=>a.1<b.1:=by
 simp only[C9,Aq];refine⟨yc5 ..,⟨yc5 ..,⟨yc5 ..,yc5 ..,λa ha b hb=>?_⟩,λa ha b hb=>?_⟩,λa ha b hb=>?_⟩;.rw[zl3 a ha,zl3 b hb];decide
 .rw[zl3 a ha];rcases hb with hb|hb<;>rw[zl3 b hb]<;>decide
 .rw[zl3 a ha];rcases hb with hb|hb|hb<;>rw[zl3 b hb]<;>decide
theorem put_ok(hl:LOk lot)(hn:NowOk b was)(hk:LsK was):PutOk (zo6 lot was):=by
 unfold zo6;by_cases e:(lotF lot was).1.1≠0;.rw[if_pos e];exact⟨λq h=>(by cases h),List.Pairwise.nil,λq h=>(by cases h),λq h=>(by cases h)⟩
 rw[if_neg e];obtain⟨⟨b',aa⟩,ae,_⟩:=yz0 hl hn hk (by simpa using e);obtain⟨now,hN⟩:=eX ((lotF lot was).2);rw[hN]at aa ae⊢;have af:=yv4 hn.rows aa.rows hn.rise aa.rise rfl;obtain⟨hr,ag⟩:=ya9 hn.rise aa.rise;obtain⟨W,hW⟩:=eX (chgF was now);rw[hW]at af hr ag⊢;rw[yI1 hr af];have ab:∀q∈rngW W 0++(rngW W 1++(rngW W 2++rngW W 3)),∃r:Int,0<=r/\r<=3/\q=(r,W.filter λw=>w.p.1==r)/\q.2≠[]:=λq hq=>by simp only[Aq]at hq;rcases hq with h|h|h|h<;>exact⟨_,dc,dc,xN3 h⟩
 refine⟨λq hq=>?_,xJ3 W,λq hq=>?_,λq hq w hw=>?_⟩;.obtain⟨r,h0,h3,rfl,ad⟩:=ab q hq;exact⟨h0,h3,ad⟩
 .obtain⟨r,h0,h3,rfl,ad⟩:=ab q hq;refine(List.Pairwise.and_mem.1 (List.Pairwise.sublist C4 hr)).imp λ{x y}h=>?_;obtain⟨hx,hy,ah⟩:=h;have e1:x.p.1=r:=by simpa using(B1.1 hx).2
  have e2:y.p.1=r:=by simpa using(B1.1 hy).2
  simpa[yZ,e1,e2]using ah
 .obtain⟨r,h0,h3,rfl,ad⟩:=ab q hq;obtain⟨ai,aj⟩:=B1.1 hw;have e1:w.p.1=r:=by simpa using aj
  rcases(ag w).1 ai with⟨g1,g2,_⟩|⟨g1,x,hx,g2,g3,_⟩;.exact⟨λ_=>g2,λh=>by rw[g1]at h;cases h⟩
  .refine⟨λh=>(by rw[g1]at h;cases h),λ_=>?_⟩;have:=(ae x hx).2;unfold LnK at this;show zl0 r w.p.2 w.data=true;rw[<-g3,<-e1,<-g2];exact this
theorem xr4(was:List Ln):chgF was was=[]:=by
 have h1:(was.filter λx=>!(was.any λy=>decide (y.at=x.at)&&decide (yN y.v=yN x.v)))=[]:=List.filter_eq_nil_iff.2 λx hx=>by simp only[Bool.not_eq_true,Bool.not_eq_false'];exact D6.2 ⟨x,hx,sm⟩
 have h2:(was.filter λx=>!atF was x.at)=[]:=List.filter_eq_nil_iff.2 λx hx=>by simp only[Bool.not_eq_true,Bool.not_eq_false'];exact D6.2 ⟨x,hx,sm⟩
 unfold chgF;rw[h1,h2];rfl
theorem xI8(hk:st.kind=1)(h:(doS st l).2.2=0):(doS st l).2.1=l:=by
 unfold doS at h⊢;simp only[hk]at h⊢;simp only[show¬((1:Int)=2)by decide,if_false,if_true]at h⊢;split at h;.rename_i e;exact absurd h e
 .rename_i e;rw[if_neg e]
theorem yZ6:∀(ss:List GStmt)(i:Nat)(acc:List Ot)(l:List Ln),(∀x∈ss,x.kind=1)->(doL ss i acc l).1.1=0->(doL ss i acc l).2=l
 |[],_,_,_,_,_=>rfl|x::ss,i,acc,l,hk,h=>by
  rw[doL]at h⊢;by_cases e:(doS x l).2.2≠0;.rw[if_pos e]at h;exact absurd h e
  rw[if_neg e]at h⊢;have e0:(doS x l).2.2=0:=by simpa using e
  have h1:=xI8 (hk x (Bb ..)) e0;have h2:=yZ6 ss (i+1) (acc++[(doS x l).1]) (doS x l).2.1 (λy hy=>hk y (B4 _ hy)) h;rw[h2,h1]
theorem xA4(hk:∀x∈lot.stmts,x.kind=1):zo6 lot was=[]:=by
 unfold zo6;by_cases e:(lotF lot was).1.1≠0;.rw[if_pos e]
 rw[if_neg e];have e0:(lotF lot was).1.1=0:=by simpa using e
 have:(lotF lot was).2=was:=by
  unfold lotF at e0⊢;by_cases q:(zn6 lot).2≠0;.rw[if_pos q]
  rw[if_neg q]at e0⊢;by_cases q2:(doL lot.stmts 0 [] was).1.1≠0;.rw[if_pos q2]at e0⊢
  rw[if_neg q2]at e0⊢;exact yZ6 _ _ _ _ hk e0
 rw[this,xr4];rfl
theorem xm1(h:(zn6 lot).2≠0):zo6 lot was=[]:=by unfold zo6 lotF;rw[if_pos h,if_pos h]
theorem yJ0{k:List UInt8}(h:zl0 g k d=true):(ofS g).2.2=0/\(rowF tabsS (ofS g).1 d).2=0/\keyS (ofS g).1.toNat (tabsS.getD (ofS g).1.toNat noT) (rowF tabsS (ofS g).1 d).1=(g,k,0):=by unfold zl0 at h;simpa only[A6,decide_eq_true_eq]using h
theorem xL9(h0:0<=g)(h3:g<=3):∃tn:Nat,(ofS g).1=tn/\tn<3/\([0,0,1,2]:List Int)[g.toNat]?=some (tn:Int):=by
 have h:g=0∨g=1∨g=2∨g=3:=om;rcases h with rfl|rfl|rfl|rfl;.exact⟨0,dc,dc,rfl⟩
 .exact⟨0,dc,dc,rfl⟩
 .exact⟨1,dc,dc,rfl⟩
 .exact⟨2,dc,dc,rfl⟩
def digL:Nat->Nat->List UInt8->List UInt8|0,_,acc=>acc|f+1,u,acc=>if u=0then acc else digL f (u/10) ((48+UInt8.ofNat (u%10))::acc)
def digF(n:Nat):List UInt8:=if n=0then[48]else digL 20 n []
theorem xs3(r:Nat)(h:r<10):((48:UInt8)::List.take r [49,50,51,52,53,54,55,56,57]).drop r=[(48+UInt8.ofNat r)]:=by have:r=0∨r=1∨r=2∨r=3∨r=4∨r=5∨r=6∨r=7∨r=8∨r=9:=om;rcases this with rfl|rfl|rfl|rfl|rfl|rfl|rfl|rfl|rfl|rfl<;>rfl
theorem yG7:∀(f u:Nat)(acc:List UInt8),(digL f u acc).length<=f+acc.length
 |0,u,acc=>by rw[digL];omega|f+1,u,acc=>by
  rw[digL];split;.omega
  .have:=yG7 f (u/10) ((48+UInt8.ofNat (u%10))::acc);simp only[Ah]at this;omega
theorem yG6(n:Nat):(digF n).length<=20:=by
 unfold digF;split;.decide
 .have:=yG7 20 n [];simpa using this
theorem yD9(n:Nat)(hn:n<=9223372036854775807):Pure prog 27 [.int .i64 n] (.str (digF n)):=by
 generalize hM:digF n=M;unfold digF at hM;have ret:∀(r:List UInt8)(σ:St),r=M->wret (some (.str r)) 0 (λr s=>r=.str M/\s=[]) σ:=λr σ h=>by subst h;exact wR
 refine iV 0 func27 ntmps27 results27 λc hc hb=>?_;refine zA ?_;simp[go_sem];by_cases q0:n=0;.rw[if_pos q0]at hM;simp[go_sem,q0];exact ret _ _ hM
 rw[if_neg q0]at hM;have ae:((n:Int)==0)=false:=by simpa using q0
 have ab:decide ((n:Int)<0)=false:=decide_eq_false om;have eu:IntKind.u64.wrap (n:Int)=(n:Int):=Vx.u64_id om om;simp[go_sem,ae,ab,eu];refine zH (S:=Nat×List UInt8) [0,3,4] (λu=>[.int .i64 n,.int .u64 (u.1:Int),.str u.2]) (λ_=>[]) (λu=>u.1) (λu=>u.1<=n/\∃f,u.1<10^f/\u.2.length+f<=20/\digL f u.1 u.2=M) hc hb (n,[]) ⟨A3 _,20,by simp only;omega,sm,hM⟩ ?_ ?_;.exact aO
 rintro⟨u,s⟩⟨hu,f,hf,hs,hinv⟩;simp only at hu hf hs hinv;by_cases q:u=0
 .subst q;have hinv:s=M:=by rw[<-hinv];cases f with |zero=>rfl|succ f=>rw[digL,if_pos rfl]
  refine zA ?_;simp[go_sem,ab];exact ret _ _ hinv
 obtain⟨f,rfl⟩:∃g,f=g+1:=by cases f with |zero=>simp at hf;omega|succ f=>exact⟨f,rfl⟩
 rw[digL,if_neg q]at hinv;have hq:0<u:=om;have er:(u:Int).tmod 10=((u%10:Nat):Int):=by rw[E1 om];omega
 have aa:IntKind.u64.wrap (((u%10:Nat):Int)+1)=((u%10+1:Nat):Int):=by rw[Vx.u64_id om om];omega
 have af:(u:Int).tdiv 10=((u/10:Nat):Int):=by rw[E0 om];omega
 have ed:IntKind.u64.wrap ((u:Int).tdiv 10)=((u/10:Nat):Int):=by rw[E0 om,Vx.u64_id om om];omega
 have ad:=xs3 (u%10) (Cy _ dc);obtain⟨r,hr⟩:=eX (u%10);have ah:r<10:=om;rw[hr]at er aa ad hinv;have ag:IntKind.u64.wrap ((u:Int)/10)=(u:Int)/10:=Vx.u64_id om om;have ai:((r:Int)).toNat=r:=Az r;have aj:((r+1:Nat):Int).toNat=r+1:=Az _;refine zA ?_;simp only[Int.natCast_add,Cb]at aa;simp[go_sem,hq,er,aa];refine zI om ?_;simp[go_sem,ad];refine zI om ?_;simp[go_sem,af,ag];refine zG (u/10,(48+UInt8.ofNat r)::s) ⟨by simp only;omega,⟨by simp only;omega,f,by simp only;rw[Eb]at hf;omega,by simp;omega,hinv⟩,?_⟩;exact aO
theorem ya8(k n:Int)(hk:i64R k)(h1:1<=n)(h2:n<=1000):Pure prog 80 [.int .i64 k,.int .i64 n] (.int .i64 (k%n)):=by
 obtain⟨ae,af⟩:=hk;have q1:decide (n<1)=false:=decide_eq_false om;have q0:¬n<1:=om;have qz:¬n=0:=om;have he:=Eu k (b:=n) om;have hl:=El k (b:=n) om;have ht:=Int.tmod_eq_emod (a:=k) (b:=n);obtain⟨r,hr⟩:=eX (k%n);obtain⟨t,ab⟩:=eX (k.tmod n);rw[hr]at he hl ht⊢;rw[ab]at ht;have ag:((n.natAbs:Nat):Int)=n:=om;have ad:t=r∨t=r-n:=by
  split at ht;.left;omega
  .right;omega
 have et:IntKind.i64.wrap t=t:=i64_id om om;have er:IntKind.i64.wrap r=r:=i64_id om om;have ret:∀(v:Int)(σ:St),v=r->wret (some (.int .i64 v)) 0 (λr' s=>r'=.int .i64 r/\s=[]) σ:=λv σ h=>by subst h;exact wR
 refine iV 0 func80 ntmps80 results80 λc hc hb=>?_;refine zA ?_;simp[go_sem,q0];refine zI qz ?_;simp[go_sem,ab];rcases ad with e|e;.have q2:decide (t<0)=false:=decide_eq_false om;have aa:¬t<0:=om;simp[go_sem,aa];exact ret _ _ e
 .have q2:decide (t<0)=true:=decide_eq_true om;have aa:t<0:=om;have e3:t+n=r:=om;simp[go_sem,aa,e3,er];exact wR
def numP(k:Int):List UInt8:=if k.tmod 41=40then[57,50,50,51,51,55,50,48,51,54,56,53,52,55,55,53,56,48,55]else digF (k%12).toNat
theorem yL0(k:Int):(numP k).length<=20:=by
 unfold numP;split;.decide
 .exact yG6 _
theorem yh7(k:Int)(hk:i64R k):Pure prog 81 [.int .i64 k] (.str (numP k)):=by
 have hp:=ya8 k 12 hk dc dc;have hd:=yD9 (k%12).toNat om;rw[show(((k%12).toNat:Nat):Int)=k%12by omega]at hd;obtain⟨aa,ab⟩:=hk;have ht:=Int.tmod_eq_emod (a:=k) (b:=41);have et:IntKind.i64.wrap (k.tmod 41)=k.tmod 41:=by have:=Eu k (b:=41) dc;have:=El k (b:=41) dc;split at ht<;>exact i64_id om om
 generalize hM:numP k=M;unfold numP at hM;obtain⟨u,hu⟩:=eX (k.tmod 41);rw[hu]at et hM;clear ht;have ret:∀(v:List UInt8)(σ:St),v=M->wret (some (.str v)) 0 (λr' s=>r'=.str M/\s=[]) σ:=λv σ h=>by subst h;exact wR
 refine iV 0 func81 ntmps81 results81 λc hc hb=>?_;refine zA ?_;by_cases q:u=40
 .rw[if_pos q]at hM;have q':(u==40)=true:=by simpa using q
  simp[go_sem,hu,q'];exact ret _ _ hM
 .rw[if_neg q]at hM;have q':(u==40)=false:=by simpa using q
  simp[go_sem,hu,q'];refine pC hp ?_;simp[go_sem];refine pC hd ?_;simp[go_sem];exact ret _ _ hM
theorem xV8(k:Int)(hk:i64R k):∃t:List UInt8,t.length<=20/\Pure prog 82 [.int .i64 k] (.str t):=by
 have hp:=ya8 k 5 hk dc dc;have h0:=Eu k (b:=5) dc;have h1:=El k (b:=5) dc;obtain⟨r,hr⟩:=eX (k%5);rw[hr]at hp h0 h1;have:r=0∨r=1∨r=2∨r=3∨r=4:=om;have walk:∀r:Int,(r=0∨r=1∨r=2∨r=3∨r=4)->Pure prog 80 [.int .i64 k,.int .i64 5] (.int .i64 r)->Pure prog 82 [.int .i64 k] (.str [39,97+UInt8.ofNat r.toNat,39]):=λr aa hp=>by refine iV 0 func82 ntmps82 results82 λc hc hb=>?_;refine zA ?_;simp[go_sem];refine pC hp ?_;rcases aa with rfl|rfl|rfl|rfl|rfl;all_goals simp[go_sem];refine zI (λx hx=>⟨_,Ci.1 hx⟩) ?_;simp[go_sem,zq5];exact wR
 exact⟨_,sm,walk r this hp⟩
theorem xD7(k:Int)(_hk:i64R k):∃t:List UInt8,t.length<=20/\Pure prog 83 [.int .i64 k] (.str t):=by
 have ht:=Int.tmod_eq_emod (a:=k) (b:=2);have et:IntKind.i64.wrap (k.tmod 2)=k.tmod 2:=by have:=Eu k (b:=2) dc;have:=El k (b:=2) dc;split at ht<;>exact i64_id om om
 obtain⟨u,hu⟩:=eX (k.tmod 2);rw[hu]at et;clear ht;by_cases q:u=0
 .refine⟨[84,82,85,69],dc,?_⟩;have q':(u==0)=true:=by simpa using q
  refine iV 0 func83 ntmps83 results83 λc hc hb=>?_;refine zA ?_;simp[go_sem,hu,q'];exact wR
 .refine⟨[70,65,76,83,69],dc,?_⟩;have q':(u==0)=false:=by simpa using q
  refine iV 0 func83 ntmps83 results83 λc hc hb=>?_;refine zA ?_;simp[go_sem,hu,q'];exact wR
def stF(r n g v b:List UInt8):Nat->List UInt8|0=>[73,78,83,69,82,84,32,73,78,84,79,32,84,32,86,65,76,85,69,83,32,40]++r++[44,32]++n++[44,32,39,118]++v++[39,44,32]++v++[41]|1=>[73,78,83,69,82,84,32,73,78,84,79,32,84,32,86,65,76,85,69,83,32,40]++r++[44,32]++n++[44,32,39,118]++v++[39,44,32]++v++[41]|2=>[73,78,83,69,82,84,32,73,78,84,79,32,71,32,86,65,76,85,69,83,32,40]++g++[44,32]++v++[44,32,78,85,76,76,41]|3=>[85,80,68,65,84,69,32,84,32,83,69,84,32,78,32,61,32,78,32,43,32]++v++[32,87,72,69,82,69,32,75,32,61,32]++n|4=>[85,80,68,65,84,69,32,84,32,83,69,84,32,78,32,61,32]++v++[44,32,86,32,61,32,39,120,39,32,87,72,69,82,69,32,82,32,61,32]++r++[32,65,78,68,32,75,32,62,61,32]++n|5=>[85,80,68,65,84,69,32,71,32,83,69,84,32,78,32,61,32,78,32,42,32]++v++[32,87,72,69,82,69,32,75,32,61,32]++g|6=>[68,69,76,69,84,69,32,70,82,79,77,32,84,32,87,72,69,82,69,32,75,32,60,32]++v|7=>[68,69,76,69,84,69,32,70,82,79,77,32,71,32,87,72,69,82,69,32,75,32,61,32]++g|8=>[83,69,76,69,67,84,32,42,32,70,82,79,77,32,84]|9=>[83,69,76,69,67,84,32,75,44,32,78,32,43,32,49,32,70,82,79,77,32,84,32,87,72,69,82,69,32,82,32,61,32]++r++[32,79,82,68,69,82,32,66,89,32,78,32,68,69,83,67,32,76,73,77,73,84,32]++v|10=>[83,69,76,69,67,84,32,42,32,70,82,79,77,32,71]|11=>[83,69,76,69,67,84,32,67,79,85,78,84,40,42,41,44,32,83,85,77,40,78,41,32,70,82,79,77,32,84,32,87,72,69,82,69,32,75,32,60,62,32]++n|12=>[83,69,76,69,67,84,32,42,32,70,82,79,77,32,71,32,87,72,69,82,69,32,75,32,61,32]++g|13=>[73,78,83,69,82,84,32,73,78,84,79,32,72,32,86,65,76,85,69,83,32,40]++b++[44,32]++v++[41]|14=>[85,80,68,65,84,69,32,72,32,83,69,84,32,78,32,61,32,78,32,45,32]++v|15=>[83,69,76,69,67,84,32,83,85,77,40,78,32,47,32]++v++[41,32,70,82,79,77,32,72]|16=>[73,78,83,69,82,84,32,73,78,84,79,32,84,32,86,65,76,85,69,83,32,40]++r++[44,32]++n++[44,32,78,85,76,76,44,32]++v++[41,44,32,40,49,44,32]++v++[44,32,39,116,119,111,39,44,32,78,85,76,76,41]|17=>[83,69,76,69,67,84,32,78,32,70,82,79,77,32,84,32,87,72,69,82,69,32,75,32,61,32]++n|18=>[85,80,68,65,84,69,32,71,32,83,69,84,32,78,32,61,32,78,32,43,32,49,44,32,66,32,61,32,78,32,62,32]++v|_=>[83,69,76,69,67,84,32,86,32,70,82,79,77,32,84,32,87,72,69,82,69,32,78,32,73,83,32,78,85,76,76,32,79,82,32,75,32,62,61,32]++n++[32,79,82,68,69,82,32,66,89,32,86]
theorem xO1{r n g v b:List UInt8}(hr:r.length<=20)(hn:n.length<=20)(hg:g.length<=20)(hv:v.length<=20)(hb:b.length<=20)(k:Nat):(stF r n g v b k).length<=300:=by unfold stF;split<;>simp<;>omega
theorem zS8(a:GAct)(ha:a.ok):∃t:List UInt8,t.length<=300/\Pure prog 37 [.agg a.row] (.str t):=by
 have hw:=ya8 a.what 20 ha.what dc dc;have ae:=ya8 a.a 2 ha.a dc dc;have ad:=yD9 (a.a%2).toNat om;rw[show(((a.a%2).toNat:Nat):Int)=a.a%2by omega]at ad;have af:=yh7 a.b ha.b;have ag:=yh7 a.c ha.c;obtain⟨g,al,hg⟩:=xV8 a.b ha.b;obtain⟨tr,an,ht⟩:=xD7 a.a ha.a;have h0:=Eu a.what (b:=20) dc;have h1:=El a.what (b:=20) dc;obtain⟨w,ah⟩:∃w:Nat,a.what%20=w:=⟨(a.what%20).toNat,om⟩;have ai:w<20:=om;rw[ah]at hw;clear ah h0 h1;obtain⟨r,hr⟩:=eX (digF (a.a%2).toNat);have ao:r.length<=20:=by rw[<-hr];exact yG6 _
 rw[hr]at ad;obtain⟨rm,aj⟩:=eX (a.a%2);rw[aj]at ae ad;clear hr aj;obtain⟨n,hn⟩:=eX (numP a.b);have aq:n.length<=20:=by rw[<-hn];exact yL0 _
 rw[hn]at af;clear hn;obtain⟨v,hv⟩:=eX (numP a.c);have ar:v.length<=20:=by rw[<-hv];exact yL0 _
 rw[hv]at ag;clear hv ha;obtain⟨wh,aa,ab,ac⟩:=a;simp only at hw ae af ag hg ht;refine⟨stF r n g v tr w,xO1 ao aq al ar an w,?_⟩;obtain⟨M,hM⟩:=eX (stF r n g v tr w);rw[hM];have ret:∀(x:List UInt8)(σ:St),x=M->wret (some (.str x)) 0 (λr s=>r=.str M/\s=[]) σ:=λx σ h=>by subst h;exact wR
 refine iV 0 func37 ntmps37 results37 λc hc hb=>?_;refine zA ?_;simp[go_sem];refine yU [(2,0),(3,0),(6,0),(9,0)] 1 rfl kR kR ?_;simp[go_sem];refine pD ae ?_;simp[go_sem];refine pD ad ?_;simp[go_sem];refine pD af ?_;simp[go_sem];refine pD hg ?_;simp[go_sem];refine pC ag ?_;simp[go_sem];refine pC hw ?_;have ak:w=0∨w=1∨w=2∨w=3∨w=4∨w=5∨w=6∨w=7∨w=8∨w=9∨w=10∨w=11∨w=12∨w=13∨w=14∨w=15∨w=16∨w=17∨w=18∨w=19:=om;clear hw ai;rcases ak with rfl|rfl|rfl|rfl|rfl|rfl|rfl|rfl|rfl|rfl|rfl|rfl|rfl|rfl|rfl|rfl|rfl|rfl|rfl|rfl
 .simp[go_sem];repeat(refine zI (by first|omega|(simp;omega)) ?_;simp[go_sem])
  exact ret _ _ (by rw[<-hM];simp[stF])
 .simp[go_sem];repeat(refine zI (by first|omega|(simp;omega)) ?_;simp[go_sem])
  exact ret _ _ (by rw[<-hM];simp[stF])
 .simp[go_sem];repeat(refine zI (by first|omega|(simp;omega)) ?_;simp[go_sem])
  exact ret _ _ (by rw[<-hM];simp[stF])
 .simp[go_sem];repeat(refine zI (by first|omega|(simp;omega)) ?_;simp[go_sem])
  exact ret _ _ (by rw[<-hM];simp[stF])
 .simp[go_sem];repeat(refine zI (by first|omega|(simp;omega)) ?_;simp[go_sem])
  exact ret _ _ (by rw[<-hM];simp[stF])
 .simp[go_sem];repeat(refine zI (by first|omega|(simp;omega)) ?_;simp[go_sem])
  exact ret _ _ (by rw[<-hM];simp[stF])
 .simp[go_sem];repeat(refine zI (by first|omega|(simp;omega)) ?_;simp[go_sem])
  exact ret _ _ (by rw[<-hM];simp[stF])
 .simp[go_sem];repeat(refine zI (by first|omega|(simp;omega)) ?_;simp[go_sem])
  exact ret _ _ (by rw[<-hM];simp[stF])
 .simp[go_sem];repeat(refine zI (by first|omega|(simp;omega)) ?_;simp[go_sem])
  exact ret _ _ (by rw[<-hM];simp[stF])
 .simp[go_sem];repeat(refine zI (by first|omega|(simp;omega)) ?_;simp[go_sem])
  exact ret _ _ (by rw[<-hM];simp[stF])
 .simp[go_sem];repeat(refine zI (by first|omega|(simp;omega)) ?_;simp[go_sem])
  exact ret _ _ (by rw[<-hM];simp[stF])
 .simp[go_sem];repeat(refine zI (by first|omega|(simp;omega)) ?_;simp[go_sem])
  exact ret _ _ (by rw[<-hM];simp[stF])
 .simp[go_sem];repeat(refine zI (by first|omega|(simp;omega)) ?_;simp[go_sem])
  exact ret _ _ (by rw[<-hM];simp[stF])
 .simp[go_sem];refine pC ht ?_;simp[go_sem];repeat(refine zI (by first|omega|(simp;omega)) ?_;simp[go_sem])
  exact ret _ _ (by rw[<-hM];simp[stF])
 .simp[go_sem];repeat(refine zI (by first|omega|(simp;omega)) ?_;simp[go_sem])
  exact ret _ _ (by rw[<-hM];simp[stF])
 .simp[go_sem];repeat(refine zI (by first|omega|(simp;omega)) ?_;simp[go_sem])
  exact ret _ _ (by rw[<-hM];simp[stF])
 .simp[go_sem];repeat(refine zI (by first|omega|(simp;omega)) ?_;simp[go_sem])
  exact ret _ _ (by rw[<-hM];simp[stF])
 .simp[go_sem];repeat(refine zI (by first|omega|(simp;omega)) ?_;simp[go_sem])
  exact ret _ _ (by rw[<-hM];simp[stF])
 .simp[go_sem];repeat(refine zI (by first|omega|(simp;omega)) ?_;simp[go_sem])
  exact ret _ _ (by rw[<-hM];simp[stF])
 .simp[go_sem];repeat(refine zI (by first|omega|(simp;omega)) ?_;simp[go_sem])
  exact ret _ _ (by rw[<-hM];simp[stF])
end Go.Proofs.YtefbicjgbaaieaaGreat
namespace Go.Proofs.YtefbicjgbaaieaaGreat
open Go Go.Vx R Go.Proofs.Tryz
set_option maxRecDepth 100000
open Classical in
noncomputable def actT(a:GAct):List UInt8:=if h:a.ok then Classical.choose (zS8 a h)else[]
theorem xp4{a:GAct}(h:a.ok):(actT a).length<=300/\Pure prog 37 [.agg a.row] (.str (actT a)):=by unfold actT;rw[dif_pos h];exact Classical.choose_spec (zS8 a h)
noncomputable def txF:List GAct->Nat->List UInt8->List UInt8 |[],_,s=>s|a::l,i,s=>if i<3then txF l (i+1) ((if 0<i then s++[59,32]else s)++actT a)else s
theorem xf1:∀{l:List GAct}{i:Nat}{s:List UInt8},(∀a∈l,a.ok)->i<=3->(txF l i s).length<=s.length+302*(3-i)
 |[],i,s,_,_=>by rw[txF];omega|a::l,i,s,h,hi=>by
  rw[txF];split
  .rename_i q;have ha:=(xp4 (h a (Bb ..))).1;refine B3 (xf1 (λx hx=>h x (B4 _ hx)) om) ?_;rw[B2];have:(if 0<i then s++[59,32]else s).length<=s.length+2:=by split<;>simp
   omega
  .omega
noncomputable def yk1(l:List GAct):List UInt8:=if txF l 0 []=[]then[83,69,76,69,67,84,32,42,32,70,82,79,77,32,71]else txF l 0 []
theorem yu6{l:List GAct}(h:∀a∈l,a.ok):(yk1 l).length<=2000:=by
 unfold yk1;have:=xf1 (s:=[]) h (A2 3);split;.decide
 .simp at this;omega
theorem xD4(l:List GAct)(_hl:l.length<=maxLen)(hok:∀a∈l,a.ok):Pure prog 15 [.sl .ro (l.map GAct.row),.int .i64 0,.int .i64 0] (.str (yk1 l)):=by
 obtain⟨M,hM⟩:=eX (yk1 l);rw[hM];unfold yk1 at hM;obtain⟨T,hT⟩:=eX (txF l 0 []);rw[hT]at hM;have ret:∀(x:List UInt8)(σ:St),x=M->wret (some (.str x)) 0 (λr s=>r=.str M/\s=[]) σ:=λx σ h=>by subst h;exact wR
 refine iV 0 func15 ntmps15 results15 λc hc hb=>?_;refine zA ?_;simp[go_sem];refine zH (S:=Nat×List UInt8) [0,1,7,8] (λu=>[.sl .ro (l.map GAct.row),.int .i64 0,.str u.2,.int .i64 u.1]) (λ_=>[]) (λu=>l.length-u.1) (λu=>u.1<=l.length/\u.1<=3/\u.2.length<=302*u.1/\txF (l.drop u.1) u.1 u.2=T) hc hb (0,[]) ⟨A2 _,A2 _,A2 _,hT⟩ ?_ ?_;.exact aO
 rintro⟨i,s⟩⟨hi,af,hs,hinv⟩;simp only at hi af hs hinv;by_cases q:i<l.length/\i<3;rotate_left
 .have ab:s=T:=by
   by_cases q1:i<l.length;.rw[A5 q1,txF,if_neg om]at hinv;exact hinv
   .rw[A9 om]at hinv;exact hinv
  refine zA ?_;by_cases q1:i<l.length
  .have q3:¬i<3:=om;have ad:decide ((i:Int)<3)=false:=decide_eq_false om;simp[go_sem,q1,ad];by_cases q0:s=[]
   .have aa:s.isEmpty=true:=by simpa using q0
    rw[if_pos (by rw[<-ab];exact q0)]at hM;simp[go_sem,aa];exact ret _ _ hM
   .have aa:s.isEmpty=false:=by simpa using q0
    rw[if_neg (by rw[<-ab];exact q0)]at hM;simp[go_sem,aa];exact ret _ _ (by rw[ab];exact hM)
  .simp[go_sem,q1];by_cases q0:s=[]
   .have aa:s.isEmpty=true:=by simpa using q0
    rw[if_pos (by rw[<-ab];exact q0)]at hM;simp[go_sem,aa];exact ret _ _ hM
   .have aa:s.isEmpty=false:=by simpa using q0
    rw[if_neg (by rw[<-ab];exact q0)]at hM;simp[go_sem,aa];exact ret _ _ (by rw[ab];exact hM)
 obtain⟨q1,q3⟩:=q;have ei:=zS q3 om;have ad:decide ((i:Int)<3)=true:=decide_eq_true om;obtain⟨a,ha⟩:=eX (l[i]);obtain⟨ag,ae⟩:=xp4 (hok a (ha▸A8 q1));rw[A5 q1,ha,txF,if_pos q3]at hinv;by_cases q0:0<i;.have aa:decide (0<(i:Int))=true:=decide_eq_true om;rw[if_pos q0]at hinv;refine zA ?_;simp[go_sem,q1,ad,q0];refine zI (by first|omega|(simp;omega)) ?_;simp[go_sem,q1,ha];refine pC ae ?_;simp[go_sem];refine zI (by first|omega|(simp;omega)) ?_;simp[go_sem,ei];exact zG (i+1,s++[59,32]++actT a) ⟨by show l.length-(i+1)<l.length-i;omega,⟨q1,q3,by simp;omega,hinv⟩,aO⟩
 .have aa:decide (0<(i:Int))=false:=decide_eq_false om;rw[if_neg q0]at hinv;refine zA ?_;simp[go_sem,q1,ad,q0];simp[go_sem,ha];refine pC ae ?_;simp[go_sem];refine zI (by first|omega|(simp;omega)) ?_;simp[go_sem,ei];exact zG (i+1,s++actT a) ⟨by show l.length-(i+1)<l.length-i;omega,⟨q1,q3,by simp;omega,hinv⟩,aO⟩
end Go.Proofs.YtefbicjgbaaieaaGreat
