/-
  The program's copies (package twin): each copies a list, thing by thing, by a function that copies a thing; used by the walks of txn.
  Conditions: as each theorem states them. Written by program (gen_txb.py).
-/
import Derived.Test.YtegbonbgofjlcaaGreatMAQ
import Derived.Test.YtegbonbgofjlcaaGreatMAO
import Derived.Test.YtegbonbgofjlcaaGreatMAH
import Derived.Test.YtegbonbgofjlcaaGreatMAN
import Derived.Test.YtegbonbgofjlcaaGreatMAE
set_option maxHeartbeats 8000000
namespace Go.Proofs.YtegbonbgofjlcaaGreat
open Go Go.Vx R Go.Proofs.Tryz
set_option maxRecDepth 100000
variable{b:Mp alW}{l:List Ln}{a:Mp alW}{sn:Mp Int}{st:bZ}{I:St}{T:bL}{tn:Nat}{df:eF}{P:Program}{c:Ctx}{x:Ln}{k:Nat}{n:Nat}{n0:Kp}{f:FuncId}{cd:List V}{ct:List V}{KV:V->St->Prop}{m:List Ln}{p:Pl}{r:Int}{C:List Wr}
@[go_sem]theorem Ea{nt:Nat}{d:Option Tmp}{K:KT}{e:Env}{x k:Operand}{t1 t2:TypeId}:ff P c nt n0 4 d (.call ⟨.builtin .delete,#[x,k],#[t1,t2]⟩) K fx fx e I=fe P c nt d (.call ⟨.builtin .delete,#[x,k],#[t1,t2]⟩) K fx fx e I:=Ol sM sM sM
theorem wd6(k:Nat){args:List V}{fM:St}{R:V->St->Prop}(hc:bN P f ct fM R)(hb:xI P f)(hk:I.take k=fM)(hl:fM.length=k)(cZ:fM.all (bS k))(aa:bP (cW (cO (List.range k) I.length)) ct (args++cd))(hR:∀r s,R r s->∃s0 ex,s=s0++ex/\s0.length=k/\s0.all (bS k)=true/\ex.all (bS 0))(hK:∀r s0 ex,R r (s0++ex)->s0.length=k->KV (dL (cO (List.range k) I.length) r) (s0++I.drop k++ex)):jn P c (.fn f cd) args I KV fx:=by
 have ab:k<=I.length:=by grind
 refine VC.of hc hb (List.range k) Be (by grind) (λi j o h1 h2=>?_) aa λr s h _=>?_
 .obtain⟨h3,h4⟩:=A3.1 h1;simp at h3 h4;subst h4;have ho:bS k o:=by grind
  rw[yV (n:=k) (by grind[rL]) ho];grind
 .obtain⟨s0,ex,rfl,h1,h2,h3⟩:=hR r s h;have e:yY (List.range k) I (s0++ex)=s0++I.drop k++ex:=by
   have e0:=S3 ab h1 h2;have ed:(s0++ex).drop (List.range k).length=ex:=by grind
   have et:(s0++ex).take (List.range k).length=s0.take (List.range k).length:=by grind
   have e2:(s0.drop (List.range k).length).map (yC (cO (List.range k) I.length))=[]:=by grind
   have e3:ex.map (yC (cO (List.range k) I.length))=ex:=wF (λo h=>yV (n:=0) om h) h3;unfold yY at e0⊢;grind
  grind
theorem wC3(i:Nat){o o2:Ob}{args:List V}{v:V}(hc:bN P f ct [o] (λr s=>r=v/\s=[o2]))(hb:xI P f)(ho:I[i]?=some o)(cZ:bS 0 o)(ab:bS 0 o2)(aa:bP (cW (cO [i] I.length)) ct (args++cd))(hK:KV (dL (cO [i] I.length) v) (I.set i o2)):qS P c n0 4 (.fn f cd) args I KV fx:=by
 refine SY hc hb [i] sM rfl (λa j x h1 h2=>?_) aa ?_
 .have e:a=0:=by grind
  subst e;have e1:x=o:=by grind
  have e2:j=i:=by grind
  subst e1;subst e2;rw[yV (n:=0) om cZ];exact ho
 .have e:yY [i] I [o2]=I.set i o2:=by simp only[yY,Bh,Bx,D2,C7,B1,Ag,Bq,fW,Aw];rw[yV (n:=0) om ab]
  grind
theorem wo6:∀n,4<=n->(dF a b sn++([.cv (m.map Ln.row) 3]:St)).all (bS n)=true:=λn h=>by rw[E9,wK n om a b sn];simp[bS,cV,cR,Ln.row]
structure sH(st:bZ):Prop where
 ok:lq st
 vok:MK st
 jV:0<=xO st.table
 items:st.kind=1->st.items≠[]cJ:st.kind=3->∀x∈st.cJ,0<=dg (bO.getD (xO st.table).toNat fj) x.name
theorem Q4{tn:Nat}{T:bL}(hT:bO[tn]?=some T){st:bZ}(ab:lq st):∀{m:List Ln}{b:Mp alW}{l:List Ln},dd b l->(∀x∈m,j5 l x.at=true/\gm x/\(ga x.r).1=(tn:Int))->(ig T st.cJ m l).2=0->dd (ny T st.cJ m b) (ig T st.cJ m l).1
 |[],_,_,hn,_,_=>hn|x::m,b,l,hn,hm,h0=>by
  obtain⟨ad,aa,ae⟩:=hm x sM;rw[ig]at h0⊢;rw[ny];obtain⟨E,hE⟩:=eX (gQ T x.v st.cJ x.v);rw[hE]at h0⊢;by_cases q:E.2=0;rotate_left;.grind
  rw[alp om]at h0;rw[alp om,alp (show¬E.2≠0fromλh=>h q)];by_cases q2:fC T.cw E.1=0;rotate_left;.grind
  rw[alp om]at h0;rw[alp om,alp om];have af:∀v∈E.1,v.ok:=by have h1:=M1 (T:=T) aa.ok (cJ:=st.cJ) (row:=x.v) (λy hy=>(ab.cJ.2 y hy).2) aa.ok;grind
  refine Q4 hT ab (hn.JW x.at E.1 ad ⟨⟨tn,T,ae,hT,q2⟩,aa.err,af⟩) (λy hy=>?_) h0;grind[Xc]
def z6(n:Nat)(e:Int):V:=.cC [.agg (Ot.row (if e≠0then⟨0,[]⟩else⟨n,[]⟩)),.int .i64 e]
theorem Nf(h3:tn<3)(h:qm tn st x):(ga x.r).1=(tn:Int):=by unfold qm at h;rw[Aa,List.any_eq_true]at h;grind[Xm]
theorem wp3(hT:bO[tn]?=some T)(hx:gm x)(aa:(ga x.r).1=(tn:Int)):x.v.length=T.cw.length:=by obtain⟨ab,T',h1,h2,h3⟩:=hx.jV;grind[zp]
theorem XJ{T:bL}{st:bZ}:∀{l acc:List Ln},(vo T st acc l).1.length<=acc.length+l.length
 |[],_=>A7 _|x::l,acc=>by
  rw[vo];split;.simp
  .refine Ax XJ ?_;split<;>simp<;>omega
theorem XK{t:Int}:(gE t T st l).1.length<=l.length:=by grind[gE,XJ]
theorem wj7{N:Nat}(h4:I.take 4=dF a b sn)(cP:I[k]?=some (.cv (m.map Ln.row) 3))(i j:Nat)(o:Ob)(ab:[0,1,2,3,k][i]?=some j)(ho:(dF a b sn++([.cv (m.map Ln.row) 3]:St))[i]?=some o):I[j]?=some (yC (cO [0,1,2,3,k] N) o):=by
 by_cases q:i<4
 .have e:j=i:=by match i,q with |0,_=>grind|1,_=>grind|2,_=>grind|3,_=>grind
  subst e;have h1:(dF a b sn)[j]?=some o:=by rw[Ap (by exact q)]at ho;exact ho
  have aa:bS 4 o:=Am.1 (by grind[wK]) o (Bp h1);rw[yV (n:=4) (λx hx=>?_) aa];.grind
  .rw[jW (by grind)];match x,hx with|0,_=>rfl|1,_=>rfl|2,_=>rfl|3,_=>rfl
 .have e:i=4:=by grind
  subst e;have e1:o=.cv (m.map Ln.row) 3:=by grind
  have e2:j=k:=by grind
  subst e1;subst e2;rw[yV (n:=0) om (by grind[bS,cV,cR,Ln.row])];omega
theorem xF9{o0 o1 o2 o3 o4 o5 o6:Ob}:yY [0,1,2,3,6] [o0,o1,o2,o3,o4,o5,o6] (dF a b sn++([.cv (m.map Ln.row) 3]:St))=[a.ob .str,b.ob .str,sn.ob (V.int .i64),gq,o4,o5,.cv (m.map Ln.row) 3]:=by have e:(dF a b sn++([.cv (m.map Ln.row) 3]:St)).map (yC (cO [0,1,2,3,6] 7))=dF a b sn++([.cv (m.map Ln.row) 3]:St):=wF (λo h=>yV (n:=4) dC h) (by grind[wo6]);unfold yY;rw[Ad (by simp[dF]),Bt (by simp[dF])];show fW _ _ (List.map (yC (cO [0,1,2,3,6] 7)) _)++_=_;rw[e];rfl
def Q5(a:Mp alW)(sn:Mp Int)(D:Ot×List Ln×Int)(r:V)(s:St):Prop:=∃b',s=dF a b' sn/\r=.cC [.agg D.1.row,.int .i64 D.2.2]/\(D.2.2=0->dd b' D.2.1)
theorem xO9{w:Nat×alW}(h:b.at p=some w):Ob.mp ((gP V.str b.W).take (2*w.1)++(gP V.str b.W).drop (2*w.1+2)) (b.bs.eraseIdx w.1) b.dm=(b.del p).ob V.str:=by show Ob.mp (BI (gP V.str b.W) w.1) _ _=_;unfold Mp.del Mp.ob;rw[h];have:=(A3.1 (zq (W:=b.W) (i:=w.1) (v:=w.2) h)).1;grind[WM]
theorem xP0(h:b.at p=none):b.del p=b:=by grind[Mp.del]
theorem F8{D:Ot×List Ln×Int}{Il:St}{g:Tag}(o:Ot)(e:Int)(h1:D.1=o)(h2:D.2.2=e)(h3:e=0->dd b D.2.1):cz (some (.cC [.agg [.sl g (o.rows.map λr=>[.sl .ro (r.map bK.row)]),.int .i64 o.count],.int .i64 e])) 4 (Q5 a sn D) (a.ob .str::b.ob .str::sn.ob (V.int .i64)::.box [.sl .ro xN,.sl .ro (bO.map bL.row),.mp 0,.mp 1,.mp 2]::Il):=yW 4 (s:=dF a b sn) (r:=.cC [.agg (Ot.row o),.int .i64 e]) rfl rfl (by grind[wK]) om (yO ⟨wH ⟨zY,zF rfl,tV⟩,xD rfl,tV⟩) ⟨b,rfl,by grind,(by grind)⟩
theorem xI4(st:bZ)(ad:sH st)(a b:Mp alW)(sn:Mp Int)(l:List Ln)(ab:dd b l)(hl:l.length<=10000):bN prog 105 [.ptr 3 0,.agg st.row] (dF a b sn) (Q5 a sn (lP st l)):=by
 obtain⟨tn,a1⟩:∃tn:Nat,xO st.table=tn:=⟨(xO st.table).toNat,by have:=ad.jV;omega⟩;have aE:tn<3:=by have h:=uX (λT:bL=>T.name==st.table) bO 0;have h2:bO.length=3:=rfl;grind[xO]
 obtain⟨T,hT⟩:∃T,bO[tn]?=some T:=⟨_,A0 (show tn<bO.length from aE)⟩;obtain⟨a6,a7⟩:=A3.1 hT;have aF:bO.getD (xO st.table).toNat fj=T:=by grind
 have ae:=ad.cJ;rw[aF]at ae;have af:=Qh bO st.table dC;have aG:xW (λt:bL=>t.name==st.table) bO 0=tn:=a1;rw[aG]at af;have ah:=xa1 tn T hT st ad.ok a b sn l ab;have ai:=wF3 tn T hT st ad.ok ad.vok a b sn l ab hl;obtain⟨D,hD⟩:=eX (lP st l);rw[hD];have aa:=hD;unfold lP at aa;simp only[a1,Ay]at aa;rw[show bO.getD tn fj=T by grind]at aa;refine iV 4 func105 ntmps105 results105 λc hc hb=>?_;refine zN (zA ?_);simp[go_sem,dF,gq];refine zN (zA ?_);simp[go_sem];refine yA [(6,0)] 6 rfl (by rfl) kR ?_;simp[go_sem];refine pD af ?_;simp[go_sem];have aj:=λb':Mp alW=>wK 4 dC a b' sn;by_cases k2:st.kind=2
 .rw[alq k2]at aa;have aq:(st.kind==2)=true:=by grind
  obtain⟨uU,hI⟩:=eX (gX tn T st.rows l);rw[hI]at aa ah;refine zA ?_;simp[go_sem,aq];refine vV 4 ah cB rfl rfl (aj b) (tf (n:=4) rfl) (λr s h=>?_) (λr s h=>?_);.obtain⟨b',rfl,h⟩:=h;refine⟨rfl,aj b',?_⟩;rcases h with⟨_,rfl⟩|⟨_,rfl,_⟩;all_goals rfl
  .obtain⟨b',rfl,h⟩:=h;rcases h with⟨h0,rfl⟩|⟨h0,rfl,hn⟩;.rw[alq h0]at aa;simp[go_sem,dF,gq,Ot.row];exact F8 ⟨0,[]⟩ uU.2 (by grind) (by grind) om
   .rw[alp om]at aa;simp[go_sem,dF,gq,Ot.row];exact F8 ⟨st.rows.length,[]⟩ 0 (by grind) (by grind) (by grind)
 have aq:(st.kind==2)=false:=by grind
 rw[alp k2]at aa;clear ah;obtain⟨⟨m,me⟩,hM⟩:∃M,gE tn T st l=M:=⟨_,rfl⟩;rw[hM]at aa ai;simp only at aa;refine zN (zA ?_);simp[go_sem,aq];refine zN (zA ?_);simp[go_sem];refine wd6 4 ai cB rfl rfl (aj b) (tf (n:=4) rfl) (λr s h=>?_) (λr s0 ex h h4=>?_)
 .rcases h with⟨_,rfl,_⟩|⟨_,rfl,_⟩;.exact⟨_,[],(by rfl),rfl,aj b,rfl⟩
  .exact⟨_,_,rfl,rfl,aj b,by simp[bS,cV,cR,Ln.row]⟩
 rcases h with⟨m0,hs,rfl⟩|⟨m0,hs,rfl⟩
 .have ar:=List.append_inj (hs.trans (Aw _).symm) (by simpa);obtain⟨rfl,rfl⟩:=ar;have m0:me≠0:=m0;have aH:(me !=0)=true:=by grind
  rw[alq m0]at aa;simp[go_sem,dF,gq];refine zN (zA ?_);simp[go_sem,aH];exact F8 ⟨0,[]⟩ me (by grind) (by grind) om
 .have ar:=List.append_inj hs (by simpa);obtain⟨rfl,rfl⟩:=ar;have m0:me=0:=m0;rw[alp om]at aa;subst m0;have er:cO [0,1,2,3] 6 4=6:=rfl;have a8:m.length<=10000:=by grind[XK]
  have al:∀x∈m,x∈l/\(qm tn st x):=(by grind[M4]);simp[go_sem,dF,gq,er];refine zN (zA ?_);simp[go_sem];refine zN (zN (zA ?_));simp[go_sem];refine yt (zN (zA ?_));simp[go_sem];by_cases k1:st.kind=1
  .have au:(st.kind==1)=true:=by grind
   rw[alq k1]at aa;have av:=yF3 tn T hT st ad.ok (ad.items k1) m a8 (λx hx=>⟨ab.rows x (al x hx).1,wp3 hT (ab.rows x (al x hx).1) (by grind[Nf])⟩);obtain⟨M,aI⟩:=eX (ml T st m);rw[aI]at av aa;obtain⟨C,hC⟩:=eX (Ke T st m);rw[hC]at av;refine zA ?_;simp[go_sem,au];refine xV [(10,4)] 6 sM (by rfl) kR ?_;simp[go_sem,a6,a7];refine wC3 6 av cB rfl (by grind[bS,cV,cR,Ln.row]) (by grind[bS,cV,cR,Ln.row]) ⟨zC rfl,zC rfl,.inl rfl,tV⟩ ?_;simp[go_sem,qv,Ot.row];exact F8 M.1 M.2 (by grind) (by grind) (by grind)
  have au:(st.kind==1)=false:=by grind
  rw[alp k1]at aa;refine zA ?_;simp[go_sem,au];by_cases k3:st.kind=3
  .have aw:(st.kind==3)=true:=by grind
   rw[alq k3]at aa;have aA:∀x∈m,j5 l x.at=true/\gm x/\(ga x.r).1=(tn:Int):=λx hx=>⟨gF.2 (by grind),ab.rows x (al x hx).1,(by grind[Nf])⟩;have ax:=wd0 tn T hT st ad.ok (ae k3) a b sn l m ab aA a8;have aJ:=Q4 hT ad.ok ab aA;obtain⟨uJ,hU⟩:=eX (ig T st.cJ m l);obtain⟨B,hB⟩:=eX (ny T st.cJ m b);rw[hU,hB]at ax aJ;rw[hU]at aa;have aB:=ax.mono (R':=λr s=>r=z6 m.length uJ.2/\s=dF a B sn++[.cv (m.map Ln.row) 3]) (λr s h=>by obtain⟨h1,h2⟩:=h;refine⟨?_,h1⟩;unfold z6;grind);clear ax;simp[go_sem,aw];refine xV [(11,4)] 5 sM (by rfl) kR ?_;simp[go_sem,a6,a7];refine SY aB cB [0,1,2,3,6] dC rfl (wj7 rfl rfl) ⟨.inl rfl,zC rfl,zC rfl,.inl rfl,tV⟩ ?_;rw[xF9];by_cases u0:uJ.2=0;.rw[alp om]at aa;simp[go_sem,z6,Ot.row,u0];exact F8 ⟨m.length,[]⟩ 0 (by grind) (by grind) (by grind)
   .rw[alq u0]at aa;simp[go_sem,z6,Ot.row,u0];exact F8 ⟨0,[]⟩ uJ.2 (by grind) (by grind) om
  .have aw:(st.kind==3)=false:=by grind
   rw[alp k3]at aa;have ay:∀(b':Mp alW),([a.ob .str,b'.ob .str,sn.ob (V.int .i64),.box [.sl .ro xN,.sl .ro (bO.map bL.row),.mp 0,.mp 1,.mp 2],.box st.row,.box eH,.cv (m.map Ln.row) 3]:St).all (bS 7)=true:=λb'=>by have h:=wK 7 om a b' sn;simp_all[dF,bS,cV,cR,bZ.row,Ln.row,eH]
   have hG:∀(b':Mp alW)(l':List Ln)(Il:St),dd b' l'->ko m l=l'->cz (some (.cC [.agg [.sl .full [],.int .i64 m.length],.int .i64 0])) 4 (Q5 a sn D) (a.ob .str::b'.ob .str::sn.ob (V.int .i64)::.box [.sl .ro xN,.sl .ro (bO.map bL.row),.mp 0,.mp 1,.mp 2]::Il):=λb' l' Il h1 h2=>F8 ⟨m.length,[]⟩ 0 (by grind) (by grind) (by grind);generalize hQ:ko m l=Q at hG;clear aa al ai hs;simp[go_sem,aw];refine zN (zA ?_);simp[go_sem];refine zG (S:=Nat×Mp alW×List Ln) [0,4,7,71,72,73] (λu=>[.ptr 3 0,.ptr 5 0,.cS 6 3 m.length 0 m.length,.cS 6 3 m.length 0 m.length,.int .i64 m.length,.int .i64 u.1]) (λu=>[a.ob .str,u.2.1.ob .str,sn.ob (V.int .i64),.box [.sl .ro xN,.sl .ro (bO.map bL.row),.mp 0,.mp 1,.mp 2],.box st.row,.box eH,.cv (m.map Ln.row) 3]) (λu=>m.length-u.1) (λu=>u.1<=m.length/\dd u.2.1 u.2.2/\ko (m.drop u.1) u.2.2=Q) hc hb (0,b,l) (by grind) ?_ ?_;.exact bU 7 (by rfl) rfl (ay b) dC (zD (by rfl) rfl)
   rintro⟨i,b1,l1⟩⟨hi,az,an⟩;simp only at hi az an;by_cases q:i<m.length;rotate_left;.rw[A8 om,ko]at an;refine zA ?_;simp[go_sem,q,eH];refine zA ?_;simp[go_sem];exact hG b1 l1 _ az an.symm
   have ei:=zO q om;obtain⟨x,hx⟩:=eX (m[i]);rw[A4 q,hx,ko]at an;have eB:b1.ob .str=.mp (gP .str b1.W) b1.bs b1.dm:=rfl;have aC:=az.del x.at;refine zA ?_;simp[go_sem,q,hx];refine yA [] 8 rfl (by rfl) kR ?_;simp[go_sem];cases ao:b1.at x.at with |none=>have ak:ep (x.r,x.k) b1.W=none:=ao;rw[xP0 ao]at aC;simp[go_sem,eB,qh,ak,lZ,mC,ei];exact zH (i+1,b1,l1.filter λy=>!decide (y.at=x.at)) ⟨om,(by grind),bU 7 (by rfl) rfl (ay _) dC (zD (by rfl) rfl)⟩|some w=>have ak:ep (x.r,x.k) b1.W=some w:=ao;have aD:=xO9 ao;simp[go_sem,eB,qh,ak,lZ,mC,aD,ei];exact zH (i+1,b1.del x.at,l1.filter λy=>!decide (y.at=x.at)) ⟨om,(by grind),bU 7 (by rfl) rfl (ay _) dC (zD (by rfl) rfl)⟩
def qx(p:Pl):List V:=[.int .i64 p.1,.str p.2]
def z7(w:Wr):List V:=[.str w.p.2,.bool w.drop,.str w.data]
def nz(q:Int×List Wr):List V:=[.int .i64 q.1,.sl .ro (q.2.map z7)]
def mu(q:Int×List Wr×Nat):List V:=[.int .i64 q.1,.sl (.app (q.2.2+8)) (q.2.1.map z7)]
def xg(N:List (Int×List Wr×Nat)):List (Int×List Wr):=N.map λq=>(q.1,q.2.1)
theorem wh6(N:List (Int×List Wr×Nat)):wU (N.map mu) 0 N.length=(xg N).map nz:=by unfold wU xg;rw[B1,Ad sM,B8,B8];rfl
theorem wA2(N:List (Int×List Wr×Nat)):xB (N.map mu)=true:=by grind[xB,mu,o7]
def XL(N:List (Int×List Wr×Nat))(τ:St)(i:Nat):Prop:=∀O r C k,N=O++[(r,C,k)]->τ[k]?=some (.app C.length 3)/\C.length<=i
theorem Ng{U:Type}{g:U->V}{id:Nat}{rows:List (List V)}(hg:∀v,fX id rows (g v)=g v):∀W:List (Pl×U),(gP g W).map (fX id rows)=gP g W
 |[]=>rfl|e::W=>by rw[gP,Ag,Ag,Ng hg W,hg];rfl
theorem wi9{id:Nat}{rows:List (List V)}:(dF a b sn).map (mP id rows)=dF a b sn:=by unfold dF;simp only[Ag,Bq,Mp.ob,mP];rw[Ng (λ_=>rfl),Ng (λ_=>rfl),Ng (λ_=>rfl)];rfl
theorem sI{n0:Nat}{keep:alX}{vs:List V}{s:St}{e:Env}(hs:I=s)(hn:n0<=I.length)(h:keep.map e=vs):At n0 keep vs s e I:=by subst hs;exact yI hn h
theorem xS4{O:List (Int×List Wr×Nat)}{w:Wr}(h:w.p.1=r):iF (xg (O++[(r,C,k)])) w=xg (O++[(r,C++[w],k)]):=by grind[iF,xg]
theorem wj6{O:List (Int×List Wr×Nat)}{r0:Int}{k':Nat}{w:Wr}(h:w.p.1=r)(hr:¬r0=r):iF (xg (O++[(r0,C,k)])) w=xg ((O++[(r0,C,k)])++[(r,[w],k')]):=by unfold iF xg;grind
theorem Q6{N:List (Int×List Wr×Nat)}{i:Nat}{τ:St}(h:τ[k]?=some (.app C.length 3))(hl:C.length<=i):XL (N++[(r,C,k)]) τ i:=λO r' C' k' e=>by simp_all
theorem xE0(a:Mp alW)(D:List (Pl×alW))(e:Pl×alW):jh a (D++[e])=if Kc a e=true then jh a D++[e.1]else jh a D:=by unfold jh;grind
theorem xE1(b:Mp alW)(D:List (Pl×alW))(e:Pl×alW):iU b (D++[e])=if HS b e=true then iU b D++[e.1]else iU b D:=by unfold iU;grind
theorem wk4(a:Mp alW)(D:List (Pl×alW)):(jh a D).length<=D.length:=by grind[jh]
theorem wk5(a:Mp alW)(D:List (Pl×alW)):(iU a D).length<=D.length:=by grind[iU]
theorem iE.le{U:Type}{seen:alX}{W:List (Pl×U)}{bs:alX}{D:List (Pl×U)}(h:iE seen W bs D):D.length<=W.length:=by have:=h.length_eq;grind
theorem wA6(a b:Mp alW)(sn:Mp Int)(ar now:List Ln)(ha:dd a ar)(hn:dd b now)(aQ:ar.length<=10000)(aR:now.length<=10000):bN prog 106 [.ptr 3 0] (dF a b sn) (λr s=>r=.sl .ro ((nv (jz ar now)).map nz)/\s=dF a b sn):=by
 have eA:a.ob .str=.mp (gP .str a.W) a.bs a.dm:=rfl;have eB:b.ob .str=.mp (gP .str b.W) b.bs b.dm:=rfl;have aS:a.W.length<=10000:=by have:=ha.perm.length_eq;grind
 have aT:b.W.length<=10000:=by have:=hn.perm.length_eq;grind
 have aG:∀x∈b.bs,x<b.dm:=hn.ok.lt;have has:∀x∈a.bs,x<a.dm:=ha.ok.lt;have ak:∀(L:List Pl)(se:alX),([a.ob .str,b.ob .str,sn.ob (V.int .i64),.box [.sl .ro xN,.sl .ro (bO.map bL.row),.mp 0,.mp 1,.mp 2],.cv (L.map qx) 2,.it (some 1) b.dm se b.dm]:St).all (bS 6)=true:=λL se=>by have h:=wK 6 om a b sn;simp_all[dF,bS,cV,cR,qx]
 refine iV 4 func106 ntmps106 results106 λc hc hb=>?_;refine zN (zA ?_);simp[go_sem,dF,gq];refine zN (zA ?_);simp[go_sem];refine Fh 3 2 dC (by rfl) ?_;refine zN (zA ?_);simp[go_sem,eB];refine zG (S:=alX×List (Pl×alW)) [0,3,21] (λu=>[.ptr 3 0,.cS 4 2 (jh a u.2).length 0 (jh a u.2).length,.ptr 5 0]) (λu=>[a.ob .str,b.ob .str,sn.ob (V.int .i64),.box [.sl .ro xN,.sl .ro (bO.map bL.row),.mp 0,.mp 1,.mp 2],.cv ((jh a u.2).map qx) 2,.it (some 1) b.dm u.1 b.dm]) (λu=>(kD u.1 b.W b.bs).length) (λu=>iE u.1 b.W b.bs u.2) hc hb ([],[]) (iE.start hn.ok.len) ?_ ?_;have k0:jh a []=[]:=rfl;.exact bU 6 (by rfl) rfl (ak _ _) dC (zD (by rfl) rfl)
 .rintro⟨se,D⟩hD;simp only at hD;refine tg 22 dC ?_;refine zA ?_;simp[go_sem,eB];have a6:=hD.le;have a7:=wk4 a D;refine QR (b:=b) (i:=5) (id:=1) (seen:=se) (dm:=b.dm) (by simp[nZ]) rfl rfl aG (λhL=>?_) (λp hp=>?_)
  .have af:=hD.done hL;obtain⟨K1,a8⟩:=eX (jh a D);have ay:K1.Perm (jh a b.W):=by rw[<-a8];exact(af.filter _).map _
   have aB:K1.length<=10000:=by grind
   rw[a8];clear a8 af hL a7 a6 hD;have au:∀(L:List Pl)(aC:alX),([a.ob .str,b.ob .str,sn.ob (V.int .i64),.box [.sl .ro xN,.sl .ro (bO.map bL.row),.mp 0,.mp 1,.mp 2],.cv (L.map qx) 2,.it (some 1) b.dm se b.dm,.it (some 0) a.dm aC a.dm]:St).all (bS 7)=true:=λL aC=>by have h:=wK 7 om a b sn;simp_all[dF,bS,cV,cR,qx]
   simp[go_sem];refine zN (zA ?_);simp[go_sem,eA];have k0:iU b []=[]:=rfl;refine zG (S:=alX×List (Pl×alW)) [0,3,51] (λu=>[.ptr 3 0,.cS 4 2 (K1++iU b u.2).length 0 (K1++iU b u.2).length,.ptr 6 0]) (λu=>[a.ob .str,b.ob .str,sn.ob (V.int .i64),.box [.sl .ro xN,.sl .ro (bO.map bL.row),.mp 0,.mp 1,.mp 2],.cv ((K1++iU b u.2).map qx) 2,.it (some 1) b.dm se b.dm,.it (some 0) a.dm u.1 a.dm]) (λu=>(kD u.1 a.W a.bs).length) (λu=>iE u.1 a.W a.bs u.2) hc hb ([],[]) (iE.start ha.ok.len) ?_ ?_;.exact bU 7 (by grind) rfl (au _ _) dC (zD (by simp[go_sem,k0]) rfl)
   rintro⟨aj,D⟩hD;simp only at hD;refine tg 52 dC ?_;refine zA ?_;simp[go_sem,eA];have a6:=hD.le;have a7:=wk5 b D;refine QR (b:=a) (i:=6) (id:=0) (seen:=aj) (dm:=a.dm) (by simp[nZ]) rfl rfl has (λhL=>?_) (λp hp=>?_)
   .have af:=hD.done hL;obtain⟨K2,av⟩:=eX (K1++iU b D);have az:K2.Perm (jh a b.W++iU b a.W):=by rw[<-av];exact ay.append ((af.filter _).map _)
    have aD:K2.length<=20000:=by grind
    have al:(K1++iU b D).map qx=K2.map qx:=by rw[av]
    have an:(K1++iU b D).length=K2.length:=by rw[av]
    rw[C2]at al;rw[Al]at an;clear av af hL a7 a6 hD aB ay k0 ak au;simp[go_sem,al,an];refine zN (zA ?_);simp[go_sem];refine TZ Tryz.F3 rfl cB dC Tryz.qp Tryz.sE cB Xd Xe (f:=qx) (kx:=λp=>p) (λx=>⟨_,rfl,rfl⟩) K2 rfl om (λL aw aE=>?_);have a1:=xO3 ha hn (aw.symm.trans az) aE;have aU:L.length<=20000:=by rw[<-aw.length_eq];omega
    rw[aw.length_eq];clear aw aE az aD an al;simp[go_sem];refine zN (zA ?_);simp[go_sem];refine Fh 11 2 dC (by rfl) ?_;refine zN (zA ?_);simp[go_sem];obtain⟨G,hG⟩:=eX (nv (jz ar now));rw[hG];have aH:(L.map (rh b)).foldl iF (xg [])=G:=by rw[a1];exact hG
    clear a1 hG;refine zG (S:=Nat×List (Int×List Wr×Nat)×St) [0,11,73,74,75] (λu=>[.ptr 3 0,.cS 7 2 u.2.1.length 0 u.2.1.length,.cS 4 2 L.length 0 L.length,.int .i64 L.length,.int .i64 u.1]) (λu=>[a.ob .str,b.ob .str,sn.ob (V.int .i64),.box [.sl .ro xN,.sl .ro (bO.map bL.row),.mp 0,.mp 1,.mp 2],.cv (L.map qx) 2,.it (some 1) b.dm se b.dm,.it (some 0) a.dm aj a.dm,.cv (u.2.1.map mu) 2]++u.2.2) (λu=>L.length-u.1) (λu=>u.1<=L.length/\u.2.1.length<=u.1/\XL u.2.1 u.2.2 u.1/\((L.map (rh b)).drop u.1).foldl iF (xg u.2.1)=G) hc hb (0,[],[]) ⟨om,sM,λO r C k h=>by simp_all,aH⟩ ?_ ?_;.exact yI sM (by rfl)
    rintro⟨i,N,τ⟩⟨hi,aI,aF,ab⟩;simp only at hi aI aF ab;by_cases q:i<L.length;rotate_left;.rw[A8 (by grind),List.foldl_nil]at ab;refine zA ?_;simp[go_sem,q];refine zA ?_;simp[go_sem];refine Lh 7 2 (N.map mu) rfl (wA2 N) ?_;simp only[fO,fX,fN,fH,Au,Ae,A7,and_self,alB,wh6,ab];refine yW 4 (s:=dF a b sn) (r:=.sl .ro (G.map nz)) ?_ rfl (by grind[wK]) om zK (by trivial);exact wi9
    have ei:=zO q om;obtain⟨⟨pr,pk⟩,hp⟩:∃p,L[i]=p:=⟨_,rfl⟩;rw[A4 (by grind),B7,D1,hp]at ab;refine zN (zA ?_);simp[go_sem,q];refine zN (zA ?_);simp[go_sem];refine zN (yt (zN (zA ?_)));simp[go_sem,q,hp,qx];refine nK (S:=Bool×alW) [0,11,13,14,15,73,74,75] (λu=>[.ptr 3 0,.cS 7 2 N.length 0 N.length,.ptr (τ.length+8) 0,.str u.2,.bool (!u.1),.cS 4 2 L.length 0 L.length,.int .i64 L.length,.int .i64 i]) (λu=>[a.ob .str,b.ob .str,sn.ob (V.int .i64),.box [.sl .ro xN,.sl .ro (bO.map bL.row),.mp 0,.mp 1,.mp 2],.cv (L.map qx) 2,.it (some 1) b.dm se b.dm,.it (some 0) a.dm aj a.dm,.cv (N.map mu) 2]++(τ++[.box [.int .i64 pr,.str pk]])) (λu=>rh b (pr,pk)=⟨(pr,pk),u.1,u.2⟩) hc hb ?_ ?_;.refine yA [] (τ.length+9) sM (by rfl) kR ?_;simp[go_sem,eB];cases ah:b.at (pr,pk)with
     |none=>
      have aa:ep (pr,pk) b.W=none:=ah;have hw:rh b (pr,pk)=⟨(pr,pk),true,[]⟩:=by grind[rh,Mp.get]
      simp[go_sem,qh,aa,lZ,mC];exact zH (true,[]) ⟨hw,yI sM (by rfl)⟩|some w=>
      have aa:ep (pr,pk) b.W=some w:=ah;have hw:rh b (pr,pk)=⟨(pr,pk),false,w.2⟩:=by grind[rh,Mp.get]
      simp[go_sem,qh,aa,lZ,mC];exact zH (false,w.2) ⟨hw,yI sM (by rfl)⟩
    rintro⟨dr,ax⟩hw;simp only at hw;rw[hw]at ab;rcases List.eq_nil_or_concat N with hN|⟨O,⟨r0,C,k⟩,hN⟩;.subst hN;refine zN (zN ?_);refine yA [] (τ.length+9) sM (by rfl) kR ?_;simp[go_sem];refine Lw (b:=true) (by rfl) (λ_=>?_) (λh=>by cases h);refine T6 4 rfl rfl rfl ?_;simp[go_sem,C0];refine zJ (zZ rfl) ?_;simp[go_sem];refine zN (zA ?_);simp[go_sem];refine xV [(4,2),(6,2),(12,3),(15,4)] 6 sM (by rfl) kR ?_;simp[go_sem];refine zJ ⟨(λr hr=>by cases hr),zZ rfl⟩ ?_;simp[go_sem];refine zA ?_;simp[go_sem,ei];exact zH (i+1,[(pr,[⟨(pr,pk),dr,ax⟩],τ.length+1)],τ++[.box [.int .i64 pr,.str pk],.app 1 3]) ⟨om,⟨q,sM,Q6 (N:=[]) sM sM,ab⟩,sI (by rfl) sM (by rfl)⟩
    rw[List.concat_eq_append]at hN;subst hN;obtain⟨hk,hC⟩:=aF O r0 C k rfl;have aV:=(A3.1 hk).1;have aW:O.length+1<=i:=by grind
    have z0:((O.length:Int)+1==0)=false:=by rfl
    have es:IntKind.i64.wrap (O.length:Int)=O.length:=(by grind[bX]);have aJ:IntKind.i64.wrap ((O.length:Int)+1)=((O.length+1:Nat):Int):=by grind[bX]
    by_cases hr:r0=pr
    .subst hr;refine zN (zN ?_);refine yA [] (τ.length+9) sM (by rfl) kR ?_;simp[go_sem,mu,z0,es];refine zJ om ?_;simp[go_sem];refine zA ?_;simp[go_sem];refine zN (zA ?_);simp[go_sem,es];refine zJ om ?_;simp[go_sem];refine xV [(4,2),(6,2),(12,3),(15,4)] 6 sM (by rfl) kR ?_;have aK:(τ++[Ob.box [.int .i64 r0,.str pk]])[k]?=some (.app C.length 3):=by grind
     have aL:∀o,(τ++[Ob.box [.int .i64 r0,.str pk]]).set k o=τ.set k o++[Ob.box [.int .i64 r0,.str pk]]:=(by grind);simp[go_sem,aK,aL];refine zJ ⟨om,zZ rfl⟩ ?_;simp[go_sem];refine zA ?_;simp[go_sem,ei];exact zH (i+1,O++[(r0,C++[⟨(r0,pk),dr,ax⟩],k)],τ.set k (.app (C.length+1) 3)++[.box [.int .i64 r0,.str pk]]) ⟨om,⟨q,by grind,(by grind[Q6]),by rw[xS4 (r:=r0) (w:=⟨(r0,pk),dr,ax⟩) rfl]at ab;omega⟩,sI (by simp[mu,z7]) sM sg⟩
    .have aP:(r0 !=pr)=true:=by grind
     refine zN (zN ?_);refine yA [] (τ.length+9) sM (by rfl) kR ?_;simp[go_sem,mu,z0,es];refine zJ om ?_;simp[go_sem,aP];refine Lw (b:=true) (by rfl) (λ_=>?_) (λh=>by cases h);refine T6 4 rfl rfl rfl ?_;simp[go_sem,C0];refine zJ ⟨zZ rfl,om⟩ ?_;simp[go_sem];refine zN (zA ?_);simp[go_sem,aJ];refine zJ om ?_;simp[go_sem];refine xV [(4,2),(6,2),(12,3),(15,4)] 6 sM (by rfl) kR ?_;simp[go_sem];refine zJ ⟨(λr hr=>by cases hr),zZ rfl⟩ ?_;simp[go_sem];refine zA ?_;simp[go_sem,ei];exact zH (i+1,(O++[(r0,C,k)])++[(pr,[⟨(pr,pk),dr,ax⟩],τ.length+1)],τ++[.box [.int .i64 pr,.str pk],.app 1 3]) ⟨om,⟨q,by grind,(by grind[Q6]),by rw[wj6 (k':=τ.length+1) rfl hr]at ab;omega⟩,sI (by grind[mu,z7]) sM sg⟩
   .have ao:=M5 (g:=V.str) ha.ok.nd (M7 hp);have ai:=hD.next ha.ok.nd hp;have aq:=(M6 ha.ok.nd hp).length_eq;obtain⟨⟨⟨pr,pk⟩,data⟩,eO⟩:=p;simp only[iD]at ao ai aq;have ad:(kD (aj++[eO]) a.W a.bs).length<(kD aj a.W a.bs).length:=by grind
    clear aq hp;have ae:=xE1 b D ((pr,pk),data);have aA:HS b ((pr,pk),data)=((b.at (pr,pk)).map (·.2)).isNone:=rfl;simp[go_sem,iD,rF,ao];refine yA [] 8 rfl (by rfl) kR ?_;simp[go_sem,eB];cases ah:b.at (pr,pk)with |none=>have aa:ep (pr,pk) b.W=none:=ah;rw[alq (by grind)]at ae;simp[go_sem,qh,aa,lZ,mC,C0];refine zJ ⟨zZ rfl,om⟩ ?_;simp[go_sem];exact zH (aj++[eO],D++[((pr,pk),data)]) ⟨ad,ai,bU 7 (by grind[qx]) rfl (au _ _) dC (zD (by simp[go_sem,ae,E1]) rfl)⟩|some w=>have aa:ep (pr,pk) b.W=some w:=ah;rw[ah]at aA;rw[alp (by grind)]at ae;simp[go_sem,qh,aa,lZ,mC];exact zH (aj++[eO],D++[((pr,pk),data)]) ⟨ad,ai,bU 7 (by grind) rfl (au _ _) dC (zD (by simp[go_sem,ae]) rfl)⟩
  .have ao:=M5 (g:=V.str) hn.ok.nd (M7 hp);have ai:=hD.next hn.ok.nd hp;have aq:=(M6 hn.ok.nd hp).length_eq;obtain⟨⟨⟨pr,pk⟩,data⟩,eO⟩:=p;simp only[iD]at ao ai aq;have ad:(kD (se++[eO]) b.W b.bs).length<(kD se b.W b.bs).length:=by grind
   clear aq hp;have ae:=xE0 a D ((pr,pk),data);have aA:Kc a ((pr,pk),data)=((a.at (pr,pk)).map (·.2)!=some data):=rfl;simp[go_sem,iD,rF,ao];refine yA [] 7 rfl (by rfl) kR ?_;simp[go_sem,eA];cases ah:a.at (pr,pk)with |none=>have aa:ep (pr,pk) a.W=none:=ah;rw[alq (by grind)]at ae;simp[go_sem,qh,aa,lZ,mC,C0];refine zJ ⟨zZ rfl,om⟩ ?_;simp[go_sem];exact zH (se++[eO],D++[((pr,pk),data)]) ⟨ad,ai,bU 6 (by simp[go_sem,ae,qx,eA];rfl) rfl (ak _ _) dC (zD (by simp[go_sem,ae]) rfl)⟩|some w=>
    have aa:ep (pr,pk) a.W=some w:=ah;rw[ah]at aA;by_cases q:w.2=data
    .have q':(w.2==data)=true:=by grind
     rw[alp (by grind)]at ae;simp[go_sem,qh,aa,lZ,mC,q'];exact zH (se++[eO],D++[((pr,pk),data)]) ⟨ad,ai,bU 6 (by grind) rfl (ak _ _) dC (zD (by simp[go_sem,ae]) rfl)⟩
    .have q':(w.2==data)=false:=by grind
     rw[alq (by grind)]at ae;simp[go_sem,qh,aa,lZ,mC,q',C0];refine zJ ⟨zZ rfl,om⟩ ?_;simp[go_sem];exact zH (se++[eO],D++[((pr,pk),data)]) ⟨ad,ai,bU 6 (by simp[go_sem,ae,qx,eA];rfl) rfl (ak _ _) dC (zD (by simp[go_sem,ae]) rfl)⟩
theorem XM{s:Nat}{l:List (List V)}(h:eU s l):eU s (l.take n):=λr hr=>h r (B6 hr)
theorem XN{s:Nat}{l:List (List V)}(h:eU s l):eU s (l.drop n):=λr hr=>h r (Bz hr)
theorem XO{T:bL}:∀{l p:List cy},po T p l=0->∀x∈l,0<=dg T x.name
 |[],_,_,x,hx=>by cases hx|y::l,p,h,x,hx=>by
  rw[po]at h;by_cases q1:dg T y.name<0;.omega
  rw[alp q1]at h;by_cases q2:dg T y.name=T.key\/(dg T y.name=0/\T.place=0);.omega
  rw[alp q2]at h;by_cases q3:(p.any λz=>z.name==y.name)=true;.grind
  rw[alp q3]at h;by_cases q4:p7 T y.e (lz T (dg T y.name))≠0;.omega
  rw[alp q4]at h;rcases Af.1 hx with rfl|hx;.omega
  .exact XO h x hx
theorem Q7{mode:Int}:∀{l:List bZ}{i:Nat},(FY mode l i).2=0->∀z∈l,sv z=0
 |[],_,_,z,h=>by cases h|y::l,i,h,z,hx=>by
  rw[FY]at h;by_cases q1:mode≠0/\y.kind≠1;.grind
  rw[alp q1]at h;by_cases q2:sv y≠0;.grind
  rw[alp q2]at h;rcases Af.1 hx with rfl|hx;.simpa using q2
  .exact Q7 h z hx
theorem Q8(hl:lr df)(h:(pq df).2=0):∀st∈df.stmts,sH st:=by
 unfold pq at h;by_cases q:nq df=true;rotate_left;.grind
 rw[alq q]at h;intro st aa;have hc:=Q7 h st aa;have ab:=hl.stmts.2 st aa;have hm:kQ st:=by simp_all[nq]
 unfold sv at hc;have ad:=MJ st.table;have hT:∃T,bO[(xO st.table).toNat]?=some T:=by grind
 obtain⟨T,hT⟩:=hT;rw[hT]at hc;simp only at hc;have h0:0<=xO st.table:=by omega
 rw[alp om]at hc;refine⟨ab,WA ab.cH.eD,h0,λk1=>?_,λk3=>?_⟩;.unfold kQ at hm;rw[Aa,Aa]at hm;have hb:=hm.2.2;unfold Qk at hb;rw[alq k1,Aa]at hb;intro he;rw[he]at hb;exact absurd hb.1 dC
 .rw[Aj,hT];rw[alp om,alp om,alq k3]at hc;by_cases q:po T [] st.cJ≠0;.omega
  .exact XO (sU q)
theorem xL3(l:List Ln)(x:Ln):(zt l x).length=l.length+1:=(DW l x).length_eq
theorem XP{t:Nat}{T:bL}:∀{rs:List (List bJ)}{l:List Ln},(gX t T rs l).1.length<=l.length+rs.length
 |[],l=>by grind[gX]|r::rs,l=>by
  rw[gX];split;.simp
  split;.simp
  split;.simp
  refine Ax XP ?_;rw[xL3,Ah];omega
theorem XQ{T:bL}{cJ:List cy}:∀{m l:List Ln},(ig T cJ m l).1.length<=l.length
 |[],l=>A7 _|x::m,l=>by
  rw[ig];split;.simp
  split;.simp
  refine Ax XQ ?_;simp[jS]
theorem XR:∀{m l:List Ln},(ko m l).length<=l.length
 |[],l=>A7 _|x::m,l=>by rw[ko];exact Ax XR (Dp _ _)
theorem Q9:(lP st l).2.1.length<=l.length+st.rows.length:=by grind[lP,XP,XQ,XR]
abbrev Vw:=Nat×List (alW×alW)
def Ra(q:alW×alW):List V:=[.str q.1,.str q.2]
def vw(x:Vw):List V:=[.int .i64 x.1,.sl .ro (x.2.map Ra)]
def xh(g:Nat)(l:List (alW×alW)):List (Pl×alW):=l.map λq=>(((g:Int),q.1),q.2)
def kW(vs:List Vw):List (Pl×alW):=vs.flatMap λx=>xh x.1 x.2
def mw(vs:List Vw):List Ln:=((kW vs).foldl xf ([],[])).2
theorem yY0(x:Vw)(vs:List Vw):kW (x::vs)=xh x.1 x.2++kW vs:=by rfl
theorem pw.vx{s:List (Pl×alW)×List Ln}(h:pw n s (a,b,sn))(p:Pl)(h0:sn.at p=none):a.at p=none/\b.at p=none:=by
 have h1:=(h.seen p).1 (lE.2 h0);have hb:b.at p=none:=by rw[h.now.iq];cases e:j5 s.2 p with |false=>rfl|true=>obtain⟨x,hx,aa⟩:=Ab.1 (gF.1 e);have:(s.1.any λe=>e.1==p)=true:=List.any_eq_true.2 ⟨_,(h.lines x hx).2,by grind⟩;grind
 exact⟨by rw[show a=b from h.same];exact hb,hb⟩
theorem pw.pos{s:List (Pl×alW)×List Ln}(h:pw n s (a,b,sn))(hn:n<=1000000)(p:Pl)(i:Nat)(v:Int)(h0:sn.at p=some (i,v)):1<=v/\v<=1000000:=by have:=h.QK p v (by show(sn.at p).map (·.2)=some v;grind);omega
theorem wd9(k:Nat){args:List V}{fM:St}{v:V}(hc:bN P f ct fM (λr s=>r=v/\s=fM))(hb:xI P f)(hk:I.take k=fM)(hl:fM.length=k)(cZ:fM.all (bS k))(hv:hZ k v)(hn:∀i,i<k->n0.has i)(aa:∀N,bP (cW (cO (List.range k) N)) ct (args++cd))(hK:KV v I):qS P c n0 1 (.fn f cd) args I KV fx:=by
 refine⟨v,I,?_,λ_=>rfl,λ_=>iv.refl,A7 _,hK⟩;rw[alp dC,alq rfl];intro s hs;have ab:s.take k=fM:=by
  rw[<-hk];refine Bi λi=>?_;rw[An,An];by_cases q:i<k;.rw[alq q,alq q];exact Kp.get (hn i q) hs
  .rw[alp q,alp q]
 refine vV (P:=P) (c:=c) (KV:=λr s'=>r=v/\s'=s) k hc hb ab hl cZ (aa _) ?_ ?_;.rintro r s' ⟨rfl,rfl⟩;exact⟨hl,cZ,hv⟩
 .rintro r s' ⟨rfl,rfl⟩;exact⟨rfl,by rw[<-ab];exact B0 k s⟩
theorem Rb(n:Nat)(h:3<=n){τ:St}(hR:τ.all (bS n)):(dF a b sn++τ).all (bS n)=true:=by rw[E9,wK n h,hR];rfl
def kX(x:Int×Int×List Ot):List V:=[.int .i64 x.1,.int .i64 x.2.1,.sl .ro (x.2.2.map Ot.row)]
def z8(df:eF)(qY:List Ln):V:=.cC [.agg (kX (gb df qY).1),.sl .ro ((if(gb df qY).1.1≠0then[]else nv (jz qY (gb df qY).2)).map nz)]
def my:Ob:=.box [.sl .ro xN,.sl .ro (bO.map bL.row)]
theorem XS(df:eF)(hl:lr df)(vs:List Vw)(aE:vs.length<=100000)(hv:∀x∈vs,x.1<1000/\x.2.length<=100000/\∀q∈x.2,q.2.length<=cN)(hN:(kW vs).length<=7500):Pure prog 39 [dW bO,.agg df.row,.sl .ro (vs.map vw)] (z8 df (mw vs)):=by
 have ad:=V8 df hl;obtain⟨aF,aw⟩:=hl.stmts;have aj:=Q8 hl;obtain⟨⟨ci,cr⟩,hP⟩:∃P,pq df=P:=⟨_,rfl⟩;rw[hP]at ad aj;generalize hM:z8 df (mw vs)=M;unfold z8 gb at hM;rw[hP]at hM;simp only at hM aj;refine iV 0 func39 ntmps39 results39 λc hc hb=>?_;refine zN (zA ?_);simp[go_sem,dW];refine zN (zA ?_);simp[go_sem];refine zL ad cB (zR (by simp[go_sem,dW]) rfl) rfl ?_;simp[go_sem,wO];by_cases c0:cr=0;rotate_left
 .have au:(cr !=0)=true:=sU c0;rw[alq c0]at hM;simp[go_sem,au];have aG:M=.cC [.agg [.int .i64 cr,.int .i64 ci,.sl .ro []],.sl .ro []]:=by rw[<-hM];simp[c0,kX]
  exact zQ (r:=M) (by rw[aG];exact yO ⟨wH ⟨zF rfl,zF rfl,zY,tV⟩,rP,tV⟩) ⟨rfl,rfl⟩
 have au:(cr !=0)=false:=sU c0;rw[alp (λh=>h c0)]at hM;simp[go_sem,au];refine nK (S:=Unit) [2,4,6,10] (λ_=>[.sl .ro (vs.map vw),.ptr 5 0,.ptr 6 0,.ptr 3 0]) (λ_=>sC (xc _,xc _,xc _)++[my,.box df.row,.box [.int .i64 0,.int .i64 0,.sl .full []]]) (λ_=>True) hc hb ?_ ?_;.refine zA ?_;simp[go_sem];exact zH () ⟨tV,yu [3,4,5,6,0,1,2] dC rfl ⟨rfl,rfl,rfl,rfl,rfl,rfl,rfl,tV⟩ ⟨zC rfl,.inl rfl,.inl rfl,.inl rfl,tV⟩⟩
 rintro _ _;have ax:=hl;obtain⟨Q,hQ⟩:=eX ((kW vs).foldl xf ([],[]));have ay:mw vs=Q.2:=by unfold mw;rw[hQ]
 rw[ay]at hM;clear ay;refine zN (zA ?_);simp[go_sem];refine zG (S:=Nat×Nat×(List (Pl×alW)×List Ln)×M3) [4,6,10,36,37,38] (λu=>[.ptr 5 0,.ptr 6 0,.ptr 3 0,.sl .ro (vs.map vw),.int .i64 vs.length,.int .i64 u.1]) (λu=>sC u.2.2.2++[my,.box df.row,.box [.int .i64 0,.int .i64 0,.sl .full []]]) (λu=>vs.length-u.1) (λu=>u.1<=vs.length/\pw u.2.1 u.2.2.1 u.2.2.2/\u.2.1+(kW (vs.drop u.1)).length=(kW vs).length/\(kW (vs.drop u.1)).foldl xf u.2.2.1=Q) hc hb (0,0,([],[]),(xc _,xc _,xc _)) ⟨A5 _,Xu,sM,hQ⟩ ?_ ?_;.exact yI sM sg
 rintro⟨i,n,s,a,b,sn⟩⟨hi,hT,hn,aa⟩;simp only at hi hT hn aa;by_cases q:i<vs.length
 .have ei:=zO q om;obtain⟨⟨g,ps⟩,hx⟩:∃x,vs[i]=x:=⟨_,rfl⟩;obtain⟨hg,az,a6⟩:=hv (g,ps) (hx▸A9 q);simp only at hg az a6;rw[A4 q,hx,yY0]at hn aa;rw[D4]at aa;rw[Al]at hn;refine zA ?_;simp[go_sem,sC,dF,gq,my,q,hx,vw];refine zG (S:=Nat×Nat×(List (Pl×alW)×List Ln)×M3) [4,6,10,12,36,37,38,43,44,45] (λu=>[.ptr 5 0,.ptr 6 0,.ptr 3 0,.ptr 7 0,.sl .ro (vs.map vw),.int .i64 vs.length,.int .i64 i,.sl .ro (ps.map Ra),.int .i64 ps.length,.int .i64 u.1]) (λu=>sC u.2.2.2++[my,.box df.row,.box [.int .i64 0,.int .i64 0,.sl .full []],.box (vw (g,ps))]) (λu=>ps.length-u.1) (λu=>u.1<=ps.length/\pw u.2.1 u.2.2.1 u.2.2.2/\u.2.1+((xh g (ps.drop u.1)).length+(kW (vs.drop (i+1))).length)=(kW vs).length/\(kW (vs.drop (i+1))).foldl xf ((xh g (ps.drop u.1)).foldl xf u.2.2.1)=Q) hc hb (0,n,s,a,b,sn) ⟨A5 _,hT,hn,aa⟩ ?_ ?_;.exact sI rfl sM sg
  rintro⟨j,n1,s1,a1,b1,ak⟩⟨hj,ae,al,ab⟩;simp only at hj ae al ab;by_cases qj:j<ps.length
  .have ej:=zO qj om;obtain⟨⟨k,d⟩,hp⟩:∃x,ps[j]=x:=⟨_,rfl⟩;have hd:=a6 (k,d) (hp▸A9 qj);simp only at hd;have a7:xh g (ps.drop j)=(((g:Int),k),d)::xh g (ps.drop (j+1)):=by rw[A4 qj,hp];rfl
   rw[a7,Ah]at al;rw[a7,B7]at ab;have ah:=wB7 g hg k d hd a1 b1 ak (by rw[show a1=b1 from ae.same];exact ae.now.ok) ae.now.ok ae.sn (ae.vx _) (ae.pos om _);have av:=ae.step (((g:Int),k),d);obtain⟨⟨a2,b2,a8⟩,aH⟩:∃M3,DV ((g:Int),k) d (a1,b1,ak)=M3:=⟨_,rfl⟩;simp only at av;rw[aH]at ah av;refine zA ?_;simp[go_sem,sC,dF,gq,my,qj,hp,vw,Ra];refine vV 4 ah cB rfl rfl (wK 4 dC a1 b1 ak) (tf (n:=4) rfl) ?_ ?_;.rintro r s' ⟨rfl,rfl⟩;exact⟨rfl,wK 4 dC a2 b2 a8,rfl⟩
   rintro r s' ⟨rfl,rfl⟩;simp[go_sem,sC,dF,gq,ej];exact zH (j+1,n1+1,xf s1 (((g:Int),k),d),a2,b2,a8) ⟨by show ps.length-(j+1)<ps.length-j;omega,⟨qj,av,by show n1+1+((xh g (ps.drop (j+1))).length+(kW (vs.drop (i+1))).length)=(kW vs).length;omega,ab⟩,bU 8 (by rfl) rfl (Rb 8 dC (by simp[bS,cV,cR])) dC (zD sg rfl)⟩
  .have:j=ps.length:=om;subst this;rw[Cn]at al ab;refine zA ?_;simp[go_sem,sC,dF,gq,my,ei];exact zH (i+1,n1,s1,a1,b1,ak) ⟨by show vs.length-(i+1)<vs.length-i;omega,⟨q,ae,by show n1+(kW (vs.drop (i+1))).length=(kW vs).length;simp[xh]at al;omega,ab⟩,bU 7 (by rfl) rfl (Rb 7 dC (by simp[bS,cV,cR])) dC (zD sg rfl)⟩
 .have:i=vs.length:=om;subst this;rw[Cn]at hn aa;have hs:s=Q:=aa;subst hs;have aU:n<=7500:=by simp[kW]at hn;simp[kW]at hN;omega
  have aI:a=b:=hT.same;subst aI;have ai:dd a s.2:=hT.now;have aJ:s.2.length<=n:=hT.len;obtain⟨af,an⟩:=eX s.2;rw[an]at hM ai aJ;clear hT hn aa hN an hv aE;obtain⟨D,hD⟩:=eX (mm df.stmts 0 [] af);rw[hD]at hM;have aK:D.1.1≠0->M=.cC [.agg (kX D.1),.sl .ro []]:=λh=>by rw[<-hM];simp[h]
  have aL:D.1.1=0->M=.cC [.agg (kX D.1),.sl .ro ((nv (jz af D.2)).map nz)]:=λh=>by rw[<-hM];simp[h]
  have az:D.1.1=0\/D.1.1≠0:=om;have ao:=aj c0;clear hM aj ad hl ax;obtain⟨lm,ln,L⟩:=df;simp only at aF aw hD ao;refine zA ?_;simp[go_sem,sC,dF,gq,my];refine Fg 6 2 2 [.int .i64 0,.int .i64 0,.sl .full []] dC rfl rfl ?_;refine zN (zA ?_);simp[go_sem];refine zG (S:=Nat×Mp alW×List Ln×List Ot) [6,10,57,58,59] (λu=>[.ptr 6 0,.ptr 3 0,.sl .ro (L.map bZ.row),.int .i64 L.length,.int .i64 u.1]) (λu=>sC (a,u.2.1,sn)++[my,.box (eF.row ⟨lm,ln,L⟩),.box [.int .i64 0,.int .i64 0,.sl (.app 7) (u.2.2.2.map Ot.row)],.app u.2.2.2.length 2]) (λu=>L.length-u.1) (λu=>u.1<=L.length/\dd u.2.1 u.2.2.1/\u.2.2.2.length=u.1/\u.2.2.1.length<=7500+20*u.1/\mm (L.drop u.1) u.1 u.2.2.2 u.2.2.1=D) hc hb (0,a,af,[]) ⟨A5 _,ai,rfl,by show af.length<=7500+20*0;omega,hD⟩ ?_ ?_;.exact sI rfl sM sg
  rintro⟨i,b,l,outs⟩⟨hi,hn,aA,aP,aa⟩;simp only at hi hn aA aP aa;by_cases q:i<L.length;rotate_left
  .rw[A8 om,mm]at aa;refine zA ?_;simp[go_sem,sC,dF,gq,my,q];have aq:=wA6 a b sn af l ai hn om om;have aQ:D.2=l:=by rw[<-aa]
   have aB:D.1=(0,0,outs):=by rw[<-aa]
   have hM:=aL (by rw[aB]);rw[aB,aQ]at hM;obtain⟨PW,aR⟩:=eX (nv (jz af l));rw[aR]at aq hM;refine zN ?_;refine xV [(2,1)] 7 sM kR kR ?_;simp[go_sem];refine wd9 4 aq cB rfl rfl (wK 4 dC a b sn) rfl (λi hi=>by simp[go_sem];omega) (λN=>tf (n:=4) rfl) ?_;simp[go_sem];refine zA ?_;simp[go_sem];exact zQ (r:=M) (by rw[hM];exact yO ⟨wH ⟨zF rfl,zF rfl,zY,tV⟩,rP,tV⟩) ⟨rfl,rfl⟩
  have ei:=zO q om;obtain⟨x,hx⟩:=eX (L[i]);have aC:x∈L:=hx▸A9 q;have ar:=xI4 x (ao x aC) a b sn l hn om;have hlen:=Q9 (st:=x) (l:=l);have aT:=(aw x aC).rows.1;rw[A4 q,hx,mm]at aa;obtain⟨E,hE⟩:=eX (lP x l);rw[hE]at aa ar hlen;refine zA ?_;simp[go_sem,sC,dF,gq,my,q,hx];refine vV 4 ar cB rfl rfl (wK 4 dC a b sn) (tf (n:=4) rfl) ?_ ?_;.rintro r s' ⟨b',rfl,rfl,_⟩;exact⟨rfl,wK 4 dC a b' sn,rfl⟩
  rintro r s' ⟨b',rfl,rfl,aS⟩;by_cases e0:E.2.2=0;rotate_left;.have aD:(E.2.2!=0)=true:=sU e0;rw[alq e0]at aa;have hM:=aK (by rw[<-aa];exact e0);simp[go_sem,dF,gq,aD,Ot.row];exact zQ (r:=M) (by rw[hM,<-aa];exact yO ⟨wH ⟨zF rfl,zF rfl,zY,tV⟩,rP,tV⟩) ⟨rfl,rfl⟩
  have aD:(E.2.2!=0)=false:=sU e0;rw[alp (λh=>h e0)]at aa;simp[go_sem,dF,gq,e0,Ot.row];refine zJ ⟨om,zZ rfl⟩ ?_;simp[go_sem,ei];exact zH (i+1,b',E.2.1,outs++[E.1]) ⟨by show L.length-(i+1)<L.length-i;omega,⟨q,aS e0,by show(outs++[E.1]).length=i+1;simp[aA],by show E.2.1.length<=7500+20*(i+1);omega,aa⟩,bU 8 (by simp[Ot.row]) rfl (Rb 8 dC (by simp[bS,cV,cR])) dC (zD sg rfl)⟩
theorem yY2(h:(pq df).2=0):∀st∈df.stmts,kQ st=true/\sv st=0:=by
 unfold pq at h;by_cases q:nq df=true;rotate_left;.grind
 rw[alq q]at h;intro st aa;refine⟨?_,Q7 h st aa⟩;simp_all[nq]
theorem XT{tn:Nat}{T:bL}(hT:bO[tn]?=some T):∀{R:List (List bJ)}{b:Mp alW}{l:List Ln},(∀r∈R,∀e∈r,jt e)->dd b l->(gX tn T R l).2=0->∃b',dd b' (gX tn T R l).1
 |[],b,l,_,hn,_=>⟨b,hn⟩|r::R,b,l,he,hn,h=>by
  rw[gX]at h⊢;have ab:=MY r [] (he r (B2 ..)) (λv hv=>by cases hv);by_cases q1:(fa fj [] r []).2≠0;.grind
  rw[alp q1]at h⊢;obtain⟨_,ad⟩:=ab om;have aa:=MZ tn T hT (fa fj [] r []).1;by_cases q2:(fT tn T (fa fj [] r []).1).2.2≠0;.grind
  rw[alp q2]at h⊢;obtain⟨af,ah,ae⟩:=aa om;by_cases q3:j5 l ((fT tn T (fa fj [] r []).1).1,(fT tn T (fa fj [] r []).1).2.1)=true;.grind
  rw[alp q3]at h⊢;exact XT hT (by grind) (hn.ins (x:=⟨(fT tn T (fa fj [] r []).1).1,(fT tn T (fa fj [] r []).1).2.1,(fa fj [] r []).1⟩) ⟨(by grind),ae,ad⟩ (Bool.eq_false_iff.2 q3)) h
theorem XU:∀{m:List Ln}{b:Mp alW}{l:List Ln},dd b l->∃b',dd b' (ko m l)
 |[],b,_,hn=>⟨b,hn⟩|x::m,b,l,hn=>by rw[ko];exact XU (hn.del x.at)
theorem XV(aa:sH st)(hn:dd b l)(h:(lP st l).2.2=0):∃b',dd b' (lP st l).2.1:=by
 obtain⟨tn,ad⟩:∃tn:Nat,xO st.table=tn:=⟨(xO st.table).toNat,by have:=aa.jV;omega⟩;have ab:tn<3:=by have h:=uX (λT:bL=>T.name==st.table) bO 0;have h2:bO.length=3:=rfl;grind[xO]
 obtain⟨T,hT⟩:∃T,bO[tn]?=some T:=⟨_,A0 (show tn<bO.length from ab)⟩;unfold lP at h⊢;simp only[ad,Ay]at h⊢;rw[show bO.getD tn fj=T by grind]at h⊢;by_cases k2:st.kind=2
 .rw[alq k2]at h⊢;by_cases q:(gX tn T st.rows l).2≠0;.grind
  .rw[alp q];exact XT hT (λr hr=>(aa.ok.rows.2 r hr).2) hn om
 rw[alp k2]at h⊢;by_cases q:(gE tn T st l).2≠0;.grind
 rw[alp q]at h⊢;by_cases k1:st.kind=1;.grind
 rw[alp k1]at h⊢;by_cases k3:st.kind=3
 .rw[alq k3]at h⊢;by_cases q2:(ig T st.cJ (gE tn T st l).1 l).2≠0;.grind
  .rw[alp q2];refine⟨_,Q4 hT aa.ok hn (λx hx=>?_) om⟩;obtain⟨h1,h2⟩:=M4 x hx;exact⟨gF.2 (by grind),hn.rows x h1,Nf ab h2⟩
 .rw[alp k3];exact XU hn
theorem XW:∀(tn:Nat)(T:bL),bO[tn]?=some T->tn=0->T.place=0:=by intro tn T h h0;subst h0;have e:bO[0]?=some T:=h;exact(by decide:∀T,bO[0]?=some T->T.place=0) T e
theorem xE3(hT:bO[tn]?=some T){row aa:List bK}(h1:fC T.cw row=0)(h2:fC T.cw aa=0)(hk:aa.getD T.key.toNat zeroV=row.getD T.key.toNat zeroV)(hp:T.place=0->aa.getD 0 zeroV=row.getD 0 zeroV):fT tn T aa=fT tn T row:=by
 have hr:HM tn aa=HM tn row:=by
  unfold HM;by_cases h0:tn=0;.rw[alq h0,alq h0,hp (by grind[XW])]
  omega
 unfold fT;rw[alp om,alp (show¬fC T.cw row≠0fromλh=>h h1),hr,hk];by_cases h0:tn=0;.grind[XW]
 grind
theorem XX(h:gm x)(aa:(ga x.r).1=(tn:Int))(hT:bO[tn]?=some T)(hk:fT tn T x.v=(x.r,x.k,0)):zu x:=by unfold zu mJ;rw[h.read,aa,Ay,show bO.getD tn fj=T by grind,hk,h.err];simp
theorem wl0(h:gm x)(hK:zu x)(aa:(ga x.r).1=(tn:Int))(hT:bO[tn]?=some T):fT tn T x.v=(x.r,x.k,0):=by unfold zu mJ at hK;rw[h.read,aa,Ay,show bO.getD tn fj=T by grind]at hK;grind
theorem xS5{l:List bK}{i j:Nat}{v:bK}(h:i≠j):(l.set i v).getD j zeroV=l.getD j zeroV:=by grind
theorem XY{T:bL}{pt:List bK}{c:Nat}(hc:(c:Int)=T.key\/((c:Int)=0/\T.place=0)):∀{cJ p:List cy}{row:List bK},po T p cJ=0->(gQ T pt cJ row).2=0->(gQ T pt cJ row).1.getD c zeroV=row.getD c zeroV
 |[],_,row,_,_=>rfl|y::l,p,row,h,h2=>by
  rw[gQ]at h2⊢;by_cases q:(gZ T pt y.e).2≠0;.grind
  rw[alp q]at h2⊢;rw[po]at h;by_cases q1:dg T y.name<0;.omega
  rw[alp q1]at h;by_cases q2:dg T y.name=T.key\/(dg T y.name=0/\T.place=0);.omega
  rw[alp q2]at h;by_cases q3:(p.any λz=>z.name==y.name)=true;.grind
  rw[alp q3]at h;by_cases q4:p7 T y.e (lz T (dg T y.name))≠0;.omega
  rw[alp q4]at h;rw[XY hc h h2];refine xS5 λe=>q2 ?_;have e2:dg T y.name=(c:Int):=om;rw[e2];exact hc
def pz(l:List Ln):Prop:=∀x∈l,gm x/\zu x
theorem XZ{tn:Nat}{T:bL}(hT:bO[tn]?=some T):∀{R:List (List bJ)}{l:List Ln},(∀r∈R,∀e∈r,jt e)->pz l->(gX tn T R l).2=0->pz (gX tn T R l).1
 |[],l,_,hn,_=>hn|r::R,l,he,hn,h=>by
  rw[gX]at h⊢;have ab:=MY r [] (he r (B2 ..)) (λv hv=>by cases hv);by_cases q1:(fa fj [] r []).2≠0;.grind
  rw[alp q1]at h⊢;obtain⟨_,ad⟩:=ab om;have aa:=MZ tn T hT (fa fj [] r []).1;obtain⟨⟨kr,kk,ke⟩,ae⟩:∃ks,fT tn T (fa fj [] r []).1=ks:=⟨_,rfl⟩;rw[ae]at h aa⊢;simp only at h aa⊢;by_cases q2:ke≠0;.grind
  rw[alp q2]at h⊢;have af:ke=0:=om;obtain⟨ai,aj,ah⟩:=aa af;by_cases q3:j5 l (kr,kk)=true;.grind
  rw[alp q3]at h⊢;have hx:gm ⟨kr,kk,(fa fj [] r []).1⟩:=⟨(by grind),ah,ad⟩;refine XZ hT (by grind) (λz hz=>?_) h;rcases Af.1 ((DW l _).mem_iff.1 hz)with rfl|hz;.grind[XX]
  .exact hn z hz
theorem X1:∀{m l:List Ln},pz l->pz (ko m l)
 |[],l,h=>h|x::m,l,h=>by rw[ko];exact X1 (λy hy=>h y (Bn.1 hy).1)
theorem X2{tn:Nat}{T:bL}(hT:bO[tn]?=some T){st:bZ}(ad:lq st)(hc:po T [] st.cJ=0):∀{m l:List Ln},pz l->(∀x∈m,gm x/\zu x/\(ga x.r).1=(tn:Int))->(ig T st.cJ m l).2=0->pz (ig T st.cJ m l).1
 |[],_,hn,_,_=>hn|x::m,l,hn,hm,h0=>by
  obtain⟨aa,an,ao⟩:=hm x sM;obtain⟨aq,ar⟩:=(by decide:∀T∈bO,0<=T.key/\T.key<T.cw.length) T (by grind);rw[ig]at h0⊢;have ab:=λ(c:Nat)(ai:(c:Int)=T.key\/((c:Int)=0/\T.place=0))=>XY (T:=T) (pt:=x.v) ai (cJ:=st.cJ) (p:=[]) (row:=x.v) hc;have ae:=M1 (T:=T) aa.ok (cJ:=st.cJ) (row:=x.v) (λy hy=>(ad.cJ.2 y hy).2) aa.ok;obtain⟨E,hE⟩:=eX (gQ T x.v st.cJ x.v);rw[hE]at h0 ab ae⊢;by_cases q:E.2≠0;.grind
  rw[alp q]at h0⊢;have q0:E.2=0:=om;by_cases q2:fC T.cw E.1≠0;.grind
  rw[alp q2]at h0⊢;have m0:fC T.cw E.1=0:=om;obtain⟨af,T',au,ah,aj⟩:=aa.jV;have:af=tn:=om;subst this;rw[hT]at ah;cases ah;have ak:gm ⟨x.r,x.k,E.1⟩:=⟨(by grind),aa.err,(ae q0).2⟩;have al:fT af T E.1=(x.r,x.k,0):=by rw[xE3 hT aj m0 (by grind) (by grind)];grind[wl0]
  refine X2 hT ad hc (λz hz=>?_) (by grind) h0;unfold jS at hz;obtain⟨y,hy,rfl⟩:=Ab.1 hz;by_cases e:y.at=x.at;.rw[alq e];have e1:y.r=x.r:=alv Prod.fst e;have e2:y.k=x.k:=alv Prod.snd e;grind[XX]
  .rw[alp e];exact hn y hy
theorem wE5(aa:sH st)(hc:sv st=0)(_hn:dd b l)(hk:pz l)(h:(lP st l).2.2=0):pz (lP st l).2.1:=by
 obtain⟨tn,ab⟩:∃tn:Nat,xO st.table=tn:=⟨(xO st.table).toNat,by have:=aa.jV;omega⟩;have ad:tn<3:=by have h:=uX (λT:bL=>T.name==st.table) bO 0;have h2:bO.length=3:=rfl;grind[xO]
 obtain⟨T,hT⟩:∃T,bO[tn]?=some T:=⟨_,A0 (show tn<bO.length from ad)⟩;unfold sv at hc;rw[ab,Ay,hT]at hc;simp only at hc;rw[alp om]at hc;unfold lP at h⊢;simp only[ab,Ay]at h⊢;rw[show bO.getD tn fj=T by grind]at h⊢;by_cases k2:st.kind=2
 .rw[alq k2]at h⊢;by_cases q:(gX tn T st.rows l).2≠0;.grind
  .rw[alp q];exact XZ hT (λr hr=>(aa.ok.rows.2 r hr).2) hk om
 rw[alp k2]at h⊢;by_cases q:(gE tn T st l).2≠0;.grind
 rw[alp q]at h⊢;by_cases k1:st.kind=1;.grind
 rw[alp k1]at h⊢;by_cases k3:st.kind=3
 .rw[alq k3]at h⊢;by_cases q2:(ig T st.cJ (gE tn T st l).1 l).2≠0;.grind
  .rw[alp q2];have ae:po T [] st.cJ=0:=by omega
   refine X2 hT aa.ok ae hk (λx hx=>?_) om;obtain⟨h1,h2⟩:=M4 x hx;exact⟨(hk x h1).1,(hk x h1).2,Nf ad h2⟩
 simp_all[X1]
theorem X3:∀{ss:List bZ}{i:Nat}{acc:List Ot}{b:Mp alW}{l:List Ln},(∀x∈ss,sH x/\sv x=0)->dd b l->pz l->(mm ss i acc l).1.1=0->(∃b',dd b' (mm ss i acc l).2)/\pz (mm ss i acc l).2/\(mm ss i acc l).2.length<=l.length+20*ss.length
 |[],i,acc,b,l,_,hn,hk,_=>(by grind[mm])|x::ss,i,acc,b,l,hs,hn,hk,h=>by
  rw[mm]at h⊢;obtain⟨hx,ab⟩:=hs x sM;by_cases q:(lP x l).2.2≠0;.grind
  rw[alp q]at h⊢;have q0:(lP x l).2.2=0:=om;obtain⟨b',aa⟩:=XV hx hn q0;have hlen:=Q9 (st:=x) (l:=l);have hr:=hx.ok.rows.1;obtain⟨h1,h2,h3⟩:=X3 (by grind) aa (by grind[wE5]) h;grind
theorem pw.run:∀(ps:List (Pl×alW)){n:Nat}{s:List (Pl×alW)×List Ln}{m:M3},pw n s m->∃m',pw (n+ps.length) (ps.foldl xf s) m'
 |[],n,s,m,h=>⟨m,h⟩|p::ps,n,s,m,h=>by obtain⟨m',h'⟩:=pw.run ps (h.step p);grind
theorem X4(vs:List Vw):∃m,pw (kW vs).length ((kW vs).foldl xf ([],[])) m:=by obtain⟨m,h⟩:=pw.run (kW vs) Xu;grind
theorem X5{l:List Wr}{aa now:List Ln}(h1:∀x∈aa,gm x)(h2:∀x∈now,gm x)(hw:iR (aa.map Ln.at))(hn:iR (now.map Ln.at))(hl:l=jz aa now):∀w∈l,w.p.1=0\/w.p.1=1\/w.p.1=2\/w.p.1=3:=λw ad=>by
 rw[hl]at ad;have hr:∀x:Ln,gm x->x.r=0\/x.r=1\/x.r=2\/x.r=3:=λx hx=>by have:=hx.err;unfold ga at this;grind
 rcases((M8 hw hn).2 w).1 ad with⟨_,_,⟨x,hx,ab⟩,_⟩|⟨_,x,hx,ab,_,_⟩;.rw[<-ab];exact hr x (h1 x hx)
 .rw[<-ab];exact hr x (h2 x hx)
theorem Rc(hl:lr df)(hn:dd b l)(hk:pz l)(h:(gb df l).1.1=0):(∃b',dd b' (gb df l).2)/\pz (gb df l).2/\(gb df l).2.length<=l.length+240:=by
 unfold gb at h⊢;by_cases q:(pq df).2≠0;.grind
 rw[alp q]at h⊢;have q0:(pq df).2=0:=om;by_cases q2:(mm df.stmts 0 [] l).1.1≠0;.grind
 rw[alp q2]at h⊢;obtain⟨h1,h2,h3⟩:=X3 (λx hx=>⟨Q8 hl q0 x hx,(yY2 q0 x hx).2⟩) hn hk h;have:=hl.stmts.1;grind
theorem wa5(l:List Wr)(hl:l.length<=100000):Pure prog 141 [.sl .ro (l.map z7),.sl .ro (l.map z7)] (.bool true):=by
 refine iV 0 func141 ntmps141 results141 λc hc hb=>?_;refine zA ?_;simp[go_sem];refine zG (S:=Nat) [0,1,5] (λi=>[.sl .ro (l.map z7),.sl .ro (l.map z7),.int .i64 i]) (λ_=>[]) (λi=>l.length-i) (λi=>i<=l.length) hc hb 0 (A5 _) ?_ ?_;.exact aO
 rintro i hi;by_cases q:i<l.length;rotate_left;.refine zA ?_;simp[go_sem,q];exact wR
 have ei:=zO q om;obtain⟨⟨⟨yr,yk⟩,yd,yb⟩,hy⟩:∃y,l[i]=y:=⟨_,rfl⟩;refine zA ?_;simp[go_sem,q];refine yA [] 0 rfl kR kR ?_;simp[go_sem,q,hy,z7];exact zH (i+1) ⟨om,om,gC rfl (zR (by simp[go_sem,ei]) rfl)⟩
theorem xm4(l:List (List bK))(hl:l.length<=100000)(hw:∀x∈l,x.length<=100000):Pure prog 60 [.sl .ro (l.map λr=>[V.sl .ro (r.map bK.row)]),.sl .ro (l.map λr=>[V.sl .ro (r.map bK.row)])] (.bool true):=by
 refine iV 0 func60 ntmps60 results60 λc hc hb=>?_;refine zA ?_;simp[go_sem];refine zG (S:=Nat) [0,1,5] (λi=>[.sl .ro (l.map λr=>[V.sl .ro (r.map bK.row)]),.sl .ro (l.map λr=>[V.sl .ro (r.map bK.row)]),.int .i64 i]) (λ_=>[]) (λi=>l.length-i) (λi=>i<=l.length) hc hb 0 (A5 _) ?_ ?_;.exact aO
 rintro i hi;by_cases q:i<l.length;rotate_left;.refine zA ?_;simp[go_sem,q];exact wR
 have ei:=zO q om;obtain⟨r,hy⟩:∃y,l[i]=y:=⟨_,rfl⟩;have hr:=hw r (hy▸A9 q);refine zA ?_;simp[go_sem,q];refine yA [] 0 rfl kR kR ?_;simp[go_sem,q,hy];refine zG (S:=Nat) [0,1,5,6] (λj=>[.sl .ro (l.map λr=>[V.sl .ro (r.map bK.row)]),.sl .ro (l.map λr=>[V.sl .ro (r.map bK.row)]),.int .i64 i,.int .i64 j]) (λ_=>[]) (λj=>r.length-j) (λj=>j<=r.length) hc hb 0 (A5 _) ?_ ?_;.exact aO
 rintro j hj;by_cases qj:j<r.length;rotate_left;.refine zA ?_;simp[go_sem,q,hy,qj,ei];exact zH (i+1) ⟨om,om,aO⟩
 have ej:=zO qj om;obtain⟨⟨vk,vn,vs⟩,hv⟩:∃y,r[j]=y:=⟨_,rfl⟩;refine zA ?_;simp[go_sem,q,hy,qj];refine yA [] 0 rfl kR kR ?_;simp[go_sem,q,hy,qj,hv,bK.row,ej];exact zH (j+1) ⟨om,om,aO⟩
theorem wa3(er ix:Int)(outs:List Ot)(hl:outs.length<=100000)(hw:∀x∈outs,x.rows.length<=100000/\∀r∈x.rows,r.length<=100000):Pure prog 21 [.agg (kX (er,ix,outs)),.agg (kX (er,ix,outs))] (.bool true):=by
 refine iV 0 func21 ntmps21 results21 λc hc hb=>?_;refine zA ?_;simp[go_sem,kX];refine zG (S:=Nat) [2,3,5] (λi=>[.ptr 0 0,.ptr 1 0,.int .i64 i]) (λ_=>[.box (kX (er,ix,outs)),.box (kX (er,ix,outs))]) (λi=>outs.length-i) (λi=>i<=outs.length) hc hb 0 (A5 _) ?_ ?_;.exact sI (by simp[kX]) sM sg
 rintro i hi;by_cases q:i<outs.length;rotate_left;.refine zA ?_;simp[go_sem,q,kX];exact wR
 have ei:=zO q om;obtain⟨⟨cn,rs⟩,hy⟩:∃y,outs[i]=y:=⟨_,rfl⟩;obtain⟨h1,h2⟩:=hw ⟨cn,rs⟩ (hy▸A9 q);have hs:=xm4 rs h1 h2;refine zA ?_;simp[go_sem,q,kX];refine Hf [(12,3),(13,3)] 2 10 sM kR (by rw[hc];exact A5 _) hb kR rfl (by repeat'(first|exact jr.iI|refine jr.ft ?_ (by simp[hZ,iu,cV,cR]))) (by simp only[Bx,D2];exact rfl) (by simp only[C7,B1];exact rfl) ?_;simp[go_sem,q,hy,Ot.row];refine⟨by repeat'(first|exact jr.iI|refine jr.ft ?_ (by simp[hZ,iu,cV,cR])),?_⟩;refine pC hs ?_;simp[go_sem,ei];exact zH (i+1) ⟨om,om,aN 2 (by simp[bS,cV,cR])⟩
theorem xg6{data:alW}(h:mJ p.1 p.2 data):data.length<=20000:=by obtain⟨h1,h2⟩:=Xr h;obtain⟨tn,T,_,hT,hm⟩:=h1.jV;have hL:=HN ((by decide:∀T∈bO,T.cw.length<=20) T (by grind)) h1.ok hm;have:=P5 hL (eM bO (ga p.1).1 data).1.length;rw[show tE (eM bO (ga p.1).1 data).1 (eM bO (ga p.1).1 data).1.length=data from h2]at this;omega
theorem X6{T:bL}{row:List bK}:∀{l:List bJ}{acc:List bK},(fa T row l acc).1.length<=acc.length+l.length
 |[],acc=>by grind[fa]|e::l,acc=>by
  rw[fa];split;.simp
  .refine Ax X6 ?_;simp;omega
theorem Re{T:bL}{l:List Ln}:∀{xs:List de}{acc:List bK},(sx T l xs acc).1.length<=acc.length+xs.length
 |[],acc=>by grind[sx]|x::xs,acc=>by
  rw[sx];split
  .split;.simp
   .refine Ax Re ?_;simp;omega
  .refine Ax Re ?_;simp;omega
def mz(N:Nat)(rs:List (List bK)):Prop:=rs.length<=N/\∀r∈rs,r.length<=100
theorem X7{T:bL}{items:List de}(hi:items.length<=100):∀{l:List Ln}{acc:List (List bK)}{N:Nat},(∀x∈l,x.v.length<=100)->mz N acc->mz (N+l.length) (qo T items l acc).1
 |[],acc,N,_,h=>by simpa|x::l,acc,N,hl,h=>by
  have aa:∀y∈l,y.v.length<=100:=(by grind);have step:∀r:List bK,r.length<=100->mz (N+(x::l).length) (qo T items l (acc++[r])).1:=λr hr=>by
   have h2:mz (N+1) (acc++[r]):=⟨by have:=h.1;grind,λy hy=>by
    rcases Ai.1 hy with hy|hy;.exact h.2 y hy
    grind⟩;have h3:=X7 hi aa h2 (T:=T);grind
  rw[qo];split;.grind
  .split;.exact⟨sM,sM⟩
   grind[X6]
theorem wo1(hi:st.items.length<=100)(hl:∀x∈l,x.v.length<=100):mz (1+l.length) (ml T st l).1.rows:=by
 have none_:mz (1+l.length) []:=⟨sM,sM⟩;unfold ml;split
 .split;.omega
  .refine⟨sM,λr hr=>?_⟩;grind[Re]
 .obtain⟨m,hm⟩:=eX (mj st.bV (if 0<=dg T st.order then qn (dg T st.order).toNat st.down l else l));rw[hm];simp only;have aa:(∀x∈m,x∈l)/\m.length<=l.length:=by
   have h0:∀k:List Ln,(∀x∈k,x∈l)/\k.length<=l.length->(∀x∈mj st.bV k,x∈l)/\(mj st.bV k).length<=l.length:=(by grind[mj]);rw[<-hm];refine h0 _ ?_;split;.exact⟨(by grind[Q3]),by rw[(Q3 _ _ _).length_eq];omega⟩
   simp
  split;.omega
  .have h:=X7 (T:=T) hi (l:=m) (acc:=[]) (N:=0) (by grind) (by trivial);exact⟨by have:=h.1;grind,h.2⟩
theorem xP3(aa:lq st)(hl:∀x∈l,x.v.length<=100):mz (1+l.length) (lP st l).1.rows:=by
 have none_:mz (1+l.length) []:=⟨sM,sM⟩;unfold lP;simp only;split;.grind
 split;.omega
 split;.have h:=wo1 (T:=bO.getD (xO st.table).toNat fj) (st:=st) (l:=(gE (xO st.table).toNat (bO.getD (xO st.table).toNat fj) st l).1) (by have:=aa.items.1;omega) (λx hx=>hl x (M4 x hx).1);have hlen:=XK (t:=((xO st.table).toNat:Int)) (T:=bO.getD (xO st.table).toNat fj) (st:=st) (l:=l);exact⟨Ax h.1 om,h.2⟩
 grind
theorem X8:∀{ss:List bZ}{i:Nat}{acc:List Ot}{b:Mp alW}{l:List Ln}{N:Nat},(∀x∈ss,sH x)->dd b l->l.length+20*ss.length<=N->(∀o∈acc,mz (1+N) o.rows)->(∀o∈(mm ss i acc l).1.2.2,mz (1+N) o.rows)/\(mm ss i acc l).1.2.2.length<=acc.length+ss.length
 |[],i,acc,b,l,N,_,_,_,ha=>by grind[mm]|x::ss,i,acc,b,l,N,hs,hn,hN,ha=>by
  rw[mm];have hx:=hs x (B2 ..);rw[Ah]at hN;by_cases q:(lP x l).2.2≠0;.grind
  rw[alp q];obtain⟨b',ab⟩:=XV hx hn om;have hlen:=Q9 (st:=x) (l:=l);have hr:=hx.ok.rows.1;have ho:=xP3 hx.ok (l:=l) (λy hy=>by have:=(Q2 (hn.rows y hy)).2;omega);obtain⟨h1,h2⟩:=X8 (i:=i+1) (acc:=acc++[(lP x l).1]) (N:=N) (λy hy=>hs y (Bg _ hy)) ab om (λo aa=>by
   rcases Ai.1 aa with aa|aa;.grind
   .rw[Bl]at aa;subst aa;exact⟨by have:=ho.1;omega,ho.2⟩);grind
theorem xE8(hl:lr df)(hn:dd b l)(hlen:l.length<=7500):(gb df l).1.2.2.length<=100000/\∀x∈(gb df l).1.2.2,x.rows.length<=100000/\∀r∈x.rows,r.length<=100000:=by
 have aa:=hl.stmts.1;unfold gb;by_cases q:(pq df).2≠0;.grind
 rw[alp q];obtain⟨h1,h2⟩:=X8 (ss:=df.stmts) (i:=0) (acc:=[]) (N:=10000) (by grind[Q8]) hn om sM;have h3:(mm df.stmts 0 [] l).1.2.2.length<=100000/\∀x∈(mm df.stmts 0 [] l).1.2.2,x.rows.length<=100000/\∀r∈x.rows,r.length<=100000:=⟨by grind,λx hx=>⟨by have:=(h1 x hx).1;omega,λr hr=>by have:=(h1 x hx).2 r hr;omega⟩⟩;grind
theorem wj5{N:Nat}{out:List (Int×List Wr)}{w:Wr}(h:out.length<=N/\∀q∈out,q.2.length<=N):(iF out w).length<=N+1/\∀q∈iF out w,q.2.length<=N+1:=by grind[iF,List.mem_of_getLast?,List.dropLast_subset]
theorem X9:∀{l:List Wr}{out:List (Int×List Wr)}{N:Nat},out.length<=N/\(∀q∈out,q.2.length<=N)->(l.foldl iF out).length<=N+l.length/\∀q∈l.foldl iF out,q.2.length<=N+l.length
 |[],out,N,h=>(by grind)|w::l,out,N,h=>by have h2:=X9 (l:=l) (wj5 (w:=w) h);grind
theorem Ya(aa now:List Ln):(jz aa now).length<=aa.length+now.length:=by
 have hf:∀(f:Ln->Wr)(m:List Ln)(l:List Wr),(m.foldl (λl x=>lC l (f x)) l).length=l.length+m.length:=λf m=>by induction m with|nil=>simp|cons x m ih=>intro l;rw[B7,ih,(QO _ _).length_eq,Ah,Ah];omega
 unfold jz;rw[hf (λx=>⟨x.at,false,xP x.v⟩),hf (λx=>⟨x.at,true,[]⟩)];grind
def qB(df:eF)(qY:List Ln):List (Int×List Wr):=if(gb df qY).1.1≠0then[]else nv (jz qY (gb df qY).2)
theorem xY6(hl:lr df)(hn:dd b l)(hk:pz l)(hlen:l.length<=7500):(qB df l).length<=100000/\∀q∈qB df l,q.2.length<=100000:=by
 unfold qB;by_cases q:(gb df l).1.1≠0;.grind
 rw[alp q];obtain⟨_,_,h⟩:=Rc hl hn hk om;have h2:=Ya l (gb df l).2;have h3:=X9 (l:=jz l (gb df l).2) (out:=[]) (N:=0) sM;grind[nv]
def oO:Nat->Nat->alW->alW|0,_,acc=>acc|f+1,u,acc=>if u=0then acc else oO f (u/10) ((48+UInt8.ofNat (u%10))::acc)
def oP(n:Nat):alW:=if n=0then[48]else oO 20 n []
theorem xP2(r:Nat)(h:r<10):((48:UInt8)::List.take r [49,50,51,52,53,54,55,56,57]).drop r=[(48+UInt8.ofNat r)]:=by have:r=0\/r=1\/r=2\/r=3\/r=4\/r=5\/r=6\/r=7\/r=8\/r=9:=om;rcases this with rfl|rfl|rfl|rfl|rfl|rfl|rfl|rfl|rfl|rfl<;>rfl
theorem Yb:∀(f u:Nat)(acc:alW),(oO f u acc).length<=f+acc.length
 |0,u,acc=>by rw[oO];omega|f+1,u,acc=>by
  rw[oO];split;.omega
  .have:=Yb f (u/10) ((48+UInt8.ofNat (u%10))::acc);simp only[Ah]at this;omega
theorem Yc(n:Nat):(oP n).length<=20:=by
 unfold oP;split;.decide
 .have:=Yb 20 n [];simpa using this
theorem Yd(n:Nat)(hn:n<=9223372036854775807):Pure prog 32 [.int .i64 n] (.str (oP n)):=by
 generalize hM:oP n=M;unfold oP at hM;have ret:∀(r:alW)(I:St),r=M->cz (some (.str r)) 0 (λr s=>r=.str M/\s=[]) I:=λr I h=>by subst h;exact wR
 refine iV 0 func32 ntmps32 results32 λc hc hb=>?_;refine zA ?_;simp[go_sem];by_cases q0:n=0;.rw[alq q0]at hM;simp[go_sem,q0];exact ret _ _ hM
 rw[alp q0]at hM;have ae:((n:Int)==0)=false:=sU q0;have ab:decide ((n:Int)<0)=false:=alr om;have eu:IntKind.u64.wrap (n:Int)=(n:Int):=Vx.dp om om;simp[go_sem,ae,ab,eu];refine zG (S:=Nat×alW) [0,3,4] (λu=>[.int .i64 n,.int .u64 (u.1:Int),.str u.2]) (λ_=>[]) (λu=>u.1) (λu=>u.1<=n/\∃f,u.1<10^f/\u.2.length+f<=20/\oO f u.1 u.2=M) hc hb (n,[]) ⟨A7 _,20,by simp only;omega,sM,hM⟩ ?_ ?_;.exact aO
 rintro⟨u,s⟩⟨hu,f,hf,hs,hinv⟩;simp only at hu hf hs hinv;by_cases q:u=0
 .subst q;have hinv:s=M:=by rw[<-hinv];cases f with|zero=>rfl|succ f=>rw[oO,alq rfl]
  refine zA ?_;simp[go_sem,ab];exact ret _ _ hinv
 obtain⟨f,rfl⟩:∃g,f=g+1:=by cases f with |zero=>simp at hf;omega|succ f=>exact⟨f,rfl⟩
 rw[oO,alp q]at hinv;have hq:0<u:=om;have er:(u:Int).tmod 10=((u%10:Nat):Int):=by rw[Cp om];omega
 have aa:IntKind.u64.wrap (((u%10:Nat):Int)+1)=((u%10+1:Nat):Int):=by rw[Vx.dp om om];omega
 have af:(u:Int).tdiv 10=((u/10:Nat):Int):=by rw[Ds om];omega
 have ed:IntKind.u64.wrap ((u:Int).tdiv 10)=((u/10:Nat):Int):=by rw[Ds om,Vx.dp om om];omega
 have ad:=xP2 (u%10) (Cw _ dC);obtain⟨r,hr⟩:=eX (u%10);have ai:r<10:=om;rw[hr]at er aa ad hinv;have ah:IntKind.u64.wrap ((u:Int)/10)=(u:Int)/10:=Vx.dp om om;have aj:((r:Int)).toNat=r:=Ay r;have ak:((r+1:Nat):Int).toNat=r+1:=Ay _;refine zA ?_;simp only[Int.natCast_add,C5]at aa;simp[go_sem,hq,er,aa];refine zJ om ?_;simp[go_sem,ad];refine zJ om ?_;simp[go_sem,af,ah];refine zH (u/10,(48+UInt8.ofNat r)::s) ⟨by simp only;omega,⟨by simp only;omega,f,by simp only;rw[E8]at hf;omega,by simp;omega,hinv⟩,?_⟩;exact aO
theorem Nh(k n:Int)(hk:cL k)(h1:1<=n)(h2:n<=1000):Pure prog 28 [.int .i64 k,.int .i64 n] (.int .i64 (k%n)):=by
 obtain⟨ae,af⟩:=hk;have q1:decide (n<1)=false:=alr om;have q0:¬n<1:=om;have qz:¬n=0:=om;have he:=Dq k (b:=n) om;have hl:=Db k (b:=n) om;have ht:=Int.tmod_eq_emod (a:=k) (b:=n);obtain⟨r,hr⟩:=eX (k%n);obtain⟨t,ab⟩:=eX (k.tmod n);rw[hr]at he hl ht⊢;rw[ab]at ht;have ah:((n.natAbs:Nat):Int)=n:=om;have ad:t=r\/t=r-n:=by
  split at ht;.left;omega
  .right;omega
 have et:IntKind.i64.wrap t=t:=bX om om;have er:IntKind.i64.wrap r=r:=bX om om;have ret:∀(v:Int)(I:St),v=r->cz (some (.int .i64 v)) 0 (λr' s=>r'=.int .i64 r/\s=[]) I:=λv I h=>by subst h;exact wR
 refine iV 0 func28 ntmps28 results28 λc hc hb=>?_;refine zA ?_;simp[go_sem,q0];refine zJ qz ?_;simp[go_sem,ab];rcases ad with e|e;.have q2:decide (t<0)=false:=alr om;have aa:¬t<0:=om;simp[go_sem,aa];exact ret _ _ e
 .have q2:decide (t<0)=true:=als om;have aa:t<0:=om;have e3:t+n=r:=om;simp[go_sem,aa,e3,er];exact wR
def nA(k:Int):alW:=if k.tmod 41=40then[57,50,50,51,51,55,50,48,51,54,56,53,52,55,55,53,56,48,55]else oP (k%12).toNat
theorem Ye(k:Int):(nA k).length<=20:=by
 unfold nA;split;.decide
 .exact Yc _
def wF2:alW:=[57,50,50,51,51,55,50,48,51,54,56,53,52,55,55,53,56,48,55]
def Kf:List alW:=wF2::(List.range 12).map oP
theorem Yf(k:Int):nA k∈Kf:=by
 unfold nA;split;.exact B2 ..
 .exact Bg _ (Ab.2 ⟨(k%12).toNat,Cs.2 om,rfl⟩)
theorem Yg(k:Int)(hk:cL k):Pure prog 82 [.int .i64 k] (.str (nA k)):=by
 have hp:=Nh k 12 hk dC dC;have hd:=Yd (k%12).toNat om;rw[show(((k%12).toNat:Nat):Int)=k%12by omega]at hd;obtain⟨aa,ab⟩:=hk;have ht:=Int.tmod_eq_emod (a:=k) (b:=41);have et:IntKind.i64.wrap (k.tmod 41)=k.tmod 41:=by have:=Dq k (b:=41) dC;have:=Db k (b:=41) dC;split at ht<;>exact bX om om
 generalize hM:nA k=M;unfold nA at hM;obtain⟨u,hu⟩:=eX (k.tmod 41);rw[hu]at et hM;clear ht;have ret:∀(v:alW)(I:St),v=M->cz (some (.str v)) 0 (λr' s=>r'=.str M/\s=[]) I:=λv I h=>by subst h;exact wR
 refine iV 0 func82 ntmps82 results82 λc hc hb=>?_;refine zA ?_;by_cases q:u=40;.rw[alq q]at hM;have q':(u==40)=true:=sU q;simp[go_sem,hu,q'];exact ret _ _ hM
 .rw[alp q]at hM;have q':(u==40)=false:=sU q;simp[go_sem,hu,q'];refine pC hp ?_;simp[go_sem];refine pC hd ?_;simp[go_sem];exact ret _ _ hM
def Yh:List alW:=[[39,97,39],[39,98,39],[39,99,39],[39,100,39],[39,101,39]]
theorem wy4(k:Int)(hk:cL k):∃t:alW,t.length<=20/\Pure prog 83 [.int .i64 k] (.str t)/\t∈Yh:=by
 have hp:=Nh k 5 hk dC dC;have h0:=Dq k (b:=5) dC;have h1:=Db k (b:=5) dC;obtain⟨r,hr⟩:=eX (k%5);rw[hr]at hp h0 h1;have:r=0\/r=1\/r=2\/r=3\/r=4:=om;have walk:∀r:Int,(r=0\/r=1\/r=2\/r=3\/r=4)->Pure prog 28 [.int .i64 k,.int .i64 5] (.int .i64 r)->Pure prog 83 [.int .i64 k] (.str [39,97+UInt8.ofNat r.toNat,39]):=λr aa hp=>by refine iV 0 func83 ntmps83 results83 λc hc hb=>?_;refine zA ?_;simp[go_sem];refine pC hp ?_;rcases aa with rfl|rfl|rfl|rfl|rfl;all_goals simp[go_sem];refine zJ (λx hx=>⟨_,Bl.1 hx⟩) ?_;simp[go_sem,vL];exact wR
 exact⟨_,sM,walk r this hp,by rcases this with rfl|rfl|rfl|rfl|rfl<;>decide⟩
def Yi:List alW:=[[84,82,85,69],[70,65,76,83,69]]
theorem wc4(k:Int)(_hk:cL k):∃t:alW,t.length<=20/\Pure prog 84 [.int .i64 k] (.str t)/\t∈Yi:=by
 have ht:=Int.tmod_eq_emod (a:=k) (b:=2);have et:IntKind.i64.wrap (k.tmod 2)=k.tmod 2:=by have:=Dq k (b:=2) dC;have:=Db k (b:=2) dC;split at ht<;>exact bX om om
 obtain⟨u,hu⟩:=eX (k.tmod 2);rw[hu]at et;clear ht;by_cases q:u=0;.refine⟨[84,82,85,69],dC,?_,dC⟩;have q':(u==0)=true:=sU q;refine iV 0 func84 ntmps84 results84 λc hc hb=>?_;refine zA ?_;simp[go_sem,hu,q'];exact wR
 .refine⟨[70,65,76,83,69],dC,?_,dC⟩;have q':(u==0)=false:=sU q;refine iV 0 func84 ntmps84 results84 λc hc hb=>?_;refine zA ?_;simp[go_sem,hu,q'];exact wR
def Yj:List alW:= [[48],[49]]
def HT(r n g v b:alW):Nat->alW|0=>[73,78,83,69,82,84,32,73,78,84,79,32,84,32,86,65,76,85,69,83,32,40]++r++[44,32]++n++[44,32,39,118]++v++[39,44,32]++v++[41]|1=>[73,78,83,69,82,84,32,73,78,84,79,32,84,32,86,65,76,85,69,83,32,40]++r++[44,32]++n++[44,32,39,118]++v++[39,44,32]++v++[41]|2=>[73,78,83,69,82,84,32,73,78,84,79,32,71,32,86,65,76,85,69,83,32,40]++g++[44,32]++v++[44,32,78,85,76,76,41]|3=>[85,80,68,65,84,69,32,84,32,83,69,84,32,78,32,61,32,78,32,43,32]++v++[32,87,72,69,82,69,32,75,32,61,32]++n|4=>[85,80,68,65,84,69,32,84,32,83,69,84,32,78,32,61,32]++v++[44,32,86,32,61,32,39,120,39,32,87,72,69,82,69,32,82,32,61,32]++r++[32,65,78,68,32,75,32,62,61,32]++n|5=>[85,80,68,65,84,69,32,71,32,83,69,84,32,78,32,61,32,78,32,42,32]++v++[32,87,72,69,82,69,32,75,32,61,32]++g|6=>[68,69,76,69,84,69,32,70,82,79,77,32,84,32,87,72,69,82,69,32,75,32,60,32]++v|7=>[68,69,76,69,84,69,32,70,82,79,77,32,71,32,87,72,69,82,69,32,75,32,61,32]++g|8=>[83,69,76,69,67,84,32,42,32,70,82,79,77,32,84]|9=>[83,69,76,69,67,84,32,75,44,32,78,32,43,32,49,32,70,82,79,77,32,84,32,87,72,69,82,69,32,82,32,61,32]++r++[32,79,82,68,69,82,32,66,89,32,78,32,68,69,83,67,32,76,73,77,73,84,32]++v|10=>[83,69,76,69,67,84,32,42,32,70,82,79,77,32,71]|11=>[83,69,76,69,67,84,32,67,79,85,78,84,40,42,41,44,32,83,85,77,40,78,41,32,70,82,79,77,32,84,32,87,72,69,82,69,32,75,32,60,62,32]++n|12=>[83,69,76,69,67,84,32,42,32,70,82,79,77,32,71,32,87,72,69,82,69,32,75,32,61,32]++g|13=>[73,78,83,69,82,84,32,73,78,84,79,32,72,32,86,65,76,85,69,83,32,40]++b++[44,32]++v++[41]|14=>[85,80,68,65,84,69,32,72,32,83,69,84,32,78,32,61,32,78,32,45,32]++v|15=>[83,69,76,69,67,84,32,83,85,77,40,78,32,47,32]++v++[41,32,70,82,79,77,32,72]|16=>[73,78,83,69,82,84,32,73,78,84,79,32,84,32,86,65,76,85,69,83,32,40]++r++[44,32]++n++[44,32,78,85,76,76,44,32]++v++[41,44,32,40,49,44,32]++v++[44,32,39,116,119,111,39,44,32,78,85,76,76,41]|17=>[83,69,76,69,67,84,32,78,32,70,82,79,77,32,84,32,87,72,69,82,69,32,75,32,61,32]++n|18=>[85,80,68,65,84,69,32,71,32,83,69,84,32,78,32,61,32,78,32,43,32,49,44,32,66,32,61,32,78,32,62,32]++v|_=>[83,69,76,69,67,84,32,86,32,70,82,79,77,32,84,32,87,72,69,82,69,32,78,32,73,83,32,78,85,76,76,32,79,82,32,75,32,62,61,32]++n++[32,79,82,68,69,82,32,66,89,32,86]
theorem wo7{r n g v b:alW}(hr:r.length<=20)(hn:n.length<=20)(hg:g.length<=20)(hv:v.length<=20)(hb:b.length<=20)(k:Nat):(HT r n g v b k).length<=300:=by unfold HT;split<;>simp<;>omega
def Yk(t:alW):Prop:=∃r∈Yj,∃n∈Kf,∃g∈Yh,∃v∈Kf,∃b∈Yi,∃w<20,t=HT r n g v b w
theorem Yl(a:gW)(ha:a.ok):∃t:alW,t.length<=300/\Pure prog 31 [.agg a.row] (.str t)/\Yk t:=by
 have hw:=Nh a.l7 20 ha.l7 dC dC;have ah:=Nh a.a 2 ha.a dC dC;have ad:=Yd (a.a%2).toNat om;rw[show(((a.a%2).toNat:Nat):Int)=a.a%2by omega]at ad;have ai:=Yg a.b ha.b;have aj:=Yg a.c ha.c;obtain⟨g,av,hg,ak⟩:=wy4 a.b ha.b;obtain⟨tr,aw,ht,al⟩:=wc4 a.a ha.a;have h0:=Dq a.l7 (b:=20) dC;have h1:=Db a.l7 (b:=20) dC;obtain⟨w,an⟩:∃w:Nat,a.l7%20=w:=⟨(a.l7%20).toNat,om⟩;have ae:w<20:=om;rw[an]at hw;clear an h0 h1;obtain⟨r,hr⟩:=eX (oP (a.a%2).toNat);have ax:r.length<=20:=by rw[<-hr];exact Yc _
 rw[hr]at ad;have af:r∈Yj:=by have:(a.a%2).toNat=0\/(a.a%2).toNat=1:=om;rcases this with h|h<;>rw[<-hr,h]<;>decide
 obtain⟨rm,ao⟩:=eX (a.a%2);rw[ao]at ah ad;clear hr ao;obtain⟨n,hn⟩:=eX (nA a.b);have ay:n.length<=20:=by rw[<-hn];exact Ye _
 rw[hn]at ai;have aq:n∈Kf:=by rw[<-hn];exact Yf _
 clear hn;obtain⟨v,hv⟩:=eX (nA a.c);have az:v.length<=20:=by rw[<-hv];exact Ye _
 rw[hv]at aj;have ar:v∈Kf:=by rw[<-hv];exact Yf _
 clear hv ha;obtain⟨wh,aa,ab,ac⟩:=a;simp only at hw ah ai aj hg ht;refine⟨HT r n g v tr w,wo7 ax ay av az aw w,?_,r,af,n,aq,g,ak,v,ar,tr,al,w,ae,rfl⟩;clear af aq ak ar al;obtain⟨M,hM⟩:=eX (HT r n g v tr w);rw[hM];have ret:∀(x:alW)(I:St),x=M->cz (some (.str x)) 0 (λr s=>r=.str M/\s=[]) I:=λx I h=>by subst h;exact wR
 refine iV 0 func31 ntmps31 results31 λc hc hb=>?_;refine zA ?_;simp[go_sem];refine yA [(2,0),(3,0),(6,0),(9,0)] 1 rfl kR kR ?_;simp[go_sem];refine pD ah ?_;simp[go_sem];refine pD ad ?_;simp[go_sem];refine pD ai ?_;simp[go_sem];refine pD hg ?_;simp[go_sem];refine pC aj ?_;simp[go_sem];refine pC hw ?_;have au:w=0\/w=1\/w=2\/w=3\/w=4\/w=5\/w=6\/w=7\/w=8\/w=9\/w=10\/w=11\/w=12\/w=13\/w=14\/w=15\/w=16\/w=17\/w=18\/w=19:=om;clear hw ae;rcases au with rfl|rfl|rfl|rfl|rfl|rfl|rfl|rfl|rfl|rfl|rfl|rfl|rfl|rfl|rfl|rfl|rfl|rfl|rfl|rfl;all_goals
  simp[go_sem];try(refine pC ht ?_;simp[go_sem])
  repeat(refine zJ (by first|omega|(simp;omega)) ?_;simp[go_sem])
  exact ret _ _ (by rw[<-hM];simp[HT])
end Go.Proofs.YtegbonbgofjlcaaGreat
namespace Go.Proofs.YtegbonbgofjlcaaGreat
open Go Go.Vx R Go.Proofs.Tryz
set_option maxRecDepth 100000
open Classical in
noncomputable def qC(a:gW):alW:=if h:a.ok then Classical.choose (Yl a h)else[]
theorem Ym{a:gW}(h:a.ok):(qC a).length<=300/\Pure prog 31 [.agg a.row] (.str (qC a))/\Yk (qC a):=by unfold qC;rw[dif_pos h];exact Classical.choose_spec (Yl a h)
noncomputable def xi:List gW->Nat->alW->alW |[],_,s=>s|a::l,i,s=>if i<3then xi l (i+1) ((if 0<i then s++[59,32]else s)++qC a)else s
theorem Yn:∀{l:List gW}{i:Nat}{s:alW},(∀a∈l,a.ok)->i<=3->(xi l i s).length<=s.length+302*(3-i)
 |[],i,s,_,_=>by rw[xi];omega|a::l,i,s,h,hi=>by
  rw[xi];split
  .rename_i q;have ha:=(Ym (h a (B2 ..))).1;refine Ax (Yn (λx hx=>h x (Bg _ hx)) om) ?_;rw[Al];have:(if 0<i then s++[59,32]else s).length<=s.length+2:=by split<;>simp
   omega
  .omega
noncomputable def AA(l:List gW):alW:=if xi l 0 []=[]then[83,69,76,69,67,84,32,42,32,70,82,79,77,32,71]else xi l 0 []
theorem xJ9{l:List gW}(h:∀a∈l,a.ok):(AA l).length<=2000:=by
 unfold AA;have:=Yn (s:=[]) h (A5 3);split;.decide
 .simp at this;omega
theorem wB8(l:List gW)(_hl:l.length<=maxLen)(cZ:∀a∈l,a.ok):Pure prog 11 [.sl .ro (l.map gW.row),.int .i64 0,.int .i64 0] (.str (AA l)):=by
 obtain⟨M,hM⟩:=eX (AA l);rw[hM];unfold AA at hM;obtain⟨T,hT⟩:=eX (xi l 0 []);rw[hT]at hM;have ret:∀(x:alW)(I:St),x=M->cz (some (.str x)) 0 (λr s=>r=.str M/\s=[]) I:=λx I h=>by subst h;exact wR
 refine iV 0 func11 ntmps11 results11 λc hc hb=>?_;refine zA ?_;simp[go_sem];refine zG (S:=Nat×alW) [0,1,7,8] (λu=>[.sl .ro (l.map gW.row),.int .i64 0,.str u.2,.int .i64 u.1]) (λ_=>[]) (λu=>l.length-u.1) (λu=>u.1<=l.length/\u.1<=3/\u.2.length<=302*u.1/\xi (l.drop u.1) u.1 u.2=T) hc hb (0,[]) ⟨A5 _,A5 _,A5 _,hT⟩ ?_ ?_;.exact aO
 rintro⟨i,s⟩⟨hi,af,hs,hinv⟩;simp only at hi af hs hinv;by_cases q:i<l.length/\i<3;rotate_left
 .have ab:s=T:=by
   by_cases q1:i<l.length;.rw[A4 q1,xi,alp om]at hinv;exact hinv
   .rw[A8 om]at hinv;exact hinv
  refine zA ?_;by_cases q1:i<l.length
  .have q3:¬i<3:=om;have ad:decide ((i:Int)<3)=false:=alr om;simp[go_sem,q1,ad];by_cases q0:s=[];.have aa:s.isEmpty:=sU q0;rw[alq (by rw[<-ab];exact q0)]at hM;simp[go_sem,aa];exact ret _ _ hM
   .have aa:s.isEmpty=false:=sU q0;rw[alp (by rw[<-ab];exact q0)]at hM;simp[go_sem,aa];exact ret _ _ (by rw[ab];exact hM)
  .simp[go_sem,q1];by_cases q0:s=[];.have aa:s.isEmpty:=sU q0;rw[alq (by rw[<-ab];exact q0)]at hM;simp[go_sem,aa];exact ret _ _ hM
   .have aa:s.isEmpty=false:=sU q0;rw[alp (by rw[<-ab];exact q0)]at hM;simp[go_sem,aa];exact ret _ _ (by rw[ab];exact hM)
 obtain⟨q1,q3⟩:=q;have ei:=zO q3 om;have ad:decide ((i:Int)<3)=true:=als om;obtain⟨a,ha⟩:=eX (l[i]);obtain⟨ah,ae,_⟩:=Ym (cZ a (ha▸A9 q1));rw[A4 q1,ha,xi,alq q3]at hinv;by_cases q0:0<i;.have aa:decide (0<(i:Int))=true:=als om;rw[alq q0]at hinv;refine zA ?_;simp[go_sem,q1,ad,q0];refine zJ (by first|omega|(simp;omega)) ?_;simp[go_sem,q1,ha];refine pC ae ?_;simp[go_sem];refine zJ (by first|omega|(simp;omega)) ?_;simp[go_sem,ei];exact zH (i+1,s++[59,32]++qC a) ⟨by show l.length-(i+1)<l.length-i;omega,⟨q1,q3,by simp;omega,hinv⟩,aO⟩
 .have aa:decide (0<(i:Int))=false:=alr om;rw[alp q0]at hinv;refine zA ?_;simp[go_sem,q1,ad,q0];simp[go_sem,ha];refine pC ae ?_;simp[go_sem];refine zJ (by first|omega|(simp;omega)) ?_;simp[go_sem,ei];exact zH (i+1,s++qC a) ⟨by show l.length-(i+1)<l.length-i;omega,⟨q1,q3,by simp;omega,hinv⟩,aO⟩
end Go.Proofs.YtegbonbgofjlcaaGreat
namespace Go.Proofs.YtegbonbgofjlcaaGreat
open Go Go.Vx R Go.Proofs.Tryz
set_option maxRecDepth 100000
section
variable {c:Pl->Bool}
end
theorem xV8{r:Int}{x:ca}{uJ:US}:∀y∈mI r x uJ,y.1=r\/∃z∈uJ,y.1=z.1:=λy hy=>by
 unfold mI at hy;split at hy;.exact .inr ⟨y,hy,rfl⟩
 unfold jw at hy;split at hy;.obtain⟨i,hi⟩:=Aq.1 hy;rw[List.getElem?_modify]at hi;cases e:uJ[i]?with |none=>rw[e]at hi;cases hi|some z=>rw[e]at hi;refine .inr ⟨z,Bp e,?_⟩;simp only[Option.map_eq_map,Bf,alu]at hi;rw[<-hi];split<;>rfl
 .rcases Ai.1 hy with hy|hy;.exact .inr ⟨y,B6 hy,rfl⟩
  .rcases Af.1 hy with rfl|hy;.exact .inl rfl
   .exact .inr ⟨y,Bz hy,rfl⟩
theorem Yo:∀{ps:List (Int×ca)}{uJ:US},∀y∈oK ps uJ,(∃p∈ps,y.1=p.1)\/∃z∈uJ,y.1=z.1
 |[],uJ,y,hy=>.inr ⟨y,hy,rfl⟩|p::ps,uJ,y,hy=>by
  rcases Yo (ps:=ps) (uJ:=mI p.1 p.2 uJ) y hy with⟨q,hq,e⟩|⟨z,hz,e⟩;.exact .inl ⟨q,Bg _ hq,e⟩
  .rcases xV8 z hz with h|⟨w,hw,h⟩;.exact .inl ⟨p,B2 ..,by rw[e,h]⟩
   .exact .inr ⟨w,hw,by rw[e,h]⟩
theorem Yp(t g:Int):0<=(xJ t g).1/\(xJ t g).1<4:=by
 unfold xJ;repeat' split
 all_goals decide
theorem wo8{st:bZ}:∀p∈qX st,0<=p.1/\p.1<4:=λp hp=>by
 unfold qX at hp;split at hp;.cases hp
 split at hp
 .obtain⟨r,_,hp⟩:=List.mem_flatMap.1 hp;unfold qf at hp;split at hp;.cases hp
  split at hp;.cases hp
  split at hp;.cases hp
  split at hp;.cases hp
  split at hp;.cases hp
  .rw[Bl.1 hp];exact Yp _ _
 .obtain⟨g,_,rfl⟩:=Ab.1 hp;exact Yp _ _
theorem Rf(df:eF):∀y∈nR df,0<=y.1/\y.1<4:=λy hy=>by
 have hU:nR df=oK (df.stmts.flatMap qX) []:=JR df.stmts [];rw[hU]at hy;rcases Yo y hy with⟨p,hp,e⟩|⟨z,hz,_⟩;.obtain⟨st,_,hp⟩:=List.mem_flatMap.1 hp;rw[e];exact wo8 p hp
 .cases hz
theorem Yq:∀{ps:List (Int×ca)}{uJ:US}{n:Nat},Bd n uJ->Bd (n+ps.length) (oK ps uJ)
 |[],_,_,h=>h|p::ps,uJ,n,h=>by have:=Yq (ps:=ps) (h.eP p.1 p.2);rw[Ah,show n+(ps.length+1)=n+1+ps.length by omega];exact this
theorem Ni{U J:Type}{f:U->List J}{n:Nat}:∀{l:List U},(∀x∈l,(f x).length<=n)->(l.flatMap f).length<=n*l.length
 |[],_=>by simp|x::l,h=>by have h1:=h x (B2 ..);have h2:=Ni (l:=l) λy hy=>h y (Bg _ hy);rw[Br,Al,Ah,Nat.mul_add];omega
theorem wo9{st:bZ}(hs:lq st):(qX st).length<=20:=by
 unfold qX;split;.simp
 split
 .refine Ax (Ni (n:=1) λr _=>?_) (by have:=hs.rows.1;omega);unfold qf;repeat' split
  all_goals simp
 .rw[Au];unfold wJ;repeat' split
  .exact Ax (Qg _ _) dC
  all_goals simp
theorem Yr{df:eF}(hl:lr df):∀y∈nR df,y.2.length<=1000:=λy hy=>by have hU:nR df=oK (df.stmts.flatMap qX) []:=JR df.stmts [];have h1:=Ni (n:=20) (l:=df.stmts) (f:=qX) λst aa=>wo9 (hl.stmts.2 st aa);have h2:=(Yq (ps:=df.stmts.flatMap qX) (uJ:=[]) (n:=0) ⟨A5 _,λy hy=>by cases hy⟩).2 y (by rw[<-hU];exact hy);have:=hl.stmts.1;omega
structure oQ(Q:List (Int×List Wr)):Prop where
 dN:∀q∈Q,0<=q.1/\q.1<=3/\q.2≠[]up:Q.Pairwise λa b=>a.1<b.1keys:∀q∈Q,q.2.Pairwise λa b=>Op.bytesLess a.p.2 b.p.2=true
 wr:∀q∈Q,∀w∈q.2,(w.drop=true->w.data=[])/\(w.drop=false->mJ q.1 w.p.2 w.data=true)
theorem Nj(l:List Wr)(r:Int):(ir l r).Pairwise λa b=>a.1<b.1:=by unfold ir;split<;>simp
theorem Ys{l:List Wr}{r:Int}{q:Int×List Wr}(h:q∈ir l r):q=(r,l.filter λw=>w.p.1==r)/\q.2≠[]:=by
 unfold ir at h;split at h;.cases h
 .rename_i e;simp at h;subst h;exact⟨rfl,e⟩
theorem wi8(l:List Wr):(ir l 0++(ir l 1++(ir l 2++ir l 3))).Pairwise λa b=>a.1<b.1:=by
 simp only[Bw,Ai];refine⟨Nj ..,⟨Nj ..,⟨Nj ..,Nj ..,λa ha b hb=>?_⟩,λa ha b hb=>?_⟩,λa ha b hb=>?_⟩;.rw[xe a ha,xe b hb];decide
 .rw[xe a ha];rcases hb with hb|hb<;>rw[xe b hb]<;>decide
 .rw[xe a ha];rcases hb with hb|hb|hb<;>rw[xe b hb]<;>decide
theorem jy{df:eF}(hl:lr df){b:Mp alW}{aa:List Ln}(hn:dd b aa)(hk:pz aa):oQ (qB df aa):=by
 unfold qB;by_cases e:(gb df aa).1.1≠0;.rw[alq e];exact⟨λq h=>(by cases h),List.Pairwise.nil,λq h=>(by cases h),λq h=>(by cases h)⟩
 rw[alp e];obtain⟨⟨b',ab⟩,af,_⟩:=Rc hl hn hk (sU e);obtain⟨now,hN⟩:=eX ((gb df aa).2);rw[hN]at ab af⊢;have ah:=X5 hn.rows ab.rows hn.jA ab.jA rfl;obtain⟨hr,ai⟩:=M8 hn.jA ab.jA;obtain⟨W,hW⟩:=eX (jz aa now);rw[hW]at ah hr ai⊢;rw[Xq hr ah];have ad:∀q∈ir W 0++(ir W 1++(ir W 2++ir W 3)),∃r:Int,0<=r/\r<=3/\q=(r,W.filter λw=>w.p.1==r)/\q.2≠[]:=λq hq=>by simp only[Ai]at hq;rcases hq with h|h|h|h<;>exact⟨_,dC,dC,Ys h⟩
 refine⟨λq hq=>?_,wi8 W,λq hq=>?_,λq hq w hw=>?_⟩;.obtain⟨r,h0,h3,rfl,ae⟩:=ad q hq;exact⟨h0,h3,ae⟩
 .obtain⟨r,h0,h3,rfl,ae⟩:=ad q hq;refine(List.Pairwise.and_mem.1 (List.Pairwise.sublist C8 hr)).imp λ{x y}h=>?_;obtain⟨hx,hy,aj⟩:=h;have e1:x.p.1=r:=by simpa using(Bn.1 hx).2
  have e2:y.p.1=r:=by simpa using(Bn.1 hy).2
  simpa[wE,e1,e2]using aj
 .obtain⟨r,h0,h3,rfl,ae⟩:=ad q hq;obtain⟨ak,al⟩:=Bn.1 hw;have e1:w.p.1=r:=sU al;rcases(ai w).1 ak with⟨g1,g2,_⟩|⟨g1,x,hx,g2,g3,_⟩;.exact⟨λ_=>g2,λh=>by rw[g1]at h;cases h⟩
  .refine⟨λh=>(by rw[g1]at h;cases h),λ_=>?_⟩;have:=(af x hx).2;unfold zu at this;show mJ r w.p.2 w.data=true;rw[<-g3,<-e1,<-g2];exact this
theorem yU0{g:Int}{k d:alW}(h:mJ g k d):(ga g).2.2=0/\(eM bO (ga g).1 d).2=0/\fT (ga g).1.toNat (bO.getD (ga g).1.toNat fj) (eM bO (ga g).1 d).1=(g,k,0):=by unfold mJ at h;simpa only[Aa,alw]using h
end Go.Proofs.YtegbonbgofjlcaaGreat
namespace Go.Proofs.YtegbonbgofjlcaaGreat
open Go Go.Vx Go.Proofs.Tryz
set_option maxRecDepth 100000
def xj(x:eZ):Bool:=decide (x.node<1)||(decide (9<x.node)||(decide (x.attempt<0)||(decide (15<x.attempt)||(decide (x.dY<0)||(decide (1048575<x.dY)||(decide (x.seq<0)||decide (16777215<x.seq)))))))
def lF(x:eZ):Int:=if xj x=true then 0 else jF .or .i64 (jF .or .i64 (jF .or .i64 (IntKind.i64.wrap (x.node*281474976710656)) (IntKind.i64.wrap (x.dY*268435456))) (IntKind.i64.wrap (x.seq*16))) x.attempt
theorem wD6(x:eZ):Pure prog 107 [.int .i64 x.node,.int .i64 x.dY,.int .i64 x.seq,.int .i64 x.attempt] (.cC [.int .i64 (lF x),.int .i64 (if xj x=true then 1 else 0)]):=by
 obtain⟨M,hM⟩:∃M:Int×Int,(lF x,if xj x=true then(1:Int)else 0)=M:=⟨_,rfl⟩;have aa:lF x=M.1:=(by grind);have ab:(if xj x=true then(1:Int)else 0)=M.2:=(by grind);rw[aa,ab];clear aa ab;unfold lF xj at hM;have ret:∀(r q:Int)(I:St),(r,q)=M->cz (some (.cC [.int .i64 r,.int .i64 q])) 0 (λr s=>r=.cC [.int .i64 M.1,.int .i64 M.2]/\s=[]) I:=λr q I h=>by subst h;exact zQ (zC rfl) sM
 obtain⟨a,b,c,d⟩:=x;simp only at hM;refine iW 0 func107 ntmps107 results107 λc hc hb=>zM ?_;simp[go_sem];repeat'(first |(refine xG (λq=>?_) (λq=>?_)<;>simp[go_sem,q])|(refine zX (λq=>?_) (λq=>?_)<;>simp[go_sem,q]))
 all_goals exact ret _ _ _ (by rw[<-hM];clear hM ret;first|(simp[*];done)|(simp;omega))
end Go.Proofs.YtegbonbgofjlcaaGreat
namespace Go.Vx
open Go
theorem Nk(pick:alX){n0:Nat}{R:V->St->Prop}{I s:St}{v r:V}(ab:pick.Nodup)(hn:n0=0)(aa:bP (λo j=>I[j]?=some (yC (cO pick I.length) o)) s pick)(hr:cW (cO pick I.length) r v)(hR:R r s):cz (some v) n0 R I:=by subst hn;refine⟨v,rfl,v,I,pick,s,r,.refl _ _,⟨aa.length,ab,λi j o hi ho=>?_,om⟩,hr,hR⟩;obtain⟨j',ad,hr⟩:=aa.get i o ho;grind
theorem HU{N i:Nat}:cO [] N i=N+i:=by rfl
end Go.Vx
namespace Go.Proofs.YtegbonbgofjlcaaGreat
open Go Go.Vx R Go.Proofs.Tryz
set_option maxRecDepth 100000
variable {ρ:Nat->Nat}{g:Tag}
abbrev Nl:=Int×Int×List Ot
@[go_sem]def sJ(x:Nl):List V:=[.int .i64 x.1,.int .i64 x.2.1,.sl .ro (x.2.2.map Ot.row)]
structure Tx where
 id:eZ
 df:eF
 phase:Int
 at_:cT
 bump:Int
 home:Int
 bY:List cA
 jH:Nl
@[go_sem]def Tx.row(t:Tx):List V:=[.int .i64 t.id.node,.int .i64 t.id.dY,.int .i64 t.id.seq,.int .i64 t.id.attempt,.int .i64 t.df.mode,.int .i64 t.df.n,.sl .ro (t.df.stmts.map bZ.row),.int .i64 t.phase,.int .i64 t.at_.wall,.int .i64 t.at_.tie,.int .i64 t.bump,.int .i64 t.home,.sl .ro (t.bY.map cA.row),.int .i64 t.jH.1,.int .i64 t.jH.2.1,.sl .ro (t.jH.2.2.map Ot.row)]
@[go_sem]def Tx.eG(t:Tx)(v:V):List V:=[.int .i64 t.id.node,.int .i64 t.id.dY,.int .i64 t.id.seq,.int .i64 t.id.attempt,.int .i64 t.df.mode,.int .i64 t.df.n,.sl .ro (t.df.stmts.map bZ.row),.int .i64 t.phase,.int .i64 t.at_.wall,.int .i64 t.at_.tie,.int .i64 t.bump,.int .i64 t.home,v,.int .i64 t.jH.1,.int .i64 t.jH.2.1,.sl .ro (t.jH.2.2.map Ot.row)]
@[go_sem] def zT:eZ:=⟨0,0,0,0⟩
@[go_sem] def zS:cT:=⟨0,0⟩
def mx(a b:Int):Int:=if a<b then b else a
def mn(a b:Int):Int:=if b<a then b else a
theorem Yt(t:Tx){rows:List (List V)}(h:t.bY.map cA.row=rows):cW ρ (.agg t.row) (.agg (t.eG (.sl g rows))):=by subst h;unfold Tx.row Tx.eG;exact xM ⟨zF rfl,zF rfl,zF rfl,zF rfl,zF rfl,zF rfl,zY,zF rfl,zF rfl,zF rfl,zF rfl,zF rfl,zY,zF rfl,zF rfl,zY,tV⟩
theorem wp9(t:Tx){rows:List (List V)}:cW ρ (.agg (t.eG (.sl .ro rows))) (.agg (t.eG (.sl g rows))):=by unfold Tx.eG;exact xM ⟨zF rfl,zF rfl,zF rfl,zF rfl,zF rfl,zF rfl,zY,zF rfl,zF rfl,zF rfl,zF rfl,zF rfl,zY,zF rfl,zF rfl,zY,tV⟩
def AB(a:dq)(v w:V):List V:=[.int .i64 a.range,.int .i64 a.cmd.kind,.int .i64 a.cmd.cE,.int .i64 a.cmd.node,.int .i64 a.cmd.home,.int .i64 a.cmd.dh.node,.int .i64 a.cmd.dh.dY,.int .i64 a.cmd.dh.seq,.int .i64 a.cmd.dh.attempt,.int .i64 a.cmd.at_.wall,.int .i64 a.cmd.at_.tie,.int .i64 a.cmd.wall,.bool a.cmd.yes,v,w]
theorem xN0(a:dq){k:Tag}:cW ρ (.agg a.row) (.agg (AB a (.sl g (a.cmd.cj.map ca.row)) (.sl k (a.cmd.writes.map di.row)))):=by unfold dq.row AB;exact xM ⟨zF rfl,zF rfl,zF rfl,zF rfl,zF rfl,zF rfl,zF rfl,zF rfl,zF rfl,zF rfl,zF rfl,zF rfl,zF rfl,zY,zY,tV⟩
theorem Kg(a:dq){k:Tag}:jb ρ (.agg a.row) (.agg (AB a (.sl g (a.cmd.cj.map ca.row)) (.sl k (a.cmd.writes.map di.row)))):=by unfold dq.row AB;exact wH ⟨zF rfl,zF rfl,zF rfl,zF rfl,zF rfl,zF rfl,zF rfl,zF rfl,zF rfl,zF rfl,zF rfl,zF rfl,zF rfl,zY,zY,tV⟩
def sK(t:Tx):Tx:={t with phase:=4,at_:=zS,bY:=[]}
def wG(w:Wr):di:=⟨w.p.2,w.drop,w.data⟩
def vy(n:Int×List ca):cA:=⟨n.1,1,0,n.2,[],[],zT,false⟩
def xk(p:Int×List Wr):cA:=⟨p.1,2,0,[],p.2.map wG,[],zT,false⟩
@[go_sem]def Rg:fI:=⟨0,0,0,0,zT,zS,0,false,[],[]⟩
def AD(g:Int)(dh:eZ)(yes:Bool):dq:=⟨g,⟨5,0,0,0,dh,zS,0,yes,[],[]⟩⟩
def HV(t:Tx)(yes:Bool):List dq:=t.bY.map λx=>AD x.range t.id yes
def lG(t:Tx)(l:cA):Option dq:=if l.state=1then some ⟨l.range,⟨2,0,0,0,t.id,t.at_,0,false,l.cj,[]⟩⟩else if l.state=2then some ⟨l.range,⟨3,0,0,t.home,t.id,t.at_,0,false,[],l.writes⟩⟩else if l.state=3then some ⟨l.home,⟨4,0,0,0,l.dh,zS,0,false,[],[]⟩⟩else if l.state=4then some (AD l.range l.dh l.yes)else none
def Kh(t:Tx):dq:=⟨t.home,⟨4,0,0,0,t.id,t.at_,0,true,[],[]⟩⟩
def kq(t:Tx):List dq:=if t.phase=1\/t.phase=2then t.bY.filterMap (lG t)else if t.phase=3then[Kh t]else[]
def xm(w n:Int):Int:=mn w (4611686018427387904-n)+n
def ij(phase:Int)(l:cA)(r:cU):cA×Int×Bool×Bool:=if l.state=3/\r.err=0then({l with state:=4,yes:=r.yes},0,false,false)else if l.state=4/\r.err=0then({l with state:=if phase=2then 2 else 1,dh:=zT,home:=0,yes:=false},0,false,false)else if l.state=3\/l.state=4then(l,0,false,false)else if r.err=20then({l with state:=3,dh:=r.dh,home:=r.home},0,false,false)else if r.err=0then({l with state:=5,dK:=if l.state=1then r.dK else l.dK},0,false,false)else if l.state=1/\r.err=24then(l,xm r.wall 1,true,false)else if l.state=1then(l,0,false,true)else if r.err=21then(l,xm r.wall 24,true,false)else if r.err=22then(l,xm r.at_.wall 1,true,false)else if r.err=26then(l,0,true,false)else(l,0,false,false)
inductive ri where|done(bY:List cA)|wait|again(bY:List cA)(bump:Int)
def nT(t:Tx)(a:dq)(r:cU):List cA->List cA->ri
 |acc,[]=>.done acc|acc,l::ls=>if lG t l=some a then if(ij t.phase l r).2.2.1=true then .again (acc++(ij t.phase l r).1::ls) (ij t.phase l r).2.1else if(ij t.phase l r).2.2.2=true then .wait else nT t a r (acc++[(ij t.phase l r).1]) ls else nT t a r (acc++[l]) ls
def kY(a:dq):dq:={a with cmd:={a.cmd with cE:=0}}
section
variable(ag:Tx->Int->Int->Tx×List dq)(ru:Tx->Tx)
def vz(t:Tx)(bY:List cA):Tx:=if bY.any (λl=>l.state !=5)=true then{t with bY:=bY}else if t.phase=1then ru {t with bY:=bY}else{t with bY:=bY,phase:=3}
def Ki(t:Tx)(r:cU)(bV:Int):ri->Tx×List dq |.again bY b=>ag {t with bY:=bY} b bV|.wait=>(sK {t with jH:=(r.err,0,[])},[])|.done bY=>(vz ru t bY,[])
def Eb(t:Tx)(a:dq)(r:cU)(bV:Int):Tx×List dq:=if¬((kq t).any λy=>decide (y=kY a))=true\/r.err=25\/r.err=27then(t,[])else if t.phase=3then if r.err≠0then(t,[])else if r.yes=true then({t with phase:=4},HV t true)else ag t 0 bV else Ki ag ru t r bV (nT t (kY a) r [] t.bY)
end
structure kE(l:cA):Prop where range:0<=l.range/\l.range<1000cj:l.cj.length<=100000writes:l.writes.length<=100000dK:l.dK.length<=1000/\∀p∈l.dK,p.data.length<=cN
structure j7(t:Tx):Prop where
 df:lr t.df
 nB:0<=t.id.attempt/\t.id.attempt<=10bY:t.bY.length<=4ku:∀l∈t.bY,kE l
 outs:t.jH.2.2.length<=100000/\∀x∈t.jH.2.2,x.rows.length<=100000/\∀r∈x.rows,r.length<=100000
end Go.Proofs.YtegbonbgofjlcaaGreat
namespace Go.Proofs.YtegbonbgofjlcaaGreat
open Go Go.Vx R Go.Proofs.Tryz
set_option maxRecDepth 100000
def lQ(l:cA):Vw:=(l.range.toNat,l.dK.map λp=>(p.key,p.data))
def oR(t:Tx):Tx:=match qB t.df (mw (t.bY.map lQ))with |[]=>{t with jH:=(gb t.df (mw (t.bY.map lQ))).1,bY:=[],phase:=4}|p::l=>{t with jH:=(gb t.df (mw (t.bY.map lQ))).1,phase:=2,home:=p.1,bY:=(p::l).map xk}
def AE(t:Tx)(bV:Int):Tx:={t with at_:=⟨mx bV t.bump,lF t.id⟩,phase:=1,home:=0,jH:=(0,0,[]),bY:=(nR t.df).map vy}
def sL(t:Tx)(bV:Int):Tx:=if nR t.df=[]then oR (AE t bV)else AE t bV
def xn(t:Tx)(bump bV:Int):Tx×List dq:=(if 10<=t.id.attempt+1then sK {t with bump:=mx t.bump bump,id:={t.id with attempt:=t.id.attempt+1},jH:=(28,0,[])}else sL {t with bump:=mx t.bump bump,id:={t.id with attempt:=t.id.attempt+1}} bV,if t.phase=1then[]else HV t false)
def sN:=Eb xn oR
def sO(id:eZ)(l:eF)(bV:Int):Tx:=if l.mode≠0then⟨{id with attempt:=0},l,4,zS,0,0,[],(1,0,[])⟩else if(pq l).2≠0then⟨{id with attempt:=0},l,4,zS,0,0,[],(gb l []).1⟩else sL ⟨{id with attempt:=0},l,0,zS,0,0,[],(0,0,[])⟩ bV
end Go.Proofs.YtegbonbgofjlcaaGreat
namespace Go.Proofs.YtegbonbgofjlcaaGreat
open Go Go.Vx Go.Proofs.Tryz
set_option maxRecDepth 100000
theorem Yu(fn:FuncId)(aa:xI prog fn)(rows:List (List V))(hl:rows.length<=2000000)(hu:eU 6 rows)(ab:∀r∈rows,gY (.agg r)=true/\o8 (.agg r)=true/\r.map lS=r)(hx:∀r∈rows,Pure prog fn [.agg r] (.agg r)):Pure prog 99 [.sl .ro rows,.fn fn []] (.sl .ro rows):=by
 refine iV 0 func99 ntmps99 results99 λc hc hb=>?_;refine zA ?_;simp[go_sem];refine wQ 5 6 dC (by rfl) ?_;refine zG (S:=Nat×List (List V)) [1,5,8,9,10] (λu=>[.fn fn [],.sl (.app 0) u.2,.sl .ro rows,.int .i64 rows.length,.int .i64 u.1]) (λu=>[.app u.2.length 6]) (λu=>rows.length-u.1) (λu=>u.1<=rows.length/\u.2=rows.take u.1) hc hb (0,[]) sM ?_ ?_;.exact bU 1 (by rfl) rfl rfl dC (zD (by rfl) rfl)
 rintro⟨i,out⟩⟨hi,ho⟩;simp only at hi ho;have ai:out.length=i:=by grind
 by_cases q:i<rows.length;rotate_left
 .have h2:out=rows:=by grind
  refine zA ?_;simp[go_sem,q];exact zQ (by rw[h2];exact zK) sM
 have ei:=zO q om;obtain⟨r,hy⟩:∃y,rows[i]=y:=⟨_,rfl⟩;have hr:r∈rows:=(by grind);have hw:=hu r hr;have hn:=ab r hr;have ad:=hx r hr;have ae:out++[r]=rows.take (i+1):=by grind[Ac]
 obtain⟨hn,af,ah⟩:=hn;have ht:r.take 6=r:=(by grind);refine zA ?_;simp[go_sem,q,hy,hw,ht];refine zL ad aa ⟨zC hn,tV⟩ hn ?_;simp[go_sem];refine zJ ⟨by simpa[go_sem]using af,hw⟩ ?_;simp[go_sem,ah];refine zJ (by grind[zZ]) ?_;simp[go_sem,ei];exact zH (i+1,out++[r]) ⟨om,⟨q,ae⟩,bU 1 sM rfl rfl dC (zD (by rfl) rfl)⟩
theorem xg9(fn:FuncId)(aa:xI prog fn)(rows:List (List V))(hl:rows.length<=100000)(hu:eU 15 rows)(ab:∀r∈rows,gY (.agg r)=true/\o8 (.agg r)=true/\r.map lS=r)(hx:∀r∈rows,Pure prog fn [.agg r] (.agg r)):Pure prog 92 [.sl .ro rows,.fn fn []] (.sl .ro rows):=by
 refine iV 0 func92 ntmps92 results92 λc hc hb=>?_;refine zA ?_;simp[go_sem];refine wQ 5 15 dC (by rfl) ?_;refine zG (S:=Nat×List (List V)) [1,5,8,9,10] (λu=>[.fn fn [],.sl (.app 0) u.2,.sl .ro rows,.int .i64 rows.length,.int .i64 u.1]) (λu=>[.app u.2.length 15]) (λu=>rows.length-u.1) (λu=>u.1<=rows.length/\u.2=rows.take u.1) hc hb (0,[]) sM ?_ ?_;.exact bU 1 (by rfl) rfl rfl dC (zD (by rfl) rfl)
 rintro⟨i,out⟩⟨hi,ho⟩;simp only at hi ho;have ai:out.length=i:=by grind
 by_cases q:i<rows.length;rotate_left
 .have h2:out=rows:=by grind
  refine zA ?_;simp[go_sem,q];exact zQ (by rw[h2];exact zK) sM
 have ei:=zO q om;obtain⟨r,hy⟩:∃y,rows[i]=y:=⟨_,rfl⟩;have hr:r∈rows:=(by grind);have hw:=hu r hr;have hn:=ab r hr;have ad:=hx r hr;have ae:out++[r]=rows.take (i+1):=by grind[Ac]
 obtain⟨hn,af,ah⟩:=hn;have ht:r.take 15=r:=(by grind);refine zA ?_;simp[go_sem,q,hy,hw,ht];refine zL ad aa ⟨zC hn,tV⟩ hn ?_;simp[go_sem];refine zJ ⟨by simpa[go_sem]using af,hw⟩ ?_;simp[go_sem,ah];refine zJ (by grind[zZ]) ?_;simp[go_sem,ei];exact zH (i+1,out++[r]) ⟨om,⟨q,ae⟩,bU 1 sM rfl rfl dC (zD (by rfl) rfl)⟩
theorem xg8(fn:FuncId)(aa:xI prog fn)(rows:List (List V))(hl:rows.length<=100000)(hu:eU 7 rows)(ab:∀r∈rows,gY (.agg r)=true/\o8 (.agg r)=true/\r.map lS=r)(hx:∀r∈rows,Pure prog fn [.agg r] (.agg r)):Pure prog 94 [.sl .ro rows,.fn fn []] (.sl .ro rows):=by
 refine iV 0 func94 ntmps94 results94 λc hc hb=>?_;refine zA ?_;simp[go_sem];refine wQ 5 7 dC (by rfl) ?_;refine zG (S:=Nat×List (List V)) [1,5,8,9,10] (λu=>[.fn fn [],.sl (.app 0) u.2,.sl .ro rows,.int .i64 rows.length,.int .i64 u.1]) (λu=>[.app u.2.length 7]) (λu=>rows.length-u.1) (λu=>u.1<=rows.length/\u.2=rows.take u.1) hc hb (0,[]) sM ?_ ?_;.exact bU 1 (by rfl) rfl rfl dC (zD (by rfl) rfl)
 rintro⟨i,out⟩⟨hi,ho⟩;simp only at hi ho;have ai:out.length=i:=by grind
 by_cases q:i<rows.length;rotate_left
 .have h2:out=rows:=by grind
  refine zA ?_;simp[go_sem,q];exact zQ (by rw[h2];exact zK) sM
 have ei:=zO q om;obtain⟨r,hy⟩:∃y,rows[i]=y:=⟨_,rfl⟩;have hr:r∈rows:=(by grind);have hw:=hu r hr;have hn:=ab r hr;have ad:=hx r hr;have ae:out++[r]=rows.take (i+1):=by grind[Ac]
 obtain⟨hn,af,ah⟩:=hn;have ht:r.take 7=r:=(by grind);refine zA ?_;simp[go_sem,q,hy,hw,ht];refine zL ad aa ⟨zC hn,tV⟩ hn ?_;simp[go_sem];refine zJ ⟨by simpa[go_sem]using af,hw⟩ ?_;simp[go_sem,ah];refine zJ (by grind[zZ]) ?_;simp[go_sem,ei];exact zH (i+1,out++[r]) ⟨om,⟨q,ae⟩,bU 1 sM rfl rfl dC (zD (by rfl) rfl)⟩
theorem xg7(fn:FuncId)(aa:xI prog fn)(rows:List (List V))(hl:rows.length<=100000)(hu:eU 7 rows)(ab:∀r∈rows,gY (.agg r)=true/\o8 (.agg r)=true/\r.map lS=r)(hx:∀r∈rows,Pure prog fn [.agg r] (.agg r)):Pure prog 100 [.sl .ro rows,.fn fn []] (.sl .ro rows):=by
 refine iV 0 func100 ntmps100 results100 λc hc hb=>?_;refine zA ?_;simp[go_sem];refine wQ 5 7 dC (by rfl) ?_;refine zG (S:=Nat×List (List V)) [1,5,8,9,10] (λu=>[.fn fn [],.sl (.app 0) u.2,.sl .ro rows,.int .i64 rows.length,.int .i64 u.1]) (λu=>[.app u.2.length 7]) (λu=>rows.length-u.1) (λu=>u.1<=rows.length/\u.2=rows.take u.1) hc hb (0,[]) sM ?_ ?_;.exact bU 1 (by rfl) rfl rfl dC (zD (by rfl) rfl)
 rintro⟨i,out⟩⟨hi,ho⟩;simp only at hi ho;have ai:out.length=i:=by grind
 by_cases q:i<rows.length;rotate_left
 .have h2:out=rows:=by grind
  refine zA ?_;simp[go_sem,q];exact zQ (by rw[h2];exact zK) sM
 have ei:=zO q om;obtain⟨r,hy⟩:∃y,rows[i]=y:=⟨_,rfl⟩;have hr:r∈rows:=(by grind);have hw:=hu r hr;have hn:=ab r hr;have ad:=hx r hr;have ae:out++[r]=rows.take (i+1):=by grind[Ac]
 obtain⟨hn,af,ah⟩:=hn;have ht:r.take 7=r:=(by grind);refine zA ?_;simp[go_sem,q,hy,hw,ht];refine zL ad aa ⟨zC hn,tV⟩ hn ?_;simp[go_sem];refine zJ ⟨by simpa[go_sem]using af,hw⟩ ?_;simp[go_sem,ah];refine zJ (by grind[zZ]) ?_;simp[go_sem,ei];exact zH (i+1,out++[r]) ⟨om,⟨q,ae⟩,bU 1 sM rfl rfl dC (zD (by rfl) rfl)⟩
theorem xC6(fn:FuncId)(aa:xI prog fn)(rows:List (List V))(hl:rows.length<=100000)(hu:eU 2 rows)(ab:∀r∈rows,gY (.agg r)=true/\o8 (.agg r)=true/\r.map lS=r)(hx:∀r∈rows,Pure prog fn [.agg r] (.agg r)):Pure prog 117 [.sl .ro rows,.fn fn []] (.sl .ro rows):=by
 refine iV 0 func117 ntmps117 results117 λc hc hb=>?_;refine zA ?_;simp[go_sem];refine wQ 5 2 dC (by rfl) ?_;refine zG (S:=Nat×List (List V)) [1,5,8,9,10] (λu=>[.fn fn [],.sl (.app 0) u.2,.sl .ro rows,.int .i64 rows.length,.int .i64 u.1]) (λu=>[.app u.2.length 2]) (λu=>rows.length-u.1) (λu=>u.1<=rows.length/\u.2=rows.take u.1) hc hb (0,[]) sM ?_ ?_;.exact bU 1 (by rfl) rfl rfl dC (zD (by rfl) rfl)
 rintro⟨i,out⟩⟨hi,ho⟩;simp only at hi ho;have ai:out.length=i:=by grind
 by_cases q:i<rows.length;rotate_left
 .have h2:out=rows:=by grind
  refine zA ?_;simp[go_sem,q];exact zQ (by rw[h2];exact zK) sM
 have ei:=zO q om;obtain⟨r,hy⟩:∃y,rows[i]=y:=⟨_,rfl⟩;have hr:r∈rows:=(by grind);have hw:=hu r hr;have hn:=ab r hr;have ad:=hx r hr;have ae:out++[r]=rows.take (i+1):=by grind[Ac]
 obtain⟨hn,af,ah⟩:=hn;have ht:r.take 2=r:=(by grind);refine zA ?_;simp[go_sem,q,hy,hw,ht];refine zL ad aa ⟨zC hn,tV⟩ hn ?_;simp[go_sem];refine zJ ⟨by simpa[go_sem]using af,hw⟩ ?_;simp[go_sem,ah];refine zJ (by grind[zZ]) ?_;simp[go_sem,ei];exact zH (i+1,out++[r]) ⟨om,⟨q,ae⟩,bU 1 sM rfl rfl dC (zD (by rfl) rfl)⟩
theorem yR7(fn:FuncId)(ab:xI prog fn)(rows:List (List V))(hl:rows.length<=100000)(hu:eU 1 rows)(ad:∀r∈rows,∃q,r=[.sl .ro q])(hx:∀r∈rows,Pure prog fn [r.getD 0 (.int .i64 0)] (r.getD 0 (.int .i64 0))):Pure prog 97 [.sl .ro rows,.fn fn []] (.sl .ro rows):=by
 refine iV 0 func97 ntmps97 results97 λc hc hb=>?_;refine zA ?_;simp[go_sem];refine wQ 5 1 dC (by rfl) ?_;refine zG (S:=Nat×List (List V)) [1,5,8,9,10] (λu=>[.fn fn [],.sl (.app 0) u.2,.sl .ro rows,.int .i64 rows.length,.int .i64 u.1]) (λu=>[.app u.2.length 1]) (λu=>rows.length-u.1) (λu=>u.1<=rows.length/\u.2=rows.take u.1) hc hb (0,[]) sM ?_ ?_;.exact bU 1 (by rfl) rfl rfl dC (zD (by rfl) rfl)
 rintro⟨i,out⟩⟨hi,ho⟩;simp only at hi ho;have af:out.length=i:=by grind
 by_cases q:i<rows.length;rotate_left
 .have h2:out=rows:=by grind
  refine zA ?_;simp[go_sem,q];exact zQ (by rw[h2];exact zK) sM
 have ei:=zO q om;obtain⟨r,hy⟩:∃y,rows[i]=y:=⟨_,rfl⟩;have hr:r∈rows:=(by grind);have hw:=hu r hr;have hn:=ad r hr;have aa:=hx r hr;have ae:out++[r]=rows.take (i+1):=by grind[Ac]
 obtain⟨v,rfl⟩:=hn;change Pure prog fn [.sl .ro v] (.sl .ro v)at aa;refine zA ?_;simp[go_sem,q,hy];refine zL aa ab ⟨zK,tV⟩ rfl ?_;simp[go_sem];refine zJ ⟨om,zZ rfl⟩ ?_;simp[go_sem,ei];exact zH (i+1,out++[[.sl .ro v]]) ⟨om,⟨q,ae⟩,bU 1 sM rfl rfl dC (zD (by rfl) rfl)⟩
theorem xh0(fn:FuncId)(ab:xI prog fn)(rows:List (List V))(hl:rows.length<=100000)(hu:eU 1 rows)(ad:∀r∈rows,∃q,r=[.sl .ro q])(hx:∀r∈rows,Pure prog fn [r.getD 0 (.int .i64 0)] (r.getD 0 (.int .i64 0))):Pure prog 119 [.sl .ro rows,.fn fn []] (.sl .ro rows):=by
 refine iV 0 func119 ntmps119 results119 λc hc hb=>?_;refine zA ?_;simp[go_sem];refine wQ 5 1 dC (by rfl) ?_;refine zG (S:=Nat×List (List V)) [1,5,8,9,10] (λu=>[.fn fn [],.sl (.app 0) u.2,.sl .ro rows,.int .i64 rows.length,.int .i64 u.1]) (λu=>[.app u.2.length 1]) (λu=>rows.length-u.1) (λu=>u.1<=rows.length/\u.2=rows.take u.1) hc hb (0,[]) sM ?_ ?_;.exact bU 1 (by rfl) rfl rfl dC (zD (by rfl) rfl)
 rintro⟨i,out⟩⟨hi,ho⟩;simp only at hi ho;have af:out.length=i:=by grind
 by_cases q:i<rows.length;rotate_left
 .have h2:out=rows:=by grind
  refine zA ?_;simp[go_sem,q];exact zQ (by rw[h2];exact zK) sM
 have ei:=zO q om;obtain⟨r,hy⟩:∃y,rows[i]=y:=⟨_,rfl⟩;have hr:r∈rows:=(by grind);have hw:=hu r hr;have hn:=ad r hr;have aa:=hx r hr;have ae:out++[r]=rows.take (i+1):=by grind[Ac]
 obtain⟨v,rfl⟩:=hn;change Pure prog fn [.sl .ro v] (.sl .ro v)at aa;refine zA ?_;simp[go_sem,q,hy];refine zL aa ab ⟨zK,tV⟩ rfl ?_;simp[go_sem];refine zJ ⟨om,zZ rfl⟩ ?_;simp[go_sem,ei];exact zH (i+1,out++[[.sl .ro v]]) ⟨om,⟨q,ae⟩,bU 1 sM rfl rfl dC (zD (by rfl) rfl)⟩
end Go.Proofs.YtegbonbgofjlcaaGreat
