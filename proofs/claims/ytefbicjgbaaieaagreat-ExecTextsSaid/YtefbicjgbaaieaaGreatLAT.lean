/-
  The document's Of where no table's range is asked for; used by the walk of the document's Lines.
  Conditions: as the theorem states them.
-/
import Derived.Test.YtefbicjgbaaieaaGreatLAS
import Derived.Test.YtefbicjgbaaieaaGreatLAP
import Derived.Test.YtefbicjgbaaieaaGreatLAH
import Derived.Test.YtefbicjgbaaieaaGreatLAO
import Derived.Test.YtefbicjgbaaieaaGreatLAQ
set_option maxHeartbeats 8000000
namespace Go.Proofs.YtefbicjgbaaieaaGreat
open Go Go.Vx R Go.Proofs.Tryz
set_option maxRecDepth 100000
variable{b:Mp aij}{a:Mp aij}{sn:Mp Int}{st:bQ}{l:List Ln}{U:St}{T:bH}{p:Pl}{P:Program}{c:Ctx}{k:Nat}{tn:Nat}{r:Int}{n:Nat}{n0:Kp}{x:Ln}{f:FuncId}{bY:List V}{cc:List V}{KV:V->St->Prop}{m:List Ln}{C:List Wr}
@[go_sem]theorem BN{nt:Nat}{d:Option Tmp}{K:KT}{e:Env}{x k:Operand}{t1 t2:TypeId}:ez P c nt n0 4 d (.call ⟨.builtin .delete,#[x,k],#[t1,t2]⟩) K fx fx e U=ef P c nt d (.call ⟨.builtin .delete,#[x,k],#[t1,t2]⟩) K fx fx e U:=Me sm sm sm
theorem xV1(k:Nat){args:List V}{gp:St}{R:V->St->Prop}(hc:bL P f cc gp R)(hb:wQ P f)(hk:U.take k=gp)(hl:gp.length=k)(cK:gp.all (bO k))(aa:bM (cR (cO (List.range k) U.length)) cc (args++bY))(hR:∀r s,R r s->∃s0 ex,s=s0++ex/\s0.length=k/\s0.all (bO k)=true/\ex.all (bO 0))(hK:∀r s0 ex,R r (s0++ex)->s0.length=k->KV (dG (cO (List.range k) U.length) r) (s0++U.drop k++ex)):jE P c (.fn f bY) args U KV fx:=by
 have ab:k<=U.length:=by grind
 refine VC.of hc hb (List.range k) Bw (by grind) (λi j o h1 h2=>?_) aa λr s h _=>?_
 .obtain⟨h3,h4⟩:=A5.1 h1;simp at h3 h4;subst h4;have ho:bO k o:=by grind
  rw[mF (n:=k) (by grind[tg]) ho];grind
 .obtain⟨s0,ex,rfl,h1,h2,h3⟩:=hR r s h;have e:wD (List.range k) U (s0++ex)=s0++U.drop k++ex:=by
   have e0:=QG ab h1 h2;have ed:(s0++ex).drop (List.range k).length=ex:=by grind
   have et:(s0++ex).take (List.range k).length=s0.take (List.range k).length:=by grind
   have e2:(s0.drop (List.range k).length).map (yO (cO (List.range k) U.length))=[]:=by grind
   have e3:ex.map (yO (cO (List.range k) U.length))=ex:=wU (λo h=>mF (n:=0) om h) h3;unfold wD at e0⊢;grind
  grind
theorem wr7(i:Nat){o o2:Ob}{args:List V}{v:V}(hc:bL P f cc [o] (λr s=>r=v/\s=[o2]))(hb:wQ P f)(ho:U[i]?=some o)(cK:bO 0 o)(ab:bO 0 o2)(aa:bM (cR (cO [i] U.length)) cc (args++bY))(hK:KV (dG (cO [i] U.length) v) (U.set i o2)):qN P c n0 4 (.fn f bY) args U KV fx:=by
 refine Qz hc hb [i] sm rfl (λa j x h1 h2=>?_) aa ?_
 .have e:a=0:=by grind
  subst e;have e1:x=o:=by grind
  have e2:j=i:=by grind
  subst e1;subst e2;rw[mF (n:=0) om cK];exact ho
 .have e:wD [i] U [o2]=U.set i o2:=by simp only[wD,Bm,C3,Df,Cx,Au,Ad,Bp,gr,Ay];rw[mF (n:=0) om ab]
  grind
theorem wf1:∀n,4<=n->(cT a b sn++([.cj (m.map Ln.row) 3]:St)).all (bO n)=true:=λn h=>by rw[List.all_append,wK n om a b sn];simp[bO,cH,cF,Ln.row]
structure rN(st:bQ):Prop where
 ok:gR st
 vok:N9 st
 jl:0<=ir st.table
 items:st.kind=1->st.items≠[]cp:st.kind=3->∀x∈st.cp,0<=cq (bI.getD (ir st.table).toNat eC) x.name
theorem O9{tn:Nat}{T:bH}(hT:bI[tn]?=some T){st:bQ}(ab:gR st):∀{m:List Ln}{b:Mp aij}{l:List Ln},cE b l->(∀x∈m,fT l x.at=true/\eP x/\(dY x.r).1=(tn:Int))->(gh T st.cp m l).2=0->cE (mY T st.cp m b) (gh T st.cp m l).1
 |[],_,_,hn,_,_=>hn|x::m,b,l,hn,hm,h0=>by
  obtain⟨ad,aa,ae⟩:=hm x sm;rw[gh]at h0⊢;rw[mY];obtain⟨E,hE⟩:=eX (fH T x.v st.cp x.v);rw[hE]at h0⊢;by_cases q:E.2=0;rotate_left;.grind
  rw[ahO om]at h0;rw[ahO om,ahO (show¬E.2≠0fromλh=>h q)];by_cases q2:dS T.bP E.1=0;rotate_left;.grind
  rw[ahO om]at h0;rw[ahO om,ahO om];have af:∀v∈E.1,v.ok:=by have h1:=KQ (T:=T) aa.ok (cp:=st.cp) (row:=x.v) (λy hy=>(ab.cp.2 y hy).2) aa.ok;grind
  refine O9 hT ab (hn.Ie x.at E.1 ad ⟨⟨tn,T,ae,hT,q2⟩,aa.err,af⟩) (λy hy=>?_) h0;grind[OQ]
def ya(n:Nat)(e:Int):V:=.cm [.agg (Ot.row (if e≠0then⟨0,[]⟩else⟨n,[]⟩)),.int .i64 e]
theorem Gr(h3:tn<3)(h:mn tn st x):(dY x.r).1=(tn:Int):=by unfold mn at h;rw[A8,C2]at h;grind[KW]
theorem Pa(hT:bI[tn]?=some T)(hx:eP x)(aa:(dY x.r).1=(tn:Int)):x.v.length=T.bP.length:=by obtain⟨ab,T',h1,h2,h3⟩:=hx.jl;grind[vh]
theorem Vr{T:bH}{st:bQ}:∀{l acc:List Ln},(oL T st acc l).1.length<=acc.length+l.length
 |[],_=>A6 _|x::l,acc=>by
  rw[oL];split;.simp
  .refine Ao Vr ?_;split<;>simp<;>omega
theorem Vs{t:Int}:(fb t T st l).1.length<=l.length:=by grind[fb,Vr]
theorem wa7{N:Nat}(h4:U.take 4=cT a b sn)(cD:U[k]?=some (.cj (m.map Ln.row) 3))(i j:Nat)(o:Ob)(ab:[0,1,2,3,k][i]?=some j)(ho:(cT a b sn++([.cj (m.map Ln.row) 3]:St))[i]?=some o):U[j]?=some (yO (cO [0,1,2,3,k] N) o):=by
 by_cases q:i<4
 .have e:j=i:=by match i,q with |0,_=>grind|1,_=>grind|2,_=>grind|3,_=>grind
  subst e;have h1:(cT a b sn)[j]?=some o:=by rw[Be (by exact q)]at ho;exact ho
  have aa:bO 4 o:=Aj.1 (by grind[wK]) o (B9 h1);rw[mF (n:=4) (λx hx=>?_) aa];.grind
  .rw[jD (by grind)];match x,hx with|0,_=>rfl|1,_=>rfl|2,_=>rfl|3,_=>rfl
 .have e:i=4:=by grind
  subst e;have e1:o=.cj (m.map Ln.row) 3:=by grind
  have e2:j=k:=by grind
  subst e1;subst e2;rw[mF (n:=0) om (by grind[bO,cH,cF,Ln.row])];omega
theorem xy7{o0 o1 o2 o3 o4 o5 o6:Ob}:wD [0,1,2,3,6] [o0,o1,o2,o3,o4,o5,o6] (cT a b sn++([.cj (m.map Ln.row) 3]:St))=[a.ob .str,b.ob .str,sn.ob (V.int .i64),fI,o4,o5,.cj (m.map Ln.row) 3]:=by have e:(cT a b sn++([.cj (m.map Ln.row) 3]:St)).map (yO (cO [0,1,2,3,6] 7))=cT a b sn++([.cj (m.map Ln.row) 3]:St):=wU (λo h=>mF (n:=4) dc h) (by grind[wf1]);unfold wD;rw[Ac (by simp[cT]),Bj (by simp[cT])];show gr _ _ (List.map (yO (cO [0,1,2,3,6] 7)) _)++_=_;rw[e];rfl
def Pb(a:Mp aij)(sn:Mp Int)(D:Ot×List Ln×Int)(r:V)(s:St):Prop:=∃b',s=cT a b' sn/\r=.cm [.agg D.1.row,.int .i64 D.2.2]/\(D.2.2=0->cE b' D.2.1)
theorem xH2{w:Nat×aij}(h:b.at p=some w):Ob.mp ((gb V.str b.W).take (2*w.1)++(gb V.str b.W).drop (2*w.1+2)) (b.bs.eraseIdx w.1) b.cM=(b.del p).ob V.str:=by show Ob.mp (y9 (gb V.str b.W) w.1) _ _=_;unfold Mp.del Mp.ob;rw[h];have:=(A5.1 (xz (W:=b.W) (i:=w.1) (v:=w.2) h)).1;grind[Uq]
theorem xH3(h:b.at p=none):b.del p=b:=by grind[Mp.del]
theorem EG{D:Ot×List Ln×Int}{Ul:St}{g:Tag}(o:Ot)(e:Int)(h1:D.1=o)(h2:D.2.2=e)(h3:e=0->cE b D.2.1):bW (some (.cm [.agg [.sl g (o.rows.map λr=>[.sl .ro (r.map bF.row)]),.int .i64 o.count],.int .i64 e])) 4 (Pb a sn D) (a.ob .str::b.ob .str::sn.ob (V.int .i64)::.box [.sl .ro yL,.sl .ro (bI.map bH.row),.mp 0,.mp 1,.mp 2]::Ul):=wC 4 (s:=cT a b sn) (r:=.cm [.agg (Ot.row o),.int .i64 e]) rfl rfl (by grind[wK]) om (yJ ⟨xS ⟨yH,zU rfl,tV⟩,xJ rfl,tV⟩) ⟨b,rfl,by grind,(by grind)⟩
theorem xB5(st:bQ)(ad:rN st)(a b:Mp aij)(sn:Mp Int)(l:List Ln)(ab:cE b l)(hl:l.length<=10000):bL prog 42 [.ptr 3 0,.agg st.row] (cT a b sn) (Pb a sn (kM st l)):=by
 obtain⟨tn,az⟩:∃tn:Nat,ir st.table=tn:=⟨(ir st.table).toNat,by have:=ad.jl;omega⟩;have aD:tn<3:=by have h:=xh (λT:bH=>T.name==st.table) bI 0;have h2:bI.length=3:=rfl;grind[ir]
 obtain⟨T,hT⟩:∃T,bI[tn]?=some T:=⟨_,A0 (show tn<bI.length from aD)⟩;obtain⟨a1,a6⟩:=A5.1 hT;have aE:bI.getD (ir st.table).toNat eC=T:=by grind
 have ae:=ad.cp;rw[aE]at ae;have af:=S2 bI st.table dc;have aF:xE (λt:bH=>t.name==st.table) bI 0=tn:=az;rw[aF]at af;have ag:=yX1 tn T hT st ad.ok a b sn l ab;have ah:=wu2 tn T hT st ad.ok ad.vok a b sn l ab hl;obtain⟨D,hD⟩:=eX (kM st l);rw[hD];have aa:=hD;unfold kM at aa;simp only[az,Ai]at aa;rw[show bI.getD tn eC=T by grind]at aa;refine iV 4 func42 ntmps42 results42 λc hc hb=>?_;refine zN (zA ?_);simp[go_sem,cT,fI];refine zN (zA ?_);simp[go_sem];refine yB [(6,0)] 6 rfl (by rfl) kR ?_;simp[go_sem];refine pD af ?_;simp[go_sem];have ai:=λb':Mp aij=>wK 4 dc a b' sn;by_cases k2:st.kind=2
 .rw[ahP k2]at aa;have ao:(st.kind==2)=true:=by grind
  obtain⟨uI,hI⟩:=eX (fy tn T st.rows l);rw[hI]at aa ag;refine zA ?_;simp[go_sem,ao];refine sf 4 ag cB rfl rfl (ai b) (pa (n:=4) rfl) (λr s h=>?_) (λr s h=>?_);.obtain⟨b',rfl,h⟩:=h;refine⟨rfl,ai b',?_⟩;rcases h with⟨_,rfl⟩|⟨_,rfl,_⟩;all_goals rfl
  .obtain⟨b',rfl,h⟩:=h;rcases h with⟨h0,rfl⟩|⟨h0,rfl,hn⟩;.rw[ahP h0]at aa;simp[go_sem,cT,fI,Ot.row];exact EG ⟨0,[]⟩ uI.2 (by grind) (by grind) om
   .rw[ahO om]at aa;simp[go_sem,cT,fI,Ot.row];exact EG ⟨st.rows.length,[]⟩ 0 (by grind) (by grind) (by grind)
 have ao:(st.kind==2)=false:=by grind
 rw[ahO k2]at aa;clear ag;obtain⟨⟨m,me⟩,hM⟩:∃M,fb tn T st l=M:=⟨_,rfl⟩;rw[hM]at aa ah;simp only at aa;refine zN (zA ?_);simp[go_sem,ao];refine zN (zA ?_);simp[go_sem];refine xV1 4 ah cB rfl rfl (ai b) (pa (n:=4) rfl) (λr s h=>?_) (λr s0 ex h h4=>?_)
 .rcases h with⟨_,rfl,_⟩|⟨_,rfl,_⟩;.exact⟨_,[],(by rfl),rfl,ai b,rfl⟩
  .exact⟨_,_,rfl,rfl,ai b,by simp[bO,cH,cF,Ln.row]⟩
 rcases h with⟨m0,hs,rfl⟩|⟨m0,hs,rfl⟩
 .have aq:=List.append_inj (hs.trans (Ay _).symm) (by simpa);obtain⟨rfl,rfl⟩:=aq;have m0:me≠0:=m0;have aG:(me !=0)=true:=by grind
  rw[ahP m0]at aa;simp[go_sem,cT,fI];refine zN (zA ?_);simp[go_sem,aG];exact EG ⟨0,[]⟩ me (by grind) (by grind) om
 .have aq:=List.append_inj hs (by simpa);obtain⟨rfl,rfl⟩:=aq;have m0:me=0:=m0;rw[ahO om]at aa;subst m0;have er:cO [0,1,2,3] 6 4=6:=rfl;have a7:m.length<=10000:=by grind[Vs]
  have ak:∀x∈m,x∈l/\(mn tn st x):=(by grind[Ig]);simp[go_sem,cT,fI,er];refine zN (zA ?_);simp[go_sem];refine zN (zN (zA ?_));simp[go_sem];refine pX (zN (zA ?_));simp[go_sem];by_cases k1:st.kind=1
  .have ar:(st.kind==1)=true:=by grind
   rw[ahP k1]at aa;have au:=yE8 tn T hT st ad.ok (ad.items k1) m a7 (λx hx=>⟨ab.rows x (ak x hx).1,Pa hT (ab.rows x (ak x hx).1) (by grind[Gr])⟩);obtain⟨M,aH⟩:=eX (jz T st m);rw[aH]at au aa;obtain⟨C,hC⟩:=eX (Iw T st m);rw[hC]at au;refine zA ?_;simp[go_sem,ar];refine zW [(10,4)] 6 sm (by rfl) kR ?_;simp[go_sem,a1,a6];refine wr7 6 au cB rfl (by grind[bO,cH,cF,Ln.row]) (by grind[bO,cH,cF,Ln.row]) ⟨zD rfl,zD rfl,.inl rfl,tV⟩ ?_;simp[go_sem,iz,Ot.row];exact EG M.1 M.2 (by grind) (by grind) (by grind)
  have ar:(st.kind==1)=false:=by grind
  rw[ahO k1]at aa;refine zA ?_;simp[go_sem,ar];by_cases k3:st.kind=3
  .have av:(st.kind==3)=true:=by grind
   rw[ahP k3]at aa;have a8:∀x∈m,fT l x.at=true/\eP x/\(dY x.r).1=(tn:Int):=λx hx=>⟨fj.2 (by grind),ab.rows x (ak x hx).1,(by grind[Gr])⟩;have aw:=xU8 tn T hT st ad.ok (ae k3) a b sn l m ab a8 a7;have aI:=O9 hT ad.ok ab a8;obtain⟨uU,hU⟩:=eX (gh T st.cp m l);obtain⟨B,hB⟩:=eX (mY T st.cp m b);rw[hU,hB]at aw aI;rw[hU]at aa;have aA:=aw.mono (R':=λr s=>r=ya m.length uU.2/\s=cT a B sn++[.cj (m.map Ln.row) 3]) (λr s h=>by obtain⟨h1,h2⟩:=h;refine⟨?_,h1⟩;unfold ya;grind);clear aw;simp[go_sem,av];refine zW [(11,4)] 5 sm (by rfl) kR ?_;simp[go_sem,a1,a6];refine Qz aA cB [0,1,2,3,6] dc rfl (wa7 rfl rfl) ⟨.inl rfl,zD rfl,zD rfl,.inl rfl,tV⟩ ?_;rw[xy7];by_cases u0:uU.2=0;.rw[ahO om]at aa;simp[go_sem,ya,Ot.row,u0];exact EG ⟨m.length,[]⟩ 0 (by grind) (by grind) (by grind)
   .rw[ahP u0]at aa;simp[go_sem,ya,Ot.row,u0];exact EG ⟨0,[]⟩ uU.2 (by grind) (by grind) om
  .have av:(st.kind==3)=false:=by grind
   rw[ahO k3]at aa;have ax:∀(b':Mp aij),([a.ob .str,b'.ob .str,sn.ob (V.int .i64),.box [.sl .ro yL,.sl .ro (bI.map bH.row),.mp 0,.mp 1,.mp 2],.box st.row,.box di,.cj (m.map Ln.row) 3]:St).all (bO 7)=true:=λb'=>by have h:=wK 7 om a b' sn;simp_all[cT,bO,cH,cF,bQ.row,Ln.row,di]
   have hG:∀(b':Mp aij)(l':List Ln)(Ul:St),cE b' l'->ja m l=l'->bW (some (.cm [.agg [.sl .full [],.int .i64 m.length],.int .i64 0])) 4 (Pb a sn D) (a.ob .str::b'.ob .str::sn.ob (V.int .i64)::.box [.sl .ro yL,.sl .ro (bI.map bH.row),.mp 0,.mp 1,.mp 2]::Ul):=λb' l' Ul h1 h2=>EG ⟨m.length,[]⟩ 0 (by grind) (by grind) (by grind);generalize hQ:ja m l=Q at hG;clear aa ak ah hs;simp[go_sem,av];refine zN (zA ?_);simp[go_sem];refine zG (S:=Nat×Mp aij×List Ln) [0,4,7,71,72,73] (λu=>[.ptr 3 0,.ptr 5 0,.cL 6 3 m.length 0 m.length,.cL 6 3 m.length 0 m.length,.int .i64 m.length,.int .i64 u.1]) (λu=>[a.ob .str,u.2.1.ob .str,sn.ob (V.int .i64),.box [.sl .ro yL,.sl .ro (bI.map bH.row),.mp 0,.mp 1,.mp 2],.box st.row,.box di,.cj (m.map Ln.row) 3]) (λu=>m.length-u.1) (λu=>u.1<=m.length/\cE u.2.1 u.2.2/\ja (m.drop u.1) u.2.2=Q) hc hb (0,b,l) (by grind) ?_ ?_;.exact bT 7 (by rfl) rfl (ax b) dc (zC (by rfl) rfl)
   rintro⟨i,b1,l1⟩⟨hi,ay,al⟩;simp only at hi ay al;by_cases q:i<m.length;rotate_left;.rw[A4 om,ja]at al;refine zA ?_;simp[go_sem,q,di];refine zA ?_;simp[go_sem];exact hG b1 l1 _ ay al.symm
   have ei:=zR q om;obtain⟨x,hx⟩:=eX (m[i]);rw[A2 q,hx,ja]at al;have eB:b1.ob .str=.mp (gb .str b1.W) b1.bs b1.cM:=rfl;have aB:=ay.del x.at;refine zA ?_;simp[go_sem,q,hx];refine yB [] 8 rfl (by rfl) kR ?_;simp[go_sem];cases an:b1.at x.at with |none=>have aj:dI (x.r,x.k) b1.W=none:=an;rw[xH3 an]at aB;simp[go_sem,eB,pE,aj,lI,l6,ei];exact zH (i+1,b1,l1.filter λy=>!decide (y.at=x.at)) ⟨om,(by grind),bT 7 (by rfl) rfl (ax _) dc (zC (by rfl) rfl)⟩|some w=>have aj:dI (x.r,x.k) b1.W=some w:=an;have aC:=xH2 an;simp[go_sem,eB,pE,aj,lI,l6,aC,ei];exact zH (i+1,b1.del x.at,l1.filter λy=>!decide (y.at=x.at)) ⟨om,(by grind),bT 7 (by rfl) rfl (ax _) dc (zC (by rfl) rfl)⟩
def pI(p:Pl):List V:=[.int .i64 p.1,.str p.2]
def ji(w:Wr):List V:=[.str w.p.2,.bool w.drop,.str w.data]
def eD(q:Int×List Wr):List V:=[.int .i64 q.1,.sl .ro (q.2.map ji)]
def lU(q:Int×List Wr×Nat):List V:=[.int .i64 q.1,.sl (.app (q.2.2+8)) (q.2.1.map ji)]
def vo(N:List (Int×List Wr×Nat)):List (Int×List Wr):=N.map λq=>(q.1,q.2.1)
theorem xY8(N:List (Int×List Wr×Nat)):gE (N.map lU) 0 N.length=(vo N).map eD:=by unfold gE vo;rw[Au,Ac sm,B8,B8];rfl
theorem wp3(N:List (Int×List Wr×Nat)):xB (N.map lU)=true:=by grind[xB,lU,oz]
def Vt(N:List (Int×List Wr×Nat))(τ:St)(i:Nat):Prop:=∀O r C k,N=O++[(r,C,k)]->τ[k]?=some (.app C.length 3)/\C.length<=i
theorem K8{J:Type}{g:J->V}{id:Nat}{rows:List (List V)}(hg:∀v,iF id rows (g v)=g v):∀W:List (Pl×J),(gb g W).map (iF id rows)=gb g W
 |[]=>rfl|e::W=>by rw[gb,Ad,Ad,K8 hg W,hg];rfl
theorem wa2{id:Nat}{rows:List (List V)}:(cT a b sn).map (sW id rows)=cT a b sn:=by unfold cT;simp only[Ad,Bp,Mp.ob,sW];rw[K8 (λ_=>rfl),K8 (λ_=>rfl),K8 (λ_=>rfl)];rfl
theorem iL{n0:Nat}{keep:aik}{vs:List V}{s:St}{e:Env}(hs:U=s)(hn:n0<=U.length)(h:keep.map e=vs):At n0 keep vs s e U:=by subst hs;exact zY hn h
theorem xK2{O:List (Int×List Wr×Nat)}{w:Wr}(h:w.p.1=r):gx (vo (O++[(r,C,k)])) w=vo (O++[(r,C++[w],k)]):=by grind[gx,vo]
theorem wa6{O:List (Int×List Wr×Nat)}{r0:Int}{k':Nat}{w:Wr}(h:w.p.1=r)(hr:¬r0=r):gx (vo (O++[(r0,C,k)])) w=vo ((O++[(r0,C,k)])++[(r,[w],k')]):=by unfold gx vo;grind
theorem Pc{N:List (Int×List Wr×Nat)}{i:Nat}{τ:St}(h:τ[k]?=some (.app C.length 3))(hl:C.length<=i):Vt (N++[(r,C,k)]) τ i:=λO r' C' k' e=>by simp_all
theorem xw5(a:Mp aij)(D:List (Pl×aij))(e:Pl×aij):iK a (D++[e])=if Iu a e=true then iK a D++[e.1]else iK a D:=by unfold iK;grind
theorem xw6(b:Mp aij)(D:List (Pl×aij))(e:Pl×aij):iy b (D++[e])=if Gq b e=true then iy b D++[e.1]else iy b D:=by unfold iy;grind
theorem wb5(a:Mp aij)(D:List (Pl×aij)):(iK a D).length<=D.length:=by grind[iK]
theorem wb6(a:Mp aij)(D:List (Pl×aij)):(iy a D).length<=D.length:=by grind[iy]
theorem gV.le{J:Type}{seen:aik}{W:List (Pl×J)}{bs:aik}{D:List (Pl×J)}(h:gV seen W bs D):D.length<=W.length:=by have:=h.length_eq;grind
theorem wp8(a b:Mp aij)(sn:Mp Int)(dy now:List Ln)(ha:cE a dy)(hn:cE b now)(aL:dy.length<=10000)(aP:now.length<=10000):bL prog 43 [.ptr 3 0] (cT a b sn) (λr s=>r=.sl .ro ((kE (gj dy now)).map eD)/\s=cT a b sn):=by
 have eA:a.ob .str=.mp (gb .str a.W) a.bs a.cM:=rfl;have eB:b.ob .str=.mp (gb .str b.W) b.bs b.cM:=rfl;have aQ:a.W.length<=10000:=by have:=ha.perm.length_eq;grind
 have aR:b.W.length<=10000:=by have:=hn.perm.length_eq;grind
 have aE:∀x∈b.bs,x<b.cM:=hn.ok.lt;have has:∀x∈a.bs,x<a.cM:=ha.ok.lt;have aj:∀(L:List Pl)(se:aik),([a.ob .str,b.ob .str,sn.ob (V.int .i64),.box [.sl .ro yL,.sl .ro (bI.map bH.row),.mp 0,.mp 1,.mp 2],.cj (L.map pI) 2,.it (some 1) b.cM se b.cM]:St).all (bO 6)=true:=λL se=>by have h:=wK 6 om a b sn;simp_all[cT,bO,cH,cF,pI]
 refine iV 4 func43 ntmps43 results43 λc hc hb=>?_;refine zN (zA ?_);simp[go_sem,cT,fI];refine zN (zA ?_);simp[go_sem];refine FH 3 2 dc (by rfl) ?_;refine zN (zA ?_);simp[go_sem,eB];refine zG (S:=aik×List (Pl×aij)) [0,3,21] (λu=>[.ptr 3 0,.cL 4 2 (iK a u.2).length 0 (iK a u.2).length,.ptr 5 0]) (λu=>[a.ob .str,b.ob .str,sn.ob (V.int .i64),.box [.sl .ro yL,.sl .ro (bI.map bH.row),.mp 0,.mp 1,.mp 2],.cj ((iK a u.2).map pI) 2,.it (some 1) b.cM u.1 b.cM]) (λu=>(j8 u.1 b.W b.bs).length) (λu=>gV u.1 b.W b.bs u.2) hc hb ([],[]) (gV.start hn.ok.len) ?_ ?_;have k0:iK a []=[]:=rfl;.exact bT 6 (by rfl) rfl (aj _ _) dc (zC (by rfl) rfl)
 .rintro⟨se,D⟩hD;simp only at hD;refine qQ 22 dc ?_;refine zA ?_;simp[go_sem,eB];have az:=hD.le;have a1:=wb5 a D;refine OX (b:=b) (i:=5) (id:=1) (seen:=se) (cM:=b.cM) (by simp[nA]) rfl rfl aE (λhL=>?_) (λp hp=>?_)
  .have af:=hD.done hL;obtain⟨K1,a6⟩:=eX (iK a D);have aw:K1.Perm (iK a b.W):=by rw[<-a6];exact(af.filter _).map _
   have a8:K1.length<=10000:=by grind
   rw[a6];clear a6 af hL a1 az hD;have aq:∀(L:List Pl)(aA:aik),([a.ob .str,b.ob .str,sn.ob (V.int .i64),.box [.sl .ro yL,.sl .ro (bI.map bH.row),.mp 0,.mp 1,.mp 2],.cj (L.map pI) 2,.it (some 1) b.cM se b.cM,.it (some 0) a.cM aA a.cM]:St).all (bO 7)=true:=λL aA=>by have h:=wK 7 om a b sn;simp_all[cT,bO,cH,cF,pI]
   simp[go_sem];refine zN (zA ?_);simp[go_sem,eA];have k0:iy b []=[]:=rfl;refine zG (S:=aik×List (Pl×aij)) [0,3,51] (λu=>[.ptr 3 0,.cL 4 2 (K1++iy b u.2).length 0 (K1++iy b u.2).length,.ptr 6 0]) (λu=>[a.ob .str,b.ob .str,sn.ob (V.int .i64),.box [.sl .ro yL,.sl .ro (bI.map bH.row),.mp 0,.mp 1,.mp 2],.cj ((K1++iy b u.2).map pI) 2,.it (some 1) b.cM se b.cM,.it (some 0) a.cM u.1 a.cM]) (λu=>(j8 u.1 a.W a.bs).length) (λu=>gV u.1 a.W a.bs u.2) hc hb ([],[]) (gV.start ha.ok.len) ?_ ?_;.exact bT 7 (by grind) rfl (aq _ _) dc (zC (by simp[go_sem,k0]) rfl)
   rintro⟨ai,D⟩hD;simp only at hD;refine qQ 52 dc ?_;refine zA ?_;simp[go_sem,eA];have az:=hD.le;have a1:=wb6 b D;refine OX (b:=a) (i:=6) (id:=0) (seen:=ai) (cM:=a.cM) (by simp[nA]) rfl rfl has (λhL=>?_) (λp hp=>?_)
   .have af:=hD.done hL;obtain⟨K2,ar⟩:=eX (K1++iy b D);have ax:K2.Perm (iK a b.W++iy b a.W):=by rw[<-ar];exact aw.append ((af.filter _).map _)
    have aB:K2.length<=20000:=by grind
    have ak:(K1++iy b D).map pI=K2.map pI:=by rw[ar]
    have al:(K1++iy b D).length=K2.length:=by rw[ar]
    rw[Da]at ak;rw[Al]at al;clear ar af hL a1 az hD a8 aw k0 aj aq;simp[go_sem,ak,al];refine zN (zA ?_);simp[go_sem];refine Rx Tryz.EC rfl cB dc Tryz.pG Tryz.rL cB UP UQ (f:=pI) (kx:=λp=>p) (λx=>⟨_,rfl,rfl⟩) K2 rfl om (λL au aC=>?_);have ay:=xG4 ha hn (au.symm.trans ax) aC;have aS:L.length<=20000:=by rw[<-au.length_eq];omega
    rw[au.length_eq];clear au aC ax aB al ak;simp[go_sem];refine zN (zA ?_);simp[go_sem];refine FH 11 2 dc (by rfl) ?_;refine zN (zA ?_);simp[go_sem];obtain⟨G,hG⟩:=eX (kE (gj dy now));rw[hG];have aF:(L.map (qm b)).foldl gx (vo [])=G:=by rw[ay];exact hG
    clear ay hG;refine zG (S:=Nat×List (Int×List Wr×Nat)×St) [0,11,73,74,75] (λu=>[.ptr 3 0,.cL 7 2 u.2.1.length 0 u.2.1.length,.cL 4 2 L.length 0 L.length,.int .i64 L.length,.int .i64 u.1]) (λu=>[a.ob .str,b.ob .str,sn.ob (V.int .i64),.box [.sl .ro yL,.sl .ro (bI.map bH.row),.mp 0,.mp 1,.mp 2],.cj (L.map pI) 2,.it (some 1) b.cM se b.cM,.it (some 0) a.cM ai a.cM,.cj (u.2.1.map lU) 2]++u.2.2) (λu=>L.length-u.1) (λu=>u.1<=L.length/\u.2.1.length<=u.1/\Vt u.2.1 u.2.2 u.1/\((L.map (qm b)).drop u.1).foldl gx (vo u.2.1)=G) hc hb (0,[],[]) ⟨om,sm,λO r C k h=>by simp_all,aF⟩ ?_ ?_;.exact zY sm (by rfl)
    rintro⟨i,N,τ⟩⟨hi,aG,aD,ab⟩;simp only at hi aG aD ab;by_cases q:i<L.length;rotate_left;.rw[A4 (by grind),aid]at ab;refine zA ?_;simp[go_sem,q];refine zA ?_;simp[go_sem];refine L6 7 2 (N.map lU) rfl (wp3 N) ?_;simp only[fr,iF,iE,ij,Bq,Ab,A6,and_self,ai0,xY8,ab];refine wC 4 (s:=cT a b sn) (r:=.sl .ro (G.map eD)) ?_ rfl (by grind[wK]) om zP (by trivial);exact wa2
    have ei:=zR q om;obtain⟨⟨pr,pk⟩,hp⟩:∃p,L[i]=p:=⟨_,rfl⟩;rw[A2 (by grind),Ap,List.getElem_map,hp]at ab;refine zN (zA ?_);simp[go_sem,q];refine zN (zA ?_);simp[go_sem];refine zN (pX (zN (zA ?_)));simp[go_sem,q,hp,pI];refine wM (S:=Bool×aij) [0,11,13,14,15,73,74,75] (λu=>[.ptr 3 0,.cL 7 2 N.length 0 N.length,.ptr (τ.length+8) 0,.str u.2,.bool (!u.1),.cL 4 2 L.length 0 L.length,.int .i64 L.length,.int .i64 i]) (λu=>[a.ob .str,b.ob .str,sn.ob (V.int .i64),.box [.sl .ro yL,.sl .ro (bI.map bH.row),.mp 0,.mp 1,.mp 2],.cj (L.map pI) 2,.it (some 1) b.cM se b.cM,.it (some 0) a.cM ai a.cM,.cj (N.map lU) 2]++(τ++[.box [.int .i64 pr,.str pk]])) (λu=>qm b (pr,pk)=⟨(pr,pk),u.1,u.2⟩) hc hb ?_ ?_;.refine yB [] (τ.length+9) sm (by rfl) kR ?_;simp[go_sem,eB];cases ag:b.at (pr,pk)with
     |none=>
      have aa:dI (pr,pk) b.W=none:=ag;have hw:qm b (pr,pk)=⟨(pr,pk),true,[]⟩:=by grind[qm,Mp.get]
      simp[go_sem,pE,aa,lI,l6];exact zH (true,[]) ⟨hw,zY sm (by rfl)⟩|some w=>
      have aa:dI (pr,pk) b.W=some w:=ag;have hw:qm b (pr,pk)=⟨(pr,pk),false,w.2⟩:=by grind[qm,Mp.get]
      simp[go_sem,pE,aa,lI,l6];exact zH (false,w.2) ⟨hw,zY sm (by rfl)⟩
    rintro⟨dr,av⟩hw;simp only at hw;rw[hw]at ab;rcases List.eq_nil_or_concat N with hN|⟨O,⟨r0,C,k⟩,hN⟩;.subst hN;refine zN (zN ?_);refine yB [] (τ.length+9) sm (by rfl) kR ?_;simp[go_sem];refine JA (b:=true) (by rfl) (λ_=>?_) (λh=>by cases h);refine RC 4 rfl rfl rfl ?_;simp[go_sem,Br];refine zF (zT rfl) ?_;simp[go_sem];refine zN (zA ?_);simp[go_sem];refine zW [(4,2),(6,2),(12,3),(15,4)] 6 sm (by rfl) kR ?_;simp[go_sem];refine zF ⟨(λr hr=>by cases hr),zT rfl⟩ ?_;simp[go_sem];refine zA ?_;simp[go_sem,ei];exact zH (i+1,[(pr,[⟨(pr,pk),dr,av⟩],τ.length+1)],τ++[.box [.int .i64 pr,.str pk],.app 1 3]) ⟨om,⟨q,sm,Pc (N:=[]) sm sm,ab⟩,iL (by rfl) sm (by rfl)⟩
    rw[List.concat_eq_append]at hN;subst hN;obtain⟨hk,hC⟩:=aD O r0 C k rfl;have aT:=(A5.1 hk).1;have aU:O.length+1<=i:=by grind
    have z0:((O.length:Int)+1==0)=false:=by rfl
    have es:IntKind.i64.wrap (O.length:Int)=O.length:=(by grind[bR]);have aH:IntKind.i64.wrap ((O.length:Int)+1)=((O.length+1:Nat):Int):=by grind[bR]
    by_cases hr:r0=pr
    .subst hr;refine zN (zN ?_);refine yB [] (τ.length+9) sm (by rfl) kR ?_;simp[go_sem,lU,z0,es];refine zF om ?_;simp[go_sem];refine zA ?_;simp[go_sem];refine zN (zA ?_);simp[go_sem,es];refine zF om ?_;simp[go_sem];refine zW [(4,2),(6,2),(12,3),(15,4)] 6 sm (by rfl) kR ?_;have aI:(τ++[Ob.box [.int .i64 r0,.str pk]])[k]?=some (.app C.length 3):=by grind
     have aJ:∀o,(τ++[Ob.box [.int .i64 r0,.str pk]]).set k o=τ.set k o++[Ob.box [.int .i64 r0,.str pk]]:=(by grind);simp[go_sem,aI,aJ];refine zF ⟨om,zT rfl⟩ ?_;simp[go_sem];refine zA ?_;simp[go_sem,ei];exact zH (i+1,O++[(r0,C++[⟨(r0,pk),dr,av⟩],k)],τ.set k (.app (C.length+1) 3)++[.box [.int .i64 r0,.str pk]]) ⟨om,⟨q,by grind,(by grind[Pc]),by rw[xK2 (r:=r0) (w:=⟨(r0,pk),dr,av⟩) rfl]at ab;omega⟩,iL (by simp[lU,ji]) sm sg⟩
    .have aK:(r0 !=pr)=true:=by grind
     refine zN (zN ?_);refine yB [] (τ.length+9) sm (by rfl) kR ?_;simp[go_sem,lU,z0,es];refine zF om ?_;simp[go_sem,aK];refine JA (b:=true) (by rfl) (λ_=>?_) (λh=>by cases h);refine RC 4 rfl rfl rfl ?_;simp[go_sem,Br];refine zF ⟨zT rfl,om⟩ ?_;simp[go_sem];refine zN (zA ?_);simp[go_sem,aH];refine zF om ?_;simp[go_sem];refine zW [(4,2),(6,2),(12,3),(15,4)] 6 sm (by rfl) kR ?_;simp[go_sem];refine zF ⟨(λr hr=>by cases hr),zT rfl⟩ ?_;simp[go_sem];refine zA ?_;simp[go_sem,ei];exact zH (i+1,(O++[(r0,C,k)])++[(pr,[⟨(pr,pk),dr,av⟩],τ.length+1)],τ++[.box [.int .i64 pr,.str pk],.app 1 3]) ⟨om,⟨q,by grind,(by grind[Pc]),by rw[wa6 (k':=τ.length+1) rfl hr]at ab;omega⟩,iL (by grind[lU,ji]) sm sg⟩
   .have an:=KR (g:=V.str) ha.ok.nd (KU hp);have ah:=hD.next ha.ok.nd hp;have ao:=(KS ha.ok.nd hp).length_eq;obtain⟨⟨⟨pr,pk⟩,data⟩,dX⟩:=p;simp only[gT]at an ah ao;have ad:(j8 (ai++[dX]) a.W a.bs).length<(j8 ai a.W a.bs).length:=by grind
    clear ao hp;have ae:=xw6 b D ((pr,pk),data);have a7:Gq b ((pr,pk),data)=((b.at (pr,pk)).map (·.2)).isNone:=rfl;simp[go_sem,gT,qx,an];refine yB [] 8 rfl (by rfl) kR ?_;simp[go_sem,eB];cases ag:b.at (pr,pk)with |none=>have aa:dI (pr,pk) b.W=none:=ag;rw[ahP (by grind)]at ae;simp[go_sem,pE,aa,lI,l6,Br];refine zF ⟨zT rfl,om⟩ ?_;simp[go_sem];exact zH (ai++[dX],D++[((pr,pk),data)]) ⟨ad,ah,bT 7 (by grind[pI]) rfl (aq _ _) dc (zC (by simp[go_sem,ae,Dt]) rfl)⟩|some w=>have aa:dI (pr,pk) b.W=some w:=ag;rw[ag]at a7;rw[ahO (by grind)]at ae;simp[go_sem,pE,aa,lI,l6];exact zH (ai++[dX],D++[((pr,pk),data)]) ⟨ad,ah,bT 7 (by grind) rfl (aq _ _) dc (zC (by simp[go_sem,ae]) rfl)⟩
  .have an:=KR (g:=V.str) hn.ok.nd (KU hp);have ah:=hD.next hn.ok.nd hp;have ao:=(KS hn.ok.nd hp).length_eq;obtain⟨⟨⟨pr,pk⟩,data⟩,dX⟩:=p;simp only[gT]at an ah ao;have ad:(j8 (se++[dX]) b.W b.bs).length<(j8 se b.W b.bs).length:=by grind
   clear ao hp;have ae:=xw5 a D ((pr,pk),data);have a7:Iu a ((pr,pk),data)=((a.at (pr,pk)).map (·.2)!=some data):=rfl;simp[go_sem,gT,qx,an];refine yB [] 7 rfl (by rfl) kR ?_;simp[go_sem,eA];cases ag:a.at (pr,pk)with |none=>have aa:dI (pr,pk) a.W=none:=ag;rw[ahP (by grind)]at ae;simp[go_sem,pE,aa,lI,l6,Br];refine zF ⟨zT rfl,om⟩ ?_;simp[go_sem];exact zH (se++[dX],D++[((pr,pk),data)]) ⟨ad,ah,bT 6 (by simp[go_sem,ae,pI,eA];rfl) rfl (aj _ _) dc (zC (by simp[go_sem,ae]) rfl)⟩|some w=>
    have aa:dI (pr,pk) a.W=some w:=ag;rw[ag]at a7;by_cases q:w.2=data
    .have q':(w.2==data)=true:=by grind
     rw[ahO (by grind)]at ae;simp[go_sem,pE,aa,lI,l6,q'];exact zH (se++[dX],D++[((pr,pk),data)]) ⟨ad,ah,bT 6 (by grind) rfl (aj _ _) dc (zC (by simp[go_sem,ae]) rfl)⟩
    .have q':(w.2==data)=false:=by grind
     rw[ahP (by grind)]at ae;simp[go_sem,pE,aa,lI,l6,q',Br];refine zF ⟨zT rfl,om⟩ ?_;simp[go_sem];exact zH (se++[dX],D++[((pr,pk),data)]) ⟨ad,ah,bT 6 (by simp[go_sem,ae,pI,eA];rfl) rfl (aj _ _) dc (zC (by simp[go_sem,ae]) rfl)⟩
theorem xM6(l:List Ln):xB (l.map Ln.row)=true:=by simp[xB,oz,Ln.row]
theorem oO(l:List Ln):eM 3 (l.map Ln.row):=vZ λ_=>rfl
def lV(l:List Ln)(p:Pl):Nat:=(l.takeWhile (λy=>yZ y.at p)).length
theorem xW2(l:List Ln)(x:Ln):oc l x=l.take (lV l x.at)++x::l.drop (lV l x.at):=by unfold oc lV;have h:=B5 (p:=λy:Ln=>yZ y.at x.at) (l:=l);generalize l.takeWhile (λy=>yZ y.at x.at)=t at*;generalize l.dropWhile (λy=>yZ y.at x.at)=d at*;subst h;rw[List.take_left,List.drop_left]
theorem Gs{s:Nat}{l:List (List V)}(h:eM s l):eM s (l.take n):=λr hr=>h r (C6 hr)
theorem K9{s:Nat}{l:List (List V)}(h:eM s l):eM s (l.drop n):=λr hr=>h r (Dn hr)
theorem Vu(l:List Ln)(x:Ln)(hl:l.length<=100000):Pure prog 124 [.sl .ro (l.map Ln.row),.agg x.row] (.sl .ro ((oc l x).map Ln.row)):=by
 have ad:lV l x.at<=l.length:=by unfold lV;have:=ahU List.length (B5 (p:=λy:Ln=>yZ y.at x.at) (l:=l));rw[Al]at this;omega
 rw[xW2];obtain⟨k,hk⟩:=eX (lV l x.at);rw[hk]at ad⊢;generalize hM:l.take k++x::l.drop k=M;have ae:(l.map Ln.row).take l.length=l.map Ln.row:=Ac sm;have ret:∀{g:Tag}{rows:List (List V)}(U:St),rows=M.map Ln.row->bW (some (.sl g rows)) 0 (λr s=>r=.sl .ro (M.map Ln.row)/\s=[]) U:=λU h=>by subst h;exact zV zP ⟨rfl,rfl⟩
 refine iV 0 func124 ntmps124 results124 λc hc hb=>?_;refine zA ?_;simp[go_sem];refine zG (S:=Nat) [0,3,5] (λi=>[.sl .ro (l.map Ln.row),.ptr 0 0,.int .i64 i]) (λ_=>[.box x.row]) (λi=>l.length-i) (λi=>i<=l.length/\i+lV (l.drop i) x.at=k) hc hb 0 ⟨A3 _,by rw[Au,Ab];exact hk⟩ ?_ ?_;.exact iL rfl sm sg
 rintro i ⟨hi,hinv⟩;by_cases q:i<l.length
 .have ei:=zR q om;obtain⟨y,hy⟩:=eX (l[i]);have aa:=xM3 y x;have af:lV (l.drop i) x.at=if yZ y.at x.at=true then lV (l.drop (i+1)) x.at+1 else 0:=by rw[A2 q,hy];unfold lV;rw[Cy];split<;>simp
  rw[af]at hinv;refine zN (zN ?_);refine yB [(10,0)] 1 rfl kR kR ?_;simp[go_sem,q,hy];refine pD aa ?_;refine(A1 (yZ y.at x.at)).elim (λw=>?_) (λw=>?_);.rw[ahP w]at hinv;simp[go_sem,w];refine zA ?_;simp[go_sem];refine zA ?_;simp[go_sem,ei];exact zH (i+1) ⟨by show l.length-(i+1)<l.length-i;omega,⟨q,om⟩,iL rfl sm sg⟩
  .rw[ahO (by rw[w];simp)]at hinv;simp[go_sem,w];refine zA ?_;simp[go_sem];have ab:i=k:=om;subst ab;refine zW [(4,3),(7,3),(11,3)] 1 sm kR kR ?_;simp[go_sem];refine zF ⟨hi,oO l⟩ ?_;simp[go_sem];refine zF ⟨om,(λr hr=>by cases hr),Gs (oO l)⟩ ?_;simp[go_sem];refine zF ⟨om,zT rfl⟩ ?_;simp[go_sem];refine zF ⟨hi,oO l⟩ ?_;simp[go_sem,ae];refine zF ⟨om,K9 (oO l)⟩ ?_;simp[go_sem];exact ret _ (by rw[<-hM];simp[Ln.row,List.map_take])
 .have:i=l.length:=om;subst this;rw[B7]at hinv;refine zN (zN ?_);refine yB [(10,0)] 1 rfl kR kR ?_;simp[go_sem];refine zA ?_;simp[go_sem];have ab:l.length=k:=om;subst ab;refine zW [(4,3),(7,3),(11,3)] 1 sm kR kR ?_;simp[go_sem];refine zF (oO l) ?_;simp[go_sem];refine zF ⟨om,(λr hr=>by cases hr),Gs (oO l)⟩ ?_;simp[go_sem];refine zF ⟨om,zT rfl⟩ ?_;simp[go_sem];refine zF (oO l) ?_;simp[go_sem,ae];refine zF ⟨om,(λr hr=>by cases hr)⟩ ?_;simp[go_sem];exact ret _ (by rw[<-hM];simp[Ln.row])
def vp(gt:Ln->Bool)(out:List Ln):Nat:=out.length-(out.reverse.takeWhile gt).length
theorem wb0(gt:Ln->Bool)(out:List Ln)(x:Ln):oh gt out x=out.take (vp gt out)++x::out.drop (vp gt out):=by
 unfold oh vp;have h:=B5 (p:=gt) (l:=out.reverse);generalize out.reverse.takeWhile gt=t at*;generalize out.reverse.dropWhile gt=d at*;have e:out=d.reverse++t.reverse:=by rw[<-List.reverse_append,h,List.reverse_reverse]
 subst e;have:(d.reverse++t.reverse).length-t.length=d.reverse.length:=sm;rw[this,List.take_left,List.drop_left]
theorem xS8(gt:Ln->Bool)(out:List Ln):vp gt out<=out.length:=Nat.sub_le _ _
theorem we9(gt:Ln->Bool):vp gt []=0:=rfl
theorem xi6(gt:Ln->Bool){out:List Ln}{i:Nat}(h:i<out.length):vp gt (out.take (i+1))=if gt out[i]=true then vp gt (out.take i)else i+1:=by
 unfold vp;rw[B3 h,List.reverse_append,List.reverse_singleton,List.singleton_append,Cy];split;.simp;omega
 .simp;omega
theorem xG6(a b:bF):-1<=fw a b/\fw a b<=1:=by
 unfold fw;have h1:-1<=fR a.kind b.kind/\fR a.kind b.kind<=1:=by unfold fR;split<;>(try split)<;>omega
 have h2:-1<=fR a.n b.n/\fR a.n b.n<=1:=by unfold fR;split<;>(try split)<;>omega
 have h3:-1<=gH a.s b.s/\gH a.s b.s<=1:=by unfold gH;split<;>(try split)<;>omega
 simp only[oK];split
 .split;.split<;>omega
  .omega
 .omega
theorem xi9(c:Nat)(down:Bool)(x:Ln)(l out:List Ln):(x::l).foldl (λout x=>oh (λy=>decide (0<kB c down y x)) out x) out=l.foldl (λout x=>oh (λy=>decide (0<kB c down y x)) out x) (oh (λy=>decide (0<kB c down y x)) out x):=rfl
theorem xi7(dC:Nat)(down:Bool)(l:List Ln)(hl:l.length<=100000)(ai:∀x∈l,dC<x.v.length):Pure prog 199 [.sl .ro (l.map Ln.row),.int .i64 dC,.bool down] (.sl .ro ((nq dC down l).map Ln.row)):=by
 generalize hM:nq dC down l=M;refine iV 0 func199 ntmps199 results199 λc hc hb=>?_;refine zA ?_;simp[go_sem];refine zG (S:=Nat×List Ln) [0,1,2,7,8] (λu=>[.sl .ro (l.map Ln.row),.int .i64 dC,.bool down,.sl .ro (u.2.map Ln.row),.int .i64 u.1]) (λ_=>[]) (λu=>l.length-u.1) (λu=>u.1<=l.length/\u.2.length=u.1/\(∀x∈u.2,dC<x.v.length)/\(l.drop u.1).foldl (λout x=>oh (λy=>decide (0<kB dC down y x)) out x) u.2=M) hc hb (0,[]) ⟨A3 _,rfl,(λx hx=>by cases hx),hM⟩ ?_ ?_;.exact fg rfl ⟨zP,zD rfl,zD rfl,zP,zD rfl,tV⟩
 rintro⟨i,out⟩⟨hi,al,ab,hinv⟩;simp only at hi al ab hinv;by_cases q:i<l.length;rotate_left;.rw[Bj om]at hinv;have hinv:out=M:=hinv;subst hinv;refine zA ?_;simp[go_sem,q];exact zV zP ⟨rfl,rfl⟩
 have ei:=zR q om;obtain⟨x,hx⟩:=eX (l[i]);have ae:=ai x (hx▸A7 q);rw[A2 q,hx,xi9,wb0]at hinv;obtain⟨gt,af⟩:∃gt:Ln->Bool,(λy=>decide (0<kB dC down y x))=gt:=⟨_,rfl⟩;rw[af]at hinv;obtain⟨k,hk⟩:=eX (vp gt out);have ag:=xS8 gt out;rw[hk]at hinv ag;refine zN (zA ?_);simp[go_sem,q];refine zN (pX (zN (zA ?_)));simp[go_sem];refine wM (S:=Unit) [0,1,2,7,8,9] (λ_=>[.sl .ro (l.map Ln.row),.int .i64 dC,.bool down,.sl .ro (out.map Ln.row),.int .i64 i,.int .i64 k]) (λ_=>[]) (λ_=>True) hc hb ?_ ?_
 .refine zA ?_;simp[go_sem];refine zG (S:=Nat) [0,1,2,7,8,9] (λj=>[.sl .ro (l.map Ln.row),.int .i64 dC,.bool down,.sl .ro (out.map Ln.row),.int .i64 i,.int .i64 j]) (λ_=>[]) (λj=>j) (λj=>j<=out.length/\vp gt (out.take j)=k) hc hb out.length ⟨A6 _,by rw[Dq];exact hk⟩ ?_ ?_;.exact aO
  rintro j ⟨hj,aa⟩;have fin:∀(e:Env)(U:St),j=k->e 0=.sl .ro (l.map Ln.row)->e 1=.int .i64 dC->e 2=.bool down->e 7=.sl .ro (out.map Ln.row)->e 8=.int .i64 i->e 9=.int .i64 j->At 0 [0,1,2,7,8,9] [V.sl Tag.ro (l.map Ln.row),.int .i64 dC,.bool down,.sl .ro (out.map Ln.row),.int .i64 i,.int .i64 k] [] e U:=λe U h h0 h1 h2 h7 h8 h9=>by subst h;exact fg rfl (zK (by simp[h0,h1,h2,h7,h8,h9]) rfl)
  cases j with |zero=>rw[Df,we9]at aa;refine zA ?_;simp[go_sem];exact zH () ⟨tV,fin _ _ aa rfl rfl rfl rfl rfl rfl⟩|succ j=>
   have ah:j<out.length:=hj;obtain⟨y,hy⟩:=eX (out[j]);have aj:=ab y (hy▸A7 ah);obtain⟨v,hv⟩:=eX (y.v[dC]);obtain⟨u,hu⟩:=eX (x.v[dC]);have ad:=TU v u;have ak:gt y=decide (0<if down=true then-(fw v u)else fw v u):=by rw[<-af];unfold kB;show decide (0<if down=true then-(fw (y.v.getD dC zeroV) (x.v.getD dC zeroV))else fw (y.v.getD dC zeroV) (x.v.getD dC zeroV))=_;rw[x9 aj,x9 ae,hv,hu]
   obtain⟨c1,c2⟩:=xG6 v u;rw[xi6 gt ah,hy,ak]at aa;generalize fw v u=K at ad aa c1 c2;have es:IntKind.i64.wrap (j:Int)=j:=bR om om;have en:IntKind.i64.wrap (-K)=-K:=bR om om;clear af ak hinv ai ab;refine zA ?_;simp[go_sem];refine yB [(17,0)] 0 rfl kR kR ?_;simp[go_sem,es,ah,hy,aj,hv,q,hx,ae,hu];refine pD ad ?_;refine(A1 down).elim (λw=>?_) (λw=>?_)
   .simp only[w,ai0]at aa;by_cases g:0< -K;.have g2:¬0<=K:=om;rw[ahP (sU g)]at aa;simp[go_sem,w,en,g2,es];exact zH j ⟨om,⟨om,aa⟩,fg rfl (zK (by simp[go_sem,w]) rfl)⟩
    .have g2:0<=K:=om;rw[ahO (sU g)]at aa;simp[go_sem,w,en,g2];exact zH () ⟨tV,fin _ _ aa rfl rfl (by simp[go_sem,w]) rfl rfl rfl⟩
   .simp only[w]at aa;by_cases g:0<K;.have g2:¬K<=0:=om;rw[ahP (sU g)]at aa;simp[go_sem,w,g2,es];exact zH j ⟨om,⟨om,aa⟩,fg rfl (zK (by simp[go_sem,w]) rfl)⟩
    .have g2:K<=0:=om;rw[ahO (sU g)]at aa;simp[go_sem,w,g2];exact zH () ⟨tV,fin _ _ aa rfl rfl (by simp[go_sem,w]) rfl rfl rfl⟩
 rintro _ _;have an:(out.map Ln.row).take out.length=out.map Ln.row:=Ac sm;have ao:∀z∈out.take k++x::out.drop k,dC<z.v.length:=λz hz=>by
  rcases Ak.1 hz with h|h;.exact ab z (C6 h)
  rcases Ag.1 h with rfl|h;.exact ae
  .exact ab z (Dn h)
 refine zW [(4,3),(10,3),(14,3)] 0 sm kR kR ?_;simp[go_sem];refine zF ⟨ag,oO out⟩ ?_;simp[go_sem];refine zF ⟨om,(λr hr=>by cases hr),Gs (oO out)⟩ ?_;simp[go_sem,q,hx];refine zF ⟨om,zT rfl⟩ ?_;simp[go_sem];refine zF ⟨ag,oO out⟩ ?_;simp[go_sem,an];refine zF ⟨om,K9 (oO out)⟩ ?_;simp[go_sem];refine zA ?_;simp[go_sem,ei];exact zH (i+1,out.take k++x::out.drop k) ⟨by show l.length-(i+1)<l.length-i;omega,⟨q,by show(out.take k++x::out.drop k).length=i+1;simp;omega,ao,hinv⟩,fg rfl ⟨zP,zD rfl,zD rfl,by simp[go_sem,List.map_take];exact zP,zD rfl,tV⟩⟩
def yc(M:List bF×Int):V:=.cm [.sl .ro (M.1.map bF.row),.int .i64 M.2]
theorem xT8(T:bH)(hT:T.bP.length<=maxLen)(st:bQ)(au:gR st)(hk:∀x∈st.items,x.kind=3\/x.kind=4)(l:List Ln)(hl:l.length<=10000)(cK:∀x∈l,∀v∈x.v,v.ok):Pure prog 198 [.agg T.row,.agg st.row,.sl .ro (l.map Ln.row)] (yc (lB T l st.items [])):=by
 generalize hM:lB T l st.items []=M;obtain⟨R,hR⟩:=eX st.items;obtain⟨av,an⟩:=au.items;rw[hR]at av an hM hk;have ret:∀(g:Tag)(acc:List bF)(er:Int)(U:St),(acc,er)=M->bW (some (.cm [.sl g (acc.map bF.row),.int .i64 er])) 0 (λr s=>r=yc M/\s=[]) U:=λg acc er U h=>by subst h;exact zV (r:=yc (acc,er)) (yJ ⟨lJ,xJ rfl,tV⟩) ⟨rfl,rfl⟩
 refine iV 0 func198 ntmps198 results198 λc hc hb=>?_;refine zA ?_;simp[go_sem,hR];refine wL 8 3 dc sg ?_;refine zG (S:=Nat×List bF) [2,3,4,8,9] (λu=>[.sl .ro (l.map Ln.row),.ptr 0 0,.ptr 1 0,.sl (.app 2) (u.2.map bF.row),.int .i64 u.1]) (λu=>[.box T.row,.box st.row,.app u.2.length 3]) (λu=>R.length-u.1) (λu=>u.1<=R.length/\u.2.length<=u.1/\lB T l (R.drop u.1) u.2=M) hc hb (0,[]) ⟨A3 _,A6 _,hM⟩ ?_ ?_;.exact bT 3 (by simp[go_sem,hR]) rfl (by simp[bO,cH,cF,bH.row,bQ.row]) dc (zC sg rfl)
 rintro⟨i,acc⟩⟨hi,ha,hinv⟩;simp only at hi ha hinv;by_cases q:i<R.length;rotate_left;.rw[A4 om]at hinv;refine zA ?_;simp[go_sem,hR,q];exact ret _ acc 0 _ hinv
 have ei:=zR q om;obtain⟨x,hx⟩:=eX (R[i]);have ao:x∈R:=hx▸A7 q;have aq:=(an x ao).2;have ax:=hk x ao;rw[A2 q,hx,lB]at hinv;by_cases k4:x.kind=4;rotate_left
 .have k3:(x.kind==3)=true:=by simp;omega
  rw[ahO k4]at hinv;refine zA ?_;simp[go_sem,hR,q,hx,k3];refine zF ⟨om,zT rfl⟩ ?_;simp[go_sem,ei];exact zH (i+1,acc++[⟨2,l.length,[]⟩]) ⟨by show R.length-(i+1)<R.length-i;omega,⟨q,by show(acc++[_]).length<=i+1;simp;omega,hinv⟩,bT 3 (by simp[go_sem,hR]) rfl (by simp[bO,cH,cF]) dc (zC sg rfl)⟩
 have k3:(x.kind==3)=false:=by simp;omega
 rw[ahP k4]at hinv;obtain⟨S,hS⟩:=eX (jb T x.e l zeroV);rw[hS]at hinv;refine zA ?_;simp[go_sem,hR,q,hx,k3];refine zG (S:=Nat×bF) [2,3,4,8,9,10,11] (λu=>[.sl .ro (l.map Ln.row),.ptr 0 0,.ptr 1 0,.sl (.app 2) (acc.map bF.row),.int .i64 i,.ptr 3 0,.int .i64 u.1]) (λu=>[.box T.row,.box st.row,.app acc.length 3,.box u.2.row]) (λu=>l.length-u.1) (λu=>u.1<=l.length/\eY u.2.n/\u.2.s=[]/\jb T x.e (l.drop u.1) u.2=S) hc hb (0,zeroV) ⟨A3 _,dc,rfl,hS⟩ ?_ ?_;.exact bT 4 (by simp[go_sem,hR,zeroV]) rfl (by simp[bO,cH,cF,bH.row,bQ.row,bF.row]) dc (zC sg rfl)
 rintro⟨j,ad⟩⟨hj,ht,ah,aa⟩;simp only at hj ht ah aa;by_cases qj:j<l.length;rotate_left;.rw[A4 om]at aa;have aa:(ad,0)=S:=aa;subst aa;rw[ahO (λh=>h rfl)]at hinv;refine zA ?_;simp[go_sem,qj];refine zF ⟨om,zT rfl⟩ ?_;simp[go_sem,ei];exact zH (i+1,acc++[ad]) ⟨by show R.length-(i+1)<R.length-i;omega,⟨q,by show(acc++[_]).length<=i+1;simp;omega,hinv⟩,bT 3 (by simp[go_sem,hR]) rfl (by simp[bO,cH,cF]) dc (zC sg rfl)⟩
 have ej:=zR qj om;obtain⟨y,hy⟩:=eX (l[j]);have ar:y∈l:=hy▸A7 qj;rw[A2 qj,hy,UJ]at aa;have ae:=H5 T hT y.v (cK y ar) x.e aq;have ai:=OP (cK y ar) (T:=T) aq;obtain⟨⟨v,er⟩,hv⟩:∃kv,fN T y.v x.e=kv:=⟨_,rfl⟩;rw[hv]at aa ae ai;simp only at aa ai;have ag:=λh:er=0=>Oe ad.n v.n ht (ai h).n;have af:=KC (ad.n+v.n);obtain⟨⟨sn,se⟩,hs⟩:∃s,dL (ad.n+v.n)=s:=⟨_,rfl⟩;rw[hs]at aa ag af;simp only at aa af;refine zA ?_;simp[go_sem,qj];refine yB [(12,0)] 4 rfl kR kR ?_;simp[go_sem,hR,q,hx,qj,hy];refine yF ae cB (λ_=>⟨zD rfl,zP,oI x.e,tV⟩) rfl ?_;simp[go_sem,dP];have again:∀(ab:bF)(e:Env)(U:St),eY ab.n->ab.s=[]->jb T x.e (l.drop (j+1)) ab=S->e 2=.sl .ro (l.map Ln.row)->e 3=.ptr 0 0->e 4=.ptr 1 0->e 8=.sl (.app 2) (acc.map bF.row)->e 9=.int .i64 i->e 10=.ptr 3 0->e 11=.int .i64 ((j+1:Nat):Int)->U.take 4=[.box T.row,.box st.row,.app acc.length 3,.box ab.row]->At 0 [2,3,4,8,9,10,11] [V.sl Tag.ro (l.map Ln.row),.ptr 0 0,.ptr 1 0,.sl (.app 2) (acc.map bF.row),.int .i64 i,.ptr 3 0,.int .i64 ((j+1:Nat):Int)] [.box T.row,.box st.row,.app acc.length 3,.box ab.row] e U:=λab e U h1 h2 h3 e2 e3 e4 e8 e9 rO aw cD=>bT 4 cD rfl (by simp[bO,cH,cF,bH.row,bQ.row,bF.row]) dc (zC (by simp[e2,e3,e4,e8,e9,rO,aw]) rfl);by_cases q2:er=0;rotate_left;.have aj:(er !=0)=true:=sU q2;rw[ahP q2]at aa;rw[<-aa,ahP q2]at hinv;simp[go_sem,aj];exact ret _ [] er _ hinv
 have aj:(er !=0)=false:=sU q2;rw[ahO (λh=>h q2)]at aa;simp[go_sem,aj];by_cases k0:v.kind=0;.have ak:(v.kind==0)=true:=sU k0;rw[ahP k0]at aa;simp[go_sem,ak,ej];exact zH (j+1,ad) ⟨by show l.length-(j+1)<l.length-j;omega,⟨qj,ht,ah,aa⟩,again ad _ _ ht ah aa rfl rfl rfl rfl rfl rfl sg (by simp[go_sem,hR])⟩
 have ak:(v.kind==0)=false:=sU k0;rw[ahO k0]at aa;simp[go_sem,ak];refine pC (ag q2) ?_;simp[go_sem,yN];by_cases q3:se=0;rotate_left;.have al:(se !=0)=true:=sU q3;rw[ahP q3]at aa;rw[<-aa,ahP q3]at hinv;simp[go_sem,al];exact ret _ [] se _ hinv
 have al:(se !=0)=false:=sU q3;rw[ahO (λh=>h q3)]at aa;simp[go_sem,al,ej];exact zH (j+1,⟨2,sn,[]⟩) ⟨by show l.length-(j+1)<l.length-j;omega,⟨qj,af,rfl,aa⟩,again ⟨2,sn,[]⟩ _ _ af rfl aa rfl rfl rfl rfl rfl rfl sg (by simp[go_sem,hR])⟩
structure BO(T:bH)(st:bQ):Prop where
 items:st.items≠[]whole:sG st.items=true->∀x∈st.items,x.kind=3\/x.kind=4none:st.order=[]->¬0<=cq T st.order
 dC:st.order≠[]->0<=cq T st.order
theorem yX5(tn:Nat)(T:bH)(hT:bI[tn]?=some T)(st:bQ)(ay:gR st)(ah:BO T st)(l:List Ln)(hl:l.length<=10000)(cK:∀x∈l,eP x/\x.v.length=T.bP.length):Pure prog 127 [.agg T.row,.agg st.row,.sl .ro (l.map Ln.row)] (iz (jz T st l)):=by
 have ar:T.bP.length<=maxLen:=(by decide:∀T∈bI,T.bP.length<=maxLen) T (B9 hT);obtain⟨wb,af⟩:=eX (sG st.items);obtain⟨M,hM⟩:=eX (jz T st l);rw[hM];have al:wb=true->iz M=if(lB T l st.items []).2=0then .cm [.agg (Ot.row ⟨0,[(lB T l st.items []).1]⟩),.int .i64 0]else .cm [.agg (Ot.row ⟨0,[]⟩),.int .i64 (lB T l st.items []).2]:=λh=>by
  rw[<-hM];unfold iz jz;rw[ahP (af.trans h)];by_cases q:(lB T l st.items []).2=0;.rw[ahP q,ahO (λh=>h q)]
  .rw[ahO q,ahP q]
 have an:=λh:wb=false=>(Vq T st l (af.trans h)).symm.trans hM;have ab:=λh:wb=true=>xT8 T ar st ay (ah.whole (af.trans h)) l hl (λx hx=>(cK x hx).1.ok);obtain⟨y0,ys,ai⟩:∃y0 ys,st.items=y0::ys:=by cases h:st.items with|nil=>exact absurd h ah.items|cons y ys=>exact⟨y,ys,rfl⟩
 have au:(y0.kind==3||y0.kind==4)=wb:=by cases h:wb with |true=>have:=ah.whole (af.trans h) y0 (by rw[ai];exact Ax ..);rcases this with h|h<;>simp[h]|false=>have h2:=af.trans h;unfold sG at h2;rw[ai,Bx,Bool.or_eq_false_iff]at h2;exact h2.1
 obtain⟨uJ,hJ⟩:=eX st.items;have aE:uJ.head?.map (·.kind)=some y0.kind:=by rw[<-hJ,ai];rfl
 have ag:∃h:0<uJ.length,uJ[0]=y0:=by rw[<-hJ,ai];exact⟨Nat.succ_pos _,rfl⟩
 obtain⟨ao,ag⟩:=ag;obtain⟨aF,az⟩:=ay.items;rw[hJ]at al an ab aF az;clear hM af ai;refine iV 0 func127 ntmps127 results127 λc hc hb=>?_;refine zN (zA ?_);simp[go_sem];refine zN (zA ?_);simp[go_sem];have ad:(wb=true/\((y0.kind==3)=true/\True\/(y0.kind==3)=false/\(y0.kind==4)=true))\/(wb=false/\(y0.kind==3)=false/\(y0.kind==4)=false):=by revert au;cases(y0.kind==3)<;>cases(y0.kind==4)<;>cases wb<;>simp
 rcases ad with⟨w,ad⟩|⟨w,aG,aH⟩;.have a1:=ab w;have hM:=al w;obtain⟨⟨sr,se⟩,hS⟩:∃S,lB T l uJ []=S:=⟨_,rfl⟩;rw[hS]at a1 hM;simp only at hM;clear al an ab au;rcases ad with h|h;all_goals(
   refine zN (zA ?_);simp[go_sem,hJ,ao,ag,h];refine zJ a1 cB (zK (by simp[go_sem,hJ]) rfl) rfl ?_;simp[go_sem,yc];by_cases e0:se=0;.have ae:(se !=0)=false:=sU e0;rw[ahP e0]at hM;simp[go_sem,ae];exact zV (r:=iz M) (by rw[hM];exact yJ ⟨xS ⟨yH,zU rfl,tV⟩,xJ rfl,tV⟩) ⟨rfl,rfl⟩
   .have ae:(se !=0)=true:=sU e0;rw[ahO e0]at hM;simp[go_sem,ae];exact zV (r:=iz M) (by rw[hM];exact yJ ⟨xS ⟨yH,zU rfl,tV⟩,xJ rfl,tV⟩) ⟨rfl,rfl⟩)
 .refine zN (zA ?_);simp[go_sem,hJ,ao,ag,aG,aH];have hM:=an w;clear al an ab au;obtain⟨m,hm⟩:=eX ((if 0<=cq T st.order then nq (cq T st.order).toNat st.down l else l));rw[hm]at hM;have a6:m.Perm l:=by
   rw[<-hm];split;.exact K7 _ _ _
   .exact List.Perm.refl _
  have aS:=a6.length_eq;have av:Pure prog 103 [.agg T.row,.str st.order] (.int .i64 (cq T st.order)):=Ga T st.order ar;have a7:0<=cq T st.order->∃k:Nat,cq T st.order=k/\Pure prog 199 [.sl .ro (l.map Ln.row),.int .i64 k,.bool st.down] (.sl .ro (m.map Ln.row)):=λh0=>by obtain⟨k,hk,a8⟩:=Vp T st.order h0;have hs:=xi7 k st.down l om (λx hx=>by rw[(cK x hx).2];exact a8);rw[ahP h0,hk,Ai]at hm;rw[hm]at hs;exact⟨k,hk,hs⟩
  have aq:¬0<=cq T st.order->m=l:=λh=>by rw[<-hm,ahO h]
  clear hm;have aA:([.box T.row,.box st.row,.box di,.box di]:St).all (bO 4)=true:=by simp[bO,cH,cF,bH.row,bQ.row,di]
  refine wM (S:=Unit) [2,3,4,6,8] (λ_=>[.sl .ro (m.map Ln.row),.ptr 0 0,.ptr 1 0,.ptr 2 0,.ptr 3 0]) (λ_=>[.box T.row,.box st.row,.box di,.box di]) (λ_=>True) hc hb ?_ ?_
  .by_cases o0:st.order=[];.rw[aq (ah.none o0)];refine zA ?_;simp[go_sem,o0];exact zH () ⟨tV,bT 4 (by simp[go_sem,di,hJ,o0]) rfl aA dc (zC sg rfl)⟩
   .obtain⟨k,hk,hs⟩:=a7 (ah.dC o0);rw[hk]at av;have aI:st.order.isEmpty=false:=sU o0;refine zA ?_;simp[go_sem,aI];refine yB [(4,0),(7,0)] 4 rfl kR kR ?_;simp[go_sem];refine pD av ?_;simp[go_sem];refine pD hs ?_;simp[go_sem];exact zH () ⟨tV,bT 4 (by simp[go_sem,di,hJ]) rfl aA dc (zC sg rfl)⟩
  rintro _ _;clear a7 aq av;obtain⟨k,aJ,a8,aw⟩:∃k,kC st.cG m=m.take k/\k<=m.length/\(k=if 0<=st.cG/\st.cG<m.length then st.cG.toNat else m.length):=by
   unfold kC;by_cases h0:0<=st.cG
   .rw[ahP h0];by_cases h1:st.cG<m.length;.exact⟨st.cG.toNat,rfl,om,by rw[ahP ⟨h0,h1⟩]⟩
    .exact⟨m.length,by rw[Ac om,Dq],A6 _,by rw[ahO (λh=>h1 h.2)]⟩
   .rw[ahO h0];exact⟨m.length,by rw[Dq],A6 _,by rw[ahO (λh=>h0 h.1)]⟩
  rw[aJ]at hM;have aK:∀x∈m,eP x:=λx hx=>(cK x (a6.mem_iff.1 hx)).1;obtain⟨P,hP⟩:=eX (mW T uJ (m.take k) []);rw[hP]at hM;have cN:∀(g:Tag)(rows:List (List bF))(U:St),P=(rows,0)->bW (some (.cm [.agg [.sl g (rows.map λr=>[V.sl .ro (r.map bF.row)]),.int .i64 0],.int .i64 0])) 0 (λr s=>r=iz M/\s=[]) U:=λg rows U h=>by rw[h,ahO (λh=>h rfl)]at hM;exact zV (r:=iz M) (by rw[<-hM];exact yJ ⟨xS ⟨yH,zU rfl,tV⟩,xJ rfl,tV⟩) ⟨rfl,rfl⟩
  have bad:∀(er:Int)(U:St),P.2=er->er≠0->bW (some (.cm [.agg [.sl .full [],.int .i64 0],.int .i64 er])) 0 (λr s=>r=iz M/\s=[]) U:=λer U h h0=>by rw[h,ahP h0]at hM;exact zV (r:=iz M) (by rw[<-hM];exact yJ ⟨xS ⟨yH,zU rfl,tV⟩,xJ rfl,tV⟩) ⟨rfl,rfl⟩
  clear hM;refine DK 3 0 1 di dc rfl rfl ?_;refine zN (zA ?_);simp[go_sem];refine zG (S:=Nat×List (List bF)) [2,3,4,6,8,11] (λu=>[.sl .ro (m.map Ln.row),.ptr 0 0,.ptr 1 0,.ptr 2 0,.ptr 3 0,.int .i64 u.1]) (λu=>[.box T.row,.box st.row,.box di,.box [.sl (.app 4) (u.2.map λr=>[V.sl .ro (r.map bF.row)]),.int .i64 0],.app u.2.length 1]) (λu=>k-u.1) (λu=>u.1<=k/\u.2.length<=u.1/\mW T uJ ((m.take k).drop u.1) u.2=P) hc hb (0,[]) ⟨A3 _,A6 _,hP⟩ ?_ ?_;.exact zY sm sg
  rintro⟨i,out⟩⟨hi,aL,hinv⟩;simp only at hi aL hinv;by_cases q:i<k;rotate_left
  .rw[A4 (by rw[Ct];omega),mW]at hinv;have hex:¬i<m.length/\True\/i<m.length/\¬st.cG<0/\¬(i:Int)<st.cG:=by
    by_cases h0:0<=st.cG/\st.cG<m.length;.rw[ahP h0]at aw;right;omega
    .rw[ahO h0]at aw;left;exact⟨om,tV⟩
   rcases hex with h|h;all_goals(refine zA ?_;simp[go_sem,h];refine zA ?_;simp[go_sem,di];exact cN _ out _ hinv.symm)
  have ei:=zR q om;have aB:∀out:List (List bF),([.box T.row,.box st.row,.box di,.box [.sl (.app 4) (out.map λr=>[V.sl .ro (r.map bF.row)]),.int .i64 0],.app out.length 1]:St).all (bO 5)=true:=λout=>by simp[bO,cH,cF,bH.row,bQ.row,di]
  have aj:i<m.length:=om;have aC:st.cG<0/\True\/¬st.cG<0/\(i:Int)<st.cG:=by
   by_cases h0:0<=st.cG/\st.cG<m.length;.rw[ahP h0]at aw;right;omega
   .by_cases h1:st.cG<0;.left;exact⟨h1,tV⟩
    .right;omega
  obtain⟨x,hx⟩:=eX (m[i]);have aD:=aK x (hx▸A7 aj);have aT:=Iv aD;rw[A2 (by rw[Ct];omega),List.getElem_take,hx,mW,aE]at hinv;by_cases k1:y0.kind=1;.have ax:(y0.kind==1)=true:=sU k1;rw[ahP (by rw[k1])]at hinv;have aP:eM 3 (x.v.map bF.row):=vZ λ_=>rfl;rcases aC with h|h;all_goals(refine zA ?_;simp[go_sem,aj,h,hJ,ao,ag,ax];refine zW [(8,3),(10,3)] 4 sm kR kR ?_;simp[go_sem,aj,hx];refine zF ⟨om,(λr hr=>by cases hr),aP⟩ ?_;simp[go_sem];refine zF ⟨om,zT rfl⟩ ?_;simp[go_sem,ei];exact zH (i+1,out++[x.v]) ⟨by show k-(i+1)<k-i;omega,⟨q,by show(out++[x.v]).length<=i+1;simp;omega,hinv⟩,bT 5 (by simp[go_sem,hJ]) rfl (aB _) dc (zC sg rfl)⟩)
  .have ax:(y0.kind==1)=false:=sU k1;rw[ahO (λh=>k1 (sU h))]at hinv;obtain⟨E,hE⟩:=eX (dJ T x.v (uJ.map (·.e)) []);rw[hE]at hinv;rcases aC with h|h;all_goals(
    refine zA ?_;simp[go_sem,aj,h,hJ,ao,ag,ax];refine wL 12 3 dc sg ?_;refine zG (S:=Nat×List bF) [2,3,4,6,8,11,12,13] (λu=>[.sl .ro (m.map Ln.row),.ptr 0 0,.ptr 1 0,.ptr 2 0,.ptr 3 0,.int .i64 i,.sl (.app 5) (u.2.map bF.row),.int .i64 u.1]) (λu=>[.box T.row,.box st.row,.box di,.box [.sl (.app 4) (out.map λr=>[V.sl .ro (r.map bF.row)]),.int .i64 0],.app out.length 1,.app u.2.length 3]) (λu=>uJ.length-u.1) (λu=>u.1<=uJ.length/\u.2.length<=u.1/\dJ T x.v ((uJ.drop u.1).map (·.e)) u.2=E) hc hb (0,[]) ⟨A3 _,A6 _,hE⟩ ?_ ?_;.exact iL (by simp[bH.row,bQ.row,hJ]) sm sg
    rintro⟨j,acc⟩⟨hj,aQ,aa⟩;simp only at hj aQ aa;by_cases qj:j<uJ.length;rotate_left;.rw[A4 om,Bp,dJ]at aa;rw[<-aa,ahO (λh=>h rfl)]at hinv;refine zA ?_;simp[go_sem,hJ,qj];refine zF ⟨om,zT rfl⟩ ?_;simp[go_sem,ei];exact zH (i+1,out++[acc]) ⟨by show k-(i+1)<k-i;omega,⟨q,by show(out++[_]).length<=i+1;simp;omega,hinv⟩,bT 5 (by simp[go_sem,hJ]) rfl (aB _) dc (zC sg rfl)⟩
    have ej:=zR qj om;obtain⟨y,hy⟩:=eX (uJ[j]);have aR:=(az y (hy▸A7 qj)).2;rw[A2 qj,hy,Ad,dJ]at aa;have ak:=H5 T ar x.v aD.ok y.e aR;obtain⟨⟨v,er⟩,hv⟩:∃kv,fN T x.v y.e=kv:=⟨_,rfl⟩;rw[hv]at aa ak;simp only at aa;refine zA ?_;simp[go_sem,hJ,qj];refine yB [(12,0)] 6 sm kR kR ?_;simp[go_sem,qj,hy,aj,hx];refine yF ak cB (λ_=>⟨zD rfl,zP,oI y.e,tV⟩) rfl ?_;simp[go_sem,dP];by_cases e0:er=0;rotate_left;.have ae:(er !=0)=true:=sU e0;rw[ahP e0]at aa;rw[<-aa,ahP e0]at hinv;simp[go_sem,ae,di];exact bad er _ (by rw[<-hinv]) e0
    have ae:(er !=0)=false:=sU e0;rw[ahO (λh=>h e0)]at aa;simp[go_sem,ae];refine zF ⟨om,zT rfl⟩ ?_;simp[go_sem,ej];exact zH (j+1,acc++[v]) ⟨by show uJ.length-(j+1)<uJ.length-j;omega,⟨qj,by show(acc++[_]).length<=j+1;simp;omega,aa⟩,bT 6 (by simp[go_sem,hJ]) rfl (by simp[bO,cH,cF,di]) dc (zC sg rfl)⟩)
theorem Vv{J:Type}{p:J->Bool}:∀{l:List J}{i:Nat},(0<=xE p l i↔l.any p=true)
 |[],i=>by rw[xE];simp|x::l,i=>by
  rw[xE,Bx];by_cases h:p x=true;.rw[ahP h,h];simp
  .rw[ahO h,Vv];simp[h]
theorem Vy:0<=xE (uf p) l 0↔fT l p=true:=by rw[Vv];unfold fT;rw[Cp.1 (ahU (λq=>l.any q) (funext λx=>?_))];rw[Cp,p9];simp
def gB(M:List Ln×Int):V:=.cm [.sl .ro (M.1.map Ln.row),.int .i64 M.2]
theorem xL6(_hT:bI[tn]?=some T)(row:List bF)(h:dS T.bP row≠0):(eK tn T row).2.2=dS T.bP row:=by unfold eK;rw[ahP h]
theorem yR8(tn:Nat)(T:bH)(hT:bI[tn]?=some T)(st:bQ)(av:gR st)(l:List Ln)(hl:l.length<=10000):Pure prog 125 [cA bI,.int .i64 tn,.agg st.row,.sl .ro (l.map Ln.row)] (gB (fy tn T st.rows l)):=by
 obtain⟨aw,ax⟩:=A5.1 hT;obtain⟨R,hR⟩:=eX st.rows;obtain⟨ay,an⟩:=av.rows;rw[hR]at ay an⊢;generalize hM:fy tn T R l=M;have bad:∀(er:Int)(U:St),M=([],er)->bW (some (.cm [.sl .full [],.int .i64 er])) 0 (λr s=>r=gB M/\s=[]) U:=λer U h=>by rw[h];exact zV (r:=gB ([],er)) (yJ ⟨lJ,xJ rfl,tV⟩) ⟨rfl,rfl⟩
 have cN:∀(g:Tag)(l1:List Ln)(U:St),M=(l1,0)->bW (some (.cm [.sl g (l1.map Ln.row),.int .i64 0])) 0 (λr s=>r=gB M/\s=[]) U:=λg l1 U h=>by rw[h];exact zV (r:=gB (l1,0)) (yJ ⟨lJ,xJ rfl,tV⟩) ⟨rfl,rfl⟩
 refine iV 0 func125 ntmps125 results125 λc hc hb=>?_;refine zN (zA ?_);simp[go_sem,cA];refine zN (zA ?_);simp[go_sem,aw,ax];have kj:∀(n:Nat),([.box [.sl .ro yL,.sl .ro (bI.map bH.row)],.box st.row,.box T.row]:St).all (bO n)=true:=λn=>by simp[bO,cH,cF,bH.row,bQ.row]
 refine zN (zA ?_);simp[go_sem];refine zG (S:=Nat×List Ln) [1,3,4,6,10,11] (λu=>[.int .i64 tn,.sl .ro (u.2.map Ln.row),.ptr 0 0,.ptr 1 0,.ptr 2 0,.int .i64 u.1]) (λ_=>[.box [.sl .ro yL,.sl .ro (bI.map bH.row)],.box st.row,.box T.row]) (λu=>R.length-u.1) (λu=>u.1<=R.length/\u.2.length<=10000+u.1/\fy tn T (R.drop u.1) u.2=M) hc hb (0,l) ⟨A3 _,hl,hM⟩ ?_ ?_;.exact bT 3 (by simp[go_sem,hR]) rfl (kj 3) dc (zC sg rfl)
 rintro⟨i,l1⟩⟨hi,az,aa⟩;simp only at hi az aa;by_cases q:i<R.length;rotate_left;.rw[A4 om,fy]at aa;refine zA ?_;simp[go_sem,hR,q];refine zA ?_;simp[go_sem];exact cN _ l1 _ aa.symm
 have ei:=zR q om;obtain⟨x,hx⟩:=eX (R[i]);obtain⟨aD,ao⟩:=an x (hx▸A7 q);have ae:=Ia x [] ao (λv hv=>by cases hv);rw[A2 q,hx,fy]at aa;obtain⟨E,hE⟩:=eX (dJ eC [] x []);rw[hE]at aa ae;refine zA ?_;simp[go_sem,hR,q];refine wL 12 3 dc sg ?_;refine zG (S:=Nat×List bF) [1,3,4,6,10,11,12,13] (λu=>[.int .i64 tn,.sl .ro (l1.map Ln.row),.ptr 0 0,.ptr 1 0,.ptr 2 0,.int .i64 i,.sl (.app 3) (u.2.map bF.row),.int .i64 u.1]) (λu=>[.box [.sl .ro yL,.sl .ro (bI.map bH.row)],.box st.row,.box T.row,.app u.2.length 3]) (λu=>x.length-u.1) (λu=>u.1<=x.length/\u.2.length<=u.1/\dJ eC [] (x.drop u.1) u.2=E) hc hb (0,[]) ⟨A3 _,A6 _,hE⟩ ?_ ?_;.exact iL (by simp[bH.row,bQ.row,hR]) sm sg
 rintro⟨j,acc⟩⟨hj,a1,ab⟩;simp only at hj a1 ab;by_cases qj:j<x.length
 .have ej:=zR qj om;obtain⟨e,he⟩:=eX (x[j]);have a6:=ao e (he▸A7 qj);rw[A2 qj,he,dJ]at ab;have ad:=H5 eC dc [] (λv hv=>by cases hv) e a6;obtain⟨kv,a7⟩:=eX (fN eC [] e);rw[a7]at ab ad;refine zA ?_;simp[go_sem,hR,q,hx,qj,he];refine zJ ad cB ⟨uM ⟨zU rfl,yH,zU rfl,zU rfl,zU rfl,yH,yH,yH,zU rfl,zU rfl,zU rfl,tV⟩,zP,zK sg (by rw[bG.bK];rfl)⟩ rfl ?_;simp[go_sem,dP];by_cases q2:kv.2=0;rotate_left;.have ai:(kv.2!=0)=true:=sU q2;rw[ahP q2]at ab;rw[<-ab,ahP q2]at aa;simp[go_sem,ai];exact bad kv.2 _ aa.symm
  have ai:(kv.2!=0)=false:=sU q2;rw[ahO (λh=>h q2)]at ab;simp[go_sem,ai];refine zF ⟨om,zT rfl⟩ ?_;simp[go_sem,ej];exact zH (j+1,acc++[kv.1]) ⟨by show x.length-(j+1)<x.length-j;omega,⟨qj,by show(acc++[_]).length<=j+1;simp;omega,ab⟩,bT 4 (by simp[go_sem,hR]) rfl (by simp[bO,cH,cF]) dc (zC sg rfl)⟩
 rw[A4 om,dJ]at ab;rw[<-ab]at ae aa;obtain⟨_,aq⟩:=ae rfl;simp only at aa aq;rw[ahO (λh=>h rfl)]at aa;have ag:=OG T acc (by unfold maxLen;omega);have ah:=Ui tn T hT acc (by unfold maxLen;omega) aq;have af:=xL6 hT acc;obtain⟨⟨kr,kk,ke⟩,a8⟩:∃ks,eK tn T acc=ks:=⟨_,rfl⟩;rw[a8]at aa ah af;simp only at aa af;have ar:=OK l1 (kr,kk) (by unfold maxLen;omega);have aj:=Vy (l:=l1) (p:=(kr,kk));have aA:=Vu l1 ⟨kr,kk,acc⟩ om;have aE:(oc l1 ⟨kr,kk,acc⟩).length=l1.length+1:=(x6 l1 ⟨kr,kk,acc⟩).length_eq;obtain⟨mr,aB⟩:=eX (dS T.bP acc);rw[aB]at ag af;obtain⟨fa,aC⟩:=eX (xE (uf (kr,kk)) l1 0);rw[aC]at ar aj;clear ae ab;refine zA ?_;simp[go_sem,hR,q,hx,qj];refine pC ag ?_;simp[go_sem];by_cases m0:mr=0;rotate_left;.have ak:(mr !=0)=true:=sU m0;have au:=af m0;simp[go_sem,ak];exact bad mr _ (by rw[<-aa,ahP (by rw[au];exact m0),au])
 have ak:(mr !=0)=false:=sU m0;simp[go_sem,ak];refine pC ah ?_;simp[go_sem,k9];by_cases k0:ke=0;rotate_left;.have al:(ke !=0)=true:=sU k0;rw[ahP k0]at aa;simp[go_sem,al];exact bad ke _ aa.symm
 have al:(ke !=0)=false:=sU k0;rw[ahO (λh=>h k0)]at aa;simp[go_sem,al];refine pC ar ?_;simp[go_sem];by_cases a0:0<=fa;.rw[ahP (aj.1 a0)]at aa;simp[go_sem,a0];exact bad 18 _ aa.symm
 .rw[ahO (λh=>a0 (aj.2 h))]at aa;simp[go_sem,a0];refine zJ aA cB ⟨zP,uM ⟨zU rfl,zU rfl,yH,tV⟩,tV⟩ rfl ?_;simp[go_sem,ei];exact zH (i+1,oc l1 ⟨kr,kk,acc⟩) ⟨by show R.length-(i+1)<R.length-i;omega,⟨q,by show(oc l1 ⟨kr,kk,acc⟩).length<=10000+(i+1);omega,aa⟩,bT 3 (by simp[go_sem,hR]) rfl (kj 3) dc (zC sg rfl)⟩
theorem wp9:Pure prog 122 [cA bI,.int .i64 0] (mg (dY 0)):=pf nU wV marks 10000 kR
theorem wq0:Pure prog 122 [cA bI,.int .i64 1] (mg (dY 1)):=pf nU wV marks 10000 kR
theorem wq1:Pure prog 122 [cA bI,.int .i64 2] (mg (dY 2)):=pf nU wV marks 10000 kR
theorem wq2:Pure prog 122 [cA bI,.int .i64 3] (mg (dY 3)):=pf nU wV marks 10000 kR
theorem Vz(r:Int)(h:(dY r).2.2=0):Pure prog 122 [cA bI,.int .i64 r] (mg (dY r)):=by
 unfold dY at h;by_cases h0:r=0;.subst h0;exact wp9
 by_cases h1:r=1;.subst h1;exact wq0
 by_cases h2:r=2;.subst h2;exact wq1
 by_cases h3:r=3;.subst h3;exact wq2
 rw[ahO h0,ahO h1,ahO h2,ahO h3]at h;cases h
theorem wc9{s:Int}(h:(dY r).2.2=0)(h2:(dY s).2.2=0)(he:dY r=dY s):r=s:=by unfold dY at h h2 he;by_cases a0:r=0<;>by_cases a1:r=1<;>by_cases a2:r=2<;>by_cases a3:r=3<;>by_cases b0:s=0<;>by_cases b1:s=1<;>by_cases b2:s=2<;>by_cases b3:s=3<;>first|omega|(simp_all)
theorem xu9(h3:tn<3)(st:bQ)(hx:eP x):mn tn st x=(((dY x.r).1==(tn:Int))&&((!Op.bytesLess x.k (mR bI tn st).1&&Op.bytesLess x.k (mR bI tn st).2)&&(wE tn st).any λg=>g==(dY x.r).2.1)):=by
 have key:((wE tn st).any λg=>(wY tn g).1==x.r)=(((dY x.r).1==(tn:Int))&&(wE tn st).any λg=>g==(dY x.r).2.1):=by
  rw[Cp,C2,A8,C2];constructor;.rintro⟨g,hg,he⟩;have:=(KW tn h3 hg).2.2;rw[show(wY (tn:Int) g).1=x.r by simpa using he]at this;rw[this];exact⟨sm,g,hg,sm⟩
  .rintro⟨h1,g,hg,he⟩;refine⟨g,hg,?_⟩;obtain⟨_,_,h4⟩:=KW tn h3 hg;have h5:dY x.r=((tn:Int),g,0):=aih (sU h1) (aih (by have aa:g=(dY x.r).2.1:=sU he;exact aa.symm) hx.err);rw[wc9 (by rw[h4]) hx.err (h4.trans h5.symm)];simp
 unfold mn;rw[key];cases(dY x.r).1==(tn:Int)<;>cases(!Op.bytesLess x.k (mR bI tn st).1&&Op.bytesLess x.k (mR bI tn st).2)<;>simp
def jA(f:Bool)(T:bH)(st:bQ)(out rest:List Ln):List Ln×Int:=if f=true then oL T st out rest else(out++rest,0)
theorem wn8(t:Int)(T:bH)(st:bQ)(l:List Ln):fb t T st l=jA st.cz T st [] (l.filter (mn t st)):=by unfold fb jA;split<;>simp
theorem xR6(tn:Nat)(T:bH)(hT:bI[tn]?=some T)(st:bQ)(ag:gR st)(l:List Ln)(hl:l.length<=10000)(cK:∀x∈l,eP x):Pure prog 126 [cA bI,.int .i64 tn,.agg st.row,.sl .ro (l.map Ln.row)] (gB (fb tn T st l)):=by
 obtain⟨au,a1⟩:=A5.1 hT;have h3:tn<3:=au;have a6:T.bP.length<=maxLen:=(by decide:∀T∈bI,T.bP.length<=maxLen) T (B9 hT);have aj:=xu7 tn st ag;have ak:=xg8 tn st ag;rw[xu8 ag]at aj;rw[xg9 ag]at ak;have ad:∀x∈l,mn tn st x=(((dY x.r).1==(tn:Int))&&((!Op.bytesLess x.k (mR bI tn st).1&&Op.bytesLess x.k (mR bI tn st).2)&&(wE tn st).any λg=>g==(dY x.r).2.1)):=λx hx=>xu9 h3 st (cK x hx);have a7:=Tr tn st;obtain⟨⟨lo,hi⟩,av⟩:∃bd,mR bI tn st=bd:=⟨_,rfl⟩;obtain⟨G,hG⟩:=eX (wE tn st);rw[av]at aj ad;rw[hG]at ak ad a7;obtain⟨box,ab⟩:=eX (mn (tn:Int) st);rw[wn8,ab];rw[ab]at ad;simp only at ad;generalize hM:jA st.cz T st [] (l.filter box)=M;have bad:∀(er:Int)(U:St),M=([],er)->bW (some (.cm [.sl .full [],.int .i64 er])) 0 (λr s=>r=gB M/\s=[]) U:=λer U h=>by rw[h];exact zV (r:=gB ([],er)) (yJ ⟨lJ,xJ rfl,tV⟩) ⟨rfl,rfl⟩
 have cN:∀(g:Tag)(l1:List Ln)(U:St),M=(l1,0)->bW (some (.cm [.sl g (l1.map Ln.row),.int .i64 0])) 0 (λr s=>r=gB M/\s=[]) U:=λg l1 U h=>by rw[h];exact zV (r:=gB (l1,0)) (yJ ⟨lJ,xJ rfl,tV⟩) ⟨rfl,rfl⟩
 have kj:∀(out:List Ln),([.box [.sl .ro yL,.sl .ro (bI.map bH.row)],.box st.row,.app out.length 3]:St).all (bO 3)=true:=λout=>by simp[bO,cH,cF,bQ.row]
 clear ab hG av;refine iV 0 func126 ntmps126 results126 λc hc hb=>?_;refine zN (zA ?_);simp[go_sem,cA];refine zN (zA ?_);simp[go_sem];refine zJ aj cB (zK (by simp[go_sem,cA]) rfl) rfl ?_;simp[go_sem,Eu];refine zN (zA ?_);simp[go_sem];refine zJ ak cB (zK (by simp[go_sem,cA]) rfl) rfl ?_;simp[go_sem];refine zN (zA ?_);simp[go_sem];refine wL 13 3 dc sg ?_;refine zN (zA ?_);simp[go_sem];refine zG (S:=Nat×List Ln) [1,3,4,6,10,11,12,13,14] (λu=>[.int .i64 tn,.sl .ro (l.map Ln.row),.ptr 0 0,.ptr 1 0,.str lo,.str hi,.sl .ro (G.map yG),.sl (.app 2) (u.2.map Ln.row),.int .i64 u.1]) (λu=>[.box [.sl .ro yL,.sl .ro (bI.map bH.row)],.box st.row,.app u.2.length 3]) (λu=>l.length-u.1) (λu=>u.1<=l.length/\u.2.length<=u.1/\jA st.cz T st u.2 ((l.drop u.1).filter box)=M) hc hb (0,[]) ⟨A3 _,A6 _,hM⟩ ?_ ?_;.exact aN 3 (kj [])
 rintro⟨i,out⟩⟨a8,aA,hinv⟩;simp only at a8 aA hinv;by_cases q:i<l.length;rotate_left
 .rw[A4 om,List.filter_nil]at hinv;have aB:M=(out,0):=by
   rw[<-hinv];unfold jA;split;.rfl
   .rw[Ay]
  refine zA ?_;simp[go_sem,q];refine zA ?_;simp[go_sem];exact cN _ out _ aB
 have ei:=zR q om;obtain⟨x,hx⟩:=eX (l[i]);have aw:x∈l:=hx▸A7 q;have ax:=cK x aw;have ae:=Vz x.r ax.err;have ab:=ad x aw;obtain⟨⟨ot,og,oe⟩,ho⟩:∃o,dY x.r=o:=⟨_,rfl⟩;rw[ho]at ae ab;simp only at ab;rw[A2 q,hx,C1]at hinv;have ah:=xK4 G og (by unfold maxLen;omega);obtain⟨aC,aD⟩:∃w,(G.any λx=>x==og)=w:=⟨_,rfl⟩;rw[aD]at ah ab;have ai:=H5 T a6 x.v ax.ok st.bU ag.bU;obtain⟨⟨v,er⟩,hv⟩:∃kv,fN T x.v st.bU=kv:=⟨_,rfl⟩;have ay:=xB2 v;obtain⟨tv,az⟩:=eX (vg v);rw[az]at ay;rw[hv]at ai;have skip:∀(e:Env)(U:St),jA st.cz T st out ((l.drop (i+1)).filter box)=M->e 1=.int .i64 tn->e 3=.sl .ro (l.map Ln.row)->e 4=.ptr 0 0->e 6=.ptr 1 0->e 10=.str lo->e 11=.str hi->e 12=.sl .ro (G.map yG)->e 13=.sl (.app 2) (out.map Ln.row)->e 14=.int .i64 ((i:Int)+1)->U.take 3=[.box [.sl .ro yL,.sl .ro (bI.map bH.row)],.box st.row,.app out.length 3]->Vx.Next (λs':Nat×List Ln=>l.length-s'.1<l.length-i/\(s'.1<=l.length/\s'.2.length<=s'.1/\jA st.cz T st s'.2 ((l.drop s'.1).filter box)=M)/\At 0 [1,3,4,6,10,11,12,13,14] [V.int .i64 tn,.sl .ro (l.map Ln.row),.ptr 0 0,.ptr 1 0,.str lo,.str hi,.sl .ro (G.map yG),.sl (.app 2) (s'.2.map Ln.row),.int .i64 s'.1] [.box [.sl .ro yL,.sl .ro (bI.map bH.row)],.box st.row,.app s'.2.length 3] e U) fx:=λe U h e1 e3 e4 e6 rO al an ao aq cD=>zH (i+1,out) ⟨by show l.length-(i+1)<l.length-i;omega,⟨q,by show out.length<=i+1;omega,h⟩,bT 3 cD rfl (kj out) dc (zC (by simp[e1,e3,e4,e6,rO,al,an,ao,aq]) rfl)⟩;clear ad cK hM;refine(A1 (ot==(tn:Int))).elim (λw1=>?_) (λw1=>?_);rotate_left
 .rw[ahO (by rw[ab,w1];simp)]at hinv;have af:(ot !=(tn:Int))=true:=by unfold bne;rw[w1];rfl
  refine zA ?_;simp[go_sem,q];refine yB [(6,0)] 3 rfl kR kR ?_;simp[go_sem,q,hx];refine yF ae cB (λ_=>zK (by simp[go_sem,cA]) rfl) rfl ?_;simp[go_sem,mg,af,ei];exact skip _ _ hinv rfl rfl rfl rfl rfl rfl rfl rfl rfl sg
 have af:(ot !=(tn:Int))=false:=by unfold bne;rw[w1];rfl
 refine(A1 (Op.bytesLess x.k lo)).elim (λw2=>?_) (λw2=>?_);.rw[ahO (by rw[ab,w1,w2];simp)]at hinv;refine zA ?_;simp[go_sem,q];refine yB [(6,0)] 3 rfl kR kR ?_;simp[go_sem,q,hx];refine yF ae cB (λ_=>zK (by simp[go_sem,cA]) rfl) rfl ?_;simp[go_sem,mg,af,q,hx,w2,ei];exact skip _ _ hinv rfl rfl rfl rfl rfl rfl rfl rfl rfl sg
 refine(A1 (Op.bytesLess x.k hi)).elim (λw3=>?_) (λw3=>?_);rotate_left;.rw[ahO (by rw[ab,w1,w2,w3];simp)]at hinv;refine zA ?_;simp[go_sem,q];refine yB [(6,0)] 3 rfl kR kR ?_;simp[go_sem,q,hx];refine yF ae cB (λ_=>zK (by simp[go_sem,cA]) rfl) rfl ?_;simp[go_sem,mg,af,q,hx,w2,w3,ei];exact skip _ _ hinv rfl rfl rfl rfl rfl rfl rfl rfl rfl sg
 refine(A1 aC).elim (λw4=>?_) (λw4=>?_);rotate_left;.rw[ahO (by rw[ab,w1,w2,w3,w4];simp)]at hinv;refine zA ?_;simp[go_sem,q];refine yB [(6,0)] 3 rfl kR kR ?_;simp[go_sem,q,hx];refine yF ae cB (λ_=>zK (by simp[go_sem,cA]) rfl) rfl ?_;simp[go_sem,mg,af,q,hx,w2,w3];refine pC ah ?_;simp[go_sem,w4,ei];exact skip _ _ hinv rfl rfl rfl rfl rfl rfl rfl rfl rfl sg
 rw[ahP (by rw[ab,w1,w2,w3,w4];simp)]at hinv;refine zA ?_;simp[go_sem,q];refine yB [(6,0)] 3 rfl kR kR ?_;simp[go_sem,q,hx];refine yF ae cB (λ_=>zK (by simp[go_sem,cA]) rfl) rfl ?_;simp[go_sem,mg,af,q,hx,w2,w3];refine pC ah ?_;simp[go_sem,w4];have add:∀(e:Env)(U:St),jA st.cz T st (out++[x]) ((l.drop (i+1)).filter box)=M->e 1=.int .i64 tn->e 3=.sl .ro (l.map Ln.row)->e 4=.ptr 0 0->e 6=.ptr 1 0->e 10=.str lo->e 11=.str hi->e 12=.sl .ro (G.map yG)->e 13=.sl (.app 2) (out.map Ln.row++[x.row])->e 14=.int .i64 ((i:Int)+1)->U.take 3=[.box [.sl .ro yL,.sl .ro (bI.map bH.row)],.box st.row,.app (out.length+1) 3]->Vx.Next (λs':Nat×List Ln=>l.length-s'.1<l.length-i/\(s'.1<=l.length/\s'.2.length<=s'.1/\jA st.cz T st s'.2 ((l.drop s'.1).filter box)=M)/\At 0 [1,3,4,6,10,11,12,13,14] [V.int .i64 tn,.sl .ro (l.map Ln.row),.ptr 0 0,.ptr 1 0,.str lo,.str hi,.sl .ro (G.map yG),.sl (.app 2) (s'.2.map Ln.row),.int .i64 s'.1] [.box [.sl .ro yL,.sl .ro (bI.map bH.row)],.box st.row,.app s'.2.length 3] e U) fx:=λe U h e1 e3 e4 e6 rO al an ao aq cD=>zH (i+1,out++[x]) ⟨by show l.length-(i+1)<l.length-i;omega,⟨q,by show(out++[x]).length<=i+1;simp;omega,h⟩,bT 3 (by rw[cD];simp) rfl (kj (out++[x])) dc (zC (by simp[e1,e3,e4,e6,rO,al,an,ao,aq]) rfl)⟩;refine zO (λh=>?_) (λh=>?_)
 .have hf:st.cz:=sU h;have aa:oL T st out (x::(l.drop (i+1)).filter box)=M:=by rw[<-hinv];unfold jA;rw[ahP hf]
  rw[Vc,hv]at aa;simp only at aa;simp[go_sem];refine yB [(12,0)] 3 rfl kR kR ?_;simp[go_sem,au,a1,q,hx];refine yF ai cB (λ_=>⟨zD rfl,zP,oI st.bU,tV⟩) rfl ?_;simp[go_sem,dP];by_cases q2:er=0;rotate_left;.have ar:(er !=0)=true:=sU q2;rw[ahP q2]at aa;simp[go_sem,ar];exact bad er _ aa.symm
  have ar:(er !=0)=false:=sU q2;rw[ahO (λh=>h q2),az]at aa;simp[go_sem,ar];refine pC ay ?_;refine(A1 tv).elim (λt=>?_) (λt=>?_);.rw[ahP t]at aa;simp[go_sem,t,q,hx];refine zF ⟨om,zT rfl⟩ ?_;simp[go_sem,ei];exact add _ _ (by unfold jA;rw[ahP hf];exact aa) rfl rfl rfl rfl rfl rfl rfl rfl rfl sg
  .rw[ahO (by rw[t];decide)]at aa;simp[go_sem,t,ei];exact skip _ _ (by unfold jA;rw[ahP hf];exact aa) rfl rfl rfl rfl rfl rfl rfl rfl rfl sg
 .have hf:st.cz=false:=sU h;have aa:jA st.cz T st (out++[x]) ((l.drop (i+1)).filter box)=M:=by rw[<-hinv];unfold jA;rw[ahO (by rw[hf];decide),ahO (by rw[hf];decide),Cb];rfl
  simp[go_sem,q,hx];refine zF ⟨om,zT rfl⟩ ?_;simp[go_sem,ei];exact add _ _ aa rfl rfl rfl rfl rfl rfl rfl rfl rfl sg
theorem VA{J:Type}{p:J->Bool}:∀{l:List J}{i:Nat},l.any p=true->∃k,xE p l i=((i+k:Nat):Int)/\∃h:k<l.length,p l[k]=true
 |[],_,h=>by cases h|x::l,i,h=>by
  rw[xE];by_cases q:p x=true;.rw[ahP q];exact⟨0,rfl,sm,q⟩
  .rw[ahO q];rw[Bx]at h;have h':l.any p:=by grind
   obtain⟨k,h1,h2,h3⟩:=VA (i:=i+1) h';exact⟨k+1,om,by grind,by grind⟩
theorem Pd(h:fT l p):∃k:Nat,xE (uf p) l 0=(k:Int)/\∃hk:k<l.length,l[k].at=p:=by
 have h':l.any (uf p):=by assumption
 obtain⟨k,h1,h2,h3⟩:=VA (i:=0) h';exact⟨k,om,h2,p9.1 h3⟩
theorem Pe{p:Pl}:∀{l:List Ln}{k:Nat},(l.map Ln.at).Nodup->(hk:k<l.length)->l[k].at=p->(l.filter λy=>!decide (y.at=p))=l.take k++l.drop (k+1)
 |[],k,_,hk,_=>by simp|x::l,0,hn,_,he=>by simp_all|x::l,k+1,hn,hk,he=>by
  rw[Ad,Bk]at hn;have aa:k<l.length:=by grind
  have ab:l[k].at=p:=by grind
  have hx:x.at≠p:=(by grind);rw[C1,ahP (by grind),Pe hn.2 aa ab];simp
theorem VB{p:Pl}{row:List bF}:∀{l:List Ln}{k:Nat},(l.map Ln.at).Nodup->(hk:k<l.length)->l[k].at=p->fB l p row=l.set k ⟨l[k].r,l[k].k,row⟩
 |[],k,_,hk,_=>by rfl|x::l,0,hn,_,he=>by rw[Ad,Bk]at hn;have aa:x.at=p:=he;unfold fB;rw[Ad,ahP aa,Cg];congr 1;refine(B6 λy hy=>?_).trans (List.map_id _);grind|x::l,k+1,hn,hk,he=>by
  rw[Ad,Bk]at hn;have ab:k<l.length:=by grind
  have aa:l[k].at=p:=by grind
  have hx:x.at≠p:=(by grind);have ih:=VB (row:=row) hn.2 ab aa;simp_all[fB]
theorem xb2{q:Pl}(h:q≠p):fT (l.filter λy=>!decide (y.at=p)) q=fT l q:=by unfold fT;grind
def vq(T:bH)(st:bQ)(m l:List Ln):List Ln×Int:=if st.kind=4then(ja m l,0)else gh T st.cp m l
theorem xC8(tn:Nat)(T:bH)(hT:bI[tn]?=some T)(st:bQ)(aD:gR st)(ah:st.kind≠4->∀x∈st.cp,0<=cq T x.name)(l m:List Ln)(hl:l.length<=10000)(aX:m.length<=10000)(hn:(l.map Ln.at).Nodup)(aE:(m.map Ln.at).Nodup)(hm:∀x∈m,fT l x.at=true/\eP x/\(dY x.r).1=(tn:Int)):Pure prog 128 [cA bI,.int .i64 tn,.agg st.row,.sl .ro (l.map Ln.row),.sl .ro (m.map Ln.row)] (gB (vq T st m l)):=by
 obtain⟨aF,aG⟩:=A5.1 hT;have a1:T.bP.length<=maxLen:=(by decide:∀T∈bI,T.bP.length<=maxLen) T (B9 hT);generalize hM:vq T st m l=M;have bad:∀(er:Int)(U:St),M=([],er)->bW (some (.cm [.sl .full [],.int .i64 er])) 0 (λr s=>r=gB M/\s=[]) U:=λer U h=>by rw[h];exact zV (r:=gB ([],er)) (yJ ⟨lJ,xJ rfl,tV⟩) ⟨rfl,rfl⟩
 have cN:∀(g:Tag)(l1:List Ln)(U:St),M=(l1,0)->bW (some (.cm [.sl g (l1.map Ln.row),.int .i64 0])) 0 (λr s=>r=gB M/\s=[]) U:=λg l1 U h=>by rw[h];exact zV (r:=gB (l1,0)) (yJ ⟨lJ,xJ rfl,tV⟩) ⟨rfl,rfl⟩
 have kj:∀(n:Nat),([.box [.sl .ro yL,.sl .ro (bI.map bH.row)],.box st.row,.box T.row]:St).all (bO n)=true:=λn=>by simp[bO,cH,cF,bH.row,bQ.row]
 refine iV 0 func128 ntmps128 results128 λc hc hb=>?_;refine zN (zA ?_);simp[go_sem,cA];refine zN (zA ?_);simp[go_sem,aF,aG];refine zN (zA ?_);simp[go_sem];refine zG (S:=Nat×List Ln) [3,4,7,12,13] (λu=>[.sl .ro (u.2.map Ln.row),.sl .ro (m.map Ln.row),.ptr 1 0,.ptr 2 0,.int .i64 u.1]) (λ_=>[.box [.sl .ro yL,.sl .ro (bI.map bH.row)],.box st.row,.box T.row]) (λu=>m.length-u.1) (λu=>u.1<=m.length/\u.2.length<=10000/\(u.2.map Ln.at).Nodup/\(∀x∈m.drop u.1,fT u.2 x.at=true)/\vq T st (m.drop u.1) u.2=M) hc hb (0,l) ⟨A3 _,hl,hn,(λx hx=>(hm x hx).1),hM⟩ ?_ ?_;.exact aN 3 (kj 3)
 rintro⟨i,l1⟩⟨hi,aH,af,ad,ae⟩;simp only at hi aH af ad ae;by_cases q:i<m.length;rotate_left
 .rw[A4 om]at ae;have aa:M=(l1,0):=by rw[<-ae];unfold vq;split<;>rfl
  refine zA ?_;simp[go_sem,q];refine zA ?_;simp[go_sem];exact cN _ l1 _ aa
 have ei:=zR q om;obtain⟨x,hx⟩:=eX (m[i]);obtain⟨_,aq,aI⟩:=hm x (hx▸A7 q);have a6:m.drop i=x::m.drop (i+1):=by rw[A2 q,hx]
 rw[a6]at ae ad;obtain⟨k,aJ,ai,ar⟩:=Pd (ad x (Ax ..));have au:=OK l1 x.at (by unfold maxLen;omega);rw[aJ]at au;have aK:∀y∈m.drop (i+1),y.at≠x.at:=λy hy e=>by
  have h2:(m.drop i).map Ln.at=(m.map Ln.at).drop i:=Du ..;have h3:((m.drop i).map Ln.at).Nodup:=by rw[h2];exact ahY (List.drop_sublist _ _) aE
  rw[a6,Ad,Bk]at h3;exact h3.1 (by rw[<-e];exact Aa.2 ⟨y,hy,rfl⟩)
 by_cases k4:st.kind=4
 .have av:(st.kind==4)=true:=sU k4;have aa:vq T st (m.drop (i+1)) (l1.take k++l1.drop (k+1))=M:=by rw[<-ae];unfold vq;rw[ahP k4,ahP k4,ja,Pe af ai ar]
  have hlen:(l1.take k++l1.drop (k+1)).length<=10000:=by simp;omega
  have a7:=Pe af ai ar;have aw:((l1.take k++l1.drop (k+1)).map Ln.at).Nodup:=by rw[<-a7];exact ahY ((Bo).map _) af
  have aj:∀y∈m.drop (i+1),fT (l1.take k++l1.drop (k+1)) y.at=true:=λy hy=>by rw[<-a7,xb2 (aK y hy)];exact ad y (Bd _ hy)
  have aL:(l1.map Ln.row).take l1.length=l1.map Ln.row:=Ac sm;have ek:IntKind.i64.wrap ((k:Int)+1)=((k+1:Nat):Int):=by rw[bR om om];omega
  refine zA ?_;simp[go_sem,q];refine yB [(11,0)] 3 rfl kR kR ?_;simp[go_sem,q,hx];refine pD au ?_;simp[go_sem,av];refine zW [(4,3),(9,3)] 3 sm kR kR ?_;simp[go_sem];refine zF ⟨om,oO l1⟩ ?_;simp[go_sem];refine zF ⟨om,(λr hr=>by cases hr),Gs (oO l1)⟩ ?_;simp[go_sem,ek];refine zF ⟨om,om,oO l1⟩ ?_;simp[go_sem,aL];refine zF ⟨om,K9 (oO l1)⟩ ?_;simp[go_sem,ei];exact zH (i+1,l1.take k++l1.drop (k+1)) ⟨by show m.length-(i+1)<m.length-i;omega,⟨q,hlen,aw,aj,aa⟩,aM 3 (kj 3) ⟨by simp[List.map_take];exact zP,zP,o7 rfl,o7 rfl,o7 rfl,tV⟩⟩
 have av:(st.kind==4)=false:=sU k4;have ah:=ah k4;obtain⟨E,hE⟩:=eX (fH T x.v st.cp x.v);have aa:(if E.2≠0then([],E.2)else if dS T.bP E.1≠0then([],dS T.bP E.1)else vq T st (m.drop (i+1)) (fB l1 x.at E.1))=M:=by rw[<-ae,<-hE];unfold vq;rw[ahO k4,ahO k4,gh]
 clear ae;have aY:=Iv aq;have aP:eM 3 (x.v.map bF.row):=vZ λ_=>rfl;have aQ:=aD.cp;have aR:=Pa hT aq aI;refine qQ 62 dc ?_;refine zN (zA ?_);simp[go_sem,q];refine zN (zA ?_);simp[go_sem];refine yB [(11,0)] 3 rfl kR kR ?_;simp[go_sem,q,hx];refine pD au ?_;simp[go_sem,av,q,hx];refine zF ⟨om,(λr hr=>by cases hr),aP⟩ ?_;simp[go_sem];have a8:∀(row:List bF),([.box [.sl .ro yL,.sl .ro (bI.map bH.row)],.box st.row,.box T.row,.cj (row.map bF.row) 3]:St).all (bO 4)=true:=λrow=>by simp[bO,cH,cF,bH.row,bQ.row,bF.row]
 refine zG (S:=Nat×List bF) [3,4,7,12,13,14,15,16] (λu=>[.sl .ro (l1.map Ln.row),.sl .ro (m.map Ln.row),.ptr 1 0,.ptr 2 0,.int .i64 i,.int .i64 k,.cL 3 3 x.v.length 0 x.v.length,.int .i64 u.1]) (λu=>[.box [.sl .ro yL,.sl .ro (bI.map bH.row)],.box st.row,.box T.row,.cj (u.2.map bF.row) 3]) (λu=>st.cp.length-u.1) (λu=>u.1<=st.cp.length/\u.2.length=x.v.length/\fH T x.v (st.cp.drop u.1) u.2=E) hc hb (0,x.v) ⟨A3 _,rfl,hE⟩ ?_ ?_;.exact aN 4 (a8 x.v)
 rintro⟨j,row⟩⟨hj,ag,ab⟩;simp only at hj ag ab;by_cases qj:j<st.cp.length
 .have ej:=zR qj om;obtain⟨y,hy⟩:=eX (st.cp[j]);have aS:=(aQ.2 y (hy▸A7 qj)).2;have aZ:=ah y (hy▸A7 qj);rw[A2 qj,hy,fH]at ab;have ak:=H5 T a1 x.v aq.ok y.e aS;have aA:Pure prog 103 [.agg T.row,.str y.name] (.int .i64 (cq T y.name)):=Ga T y.name a1;obtain⟨ck,hk⟩:∃ck:Nat,cq T y.name=ck:=⟨(cq T y.name).toNat,om⟩;have aW:ck<row.length:=by have h1:=O8 T y.name;rw[ag,aR];omega
  have aT:ck<x.v.length:=om;rw[hk]at aA ab;simp only[Ai]at ab;obtain⟨⟨v,er⟩,hv⟩:∃kv,fN T x.v y.e=kv:=⟨_,rfl⟩;rw[hv]at ab ak;simp only at ab;refine zA ?_;simp[go_sem,qj];refine yB [(12,0)] 4 rfl kR kR ?_;simp[go_sem,q,hx,qj,hy];refine yF ak cB (λ_=>⟨zD rfl,zP,oI y.e,tV⟩) rfl ?_;simp[go_sem,dP];by_cases q2:er=0;rotate_left;.have ax:(er !=0)=true:=sU q2;rw[ahP q2]at ab;rw[<-ab,ahP q2]at aa;simp[go_sem,ax];exact bad er _ aa.symm
  have ax:(er !=0)=false:=sU q2;rw[ahO (λh=>h q2)]at ab;simp[go_sem,ax];refine yB [(8,0)] 5 rfl kR kR ?_;simp[go_sem,qj,hy];refine pD aA ?_;simp[go_sem,aT,ag,ej];exact zH (j+1,row.set ck v) ⟨by show st.cp.length-(j+1)<st.cp.length-j;omega,⟨qj,by show(row.set ck v).length=_;rw[E2];exact ag,ab⟩,bT 4 (by simp[go_sem]) rfl (a8 _) dc (zC sg rfl)⟩
 rw[A4 om,fH]at ab;rw[<-ab,ahO (λh=>h rfl)]at aa;simp only at aa;have an:=OG T row (by unfold maxLen;omega);have aU:xB (row.map bF.row):=by simp[xB,oz,bF.row]
 obtain⟨mr,aV⟩:=eX (dS T.bP row);rw[aV]at an aa;have aB:gE (row.map bF.row) 0 x.v.length=row.map bF.row:=by rw[<-ag];unfold gE;rw[Au,Ac sm,B8];exact B6 λ_ _=>rfl
 have ao:=VB (row:=row) af ai ar;have al:(fB l1 x.at row).length=l1.length:=by rw[ao,E2]
 have aw:((fB l1 x.at row).map Ln.at).Nodup:=by rw[UO];exact af
 have aj:∀y∈m.drop (i+1),fT (fB l1 x.at row) y.at:=λy hy=>by rw[OQ];exact ad y (Bd _ hy)
 have ay:(l1.map Ln.row).set k [.int .i64 l1[k].r,.str l1[k].k,.sl .ro (row.map bF.row)]=(fB l1 x.at row).map Ln.row:=by rw[ao,E1];rfl
 have aC:gE ((fB l1 x.at row).map Ln.row) 0 l1.length=(fB l1 x.at row).map Ln.row:=by rw[<-al];unfold gE;rw[Au,Ac sm,B8];exact B6 λ_ _=>rfl
 clear ab hE;refine sd 3 3 (row.map bF.row) rfl aU ?_;refine qQ 108 dc ?_;refine zA ?_;simp[go_sem,qj,fr,iF,iE,ij,lk,sW,ag,aB];refine zJ an cB (zK sg rfl) rfl ?_;simp[go_sem];by_cases m0:mr=0;rotate_left;.have az:(mr !=0)=true:=sU m0;rw[ahP m0]at aa;simp[go_sem,az];exact bad mr _ aa.symm
 have az:(mr !=0)=false:=sU m0;rw[ahO (λh=>h m0)]at aa;simp[go_sem,az];refine zF ⟨om,(λr hr=>by cases hr),oO l1⟩ ?_;simp[go_sem];refine zF ai ?_;simp[go_sem,ai,aB,ay];refine sd 4 3 ((fB l1 x.at row).map Ln.row) rfl (xM6 _) ?_;refine zA ?_;simp[go_sem,fr,iF,iE,ij,lk,sW,al,ei];exact zH (i+1,fB l1 x.at row) ⟨by show m.length-(i+1)<m.length-i;omega,⟨q,by show(fB l1 x.at row).length<=10000;omega,aw,aj,aa⟩,aM 3 (kj 3) (zC (by simp[go_sem,aC]) rfl)⟩
theorem VD{T:bH}:∀{l p:List bX},kz T p l=0->∀x∈l,0<=cq T x.name
 |[],_,_,x,hx=>by cases hx|y::l,p,h,x,hx=>by
  rw[kz]at h;by_cases q1:cq T y.name<0;.omega
  rw[ahO q1]at h;by_cases q2:cq T y.name=T.key\/(cq T y.name=0/\T.place=0);.omega
  rw[ahO q2]at h;by_cases q3:(p.any λz=>z.name==y.name)=true;.grind
  rw[ahO q3]at h;by_cases q4:nX T y.e (iY T (cq T y.name))≠0;.omega
  rw[ahO q4]at h;rcases Ag.1 hx with rfl|hx;.omega
  .exact VD h x hx
theorem Pf{mode:Int}:∀{l:List bQ}{i:Nat},(tR mode l i).2=0->∀z∈l,oJ z=0
 |[],_,_,z,h=>by cases h|y::l,i,h,z,hx=>by
  rw[tR]at h;by_cases q1:mode≠0/\y.kind≠1;.grind
  rw[ahO q1]at h;by_cases q2:oJ y≠0;.grind
  rw[ahO q2]at h;rcases Ag.1 hx with rfl|hx;.simpa using q2
  .exact Pf h z hx
theorem Lb{df:dR}(hl:mO df)(h:(mh df).2=0):∀st∈df.stmts,rN st:=by
 unfold mh at h;by_cases q:iZ df=true;rotate_left;.grind
 rw[ahP q]at h;intro st aa;have hc:=Pf h st aa;have ab:=hl.stmts.2 st aa;have hm:fG st:=by simp_all[iZ]
 unfold oJ at hc;have ad:=N8 st.table;have hT:∃T,bI[(ir st.table).toNat]?=some T:=by grind
 obtain⟨T,hT⟩:=hT;rw[hT]at hc;simp only at hc;have h0:0<=ir st.table:=by omega
 rw[ahO om]at hc;refine⟨ab,xU9 ab.bU.cN,h0,λk1=>?_,λk3=>?_⟩;.unfold fG at hm;rw[A8,A8]at hm;have hb:=hm.2.2;unfold Ey at hb;rw[ahP k1,A8]at hb;intro he;rw[he]at hb;exact absurd hb.1 dc
 .rw[A9,hT];rw[ahO om,ahO om,ahP k3]at hc;by_cases q:kz T [] st.cp≠0;.omega
  .exact VD (sU q)
theorem VE(l:List Ln)(x:Ln):(oc l x).length=l.length+1:=(x6 l x).length_eq
theorem VF{t:Nat}{T:bH}:∀{rs:List (List bG)}{l:List Ln},(fy t T rs l).1.length<=l.length+rs.length
 |[],l=>by grind[fy]|r::rs,l=>by
  rw[fy];split;.simp
  split;.simp
  split;.simp
  refine Ao VF ?_;rw[VE,Af];omega
theorem VG{T:bH}{cp:List bX}:∀{m l:List Ln},(gh T cp m l).1.length<=l.length
 |[],l=>A6 _|x::m,l=>by
  rw[gh];split;.simp
  split;.simp
  refine Ao VG ?_;simp[fB]
theorem VH:∀{m l:List Ln},(ja m l).length<=l.length
 |[],l=>A6 _|x::m,l=>by rw[ja];exact Ao VH (Dk _ _)
theorem Lc:(kM st l).2.1.length<=l.length+st.rows.length:=by grind[kM,VF,VG,VH]
abbrev Vw:=Nat×List (aij×aij)
def fJ(q:aij×aij):List V:=[.str q.1,.str q.2]
def fZ(x:Vw):List V:=[.int .i64 x.1,.sl .ro (x.2.map fJ)]
def iN(g:Nat)(l:List (aij×aij)):List (Pl×aij):=l.map λq=>(((g:Int),q.1),q.2)
def zZ(vs:List Vw):List (Pl×aij):=vs.flatMap λx=>iN x.1 x.2
def yI(vs:List Vw):List Ln:=((zZ vs).foldl wJ ([],[])).2
theorem EH(x:Vw)(vs:List Vw):zZ (x::vs)=iN x.1 x.2++zZ vs:=by rfl
theorem nr.um{s:List (Pl×aij)×List Ln}(h:nr n s (a,b,sn))(p:Pl)(h0:sn.at p=none):a.at p=none/\b.at p=none:=by
 have h1:=(h.seen p).1 (lj.2 h0);have hb:b.at p=none:=by rw[h.now.gI];cases e:fT s.2 p with|false=>rfl|true=>obtain⟨x,hx,aa⟩:=Aa.1 (fj.1 e);have:(s.1.any λe=>e.1==p)=true:=C2.2 ⟨_,(h.lines x hx).2,by grind⟩;grind
 exact⟨by rw[show a=b from h.same];exact hb,hb⟩
theorem nr.pos{s:List (Pl×aij)×List Ln}(h:nr n s (a,b,sn))(hn:n<=1000000)(p:Pl)(i:Nat)(v:Int)(h0:sn.at p=some (i,v)):1<=v/\v<=1000000:=by have:=h.OO p v (by show(sn.at p).map (·.2)=some v;grind);omega
theorem VI(k:Nat){args:List V}{gp:St}{v:V}(hc:bL P f cc gp (λr s=>r=v/\s=gp))(hb:wQ P f)(hk:U.take k=gp)(hl:gp.length=k)(cK:gp.all (bO k))(hv:jZ k v)(hn:∀i,i<k->n0.has i)(aa:∀N,bM (cR (cO (List.range k) N)) cc (args++bY))(hK:KV v U):qN P c n0 1 (.fn f bY) args U KV fx:=by
 refine⟨v,U,?_,λ_=>rfl,λ_=>gL.refl,A6 _,hK⟩;rw[ahO dc,ahP rfl];intro s hs;have ab:s.take k=gp:=by
  rw[<-hk];refine Bs λi=>?_;rw[Aw,Aw];by_cases q:i<k;.rw[ahP q,ahP q];exact Kp.get (hn i q) hs
  .rw[ahO q,ahO q]
 refine sf (P:=P) (c:=c) (KV:=λr s'=>r=v/\s'=s) k hc hb ab hl cK (aa _) ?_ ?_;.rintro r s' ⟨rfl,rfl⟩;exact⟨hl,cK,hv⟩
 .rintro r s' ⟨rfl,rfl⟩;exact⟨rfl,by rw[<-ab];exact Bt k s⟩
theorem Pg(n:Nat)(h:3<=n){τ:St}(hR:τ.all (bO n)):(cT a b sn++τ).all (bO n)=true:=by rw[List.all_append,wK n h,hR];rfl
def fU(x:Int×Int×List Ot):List V:=[.int .i64 x.1,.int .i64 x.2.1,.sl .ro (x.2.2.map Ot.row)]
def pJ(df:dR)(dy:List Ln):V:=.cm [.agg (fU (ee df dy).1),.sl .ro ((if(ee df dy).1.1≠0then[]else kE (gj dy (ee df dy).2)).map eD)]
def fc:Ob:=.box [.sl .ro yL,.sl .ro (bI.map bH.row)]
theorem Ph(df:dR)(hl:mO df)(vs:List Vw)(aC:vs.length<=100000)(hv:∀x∈vs,x.1<1000/\x.2.length<=100000/\∀q∈x.2,q.2.length<=cu)(hN:(zZ vs).length<=7500):Pure prog 21 [cA bI,.agg df.row,.sl .ro (vs.map fZ)] (pJ df (yI vs)):=by
 have ad:=yV1 df hl;obtain⟨aD,au⟩:=hl.stmts;have ah:=Lb hl;obtain⟨⟨ci,cr⟩,hP⟩:∃P,mh df=P:=⟨_,rfl⟩;rw[hP]at ad ah;generalize hM:pJ df (yI vs)=M;unfold pJ ee at hM;rw[hP]at hM;simp only at hM ah;refine iV 0 func21 ntmps21 results21 λc hc hb=>?_;refine zN (zA ?_);simp[go_sem,cA];refine zN (zA ?_);simp[go_sem];refine zJ ad cB (zK (by simp[go_sem,cA]) rfl) rfl ?_;simp[go_sem,yN];by_cases c0:cr=0;rotate_left
 .have aq:(cr !=0)=true:=sU c0;rw[ahP c0]at hM;simp[go_sem,aq];have aE:M=.cm [.agg [.int .i64 cr,.int .i64 ci,.sl .ro []],.sl .ro []]:=by rw[<-hM];simp[c0,fU]
  exact zV (r:=M) (by rw[aE];exact yJ ⟨xS ⟨zU rfl,zU rfl,yH,tV⟩,lJ,tV⟩) ⟨rfl,rfl⟩
 have aq:(cr !=0)=false:=sU c0;rw[ahO (λh=>h c0)]at hM;simp[go_sem,aq];refine wM (S:=Unit) [2,4,6,10] (λ_=>[.sl .ro (vs.map fZ),.ptr 5 0,.ptr 6 0,.ptr 3 0]) (λ_=>rJ (vj _,vj _,vj _)++[fc,.box df.row,.box [.int .i64 0,.int .i64 0,.sl .full []]]) (λ_=>True) hc hb ?_ ?_;.refine zA ?_;simp[go_sem];exact zH () ⟨tV,AL [3,4,5,6,0,1,2] dc rfl ⟨rfl,rfl,rfl,rfl,rfl,rfl,rfl,tV⟩ ⟨zD rfl,.inl rfl,.inl rfl,.inl rfl,tV⟩⟩
 rintro _ _;have av:=hl;obtain⟨Q,hQ⟩:=eX ((zZ vs).foldl wJ ([],[]));have aw:yI vs=Q.2:=by unfold yI;rw[hQ]
 rw[aw]at hM;clear aw;refine zN (zA ?_);simp[go_sem];refine zG (S:=Nat×Nat×(List (Pl×aij)×List Ln)×M3) [4,6,10,36,37,38] (λu=>[.ptr 5 0,.ptr 6 0,.ptr 3 0,.sl .ro (vs.map fZ),.int .i64 vs.length,.int .i64 u.1]) (λu=>rJ u.2.2.2++[fc,.box df.row,.box [.int .i64 0,.int .i64 0,.sl .full []]]) (λu=>vs.length-u.1) (λu=>u.1<=vs.length/\nr u.2.1 u.2.2.1 u.2.2.2/\u.2.1+(zZ (vs.drop u.1)).length=(zZ vs).length/\(zZ (vs.drop u.1)).foldl wJ u.2.2.1=Q) hc hb (0,0,([],[]),(vj _,vj _,vj _)) ⟨A3 _,U8,sm,hQ⟩ ?_ ?_;.exact zY sm sg
 rintro⟨i,n,s,a,b,sn⟩⟨hi,hT,hn,aa⟩;simp only at hi hT hn aa;by_cases q:i<vs.length
 .have ei:=zR q om;obtain⟨⟨g,ps⟩,hx⟩:∃x,vs[i]=x:=⟨_,rfl⟩;obtain⟨hg,ax,ay⟩:=hv (g,ps) (hx▸A7 q);simp only at hg ax ay;rw[A2 q,hx,EH]at hn aa;rw[Bv]at aa;rw[Al]at hn;refine zA ?_;simp[go_sem,rJ,cT,fI,fc,q,hx,fZ];refine zG (S:=Nat×Nat×(List (Pl×aij)×List Ln)×M3) [4,6,10,12,36,37,38,43,44,45] (λu=>[.ptr 5 0,.ptr 6 0,.ptr 3 0,.ptr 7 0,.sl .ro (vs.map fZ),.int .i64 vs.length,.int .i64 i,.sl .ro (ps.map fJ),.int .i64 ps.length,.int .i64 u.1]) (λu=>rJ u.2.2.2++[fc,.box df.row,.box [.int .i64 0,.int .i64 0,.sl .full []],.box (fZ (g,ps))]) (λu=>ps.length-u.1) (λu=>u.1<=ps.length/\nr u.2.1 u.2.2.1 u.2.2.2/\u.2.1+((iN g (ps.drop u.1)).length+(zZ (vs.drop (i+1))).length)=(zZ vs).length/\(zZ (vs.drop (i+1))).foldl wJ ((iN g (ps.drop u.1)).foldl wJ u.2.2.1)=Q) hc hb (0,n,s,a,b,sn) ⟨A3 _,hT,hn,aa⟩ ?_ ?_;.exact iL rfl sm sg
  rintro⟨j,n1,s1,a1,b1,ai⟩⟨hj,ae,aj,ab⟩;simp only at hj ae aj ab;by_cases qj:j<ps.length
  .have ej:=zR qj om;obtain⟨⟨k,d⟩,hp⟩:∃x,ps[j]=x:=⟨_,rfl⟩;have hd:=ay (k,d) (hp▸A7 qj);simp only at hd;have az:iN g (ps.drop j)=(((g:Int),k),d)::iN g (ps.drop (j+1)):=by rw[A2 qj,hp];rfl
   rw[az,Af]at aj;rw[az,Ap]at ab;have af:=wr1 g hg k d hd a1 b1 ai (by rw[show a1=b1 from ae.same];exact ae.now.ok) ae.now.ok ae.sn (ae.um _) (ae.pos om _);have ar:=ae.step (((g:Int),k),d);obtain⟨⟨a2,b2,a6⟩,aF⟩:∃M3,BH ((g:Int),k) d (a1,b1,ai)=M3:=⟨_,rfl⟩;simp only at ar;rw[aF]at af ar;refine zA ?_;simp[go_sem,rJ,cT,fI,fc,qj,hp,fZ,fJ];refine sf 4 af cB rfl rfl (wK 4 dc a1 b1 ai) (pa (n:=4) rfl) ?_ ?_;.rintro r s' ⟨rfl,rfl⟩;exact⟨rfl,wK 4 dc a2 b2 a6,rfl⟩
   rintro r s' ⟨rfl,rfl⟩;simp[go_sem,rJ,cT,fI,ej];exact zH (j+1,n1+1,wJ s1 (((g:Int),k),d),a2,b2,a6) ⟨by show ps.length-(j+1)<ps.length-j;omega,⟨qj,ar,by show n1+1+((iN g (ps.drop (j+1))).length+(zZ (vs.drop (i+1))).length)=(zZ vs).length;omega,ab⟩,bT 8 (by rfl) rfl (Pg 8 dc (by simp[bO,cH,cF])) dc (zC sg rfl)⟩
  .have:j=ps.length:=om;subst this;rw[B7]at aj ab;refine zA ?_;simp[go_sem,rJ,cT,fI,fc,ei];exact zH (i+1,n1,s1,a1,b1,ai) ⟨by show vs.length-(i+1)<vs.length-i;omega,⟨q,ae,by show n1+(zZ (vs.drop (i+1))).length=(zZ vs).length;simp[iN]at aj;omega,ab⟩,bT 7 (by rfl) rfl (Pg 7 dc (by simp[bO,cH,cF])) dc (zC sg rfl)⟩
 .have:i=vs.length:=om;subst this;rw[B7]at hn aa;have hs:s=Q:=aa;subst hs;have aS:n<=7500:=by simp[zZ]at hn;simp[zZ]at hN;omega
  have aG:a=b:=hT.same;subst aG;have ag:cE a s.2:=hT.now;have aH:s.2.length<=n:=hT.len;obtain⟨dy,ak⟩:=eX s.2;rw[ak]at hM ag aH;clear hT hn aa hN ak hv aC;obtain⟨D,hD⟩:=eX (kD df.stmts 0 [] dy);rw[hD]at hM;have aI:D.1.1≠0->M=.cm [.agg (fU D.1),.sl .ro []]:=λh=>by rw[<-hM];simp[h]
  have aJ:D.1.1=0->M=.cm [.agg (fU D.1),.sl .ro ((kE (gj dy D.2)).map eD)]:=λh=>by rw[<-hM];simp[h]
  have ax:D.1.1=0\/D.1.1≠0:=om;have al:=ah c0;clear hM ah ad hl av;obtain⟨lm,ln,L⟩:=df;simp only at aD au hD al;refine zA ?_;simp[go_sem,rJ,cT,fI,fc];refine DK 6 2 2 [.int .i64 0,.int .i64 0,.sl .full []] dc rfl rfl ?_;refine zN (zA ?_);simp[go_sem];refine zG (S:=Nat×Mp aij×List Ln×List Ot) [6,10,57,58,59] (λu=>[.ptr 6 0,.ptr 3 0,.sl .ro (L.map bQ.row),.int .i64 L.length,.int .i64 u.1]) (λu=>rJ (a,u.2.1,sn)++[fc,.box (dR.row ⟨lm,ln,L⟩),.box [.int .i64 0,.int .i64 0,.sl (.app 7) (u.2.2.2.map Ot.row)],.app u.2.2.2.length 2]) (λu=>L.length-u.1) (λu=>u.1<=L.length/\cE u.2.1 u.2.2.1/\u.2.2.2.length=u.1/\u.2.2.1.length<=7500+20*u.1/\kD (L.drop u.1) u.1 u.2.2.2 u.2.2.1=D) hc hb (0,a,dy,[]) ⟨A3 _,ag,rfl,by show dy.length<=7500+20*0;omega,hD⟩ ?_ ?_;.exact iL rfl sm sg
  rintro⟨i,b,l,outs⟩⟨hi,hn,a7,aK,aa⟩;simp only at hi hn a7 aK aa;by_cases q:i<L.length;rotate_left
  .rw[A4 om,kD]at aa;refine zA ?_;simp[go_sem,rJ,cT,fI,fc,q];have an:=wp8 a b sn dy l ag hn om om;have aL:D.2=l:=by rw[<-aa]
   have a8:D.1=(0,0,outs):=by rw[<-aa]
   have hM:=aJ (by rw[a8]);rw[a8,aL]at hM;obtain⟨PW,aP⟩:=eX (kE (gj dy l));rw[aP]at an hM;refine zN ?_;refine zW [(2,1)] 7 sm kR kR ?_;simp[go_sem];refine VI 4 an cB rfl rfl (wK 4 dc a b sn) rfl (λi hi=>by simp[go_sem];omega) (λN=>pa (n:=4) rfl) ?_;simp[go_sem];refine zA ?_;simp[go_sem];exact zV (r:=M) (by rw[hM];exact yJ ⟨xS ⟨zU rfl,zU rfl,yH,tV⟩,lJ,tV⟩) ⟨rfl,rfl⟩
  have ei:=zR q om;obtain⟨x,hx⟩:=eX (L[i]);have aA:x∈L:=hx▸A7 q;have ao:=xB5 x (al x aA) a b sn l hn om;have hlen:=Lc (st:=x) (l:=l);have aR:=(au x aA).rows.1;rw[A2 q,hx,kD]at aa;obtain⟨E,hE⟩:=eX (kM x l);rw[hE]at aa ao hlen;refine zA ?_;simp[go_sem,rJ,cT,fI,fc,q,hx];refine sf 4 ao cB rfl rfl (wK 4 dc a b sn) (pa (n:=4) rfl) ?_ ?_;.rintro r s' ⟨b',rfl,rfl,_⟩;exact⟨rfl,wK 4 dc a b' sn,rfl⟩
  rintro r s' ⟨b',rfl,rfl,aQ⟩;by_cases e0:E.2.2=0;rotate_left;.have aB:(E.2.2!=0)=true:=sU e0;rw[ahP e0]at aa;have hM:=aI (by rw[<-aa];exact e0);simp[go_sem,cT,fI,aB,Ot.row];exact zV (r:=M) (by rw[hM,<-aa];exact yJ ⟨xS ⟨zU rfl,zU rfl,yH,tV⟩,lJ,tV⟩) ⟨rfl,rfl⟩
  have aB:(E.2.2!=0)=false:=sU e0;rw[ahO (λh=>h e0)]at aa;simp[go_sem,cT,fI,e0,Ot.row];refine zF ⟨om,zT rfl⟩ ?_;simp[go_sem,ei];exact zH (i+1,b',E.2.1,outs++[E.1]) ⟨by show L.length-(i+1)<L.length-i;omega,⟨q,aQ e0,by show(outs++[E.1]).length=i+1;simp[a7],by show E.2.1.length<=7500+20*(i+1);omega,aa⟩,bT 8 (by simp[Ot.row]) rfl (Pg 8 dc (by simp[bO,cH,cF])) dc (zC sg rfl)⟩
theorem xk1(h:xo T st=0):kK T st.items=0/\(kL st.items&&ky st.items)=false/\tQ T st=0:=by unfold xo at h;grind
theorem xc0(hT:T∈bI):¬0<=cq T []:=(by decide:∀T∈bI,¬0<=cq T []) T hT
theorem Pj{df:dR}(h:(mh df).2=0):∀st∈df.stmts,fG st=true/\oJ st=0:=by
 unfold mh at h;by_cases q:iZ df=true;rotate_left;.grind
 rw[ahP q]at h;intro st aa;refine⟨?_,Pf h st aa⟩;simp_all[iZ]
theorem xS3{df:dR}(h:(mh df).2=0){st:bQ}(ad:st∈df.stmts){tn:Nat}(ae:ir st.table=tn){T:bH}(hT:bI[tn]?=some T)(k1:st.kind=1):BO T st:=by
 obtain⟨hm,hc⟩:=Pj h st ad;unfold oJ at hc;rw[ae,Ai,hT]at hc;simp only at hc;rw[ahO om,ahP k1]at hc;obtain⟨_,af,ai⟩:=xk1 hc;unfold fG at hm;rw[A8,A8]at hm;have hb:=hm.2.2;unfold Ey at hb;rw[ahP k1,A8]at hb;have hi:=hb.1;unfold xj at hi;rw[A8,A8,Aj]at hi;obtain⟨ab,hlen,_⟩:=hi;have hlen:1<=st.items.length:=by grind
 refine⟨(by grind),λhw x hx=>?_,λho=>?_,λho=>?_⟩
 .have ag:ky st.items:=hw;rw[ag,D3]at af;have aa:=ab x hx;by_cases a1:x.kind=1
  .unfold jy at aa;rw[ahP a1,A8]at aa;have ah:st.items.length<=1:=by grind
   unfold sG at hw;rw[C2]at hw;obtain⟨y,hy,he⟩:=hw;have:y=x:=by match hS:st.items,ah,hx,hy with |[z],_,hx,hy=>grind|[],_,hx,_=>cases hx
   grind
  .by_cases a2:x.kind=2;.grind[kL]
   .unfold jy at aa;grind
 .rw[ho];exact xc0 (by grind)
 grind[tQ]
theorem VJ{tn:Nat}{T:bH}(hT:bI[tn]?=some T):∀{R:List (List bG)}{b:Mp aij}{l:List Ln},(∀r∈R,∀e∈r,jS e)->cE b l->(fy tn T R l).2=0->∃b',cE b' (fy tn T R l).1
 |[],b,l,_,hn,_=>⟨b,hn⟩|r::R,b,l,he,hn,h=>by
  rw[fy]at h⊢;have ab:=Ia r [] (he r (Ax ..)) (λv hv=>by cases hv);by_cases q1:(dJ eC [] r []).2≠0;.grind
  rw[ahO q1]at h⊢;obtain⟨_,ad⟩:=ab om;have aa:=KO tn T hT (dJ eC [] r []).1;by_cases q2:(eK tn T (dJ eC [] r []).1).2.2≠0;.grind
  rw[ahO q2]at h⊢;obtain⟨af,ag,ae⟩:=aa om;by_cases q3:fT l ((eK tn T (dJ eC [] r []).1).1,(eK tn T (dJ eC [] r []).1).2.1)=true;.grind
  rw[ahO q3]at h⊢;exact VJ hT (by grind) (hn.ins (x:=⟨(eK tn T (dJ eC [] r []).1).1,(eK tn T (dJ eC [] r []).1).2.1,(dJ eC [] r []).1⟩) ⟨(by grind),ae,ad⟩ (Bool.eq_false_iff.2 q3)) h
theorem VL:∀{m:List Ln}{b:Mp aij}{l:List Ln},cE b l->∃b',cE b' (ja m l)
 |[],b,_,hn=>⟨b,hn⟩|x::m,b,l,hn=>by rw[ja];exact VL (hn.del x.at)
theorem iA{T:bH}{st:bQ}:∀{l acc:List Ln},(oL T st acc l).1.Sublist (acc++l)
 |[],acc=>by grind[oL]|x::l,acc=>by
  rw[oL];split;.simp
  .refine iA.trans ?_;grind
theorem yH4{t:Int}:(fb t T st l).1.Sublist l:=by
 unfold fb;split;.exact(iA (acc:=[])).trans Bo
 simp
theorem Pm(aa:rN st)(hn:cE b l)(h:(kM st l).2.2=0):∃b',cE b' (kM st l).2.1:=by
 obtain⟨tn,ad⟩:∃tn:Nat,ir st.table=tn:=⟨(ir st.table).toNat,by have:=aa.jl;omega⟩;have ab:tn<3:=by have h:=xh (λT:bH=>T.name==st.table) bI 0;have h2:bI.length=3:=rfl;grind[ir]
 obtain⟨T,hT⟩:∃T,bI[tn]?=some T:=⟨_,A0 (show tn<bI.length from ab)⟩;unfold kM at h⊢;simp only[ad,Ai]at h⊢;rw[show bI.getD tn eC=T by grind]at h⊢;by_cases k2:st.kind=2
 .rw[ahP k2]at h⊢;by_cases q:(fy tn T st.rows l).2≠0;.grind
  .rw[ahO q];exact VJ hT (λr hr=>(aa.ok.rows.2 r hr).2) hn om
 rw[ahO k2]at h⊢;by_cases q:(fb tn T st l).2≠0;.grind
 rw[ahO q]at h⊢;by_cases k1:st.kind=1;.grind
 rw[ahO k1]at h⊢;by_cases k3:st.kind=3
 .rw[ahP k3]at h⊢;by_cases q2:(gh T st.cp (fb tn T st l).1 l).2≠0;.grind
  .rw[ahO q2];refine⟨_,O9 hT aa.ok hn (λx hx=>?_) om⟩;obtain⟨h1,h2⟩:=Ig x hx;exact⟨fj.2 (by grind),hn.rows x h1,Gr ab h2⟩
 .rw[ahO k3];exact VL hn
def Ix(M:(Int×Int×List Ot)×List Ln):V:=.cm [.agg (fU M.1),.sl .ro (M.2.map Ln.row)]
theorem wn4(hm:fG st)(n1:st.kind≠1)(n2:st.kind≠2):st.kind=3\/st.kind=4:=by
 unfold fG at hm;rw[A8,A8]at hm;have hb:=hm.2.2;unfold Ey at hb;rw[ahO n1,ahO n2]at hb;by_cases k3:st.kind=3;.exact .inl k3
 .rw[ahO k3]at hb;exact .inr (sU hb)
theorem wl6(df:dR)(hl:mO df)(l:List Ln)(aW:l.length<=7500)(hn:∃b,cE b l):Pure prog 66 [cA bI,.agg df.row,.sl .ro (l.map Ln.row)] (Ix (ee df l)):=by
 have ae:=xg4 df hl;have av:=@Lb df hl;have ai:=@xS3 df;have aw:(mh df).2=0->∀st∈df.stmts,st.kind≠1->st.kind≠2->st.kind=3\/st.kind=4:=λh st aI n1 n2=>wn4 (Pj h st aI).1 n1 n2;obtain⟨aJ,aF⟩:=hl.stmts;obtain⟨⟨ci,cr⟩,hP⟩:∃P,mh df=P:=⟨_,rfl⟩;rw[hP]at ae av ai aw;generalize hM:ee df l=M;unfold ee at hM;rw[hP]at hM;simp only at hM av ai aw;have bad:∀(r i:Int)(U:St),M=((r,i,[]),l)->bW (some (.cm [.agg [.int .i64 r,.int .i64 i,.sl .full []],.sl .ro (l.map Ln.row)])) 0 (λr s=>r=Ix M/\s=[]) U:=λr i U h=>by rw[h];exact zV (r:=Ix ((r,i,[]),l)) (yJ ⟨xS ⟨zU rfl,zU rfl,yH,tV⟩,lJ,tV⟩) ⟨rfl,rfl⟩
 refine iV 0 func66 ntmps66 results66 λc hc hb=>?_;refine zN (zA ?_);simp[go_sem,cA];refine zN (zA ?_);simp[go_sem];refine zN (zA ?_);simp[go_sem];refine zJ ae cB (zK (by simp[go_sem,cA]) rfl) rfl ?_;simp[go_sem,yN];by_cases c0:cr=0;rotate_left;.have a6:(cr !=0)=true:=sU c0;rw[ahP c0]at hM;refine zN (zA ?_);simp[go_sem,a6];exact bad cr ci _ hM.symm
 have a6:(cr !=0)=false:=sU c0;rw[ahO (λh=>h c0)]at hM;refine zN (zA ?_);simp[go_sem,a6];obtain⟨lm,ln,L⟩:=df;simp only at aJ aF hM av ai aw;have a7:=aw c0;obtain⟨D,hD⟩:=eX (kD L 0 [] l);rw[hD]at hM;have aK:D.1.1≠0->M=(D.1,l):=λh=>by rw[<-hM,ahP h]
 have aL:D.1.1=0->M=D:=λh=>by rw[<-hM,ahO (λq=>q h)]
 clear hM ae hl hP;refine zN (zA ?_);simp[go_sem];refine DK 3 2 2 [.int .i64 0,.int .i64 0,.sl .full []] dc rfl rfl ?_;refine zN (zA ?_);simp[go_sem];have kj:∀(outs:List Ot),([.box [.sl .ro yL,.sl .ro (bI.map bH.row)],.box (dR.row ⟨lm,ln,L⟩),.box [.int .i64 0,.int .i64 0,.sl .full []],.box [.int .i64 0,.int .i64 0,.sl (.app 4) (outs.map Ot.row)],.app outs.length 2]:St).all (bO 5)=true:=λouts=>by simp[bO,cH,cF,dR.row]
 refine zG (S:=Nat×List Ln×List Ot) [2,3,4,6,8,11,12] (λu=>[.sl .ro (u.2.1.map Ln.row),.ptr 0 0,.ptr 1 0,.ptr 2 0,.sl .ro (l.map Ln.row),.ptr 3 0,.int .i64 u.1]) (λu=>[.box [.sl .ro yL,.sl .ro (bI.map bH.row)],.box (dR.row ⟨lm,ln,L⟩),.box [.int .i64 0,.int .i64 0,.sl .full []],.box [.int .i64 0,.int .i64 0,.sl (.app 4) (u.2.2.map Ot.row)],.app u.2.2.length 2]) (λu=>L.length-u.1) (λu=>u.1<=L.length/\(∃b,cE b u.2.1)/\u.2.2.length=u.1/\u.2.1.length<=7500+20*u.1/\kD (L.drop u.1) u.1 u.2.2 u.2.1=D) hc hb (0,l,[]) ⟨A3 _,hn,rfl,by show l.length<=7500+20*0;omega,hD⟩ ?_ ?_;.exact aN 5 (kj [])
 rintro⟨i,l1,outs⟩⟨hi,ak,aG,aP,aa⟩;simp only at hi ak aG aP aa;by_cases q:i<L.length;rotate_left;.rw[A4 om,kD]at aa;have hM:=aL (by rw[<-aa]);refine zA ?_;simp[go_sem,q];refine zA ?_;simp[go_sem];exact zV (r:=Ix M) (by rw[hM,<-aa];exact yJ ⟨xS ⟨zU rfl,zU rfl,yH,tV⟩,lJ,tV⟩) ⟨rfl,rfl⟩
 have ei:=zR q om;obtain⟨x,hx⟩:=eX (L[i]);have ax:x∈L:=hx▸A7 q;have a8:=av c0 x ax;have ah:=aF x ax;have hlen:=Lc (st:=x) (l:=l1);have aV:=ah.rows.1;rw[A2 q,hx,kD]at aa;obtain⟨tn,al⟩:∃tn:Nat,ir x.table=tn:=⟨(ir x.table).toNat,by have:=a8.jl;omega⟩;have aA:tn<3:=by have h:=xh (λT:bH=>T.name==x.table) bI 0;have h2:bI.length=3:=rfl;unfold ir at al;omega
 obtain⟨T,hT⟩:∃T,bI[tn]?=some T:=⟨_,A0 (show tn<bI.length from aA)⟩;obtain⟨aQ,aR⟩:=A5.1 hT;have an:=S3 bI x.table dc;rw[show xE (λt:bH=>t.name==x.table) bI 0=tn from al]at an;have ay:=λh=>ak.elim λb hb=>Pm a8 hb h;refine zN (zA ?_);simp[go_sem,q];refine zN (pX (zN (zA ?_)));simp[go_sem,q,hx];refine zN (zA ?_);simp[go_sem];refine zJ an cB (zK (by simp[go_sem,cA]) rfl) rfl ?_;simp[go_sem];refine zN (zA ?_);simp[go_sem];refine zN (zA ?_);simp[go_sem];obtain⟨E,hE⟩:=eX (kM x l1);rw[hE]at aa hlen ay;refine wM (S:=(Tag×Ot)×List Ln) [2,3,4,6,8,11,12,15,16] (λu=>[.sl .ro (u.2.map Ln.row),.ptr 0 0,.ptr 1 0,.ptr 2 0,.sl .ro (l.map Ln.row),.ptr 3 0,.int .i64 i,.ptr 6 0,.int .i64 E.2.2]) (λu=>[.box [.sl .ro yL,.sl .ro (bI.map bH.row)],.box (dR.row ⟨lm,ln,L⟩),.box [.int .i64 0,.int .i64 0,.sl .full []],.box [.int .i64 0,.int .i64 0,.sl (.app 4) (outs.map Ot.row)],.app outs.length 2,.box x.row,.box [.sl u.1.1 (u.1.2.rows.map λr=>[V.sl .ro (r.map bF.row)]),.int .i64 u.1.2.count]]) (λu=>E.2.2=0->u.1.2=E.1/\u.2=E.2.1) hc hb ?_ ?_
 .have ab:=hE;unfold kM at ab;simp only[al,Ai]at ab;rw[show bI.getD tn eC=T by rw[A9,hT];rfl]at ab;by_cases k2:x.kind=2
  .rw[ahP k2]at ab;have ao:(x.kind==2)=true:=sU k2;have az:=yR8 tn T hT x ah l1 om;obtain⟨uI,hI⟩:=eX (fy tn T x.rows l1);rw[hI]at az ab;have ad:E.2.2=uI.2:=by
    rw[<-ab];by_cases q:uI.2≠0;.rw[ahP q]
    .rw[ahO q];have:uI.2=0:=sU q;exact this.symm
   have aB:E.2.2=0->(⟨x.rows.length,[]⟩:Ot)=E.1/\uI.1=E.2.1:=λh=>by rw[ad]at h;rw[ahO (λq=>q h)]at ab;rw[<-ab];exact⟨rfl,rfl⟩
   refine zA ?_;simp[go_sem,ao];refine zJ az cB (zK (by simp[go_sem,cA]) rfl) rfl ?_;simp[go_sem,gB];exact zH ((.full,⟨x.rows.length,[]⟩),uI.1) ⟨aB,iL sg sm (by simp[go_sem,ad])⟩
  have ao:(x.kind==2)=false:=sU k2;rw[ahO k2]at ab;have af:=xR6 tn T hT x ah l1 om (ak.elim λb hb=>hb.rows);have aj:=yH4 (t:=tn) (T:=T) (st:=x) (l:=l1);have ag:=λz hz=>Ig (t:=tn) (T:=T) (st:=x) (l:=l1) z hz;obtain⟨⟨m,me⟩,aS⟩:∃M,fb tn T x l1=M:=⟨_,rfl⟩;rw[aS]at af ab aj ag;simp only at ab aj ag;by_cases m0:me=0;rotate_left
  .have aH:(me==0)=false:=sU m0;rw[ahP m0]at ab;have ad:E.2.2=me:=by rw[<-ab]
   refine zA ?_;simp[go_sem,ao];refine zJ af cB (zK (by simp[go_sem,cA]) rfl) rfl ?_;simp[go_sem,gB,aH];exact zH ((.full,⟨0,[]⟩),l1) ⟨λh=>absurd (ad▸h) m0,iL sg sm (by simp[go_sem,ad])⟩
  have aH:(me==0)=true:=sU m0;rw[ahO (λh=>h m0)]at ab;subst m0;have aT:=aj.length_le;have a1:∀z∈m,eP z/\z.v.length=T.bP.length:=λz hz=>by obtain⟨h1,h2⟩:=ag z hz;have h3:=ak.elim λb hb=>hb.rows z h1;exact⟨h3,Pa hT h3 (Gr aA h2)⟩
  by_cases k1:x.kind=1
  .have aC:(x.kind==1)=true:=sU k1;rw[ahP k1]at ab;have aq:=yX5 tn T hT x ah (ai c0 ax al hT k1) m om a1;obtain⟨S,hS⟩:=eX (jz T x m);rw[hS]at ab aq;have ad:E.2.2=S.2:=by rw[<-ab]
   refine zA ?_;simp[go_sem,ao];refine zJ af cB (zK (by simp[go_sem,cA]) rfl) rfl ?_;simp[go_sem,gB,aC];refine zW [(7,0)] 6 sm kR kR ?_;simp[go_sem,aQ,aR];refine pD aq ?_;simp[go_sem,iz,Ot.row];exact zH ((.ro,S.1),l1) ⟨λh=>by rw[<-ab];exact⟨rfl,rfl⟩,iL sg sm (by simp[go_sem,ad])⟩
  have aC:(x.kind==1)=false:=sU k1;rw[ahO k1]at ab;have ar:(l1.map Ln.at).Nodup:=ak.elim λb hb=>hb.fY.nodup;have aU:x.kind=3\/x.kind=4:=a7 x ax k1 k2;have au:=xC8 tn T hT x ah (λk4=>by have:=a8.cp om;rw[al,Ai,A9,hT]at this;exact this) l1 m om om ar (ahY (aj.map _) ar) (λz hz=>by obtain⟨h1,h2⟩:=ag z hz;exact⟨fj.2 (Aa.2 ⟨z,h1,rfl⟩),(a1 z hz).1,Gr aA h2⟩);obtain⟨uU,hU⟩:=eX (vq T x m l1);rw[hU]at au;have aD:E=if uU.2≠0then(⟨0,[]⟩,[],uU.2)else(⟨m.length,[]⟩,uU.1,0):=by
   rw[<-ab,<-hU];unfold vq;by_cases k3:x.kind=3;.have n4:¬x.kind=4:=om;simp only[ahO n4,ahP k3]
   .have k4:x.kind=4:=by rcases aU with h|h;exact absurd h k3;exact h
    simp only[ahO k3,ahP k4];rfl
  have ad:E.2.2=uU.2:=by
   rw[aD];by_cases q:uU.2≠0;.rw[ahP q]
   .rw[ahO q];have:uU.2=0:=sU q;exact this.symm
  have aB:E.2.2=0->(⟨m.length,[]⟩:Ot)=E.1/\uU.1=E.2.1:=λh=>by rw[ad]at h;rw[ahO (λq=>q h)]at aD;rw[aD];exact⟨rfl,rfl⟩
  refine zA ?_;simp[go_sem,ao];refine zJ af cB (zK (by simp[go_sem,cA]) rfl) rfl ?_;simp[go_sem,gB,aC];refine zJ au cB (zK (by simp[go_sem,cA]) rfl) rfl ?_;simp[go_sem,gB];exact zH ((.full,⟨m.length,[]⟩),uU.1) ⟨aB,iL sg sm (by simp[go_sem,ad])⟩
 rintro⟨⟨g,ot⟩,l2⟩hu;simp only at hu;by_cases e0:E.2.2=0;rotate_left;.have aE:(E.2.2!=0)=true:=sU e0;rw[ahP e0]at aa;have hM:=aK (by rw[<-aa];exact e0);refine zN (zA ?_);simp[go_sem,aE];exact bad E.2.2 i _ (by rw[hM,<-aa])
 have aE:(E.2.2!=0)=false:=sU e0;rw[ahO (λh=>h e0)]at aa;obtain⟨rfl,rfl⟩:=hu e0;refine zA ?_;simp[go_sem,aE];refine zF ⟨om,zT rfl⟩ ?_;simp[go_sem];refine zA ?_;simp[go_sem,ei];exact zH (i+1,E.2.1,outs++[E.1]) ⟨by show L.length-(i+1)<L.length-i;omega,⟨q,ay e0,by show(outs++[E.1]).length=i+1;simp[aG],by show E.2.1.length<=7500+20*(i+1);omega,aa⟩,bT 5 (by simp[go_sem,Ot.row]) rfl (kj _) dc (zC sg rfl)⟩
theorem xg5(r:Nat)(h:4<=r):Pure prog 122 [cA bI,.int .i64 r] (mg (0,0,1)):=by have aa:=T4;have h1:¬(r:Int)<0:=om;have h2:(4:Int)<=r:=om;refine iV 0 func122 ntmps122 results122 λc hc hb=>?_;refine zA ?_;simp[go_sem,cA];refine zJ aa cB (zK (by simp[go_sem,cA]) rfl) rfl ?_;simp[go_sem,h1,h2];exact wR
theorem xQ3(r:Nat):Pure prog 122 [cA bI,.int .i64 r] (mg (dY r)):=by
 by_cases h:(dY r).2.2=0;.exact Vz r h
 .have h4:4<=r:=by have:¬(r=0\/r=1\/r=2\/r=3):=λe=>h (by rcases e with e|e|e|e<;>subst e<;>rfl);omega
  have e:dY r=(0,0,1):=by unfold dY;rw[ahO om,ahO om,ahO om,ahO om]
  rw[e];exact xg5 r h4
end Go.Proofs.YtefbicjgbaaieaaGreat
