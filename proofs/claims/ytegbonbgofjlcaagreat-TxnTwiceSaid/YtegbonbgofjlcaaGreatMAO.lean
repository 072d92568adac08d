/-
  What the document lays of one range is that range's part of what is otherwise now. Used by the walk of the document's Run.
  Conditions: as each theorem states them.
-/
import Derived.Test.YtegbonbgofjlcaaGreatMAN
import Derived.Test.YtegbonbgofjlcaaGreatMAF
import Derived.Test.YtegbonbgofjlcaaGreatMAK
import Derived.Test.YtegbonbgofjlcaaGreatMAG
set_option maxHeartbeats 8000000
namespace Go.Proofs.YtegbonbgofjlcaaGreat
open Go Go.Vx R Go.Proofs.Tryz
set_option maxRecDepth 100000
structure Ln where
 r:Int
 k:alW
 v:List bK
variable{U:Type}{b:Mp alW}{W:List (Pl×U)}{bs:alX}{p:Pl}{seen:alX}{r:Int}{st:bZ}
@[go_sem]def Ln.row(x:Ln):List V:=[.int .i64 x.r,.str x.k,.sl .ro (x.v.map bK.row)]
def Ln.at (x:Ln):Pl:=(x.r,x.k)
def wE(a b:Pl):Bool:=decide (a.1<b.1)||(decide (a.1=b.1)&&Op.bytesLess a.2 b.2)
theorem MX(a:Pl):wE a a=false:=by simp[wE,MP]
theorem JS{a b c:Pl}(h:wE a b)(g:wE b c):wE a c=true:=by
 simp only[wE,Ch,Aa,alw]at h g⊢;rcases h with h|⟨h,h'⟩<;>rcases g with g|⟨g,g'⟩;.exact .inl om
 .exact .inl om
 .exact .inl om
 .exact .inr ⟨om,JP _ _ _ h' g'⟩
theorem JT(a b:Pl):wE a b=true\/a=b\/wE b a=true:=by
 simp only[wE,Ch,Aa,alw];rcases alT a.1 b.1with h|h|h;.exact .inl (.inl h)
 .rcases Qz a.2 b.2with g|g|g;.exact .inl (.inr ⟨h,g⟩)
  .exact .inr (.inl (Prod.ext h g))
  .exact .inr (.inr (.inr ⟨h.symm,g⟩))
 .exact .inr (.inr (.inl h))
theorem WW{a b:Pl}(h:wE a b):wE b a=false:=by
 cases q:wE b a;.rfl
 .have:=JS h q;rw[MX]at this;cases this
def iR(l:List Pl):Prop:=l.Pairwise λa b=>wE a b=true
def zt(l:List Ln)(x:Ln):List Ln:=l.takeWhile (λy=>wE y.at x.at)++x::l.dropWhile (λy=>wE y.at x.at)
def j5(l:List Ln)(p:Pl):Bool:=l.any λx=>x.at==p
def qm(t:Int)(st:bZ)(x:Ln):Bool:=(wJ t st).any (λg=>(xJ t g).1==x.r)&&(!Op.bytesLess x.k (oC bO t st).1&&Op.bytesLess x.k (oC bO t st).2)
def vo(T:bL)(st:bZ):List Ln->List Ln->List Ln×Int |acc,[]=>(acc,0)|acc,x::l=>if(gZ T x.v st.cH).2≠0then([],(gZ T x.v st.cH).2)else vo T st (if F0 (gZ T x.v st.cH).1=true then acc++[x]else acc) l
def gE(t:Int)(T:bL)(st:bZ)(l:List Ln):List Ln×Int:=if st.ef=true then vo T st [] (l.filter (qm t st))else(l.filter (qm t st),0)
def fa(T:bL)(row:List bK):List bJ->List bK->List bK×Int |[],acc=>(acc,0)|e::l,acc=>if(gZ T row e).2≠0then([],(gZ T row e).2)else fa T row l (acc++[(gZ T row e).1])
def gX(t:Nat)(T:bL):List (List bJ)->List Ln->List Ln×Int |[],l=>(l,0)|r::rs,l=>if(fa fj [] r []).2≠0then([],(fa fj [] r []).2)else if(fT t T (fa fj [] r []).1).2.2≠0then([],(fT t T (fa fj [] r []).1).2.2)else if j5 l ((fT t T (fa fj [] r []).1).1,(fT t T (fa fj [] r []).1).2.1)=true then([],18)else gX t T rs (zt l ⟨(fT t T (fa fj [] r []).1).1,(fT t T (fa fj [] r []).1).2.1,(fa fj [] r []).1⟩)
def gQ(T:bL)(pt:List bK):List cy->List bK->List bK×Int|[],row=>(row,0)|x::l,row=>if(gZ T pt x.e).2≠0then([],(gZ T pt x.e).2)else gQ T pt l (row.set (dg T x.name).toNat (gZ T pt x.e).1)
def jS(l:List Ln)(p:Pl)(row:List bK):List Ln:=l.map λy=>if y.at=p then⟨y.r,y.k,row⟩else y
def ig(T:bL)(cJ:List cy):List Ln->List Ln->List Ln×Int |[],l=>(l,0)|x::m,l=>if(gQ T x.v cJ x.v).2≠0then([],(gQ T x.v cJ x.v).2)else if fC T.cw (gQ T x.v cJ x.v).1≠0then([],fC T.cw (gQ T x.v cJ x.v).1)else ig T cJ m (jS l x.at (gQ T x.v cJ x.v).1)
def ko:List Ln->List Ln->List Ln|[],l=>l|x::m,l=>ko m (l.filter λy=>!decide (y.at=x.at))
def DU(items:List de):Bool:=items.any λx=>x.kind==3||x.kind==4
def kT(T:bL)(e:bJ):List Ln->bK->bK×Int |[],acc=>(acc,0)|x::l,acc=>if(gZ T x.v e).2≠0then(zeroV,(gZ T x.v e).2)else if(gZ T x.v e).1.kind=0then kT T e l acc else if(fQ (acc.n+(gZ T x.v e).1.n)).2≠0then(zeroV,(fQ (acc.n+(gZ T x.v e).1.n)).2)else kT T e l ⟨2,(fQ (acc.n+(gZ T x.v e).1.n)).1,[]⟩
def sx(T:bL)(l:List Ln):List de->List bK->List bK×Int |[],acc=>(acc,0)|x::xs,acc=>if x.kind=4then(if(kT T x.e l zeroV).2≠0then([],(kT T x.e l zeroV).2)else sx T l xs (acc++[(kT T x.e l zeroV).1]))else sx T l xs (acc++[⟨2,l.length,[]⟩])
def JU(gt:Ln->Bool)(out:List Ln)(x:Ln):List Ln:=(out.reverse.dropWhile gt).reverse++x::(out.reverse.takeWhile gt).reverse
def sy(c:Nat)(down:Bool)(x y:Ln):Int:=if down=true then-(jR (x.v.getD c zeroV) (y.v.getD c zeroV))else jR (x.v.getD c zeroV) (y.v.getD c zeroV)
def qn(c:Nat)(down:Bool)(l:List Ln):List Ln:=l.foldl (λout x=>JU (λy=>decide (0<sy c down y x)) out x) []
def mj(bV:Int)(l:List Ln):List Ln:=if 0<=bV then l.take bV.toNat else l
def qo(T:bL)(items:List de):List Ln->List (List bK)->List (List bK)×Int |[],acc=>(acc,0)|x::l,acc=>if(items.head?.map (·.kind))=some 1then qo T items l (acc++[x.v])else if(fa T x.v (items.map (·.e)) []).2≠0then([],(fa T x.v (items.map (·.e)) []).2)else qo T items l (acc++[(fa T x.v (items.map (·.e)) []).1])
structure Ot where
 count:Int
 rows:List (List bK)
def Ot.row(x:Ot):List V:=[.sl .ro (x.rows.map λr=>[.sl .ro (r.map bK.row)]),.int .i64 x.count]
def ml(T:bL)(st:bZ)(l:List Ln):Ot×Int:=if DU st.items=true then(if(sx T l st.items []).2≠0then(⟨0,[]⟩,(sx T l st.items []).2)else(⟨0,[(sx T l st.items []).1]⟩,0))else let m:=mj st.bV (if 0<=dg T st.order then qn (dg T st.order).toNat st.down l else l)
  if(qo T st.items m []).2≠0then(⟨0,[]⟩,(qo T st.items m []).2)else(⟨0,(qo T st.items m []).1⟩,0)
def lP(st:bZ)(l:List Ln):Ot×List Ln×Int:=let t:=(xO st.table).toNat
 let T:=bO.getD t fj
 if st.kind=2then(if(gX t T st.rows l).2≠0then(⟨0,[]⟩,[],(gX t T st.rows l).2)else(⟨st.rows.length,[]⟩,(gX t T st.rows l).1,0))else if(gE t T st l).2≠0then(⟨0,[]⟩,[],(gE t T st l).2)else if st.kind=1then((ml T st (gE t T st l).1).1,l,(ml T st (gE t T st l).1).2)else if st.kind=3then(if(ig T st.cJ (gE t T st l).1 l).2≠0then(⟨0,[]⟩,[],(ig T st.cJ (gE t T st l).1 l).2)else(⟨(gE t T st l).1.length,[]⟩,(ig T st.cJ (gE t T st l).1 l).1,0))else(⟨(gE t T st l).1.length,[]⟩,ko (gE t T st l).1 l,0)
def mm:List bZ->Nat->List Ot->List Ln->(Int×Int×List Ot)×List Ln|[],_,acc,l=>((0,0,acc),l)|x::ss,i,acc,l=>if(lP x l).2.2≠0then(((lP x l).2.2,(i:Int),[]),[])else mm ss (i+1) (acc++[(lP x l).1]) (lP x l).2.1
def gb(df:eF)(l:List Ln):(Int×Int×List Ot)×List Ln:=if(pq df).2≠0then(((pq df).2,(pq df).1,[]),l)else if(mm df.stmts 0 [] l).1.1≠0then((mm df.stmts 0 [] l).1,l)else mm df.stmts 0 [] l
structure Wr where
 p:Pl
 drop:Bool
 data:alW
def lC(l:List Wr)(w:Wr):List Wr:=l.takeWhile (λy=>wE y.p w.p)++w::l.dropWhile (λy=>wE y.p w.p)
def jz(qY now:List Ln):List Wr:=(now.filter λx=>!(qY.any λy=>decide (y.at=x.at)&&decide (xP y.v=xP x.v))).foldl (λl x=>lC l ⟨x.at,false,xP x.v⟩) ((qY.filter λx=>!j5 now x.at).foldl (λl x=>lC l ⟨x.at,true,[]⟩) [])
theorem HN{cw:List fZ}{row:List bK}(hc:cw.length<=20)(hv:∀v∈row,v.ok)(h:fC cw row=0):ju row:=by have hl:=zp h;refine⟨om,λv aa=>?_,hv⟩;rcases QB (Wx h v aa)with⟨_,_,h3⟩|⟨_,_,h3⟩|⟨_,h3⟩|⟨_,_,h3⟩;all_goals grind
theorem xE2(tn:Nat)(T:bL)(hT:bO[tn]?=some T)(row:List bK):vg 3 tn T row (xJ tn)=fT tn T row:=by
 unfold vg fT;by_cases h:fC T.cw row≠0;.rw[alq h,alq h]
 .rw[alp h,alp h];have hl:=zp (Classical.not_not.1 h);have e0:row.headD v0=row.getD 0 zeroV:=by cases row<;>rfl
  rw[e0];have ev:v0=zeroV:=rfl;rw[ev];obtain⟨aa,ab⟩:=A3.1 hT;have h3:tn<3:=aa;unfold HM xJ;generalize row.getD 0 zeroV=x;match tn,h3 with
  |0,_=>
   have hp:T.place=0:=by cases hT;decide
   simp only[hp,alB,true_and];by_cases q0:x.n=0;.simp[q0,show min (max (0:Int) (-1)) 4=0 by decide]
   .by_cases q1:x.n=1;.simp[q1,show min (max (1:Int) (-1)) 4=1by decide]
    .have n0:¬min (max x.n (-1)) 4=0:=om;have n1:¬min (max x.n (-1)) 4=1:=om;simp[q0,q1,n0,n1]|1,_=>
   have hp:¬T.place=0:=by cases hT;decide
   simp|2,_=>
   have hp:¬T.place=0:=by cases hT;decide
   simp
theorem WX(tn:Nat)(T:bL)(hT:bO[tn]?=some T)(row:List bK)(hr:row.length<=maxLen)(hv:∀v∈row,v.ok):Pure prog 173 [dW bO,.int .i64 tn,.sl .ro (row.map bK.row)] (vh (fT tn T row)):=by
 obtain⟨aa,ab⟩:=A3.1 hT;have hk:=(by decide:∀T∈bO,0<=T.key/\T.key<T.cw.length/\T.cw.length<=20) T (by grind);rw[<-xE2 tn T hT row];exact xL8 xN bO tn aa T ab row hr (HN hk.2.2 hv) dC om (xJ tn) λr h1 h2 h3=>by have ad:tn<3:=aa;exact Jz tn r om om
def gq:Ob:=.box [.sl .ro xN,.sl .ro (bO.map bL.row),.mp 0,.mp 1,.mp 2]
def dF(a b:Mp alW)(c:Mp Int):St:=[a.ob .str,b.ob .str,c.ob (V.int .i64),gq]
theorem WY{U:Type}{g:U->V}(hg:∀v,iu 0 (g v))(n:Nat):∀W:List (Pl×U),(gP g W).all (iu n)=true
 |[]=>rfl|e::W=>by rw[gP,Az,Az,WY hg n W,Tn om (hg e.2)];rfl
theorem WZ{g:U->V}(hg:∀v,iu 0 (g v))(n:Nat)(m:Mp U):bS n (m.ob g)=true:=WY hg n m.W
theorem wK(n:Nat)(h:3<=n)(a b:Mp alW)(c:Mp Int):(dF a b c).all (bS n)=true:=by have h0:decide (0<n)=true:=(by grind);have h1:decide (1<n)=true:=(by grind);have h2:decide (2<n)=true:=(by grind);simp only[dF,Az,De,Dg,WZ (g:=V.str) (λ_=>rfl),WZ (g:=V.int .i64) (λ_=>rfl),Ba];simp_all[gq,bS,cV,cR]
def mq(c:Mp Int)(p:Pl):Int:=(c.get p).getD 0
def mJ(dN:Int)(key data:alW):Bool:=decide ((ga dN).2.2=0)&&(decide ((eM bO (ga dN).1 data).2=0)&&decide (fT (ga dN).1.toNat (bO.getD (ga dN).1.toNat fj) (eM bO (ga dN).1 data).1=(dN,key,0)))
def sC(m:Mp alW×Mp alW×Mp Int):St:=dF m.1 m.2.1 m.2.2
abbrev M3:=Mp alW×Mp alW×Mp Int
def DV(p:Pl)(data:alW)(m:M3):M3:=if mq m.2.2 p=0/\mJ p.1 p.2 data=true then(m.1.put p data,m.2.1.put p data,m.2.2.put p (mq m.2.2 p+1))else(m.1,m.2.1,m.2.2.put p (mq m.2.2 p+1))
theorem wf4{u:Nat}(h:u<18446744073709551616):-9223372036854775808<=lu u/\lu u<=9223372036854775807:=by grind[lu]
theorem W0:(v0:bK).ok:=⟨dC,dC,dC⟩
theorem QI{k n:Int}{s:alW}(h1:-9223372036854775808<=k/\k<=9223372036854775807)(h2:-9223372036854775808<=n/\n<=9223372036854775807)(h3:s.length<=maxLen):(bK.mk k n s).ok:=⟨h1,h2,h3⟩
theorem xJ8:∀b:alW,(mg b).v.ok
 |[]=>W0|c::rest=>by grind[mg,p5,W0,wv,QI,wf4,Mu,maxLen]
theorem W3:∀(n:Nat)(b:alW)(l:List bK),iQ n b=some l->l.length=n/\∀v∈l,v.ok
 |0,b,l,h=>by rw[iQ]at h;grind|n+1,b,l,h=>by
  rw[iQ]at h;split at h;.rw[As]at h;obtain⟨l',h1,rfl⟩:=h;obtain⟨h2,h3⟩:=W3 n _ l' h1;refine⟨by grind,λv hv=>?_⟩;rcases Af.1 hv with rfl|hv;all_goals grind[xJ8]
  grind
theorem W4(t:Nat)(data:alW):(eM bO t data).1.length<=maxLen/\∀v∈(eM bO t data).1,v.ok:=by
 have h0:([]:List bK).length<=maxLen/\∀v∈([]:List bK),v.ok:=sM;unfold eM;split
 .rename_i h;have hc:=(by decide:∀T∈bO,T.cw.length<=maxLen) (bO[(t:Int).toNat]'om) sM;unfold R.kj;split;.unfold uS;grind[W3]
  omega
 omega
theorem wB7(g:Nat)(hg:g<1000)(key data:alW)(hd:data.length<=cN)(a b:Mp alW)(sn:Mp Int)(ha:a.ok)(ai:b.ok)(hs:sn.ok)(a1:sn.at (g,key)=none->a.at (g,key)=none/\b.at (g,key)=none)(av:∀i v,sn.at (g,key)=some (i,v)->1<=v/\v<=1000000):bN prog 104 [.ptr 3 0,.int .i64 g,.agg [.str key,.str data]] (dF a b sn) (λr s=>r=.cC []/\s=sC (DV (g,key) data (a,b,sn))):=by
 obtain⟨M,hM⟩:=eX (DV (g,key) data (a,b,sn));rw[hM];have ret:∀(a' b':Mp alW)(aj:Mp Int)(Il:St),M=(a',b',aj)->cz (some (.cC [])) 4 (λr s=>r=.cC []/\s=sC M) (a'.ob .str::b'.ob .str::aj.ob (V.int .i64)::.box [.sl .ro xN,.sl .ro (bO.map bL.row),.mp 0,.mp 1,.mp 2]::Il):=λa' b' aj Il h=>by subst h;exact yW 4 rfl rfl (wK 4 dC a' b' aj) om (zC rfl) (by trivial)
 have a6:=JA g hg;refine iV 4 func104 ntmps104 results104 λc hc hb=>?_;refine zA ?_;simp[go_sem,dF,gq];refine pC a6 ?_;simp[go_sem,Hz];obtain⟨ob,ao⟩:∃ob:Ob->R,ob=λo=>wI (some (vj,.int .i64 0)) [o] (.mp 0) (iD (g,key)) false:=⟨_,rfl⟩;obtain⟨k1,aw⟩:=eX (mq sn (g,key));cases aa:sn.at (g,key)with
 |none=>
  have ad:=Mp.get_none aa;have ae:k1=0:=by rw[<-aw];unfold mq;grind
  subst ae;refine uC [(5,1),(7,3)] ⟨0,6,[2],some (2,ob)⟩ sM (by rfl) kR ?_;simp[go_sem];refine TL (kv:=iD (g,key)) (id:=2) (n0:=⟨0,6,[2],some (2,ob)⟩) (by rfl) (by rfl) Tryz.qT ao rfl sM (MT (m:=sn) rfl (g,key) false) ?_;simp[go_sem,ad];refine LP ?_ ?_;.simp[go_sem,WT hs aa];refine⟨sM,λ_=>.inr ?_⟩;exact Kp.uo (k:=⟨0,6,[2],some (2,ob)⟩) (I:=[a.ob .str,b.ob .str,sn.ob (V.int .i64),gq,.box [.str key,.str data],.box [.int .i64 g,.str key]]) (id:=2) (o:=sn.ob (V.int .i64)) (o':=(sn.nu (g,key) 0).ob (V.int .i64)) rfl rfl (λq hq _=>by cases hq;rw[ao];first|done|exact xP8 rfl aa)
  simp[go_sem,WT hs aa,WV hs];obtain⟨i1,aq⟩:=Mp.vm sn (g,key) 1;by_cases he:(ga g).2.2=0;rotate_left
  .have ab:((ga g).2.2!=0)=true:=by grind
   refine yA [] 6 sM (by rfl) kR ?_;simp[go_sem,ab];exact ret a b _ _ (by grind[DV,mJ])
  have ab:((ga g).2.2!=0)=false:=by grind
  have e1:(sn.put (g,key) 1).ob (V.int .i64)=.mp (gP (V.int .i64) (sn.put (g,key) 1).W) (sn.put (g,key) 1).bs (sn.put (g,key) 1).dm:=rfl;refine yA [] 6 sM (by rfl) kR ?_;simp[go_sem,ab,e1,qh,aq,lZ,mC];rw[<-e1];obtain⟨ax,ay⟩:=a1 aa;obtain⟨tn,T,a7,hT⟩:∃(tn:Nat)(T:bL),(ga g).1=(tn:Int)/\bO[tn]?=some T:=by
   unfold ga at he⊢;split at he<;>rename_i q0;.rw[alq q0];exact⟨0,_,rfl,rfl⟩
   .rw[alp q0];split at he<;>rename_i q1;.rw[alq q1];exact⟨0,_,rfl,rfl⟩
    .rw[alp q1];split at he<;>rename_i q2;.rw[alq q2];exact⟨1,_,rfl,rfl⟩
     .rw[alp q2];split at he<;>rename_i q3;.rw[alq q3];exact⟨2,_,rfl,rfl⟩
      grind
  have aE:bO.getD tn fj=T:=by grind
  have al:=U6 xN bO tn data hd dC;have af:=W4 tn data;obtain⟨rf,a8⟩:=eX (eM bO tn data);rw[a8]at al af;have an:=WX tn T hT rf.1 af.1 af.2;obtain⟨ks,aA⟩:=eX (fT tn T rf.1);rw[aA]at an;have aB:mJ g key data=(decide (rf.2=0)&&decide (ks=(((g:Nat):Int),key,0))):=by grind[mJ]
  have aC:M=if mJ g key data=true then(a.put (g,key) data,b.put (g,key) data,sn.put (g,key) 1)else(a,b,sn.put (g,key) 1):=by grind[DV]
  rw[aB]at aC;obtain⟨kr,kk,ke⟩:=ks;refine zA ?_;refine yA [(7,0)] 6 sM (by rfl) kR ?_;simp[go_sem,a7];refine pD al ?_;simp[go_sem,eG];by_cases r0:rf.2=0;rotate_left
  .have ar:(rf.2!=0)=true:=by grind
   simp[go_sem,ar];exact ret a b _ _ (by grind)
  have ar:(rf.2!=0)=false:=by grind
  simp[go_sem,ar];refine pC an ?_;simp[go_sem,vh];by_cases k0:ke=0;rotate_left
  .have ah:(ke==0)=false:=by grind
   simp[go_sem,ah];exact ret a b _ _ (by grind)
  have ah:(ke==0)=true:=by grind
  by_cases k2:kr=((g:Nat):Int);rotate_left
  .have ak:(kr==((g:Nat):Int))=false:=by grind
   simp[go_sem,ah,ak];exact ret a b _ _ (by grind)
  have ak:(kr==((g:Nat):Int))=true:=by grind
  by_cases k3:kk=key;rotate_left
  .have au:(kk==key)=false:=by grind
   simp[go_sem,ah,ak,au];exact ret a b _ _ (by grind)
  have au:(kk==key)=true:=by grind
  simp[go_sem,ah,ak,au];refine uC [(14,3),(16,3),(17,3),(19,3)] ⟨0,6,[0,1],none⟩ sM (by rfl) kR ?_;simp[go_sem];have keep:∀(τ:St)(i:Nat)(o o':Ob),([0,1]:alX).contains i=true->τ[i]?=some o->Kp.of ⟨0,6,[0,1],none⟩ (τ.set i o')=Kp.of ⟨0,6,[0,1],none⟩ τ:=(by grind[Kp.uo]);refine LP ?_ ?_;.simp[go_sem,MV ha ax];refine⟨sM,λ_=>.inr ?_⟩;rfl
  simp[go_sem,MV ha ax];refine TJ ?_ ?_;.simp[go_sem,MW ha];refine⟨sM,λ_=>.inr ?_⟩;rfl
  simp[go_sem,MW ha];refine LP ?_ ?_;.simp[go_sem,MV ai ay];refine⟨sM,λ_=>.inr ?_⟩;rfl
  simp[go_sem,MV ai ay];refine TJ ?_ ?_;.simp[go_sem,MW ai];refine⟨sM,λ_=>.inr ?_⟩;rfl
  simp[go_sem,MW ai];exact ret (a.put (g,key) data) (b.put (g,key) data) _ _ (by grind)|some q=>
  obtain⟨i,v⟩:=q;obtain⟨aF,aG⟩:=av i v aa;have ad:=Mp.get_some aa;have ae:k1=v:=by rw[<-aw];unfold mq;grind
  subst ae;have aD:IntKind.i64.wrap (k1+1)=k1+1:=(by grind[bX]);have az:M=(a,b,sn.put (g,key) (k1+1)):=by rw[<-hM];unfold DV;grind
  refine uC [(5,1),(7,3)] ⟨0,6,[2],some (2,ob)⟩ sM (by rfl) kR ?_;simp[go_sem];refine TL (kv:=iD (g,key)) (id:=2) (n0:=⟨0,6,[2],some (2,ob)⟩) (by rfl) (by rfl) Tryz.qT ao rfl sM (MT (m:=sn) rfl (g,key) false) ?_;simp[go_sem,ad,aD];refine LP ?_ ?_;.simp[go_sem,WU hs aa];trivial
  simp[go_sem,WU hs aa,yF2 hs aa];obtain⟨i1,aq⟩:=Mp.vm sn (g,key) (k1+1);by_cases he:(ga g).2.2=0;rotate_left
  .have ab:((ga g).2.2!=0)=true:=by grind
   refine yA [] 6 sM (by rfl) kR ?_;simp[go_sem,ab];exact ret a b _ _ az
  have ab:((ga g).2.2!=0)=false:=by grind
  have e1:(sn.put (g,key) (k1+1)).ob (V.int .i64)=.mp (gP (V.int .i64) (sn.put (g,key) (k1+1)).W) (sn.put (g,key) (k1+1)).bs (sn.put (g,key) (k1+1)).dm:=rfl;have h1:decide (k1+1>1)=true:=(by grind);have aH:decide (1<k1+1)=true:=om;refine yA [] 6 sM (by rfl) kR ?_;simp[go_sem,ab,e1,qh,aq,lZ,mC,h1];exact ret a b _ _ az
structure gm(x:Ln):Prop where
 jV:∃(tn:Nat)(T:bL),(ga x.r).1=(tn:Int)/\bO[tn]?=some T/\fC T.cw x.v=0
 err:(ga x.r).2.2=0
 ok:∀v∈x.v,v.ok
structure dd(b:Mp alW)(l:List Ln):Prop where
 ok:b.ok
 jA:iR (l.map Ln.at)perm:b.W.Perm (l.map λx=>(x.at,xP x.v))rows:∀x∈l,gm x
theorem iR.nodup{l:List Pl}(h:iR l):l.Nodup:=h.imp (by grind[MX])
theorem DW(l:List Ln)(x:Ln):(zt l x).Perm (x::l):=by grind[zt,Cr,Dj]
theorem gF{l:List Ln}:j5 l p=true↔p∈l.map Ln.at:=by grind[j5]
theorem W5{p:Pl}:∀{l:List Ln},iR (l.map Ln.at)->p∉l.map Ln.at->∀y∈l.dropWhile (λy=>wE y.at p),wE p y.at=true
 |[],_,_,y,hy=>by simp_all|z::l,hr,hn,y,hy=>by
  unfold iR at hr;rw[Ag,Ck]at hr;rw[List.dropWhile_cons]at hy;by_cases q:wE z.at p=true;.rw[alq q]at hy;exact W5 (l:=l) hr.2 (by grind) y hy
  .rw[alp q]at hy;have hz:wE p z.at:=by grind[JT]
   rcases Af.1 hy with rfl|hy;.exact hz
   .exact JS hz (by grind)
theorem QJ{U:Type}{p:U->Bool}:∀{l:List U},∀y∈l.takeWhile p,p y=true
 |[],y,hy=>by simp_all|z::l,y,hy=>by
  rw[List.takeWhile_cons]at hy;by_cases q:p z=true
  .rw[alq q]at hy;rcases Af.1 hy with rfl|hy;.exact q
   .exact QJ (l:=l) y hy
  grind
theorem xp2{l:List Ln}{x:Ln}(h:iR (l.map Ln.at))(hn:j5 l x.at=false):iR ((zt l x).map Ln.at):=by
 have aa:x.at∉l.map Ln.at:=λq=>by rw[gF.2 q]at hn;cases hn
 have hd:=W5 h aa;have ht:∀y∈l.takeWhile (λy:Ln=>wE y.at x.at),wE y.at x.at=true:=QJ;have hl:=Cr (p:=λy:Ln=>wE y.at x.at) (l:=l);unfold zt;rw[<-hl]at h;revert hd ht h;generalize l.takeWhile (λy:Ln=>wE y.at x.at)=t;generalize l.dropWhile (λy:Ln=>wE y.at x.at)=d;intro h hd ht;unfold iR at h⊢;rw[C2,Bw]at h;rw[C2,Ag,Bw,Ck];grind
theorem dd.iq{l:List Ln}(h:dd b l):b.at p=none↔j5 l p=false:=by
 constructor;.intro q;cases r:j5 l p with |false=>rfl|true=>obtain⟨x,hx,he⟩:=Ab.1 (gF.1 r);have:(p,xP x.v)∈b.W:=h.perm.mem_iff.2 (by grind);exact absurd rfl (MS q _ this)
 .intro q;cases r:b.at p with|none=>rfl|some w=>have hm:(p,w.2)∈b.W:=Bp (zq (W:=b.W) (i:=w.1) (v:=w.2) r);obtain⟨x,hx,he⟩:=Ab.1 (h.perm.mem_iff.1 hm);have:x.at=p:=(by grind);rw[gF.2 (by grind)]at q;cases q
theorem dd.ins{l:List Ln}(h:dd b l){x:Ln}(hx:gm x)(hn:j5 l x.at=false):dd (b.put x.at (xP x.v)) (zt l x):=by
 have hb:=h.iq.2 hn;refine⟨Mp.jy h.ok _ _,xp2 h.jA hn,?_,λy hy=>?_⟩
 .have e:(b.put x.at (xP x.v)).W=b.W++[(x.at,xP x.v)]:=by grind[Mp.put]
  rw[e];have h1:=((DW l x).map λx:Ln=>(x.at,xP x.v)).symm;refine List.Perm.trans ?_ h1;rw[Ag];exact(List.perm_append_singleton _ _).trans (h.perm.cons _)
 .rcases Af.1 ((DW l x).mem_iff.1 hy)with rfl|hy;.exact hx
  .exact h.rows y hy
theorem MY:∀(r:List bJ)(acc:List bK),(∀e∈r,jt e)->(∀v∈acc,v.ok)->(fa fj [] r acc).2=0->(fa fj [] r acc).1.length=acc.length+r.length/\∀v∈(fa fj [] r acc).1,v.ok
 |[],acc,_,ha,_=>⟨rfl,ha⟩|e::r,acc,he,ha,h=>by
  rw[fa]at h⊢;by_cases q:(gZ fj [] e).2=0
  .rw[alp (λh=>h q)]at h⊢;have hv:(gZ fj [] e).1.ok:=by have:=Wq (he e sM) (by rw[<-QC];exact q);rw[QC];exact(Wz this).1
   have ih:=MY r (acc++[(gZ fj [] e).1]) (λx hx=>he x (by simp[hx])) (λv aa=>by
    rcases Ai.1 aa with h|h;.exact ha v h
    .simp at h;subst h;exact hv) h;exact⟨by rw[ih.1];simp;omega,ih.2⟩
  .rw[alq q]at h;exact absurd h q
def eH:List V:=[.sl .full [],.int .i64 0]
def JV(a:Mp alW)(sn:Mp Int)(QK:Int)(M:List Ln×Int)(r:V)(s:St):Prop:=∃(b':Mp alW),s=dF a b' sn/\((M.2≠0/\r=.cC [.agg (Ot.row ⟨0,[]⟩),.int .i64 M.2])\/(M.2=0/\r=.cC [.agg (Ot.row ⟨QK,[]⟩),.int .i64 0]/\dd b' M.1))
theorem xY5{k d:alW}(h:b.at (r,k)=none):Ob.mp (gP V.str b.W++[.agg [.int .i64 r,.str k],.str d]) (b.bs++[b.dm]) (b.dm+1)=(b.put (r,k) d).ob V.str:=by unfold Mp.put Mp.ob;rw[h];show _=Ob.mp (gP V.str (b.W++[((r,k),d)])) _ _;rw[<-WK];rfl
theorem MZ(tn:Nat)(T:bL)(hT:bO[tn]?=some T)(row:List bK)(h:(fT tn T row).2.2=0):fC T.cw row=0/\(ga (fT tn T row).1).1=(tn:Int)/\(ga (fT tn T row).1).2.2=0:=by
 obtain⟨aa,_⟩:=A3.1 hT;have h3:tn<3:=aa;unfold fT at h⊢;by_cases h1:fC T.cw row≠0;.rw[alq h1]at h;exact absurd h h1
 .rw[alp h1]at h⊢;refine⟨Classical.not_not.1 h1,?_⟩;unfold HM;generalize row.getD 0 zeroV=x at h⊢;match tn,h3 with
  |0,_=>
   by_cases h2:x.n=0\/x.n=1
   .rw[alp (λq=>q.2 h2)];rcases h2 with h2|h2;.simp[xJ,ga,h2]
    .simp[xJ,ga,h2]
   .rw[alq ⟨rfl,h2⟩]at h;cases h|1,_=>simp[xJ,ga]|2,_=>simp[xJ,ga]
theorem xa1(tn:Nat)(T:bL)(hT:bO[tn]?=some T)(st:bZ)(a6:lq st)(a b:Mp alW)(sn:Mp Int)(l:List Ln)(av:dd b l):bN prog 174 [.ptr 3 0,.int .i64 tn,.agg st.row] (dF a b sn) (JV a sn st.rows.length (gX tn T st.rows l)):=by
 obtain⟨R,hR⟩:=eX st.rows;obtain⟨a7,aw⟩:=a6.rows;rw[hR]at a7 aw⊢;generalize hM:gX tn T R l=M;have bad:∀(b':Mp alW)(e:Int)(Il:St),M.2=e->e≠0->cz (some (.cC [.agg [.sl .full [],.int .i64 0],.int .i64 e])) 4 (JV a sn R.length M) (a.ob .str::b'.ob .str::sn.ob (V.int .i64)::.box [.sl .ro xN,.sl .ro (bO.map bL.row),.mp 0,.mp 1,.mp 2]::Il):=λb' e Il h1 h2=>yW 4 (s:=dF a b' sn) (r:=.cC [.agg (Ot.row ⟨0,[]⟩),.int .i64 e]) rfl rfl (wK 4 dC a b' sn) (A7 _) (yO ⟨wH ⟨zY,zF rfl,tV⟩,xD rfl,tV⟩) ⟨b',rfl,.inl ⟨by rw[h1];exact h2,by rw[h1]⟩⟩;have ao:∀(b':Mp alW)(n:Nat),6<=n->([a.ob .str,b'.ob .str,sn.ob (V.int .i64),.box [.sl .ro xN,.sl .ro (bO.map bL.row),.mp 0,.mp 1,.mp 2],.box st.row,.box eH]:St).all (bS n)=true:=λb' n hn=>by have h:=wK n om a b' sn;simp only[dF,gq,Az,De,Dg]at h⊢;rw[Aa,Aa,Aa]at h⊢;refine⟨h.1,h.2.1,h.2.2.1,?_⟩;rw[Aa];exact⟨h.2.2.2,by simp[bS,cV,cR,bZ.row,eH]⟩
 have ak:∀(b':Mp alW)(k:Nat),([a.ob .str,b'.ob .str,sn.ob (V.int .i64),.box [.sl .ro xN,.sl .ro (bO.map bL.row),.mp 0,.mp 1,.mp 2],.box st.row,.box eH,.app k 3]:St).all (bS 7)=true:=λb' k=>by have h:=ao b' 7 dC;simp only[Az,De,Dg]at h⊢;rw[show bS 7 (.app k 3)=true from rfl,Dg];exact h
 refine iV 4 func174 ntmps174 results174 λc hc hb=>?_;refine zA ?_;simp[go_sem,dF,gq,hR];refine zG (S:=Nat×Mp alW×List Ln) [0,1,5,6,22,23,24] (λu=>[.ptr 3 0,.int .i64 tn,.ptr 4 0,.ptr 5 0,.sl .ro (R.map λ(l:List bJ)=>[V.sl .ro (l.map bJ.row)]),.int .i64 R.length,.int .i64 u.1]) (λu=>[a.ob .str,u.2.1.ob .str,sn.ob (V.int .i64),.box [.sl .ro xN,.sl .ro (bO.map bL.row),.mp 0,.mp 1,.mp 2],.box st.row,.box eH]) (λu=>R.length-u.1) (λu=>u.1<=R.length/\dd u.2.1 u.2.2/\gX tn T (R.drop u.1) u.2.2=M) hc hb (0,b,l) ⟨A5 _,av,hM⟩ ?_ ?_;.exact bU 6 (by simp[go_sem,hR,eH]) rfl (ao b 6 dC) dC (zD sg rfl)
 rintro⟨i,b1,l1⟩⟨hi,af,aa⟩;simp only at hi af aa;by_cases q:i<R.length;rotate_left;.rw[A8 om,gX]at aa;subst aa;refine zA ?_;simp[go_sem,q,hR,eH];exact yW 4 (s:=dF a b1 sn) (r:=.cC [.agg (Ot.row ⟨R.length,[]⟩),.int .i64 0]) rfl rfl (wK 4 dC a b1 sn) (A7 _) (yO ⟨wH ⟨zY,zF rfl,tV⟩,xD rfl,tV⟩) ⟨b1,rfl,.inr ⟨rfl,rfl,af⟩⟩
 have ei:=zO q om;obtain⟨x,hx⟩:=eX (R[i]);obtain⟨aG,ax⟩:=aw x (hx▸A9 q);have ay:=MY x [] ax (λv hv=>by cases hv);rw[A4 q,hx,gX]at aa;obtain⟨E,hE⟩:=eX (fa fj [] x []);rw[hE]at aa ay;refine zA ?_;simp[go_sem,q,hx];refine wQ 10 3 dC sg ?_;refine zG (S:=Nat×List bK) [0,1,5,6,10,22,23,24,28,29,30] (λu=>[.ptr 3 0,.int .i64 tn,.ptr 4 0,.ptr 5 0,.sl (.app 6) (u.2.map bK.row),.sl .ro (R.map λ(l:List bJ)=>[V.sl .ro (l.map bJ.row)]),.int .i64 R.length,.int .i64 i,.sl .ro (x.map bJ.row),.int .i64 x.length,.int .i64 u.1]) (λu=>[a.ob .str,b1.ob .str,sn.ob (V.int .i64),.box [.sl .ro xN,.sl .ro (bO.map bL.row),.mp 0,.mp 1,.mp 2],.box st.row,.box eH,.app u.2.length 3]) (λu=>x.length-u.1) (λu=>u.1<=x.length/\u.2.length<=u.1/\fa fj [] (x.drop u.1) u.2=E) hc hb (0,[]) ⟨A5 _,A7 _,hE⟩ ?_ ?_;.exact bU 7 (by simp[go_sem,eH]) rfl (ak b1 _) dC (zD sg rfl)
 rintro⟨j,acc⟩⟨hj,a8,ab⟩;simp only at hj a8 ab;by_cases qj:j<x.length
 .have ej:=zO qj om;obtain⟨e,he⟩:=eX (x[j]);have aA:=ax e (he▸A9 qj);rw[A4 qj,he,fa,QC]at ab;have ah:=Qy e aA;obtain⟨kv,aB⟩:=eX (k7 e);rw[aB]at ab ah;refine zA ?_;simp[go_sem,qj,he];refine zL ah cB ⟨xM ⟨zF rfl,zY,zF rfl,zF rfl,zF rfl,zY,zY,zY,zF rfl,zF rfl,zF rfl,tV⟩,zK,zR sg (by rw[bJ.bQ];rfl)⟩ rfl ?_;simp[go_sem,fR];by_cases q2:kv.2=0;rotate_left;.have aq:(kv.2!=0)=true:=sU q2;rw[alq q2]at ab;subst ab;simp only at aa;rw[alq q2]at aa;simp[go_sem,aq,eH];exact bad b1 kv.2 _ (by rw[<-aa]) q2
  have aq:(kv.2!=0)=false:=sU q2;rw[alp (λh=>h q2)]at ab;simp[go_sem,aq];refine zJ ⟨om,zZ rfl⟩ ?_;simp[go_sem,ej];exact zH (j+1,acc++[kv.1]) ⟨by show x.length-(j+1)<x.length-j;omega,⟨qj,by show(acc++[kv.1]).length<=j+1;simp;omega,ab⟩,bU 7 (by simp[go_sem,eH]) rfl (ak b1 _) dC (zD sg rfl)⟩
 rw[A8 om,fa]at ab;subst ab;obtain⟨_,aj⟩:=ay rfl;simp only at aa aj;rw[alp (λh=>h rfl)]at aa;have al:=WX tn T hT acc (by unfold maxLen;omega) aj;have ai:=MZ tn T hT acc;obtain⟨⟨kr,kk,ke⟩,aC⟩:∃ks,fT tn T acc=ks:=⟨_,rfl⟩;rw[aC]at aa al ai;simp only at aa ai;refine zA ?_;simp[go_sem,qj];refine pC al ?_;simp[go_sem,vh];by_cases k0:ke=0;rotate_left;.have ar:(ke !=0)=true:=sU k0;rw[alq k0]at aa;simp[go_sem,ar,eH];exact bad b1 ke _ (by rw[<-aa]) k0
 have ar:(ke !=0)=false:=sU k0;rw[alp (λh=>h k0)]at aa;obtain⟨an,aD,aE⟩:=ai k0;have aF:=HN ((by decide:∀T∈bO,T.cw.length<=20) T (Bp hT)) aj an;have au:=U0 acc aF;have eB:b1.ob .str=.mp (gP .str b1.W) b1.bs b1.dm:=rfl;simp[go_sem,ar];cases ae:b1.at (kr,kk)with
 |some w=>
  have hA:j5 l1 (kr,kk)=true:=by cases r:j5 l1 (kr,kk)with |true=>rfl|false=>rw[af.iq.2 r]at ae;cases ae
  rw[alq hA]at aa;have ad:ep (kr,kk) b1.W=some w:=ae;refine yA [] 8 sM kR kR ?_;simp[go_sem,eB,qh,ad,lZ,mC,eH];rw[<-eB];exact bad b1 18 _ (by rw[<-aa]) dC|none=>have hA:=af.iq.1 ae;rw[alp (by rw[hA];decide)]at aa;have ad:ep (kr,kk) b1.W=none:=ae;have az:=xY5 (d:=xP acc) ae;have a1:=af.ins (x:=⟨kr,kk,acc⟩) ⟨⟨tn,T,aD,hT,an⟩,aE,aj⟩ hA;refine yA [] 8 sM kR kR ?_;simp[go_sem,eB,qh,ad,lZ,mC];refine zA ?_;refine yA [(6,0)] 8 sM kR kR ?_;simp[go_sem];refine pD au ?_;simp[go_sem,qh,ad,lZ,mC,az,ei];exact zH (i+1,b1.put (kr,kk) (xP acc),zt l1 ⟨kr,kk,acc⟩) ⟨by show R.length-(i+1)<R.length-i;omega,⟨q,a1,aa⟩,bU 6 (by simp[go_sem,eH]) rfl (ao _ 6 dC) dC (zD sg rfl)⟩
theorem W6(l:List bK)(hl:l.length<=10000)(hz:l≠[]):bN prog 120 [.sl .ro (l.map bK.row)] [] (λr s=>r=.cS 0 3 l.length 0 l.length/\s=[.cv (l.map bK.row) 3]):=by
 refine iV 0 func120 ntmps120 results120 λc hc hb=>?_;refine tg 7 dC ?_;refine zA ?_;have hp:0<l.length:=by cases l with |nil=>exact absurd rfl hz|cons a l=>simp
 have hu:eU 3 (l.map bK.row):=by intro r hr;obtain⟨v,_,rfl⟩:=Ab.1 hr;rfl
 simp[go_sem,hp];refine zJ ⟨om,by simp[eU],hu⟩ ?_;simp[go_sem];exact Hc sM ⟨rfl,rfl⟩
theorem M0(T:bL)(hT:T.cw.length<=maxLen)(row:List bK)(hv:∀v∈row,v.ok)(e:bJ)(he:jt e):Pure prog 252 [.agg T.row,.sl .ro (row.map bK.row),.agg e.row] (fR (gZ T row e)):=by
 have ao:=MC T hT e he;have cZ:=@Wy T row;generalize hM:gZ T row e=M;unfold gZ at hM;have ret:∀(v:bK)(e:Int)(I:St),(v,e)=M->cz (some (.cC [.agg v.row,.int .i64 e])) 0 (λr s=>r=fR M/\s=[]) I:=λv e I h=>zo h;refine iV 0 func252 ntmps252 results252 λc hc hb=>?_;refine zA ?_;simp[go_sem];refine zL ao cB (zR sg (by rw[bJ.bQ];rfl)) rfl ?_;simp[go_sem,wO];by_cases q:(jf T e).2=0;rotate_left;.have q':((jf T e).2!=0)=true:=sU q;rw[alq q]at hM;simp[go_sem,q'];exact ret zeroV _ _ hM
 have q':((jf T e).2!=0)=false:=sU q;have n1:¬(jf T e).2≠0:=λh=>h q;rw[alp n1]at hM;by_cases hlen:row.length=T.cw.length;rotate_left
 .have h1:((row.length:Int)!=T.cw.length)=true:=by simp;omega
  rw[alq (by unfold F1;rw[alr hlen,Di])]at hM;simp[go_sem,q',h1];exact ret zeroV 9 _ hM
 have h1:((row.length:Int)!=T.cw.length)=false:=by simp;omega
 obtain⟨mr,aj⟩:=eX (F1 T.cw row);have aa:=aj;unfold F1 at aa;rw[als hlen,Ba]at aa;rw[aj]at hM cZ;simp[go_sem,q',h1];refine zG (S:=Nat×bK) [1,3,5,6,29,30,31] (λu=>[.sl .ro (row.map bK.row),.ptr 0 0,.ptr 1 0,.ptr 2 0,.sl .ro (row.map bK.row),.int .i64 row.length,.int .i64 u.1]) (λu=>[.box T.row,.box e.row,.box u.2.row]) (λu=>row.length-u.1) (λu=>u.1<=row.length/\(((row.zip T.cw).drop u.1).all λp=>JQ p.1 p.2)=mr) hc hb (0,zeroV) ⟨A5 _,aa⟩ ?_ ?_;.exact bU 3 (by simp[go_sem,zeroV]) rfl (by simp[bS,cV,cR,bJ.bQ,bL.row,bK.row]) (A5 _) (zD sg rfl)
 rintro⟨i,v0⟩⟨hi,hinv⟩;simp only at hi hinv;by_cases p:i<row.length;rotate_left
 .rw[A8 (by rw[List.length_zip];omega)]at hinv;have hm:mr:=hinv.symm;rw[alp (by rw[hm];decide)]at hM;have ak:=cZ hm hv;have ab:Pure prog 325 [.agg T.row,.sl .ro (row.map bK.row),.agg e.row] (fR (oI T row e)):=by
   unfold jf at q;by_cases d:iC e<=64/\jN e<=4096;.rw[alq d]at q;exact Qx ak hT 64 e d.1 he.wide he.eD q
   .rw[alp d]at q;cases q
  rw[hM]at ab;refine zA ?_;simp[go_sem,p];refine zL ab cB ⟨zC rfl,zK,zk e,tV⟩ rfl ?_;simp[go_sem,fR];exact zo rfl
 have qc:i<T.cw.length:=om;have ei:=zO p (by unfold maxLen at hT;omega);obtain⟨v,al⟩:=eX (row[i]);obtain⟨C,hC⟩:=eX (T.cw[i]);have qz:i<(row.zip T.cw).length:=by rw[List.length_zip];omega
 rw[JD _ _ _ qz,List.getElem_zip,al,hC]at hinv;obtain⟨tl,af⟩:∃tl,(((row.zip T.cw).drop (i+1)).all λp=>JQ p.1 p.2)=tl:=⟨_,rfl⟩;rw[af]at hinv;unfold JQ at hinv;have an:=Hw v;simp only at hinv;generalize e9 v=mv at an hinv;refine zA ?_;simp[go_sem,p,al];refine yA [(1,0)] 4 sM kR kR ?_;simp[go_sem];refine pD an ?_;refine(A6 mv).elim (λp2=>?_) (λp2=>?_);rotate_left
 .have hm:mr=false:=by rw[<-hinv,p2];simp
  rw[alq hm]at hM;simp[go_sem,p2];exact ret zeroV 9 _ hM
 rw[p2,Ba]at hinv;simp[go_sem,p2];by_cases k1:v.kind=C.kind;.have ah:(v.kind !=C.kind)=false:=sU k1;have ad:(v.kind==C.kind)=true:=sU k1;rw[ad,alV,Ba]at hinv;simp[go_sem,ah,qc,hC,ei];exact zH (i+1,v0) ⟨by show row.length-(i+1)<row.length-i;omega,⟨p,af.trans hinv⟩,bU 3 (by simp[go_sem,bJ.bQ]) rfl (by simp[bS,cV,cR,bJ.bQ]) dC (zD sg rfl)⟩
 have ah:(v.kind !=C.kind)=true:=sU k1;have ad:(v.kind==C.kind)=false:=sU k1;rw[ad,Bool.or_false]at hinv;simp[go_sem,ah,qc,hC];by_cases k0:v.kind=0;.have ai:(v.kind !=0)=false:=sU k0;have ae:(v.kind==0)=true:=sU k0;rw[ae,Ba]at hinv;simp[go_sem,ai,ei];exact zH (i+1,v0) ⟨by show row.length-(i+1)<row.length-i;omega,⟨p,af.trans hinv⟩,bU 3 (by simp[go_sem,bJ.bQ]) rfl (by simp[bS,cV,cR,bJ.bQ]) dC (zD sg rfl)⟩
 have ai:(v.kind !=0)=true:=sU k0;have ae:(v.kind==0)=false:=sU k0;rw[ae,Di]at hinv;rw[alq hinv.symm]at hM;simp[go_sem,ai];exact ret zeroV 9 _ hM
theorem W7{T:bL}{row:List bK}(hv:∀v∈row,v.ok){e:bJ}(he:jt e)(h:(gZ T row e).2=0):VK (gZ T row e).1 (jf T e).1:=by
 unfold gZ at h⊢;by_cases q:(jf T e).2=0;rotate_left;.rw[alq q]at h;exact absurd h q
 have n1:¬(jf T e).2≠0:=λh=>h q;rw[alp n1]at h⊢;cases hm:F1 T.cw row with |false=>rw[hm]at h;simp at h|true=>
  rw[hm]at h;simp only[Bool.true_eq_false,alH]at h⊢;unfold jf at q⊢;by_cases d:iC e<=64/\jN e<=4096;.rw[alq d]at q⊢;exact MO (Wy hm hv) 64 e d.1 he.eD q h
  .rw[alp d]at q;cases q
theorem wp1(T:bL)(e:bJ)(x:Ln)(l:List Ln)(acc:bK):kT T e (x::l) acc=if(gZ T x.v e).2≠0then(zeroV,(gZ T x.v e).2)else if(gZ T x.v e).1.kind=0then kT T e l acc else if(fQ (acc.n+(gZ T x.v e).1.n)).2≠0then(zeroV,(fQ (acc.n+(gZ T x.v e).1.n)).2)else kT T e l ⟨2,(fQ (acc.n+(gZ T x.v e).1.n)).1,[]⟩:=rfl
theorem wp7(T:bL)(hT:T.cw.length<=maxLen)(e:bJ)(he:jt e)(l:List Ln)(hl:l.length<=10000)(cZ:∀x∈l,∀v∈x.v,v.ok):bN prog 332 [.agg T.row,.agg e.row,.cS 0 3 l.length 0 l.length] [.cv (l.map Ln.row) 3] (λr s=>r=fR (kT T e l zeroV)/\s=[.cv (l.map Ln.row) 3]):=by
 generalize hM:kT T e l zeroV=M;have ret:∀(v:bK)(er:Int)(I:St),(v,er)=M->I.take 1=[.cv (l.map Ln.row) 3]->cz (some (.cC [.agg v.row,.int .i64 er])) 1 (λr s=>r=fR M/\s=[.cv (l.map Ln.row) 3]) I:=by rintro v er I rfl h;exact yW 1 h rfl (by simp[bS,cV,cR,Ln.row]) (A7 _) (zC rfl) ⟨rfl,rfl⟩
 refine iV 1 func332 ntmps332 results332 λc hc hb=>?_;refine zA ?_;simp[go_sem];refine zG (S:=Nat×bK) [3,4,6,7,8,13,14,15] (λu=>[.ptr 1 0,.ptr 2 0,.ptr 3 0,.int .i64 0,.ptr 4 0,.cS 0 3 l.length 0 l.length,.int .i64 l.length,.int .i64 u.1]) (λu=>[.cv (l.map Ln.row) 3,.box T.row,.box e.row,.box zeroV.row,.box u.2.row]) (λu=>l.length-u.1) (λu=>u.1<=l.length/\gO u.2.n/\u.2.s=[]/\kT T e (l.drop u.1) u.2=M) hc hb (0,zeroV) ⟨A5 _,dC,rfl,hM⟩ ?_ ?_;.exact bU 5 (by simp[go_sem,zeroV,bJ.bQ]) rfl (by simp[bS,cV,cR,bJ.bQ,bL.row,bK.row,Ln.row]) dC (zD sg rfl)
 rintro⟨i,acc⟩⟨hi,ha,has,hinv⟩;simp only at hi ha has hinv;by_cases q:i<l.length;rotate_left;.rw[A8 om]at hinv;refine zA ?_;simp[go_sem,q];exact ret acc 0 _ hinv rfl
 have ei:=zO q om;obtain⟨x,hx⟩:=eX (l[i]);have aj:x∈l:=hx▸A9 q;rw[A4 q,hx,wp1]at hinv;have aa:=M0 T hT x.v (cZ x aj) e he;have ad:=W7 (cZ x aj) (T:=T) he;obtain⟨⟨v,er⟩,hv⟩:∃kv,gZ T x.v e=kv:=⟨_,rfl⟩;rw[hv]at hinv aa ad;simp only at hinv ad;refine zA ?_;simp[go_sem,q,hx];refine zL aa cB ⟨zC rfl,zK,zk e,tV⟩ rfl ?_;simp[go_sem,fR];by_cases q2:er=0;rotate_left;.have ae:(er !=0)=true:=sU q2;rw[alq q2]at hinv;simp[go_sem,ae];exact ret zeroV er _ hinv rfl
 have ae:(er !=0)=false:=sU q2;rw[alp (λh=>h q2)]at hinv;have ak:=ad q2;simp[go_sem,ae];by_cases k0:v.kind=0;.have af:(v.kind==0)=true:=sU k0;rw[alq k0]at hinv;simp[go_sem,af,ei];exact zH (i+1,acc) ⟨by show l.length-(i+1)<l.length-i;omega,⟨q,ha,has,hinv⟩,bU 5 (by simp[go_sem,zeroV,bJ.bQ]) rfl (by simp[bS,cV,cR,bJ.bQ,Ln.row]) dC (zD sg rfl)⟩
 have af:(v.kind==0)=false:=sU k0;rw[alp k0]at hinv;have ab:=Qs acc.n v.n ha ak.n;have ah:=Qv (acc.n+v.n);obtain⟨⟨sn,se⟩,hs⟩:∃s,fQ (acc.n+v.n)=s:=⟨_,rfl⟩;rw[hs]at hinv ab ah;simp only at hinv ah;simp[go_sem,af];refine pC ab ?_;simp[go_sem,wO];by_cases q3:se=0;rotate_left;.have ai:(se !=0)=true:=sU q3;rw[alq q3]at hinv;simp[go_sem,ai];exact ret zeroV se _ hinv rfl
 have ai:(se !=0)=false:=sU q3;rw[alp (λh=>h q3)]at hinv;simp[go_sem,ai,ei];exact zH (i+1,⟨2,sn,[]⟩) ⟨by show l.length-(i+1)<l.length-i;omega,⟨q,ah,rfl,hinv⟩,bU 5 (by simp[go_sem,zeroV,bJ.bQ,has]) rfl (by simp[bS,cV,cR,bJ.bQ,Ln.row]) dC (zD sg rfl)⟩
def sD(r:List bK×Int):V:=if r.2=0then .cC [.agg (Ot.row ⟨0,[r.1]⟩),.int .i64 0]else .cC [.agg (Ot.row ⟨0,[]⟩),.int .i64 r.2]
theorem wF8(T:bL)(hT:T.cw.length<=maxLen)(st:bZ)(af:lq st)(l:List Ln)(hl:l.length<=10000)(cZ:∀x∈l,∀v∈x.v,v.ok):bN prog 258 [.agg T.row,.agg st.row,.cS 0 3 l.length 0 l.length] [.cv (l.map Ln.row) 3] (λr s=>r=sD (sx T l st.items [])/\s=[.cv (l.map Ln.row) 3]):=by
 generalize hM:sx T l st.items []=M;obtain⟨R,hR⟩:=eX st.items;obtain⟨ah,ae⟩:=af.items;rw[hR]at ah ae hM;have bad:∀(er:Int)(I:St),([],er)=M->er≠0->I.take 1=[.cv (l.map Ln.row) 3]->cz (some (.cC [.agg [.sl .full [],.int .i64 0],.int .i64 er])) 1 (λr s=>r=sD M/\s=[.cv (l.map Ln.row) 3]) I:=by rintro er I rfl h0 h;refine yW 1 (r:=.cC [.agg (Ot.row ⟨0,[]⟩),.int .i64 er]) h rfl (by simp[bS,cV,cR,Ln.row]) (A7 _) (yO ⟨wH ⟨zY,zF rfl,tV⟩,xD rfl,tV⟩) ⟨?_,rfl⟩;unfold sD;rw[alp h0]
 have eD:∀(acc:List bK)(I:St),(acc,0)=M->I.take 1=[.cv (l.map Ln.row) 3]->cz (some (.cC [.agg [.sl .full [[.sl .ro (acc.map bK.row)]],.int .i64 0],.int .i64 0])) 1 (λr s=>r=sD M/\s=[.cv (l.map Ln.row) 3]) I:=by rintro acc I rfl h;exact yW 1 (r:=.cC [.agg (Ot.row ⟨0,[acc]⟩),.int .i64 0]) h rfl (by simp[bS,cV,cR,Ln.row]) (A7 _) (yO ⟨wH ⟨zY,zF rfl,tV⟩,xD rfl,tV⟩) ⟨rfl,rfl⟩
 refine iV 1 func258 ntmps258 results258 λc hc hb=>?_;refine zA ?_;simp[go_sem,hR];refine wQ 8 3 dC sg ?_;refine zG (S:=Nat×List bK) [2,3,4,6,7,8,15,16,17] (λu=>[.cS 0 3 l.length 0 l.length,.ptr 1 0,.ptr 2 0,.ptr 3 0,.int .i64 0,.sl (.app 4) (u.2.map bK.row),.sl .ro (R.map de.row),.int .i64 R.length,.int .i64 u.1]) (λu=>[.cv (l.map Ln.row) 3,.box T.row,.box st.row,.box [.sl .full [],.int .i64 0],.app u.2.length 3]) (λu=>R.length-u.1) (λu=>u.1<=R.length/\u.2.length<=u.1/\sx T l (R.drop u.1) u.2=M) hc hb (0,[]) ⟨A5 _,A7 _,hM⟩ ?_ ?_;.exact bU 5 (by simp[go_sem,hR]) rfl (by simp[bS,cV,cR,bL.row,bZ.row,Ln.row]) dC (zD sg rfl)
 rintro⟨i,acc⟩⟨hi,ha,hinv⟩;simp only at hi ha hinv;by_cases q:i<R.length;rotate_left;.rw[A8 om]at hinv;refine zA ?_;simp[go_sem,q];exact eD acc _ hinv rfl
 have ei:=zO q om;obtain⟨x,hx⟩:=eX (R[i]);have ai:=(ae x (hx▸A9 q)).2;rw[A4 q,hx,sx]at hinv;refine zA ?_;simp[go_sem,q,hx];by_cases k4:x.kind=4;rotate_left;.have ab:(x.kind==4)=false:=sU k4;rw[alp k4]at hinv;simp[go_sem,ab];refine zJ ⟨om,zZ rfl⟩ ?_;simp[go_sem,ei];exact zH (i+1,acc++[⟨2,l.length,[]⟩]) ⟨by show R.length-(i+1)<R.length-i;omega,⟨q,by show(acc++[_]).length<=i+1;simp;omega,hinv⟩,aN 5 (by simp[bS,cV,cR,Ln.row])⟩
 have ab:(x.kind==4)=true:=sU k4;rw[alq k4]at hinv;simp[go_sem,ab];have aa:=wp7 T hT x.e ai l hl cZ;obtain⟨⟨v,er⟩,hv⟩:∃kv,kT T x.e l zeroV=kv:=⟨_,rfl⟩;rw[hv]at hinv aa;simp only at hinv;refine mY 0 aa cB rfl (by simp[bS,cV,cR,Ln.row]) ⟨zC rfl,zk x.e,.inl rfl,tV⟩ (by rintro r s ⟨rfl,rfl⟩;exact⟨_,rfl,by simp[bS,cV,cR,Ln.row]⟩) ?_;rintro r o ⟨rfl,ho⟩;cases ho;simp[go_sem,fR];by_cases q2:er=0;rotate_left;.have ad:(er !=0)=true:=sU q2;rw[alq q2]at hinv;simp[go_sem,ad];exact bad er _ hinv q2 rfl
 have ad:(er !=0)=false:=sU q2;rw[alp (λh=>h q2)]at hinv;simp[go_sem,ad];refine zJ ⟨om,zZ rfl⟩ ?_;simp[go_sem,ei];exact zH (i+1,acc++[v]) ⟨by show R.length-(i+1)<R.length-i;omega,⟨q,by show(acc++[_]).length<=i+1;simp;omega,hinv⟩,aN 5 (by simp[bS,cV,cR,Ln.row])⟩
theorem xp0(y:de):Pure prog 331 [.agg y.row] (.bool (y.kind==3||y.kind==4)):=by
 refine iV 0 func331 ntmps331 results331 λc hc hb=>?_;refine zA ?_;by_cases k:y.kind=3;.have k':(y.kind==3)=true:=sU k;simp[go_sem,k'];exact wR
 .have k':(y.kind==3)=false:=sU k;simp[go_sem,k'];exact wR
theorem wy2(l:List de)(hl:l.length<=12):Pure prog 391 [.sl .ro (l.map de.row),.fn 331 []] (.int .i64 (wB (λy=>y.kind==3||y.kind==4) l 0)):=by
 generalize hM:wB (λy:de=>y.kind==3||y.kind==4) l 0=M;have ret:∀(r:Int)(I:St),r=M->cz (some (.int .i64 r)) 0 (λr s=>r=.int .i64 M/\s=[]) I:=λr I h=>by subst h;exact wR
 refine iV 0 func391 ntmps391 results391 λc hc hb=>?_;refine zA ?_;simp[go_sem];refine zG (S:=Nat) [0,1,6,7,8] (λi=>[.sl .ro (l.map de.row),.fn 331 [],.sl .ro (l.map de.row),.int .i64 l.length,.int .i64 (i:Int)]) (λ_=>[]) (λi=>l.length-i) (λi=>i<=l.length/\wB (λy=>y.kind==3||y.kind==4) (l.drop i) i=M) hc hb 0 ⟨A5 _,hM⟩ ?_ ?_;.exact aN 0 sM
 rintro i ⟨hi,hinv⟩;by_cases q:i<l.length;rotate_left;.rw[A8 om]at hinv;refine zA ?_;simp[go_sem,q];exact ret _ _ hinv
 have ei:=zO q om;obtain⟨y,hy⟩:=eX (l[i]);rw[A4 q,hy,wB]at hinv;have aa:=xp0 y;generalize(y.kind==3||y.kind==4)=b at aa hinv;refine zA ?_;simp[go_sem,q,hy];refine pC aa ?_;refine(A6 b).elim (λp=>?_) (λp=>?_);.rw[alq p]at hinv;simp[go_sem,p];exact ret _ _ hinv
 .rw[alp (by rw[p];decide)]at hinv;simp[go_sem,p,ei];exact zH (i+1) ⟨om,⟨om,hinv⟩,aN 0 sM⟩
theorem wx4(l:List de)(hl:l.length<=12):Pure prog 330 [.sl .ro (l.map de.row),.fn 331 []] (.bool (DU l)):=by have h:=wy2 l hl;have hg:=FX (λy:de=>y.kind==3||y.kind==4) l 0;unfold DU;rw[<-hg];generalize wB (λy:de=>y.kind==3||y.kind==4) l 0=n at h⊢;refine iW 0 func330 ntmps330 results330 λc hc hb=>zM ?_;simp[go_sem];refine pC h ?_;simp[go_sem];exact wR
theorem wr5(st:bZ)(aa:lq st):Pure prog 257 [.agg st.row] (.bool (DU st.items)):=by have h:=wx4 st.items aa.items.1;generalize DU st.items=b at h⊢;refine iW 0 func257 ntmps257 results257 λc hc hb=>zM ?_;simp[go_sem];refine pC h ?_;simp[go_sem];exact wR
theorem W8:∀{W:List (Pl×U)},(∀e∈W,e.1≠p)->W.filter (λe=>!decide (e.1=p))=W:=λ{W}h=>D6.2 λe he=>by simp[h e he]
theorem W9{U:Type}{p:Pl}{v:U}:∀{W:List (Pl×U)}{i:Nat},(W.map (·.1)).Nodup->W[i]?=some (p,v)->W.eraseIdx i=W.filter (λe=>!decide (e.1=p))
 |[],i,_,h=>by simp at h|e::W,0,hn,h=>by simp only[List.getElem?_cons_zero,alu]at h;subst h;rw[Ag,C6]at hn;rw[List.eraseIdx_cons_zero,Da,alp sM];exact(W8 λe he q=>hn.1 (Ab.2 ⟨e,he,q⟩)).symm|e::W,i+1,hn,h=>by rw[E0]at h;rw[Ag,C6]at hn;have aa:e.1≠p:=λq=>hn.1 (Ab.2 ⟨(p,v),Bp h,q.symm⟩);rw[List.eraseIdx_cons_succ,Da,alq (by simp[aa]),W9 hn.2 h]
theorem wE4(hn:(b.W.map (·.1)).Nodup)(p:Pl):(b.del p).W=b.W.filter (λe=>!decide (e.1=p)):=by unfold Mp.del;cases h:b.at p with |none=>exact(W8 (MS h)).symm|some q=>exact W9 hn (zq (i:=q.1) (v:=q.2) h)
theorem Xa{U:Type}{p:Pl}{u v:U}:∀{W:List (Pl×U)}{i:Nat},(W.map (·.1)).Nodup->W[i]?=some (p,u)->W.set i (p,v)=W.map (λe=>if e.1=p then(p,v)else e)
 |[],i,_,h=>by simp at h|e::W,0,hn,h=>by simp only[List.getElem?_cons_zero,alu]at h;subst h;rw[Ag,C6]at hn;rw[Cj,Ag,alq rfl];congr 1;refine(List.map_id _).symm.trans (Bb λe he=>?_);rw[alp λq=>hn.1 (Ab.2 ⟨e,he,q⟩)];rfl|e::W,i+1,hn,h=>by rw[E0]at h;rw[Ag,C6]at hn;have aa:e.1≠p:=λq=>hn.1 (Ab.2 ⟨(p,u),Bp h,q.symm⟩);rw[C4,Ag,alp aa,Xa hn.2 h]
theorem dd.keys{l:List Ln}(h:dd b l):(b.W.map (·.1)).Nodup:=by have h1:=h.perm.map (·.1);rw[B8]at h1;exact h1.nodup_iff.2 h.jA.nodup
theorem dd.del{l:List Ln}(h:dd b l)(p:Pl):dd (b.del p) (l.filter λy=>!decide (y.at=p)):=by
 refine⟨Mp.F2 h.ok _,?_,?_,λy hy=>h.rows y (Bn.1 hy).1⟩;.exact List.Pairwise.sublist ((C8).map _) h.jA
 .rw[wE4 h.keys];have h1:=h.perm.filter (λe=>!decide (e.1=p));rw[List.filter_map]at h1;exact h1
theorem dd.JW{l:List Ln}(h:dd b l)(p:Pl)(row:List bK)(hp:j5 l p)(aa:gm ⟨p.1,p.2,row⟩):dd (b.put p (xP row)) (jS l p row):=by
 have ab:(jS l p row).map Ln.at=l.map Ln.at:=by
  unfold jS;rw[B8];refine Bb λy _=>?_;by_cases q:y.at=p;.simp only[Function.comp,alq q];rfl
  .simp only[Function.comp,alp q]
 refine⟨Mp.jy h.ok _ _,?_,?_,λy hy=>?_⟩;.rw[ab];exact h.jA
 .have e:(b.put p (xP row)).W=b.W.map (λe=>if e.1=p then(p,xP row)else e):=by unfold Mp.put;cases r:b.at p with|none=>rw[h.iq.1 r]at hp;cases hp|some q=>exact Xa h.keys (zq (i:=q.1) (v:=q.2) r)
  rw[e];have h1:=h.perm.map (λe=>if e.1=p then(p,xP row)else e);rw[B8]at h1;refine h1.trans (alO ?_);unfold jS;rw[B8];refine Bb λy _=>?_;by_cases q:y.at=p;.simp only[Function.comp,alq q];show _=((y.r,y.k),xP row);rw[<-q];rfl
  .simp only[Function.comp,alp q]
 .unfold jS at hy;obtain⟨z,hz,rfl⟩:=Ab.1 hy;by_cases q:z.at=p;.rw[alq q];subst q;exact aa
  .rw[alp q];exact h.rows z hz
theorem VK.okV{v:bK}{k:Int}(h:VK v k):v.ok:=by have hm:=h.may;have hn:=h.n;rcases QB hm with⟨h1,_,h3⟩|⟨h1,_,h3⟩|⟨h1,h3⟩|⟨h1,_,h3⟩;all_goals refine⟨by rw[h1];decide,hn,?_⟩;first|(rw[h3];decide)|(unfold maxLen;omega)
theorem M1{T:bL}{pt:List bK}(ho:∀v∈pt,v.ok):∀{cJ:List cy}{row:List bK},(∀x∈cJ,jt x.e)->(∀v∈row,v.ok)->(gQ T pt cJ row).2=0->(gQ T pt cJ row).1.length=row.length/\∀v∈(gQ T pt cJ row).1,v.ok
 |[],row,_,hr,_=>(by trivial)|x::l,row,hs,hr,h=>by
  rw[gQ]at h⊢;by_cases q:(gZ T pt x.e).2=0;.rw[alp om]at h⊢;have hv:=(W7 ho (by grind) q).okV;have h2:=M1 ho (cJ:=l) (row:=row.set (dg T x.name).toNat (gZ T pt x.e).1) (by grind) (by grind) h;grind
  grind
theorem Xb{T:bL}{st:bZ}:∀{l acc:List Ln},∀x∈(vo T st acc l).1,x∈acc\/x∈l
 |[],_,_,h=>.inl h|y::l,acc,x,h=>by
  rw[vo]at h;by_cases q:(gZ T y.v st.cH).2=0;.rw[alp om]at h;rcases Xb (l:=l) x h with h|h;all_goals grind
  grind
theorem M4{t:Int}{T:bL}{l:List Ln}:∀x∈(gE t T st l).1,x∈l/\(qm t st x)=true:=λx h=>by
 unfold gE at h;have hf:x∈l.filter (qm t st):=by
  by_cases q:st.ef=true;.rw[alq q]at h;rcases Xb x h with h|h;all_goals grind
  grind
 grind
theorem wm7(l:List Ln)(p:Pl)(row:List bK):(jS l p row).map Ln.at=l.map Ln.at:=by
 unfold jS;rw[B8];refine Bb λy _=>?_;by_cases q:y.at=p;.simp only[Function.comp,alq q];rfl
 grind
theorem Xc(l:List Ln)(p q:Pl)(row:List bK):j5 (jS l p row) q=j5 l q:=by rw[Df,gF,gF,wm7]
def lD(p q:Pl):Int:=ve [gN p.1 q.1,jx p.2 q.2]
theorem QL(p q:Pl):decide (lD p q<0)=wE p q:=by
 obtain⟨a,s⟩:=p;obtain⟨b,t⟩:=q;simp only[lD,ve,gN,jx,wE];by_cases h1:a<b;.simp[h1]
 .by_cases h2:a>b;.have h3:¬a=b:=om;simp[h1,h2,h3]
  .have h3:a=b:=om;subst h3;by_cases h4:Op.bytesLess s t=true;.simp[h4]
   .have aa:Op.bytesLess s t=false:=sU h4;by_cases h5:Op.bytesLess t s=true;.simp[aa,h5]
    .simp[aa,h5]
theorem Xd:Go.Sort.SWO λa b=>decide (lD a b<0):=by have e:(λa b=>decide (lD a b<0))=wE:=funext λa=>funext λb=>QL a b;rw[e];refine⟨MX,λx y z h g=>JS h g,λx y z h g=>?_⟩;cases q:wE x z with |false=>rfl|true=>
  rcases JT x y with r|r|r;.rw[r]at h;cases h
  .subst r;rw[q]at g;cases g
  .have:=JS r q;rw[this]at g;cases g
theorem wn5{X:Type}{kx:X->Pl}{l:List X}(h:l.Pairwise λa b=>¬lD (kx b) (kx a)<0)(hn:(l.map kx).Nodup):iR (l.map kx):=by
 unfold iR;rw[D5];rw[List.Nodup,D5]at hn;refine(h.and hn).imp λ{a b}⟨h1,h2⟩=>?_;rcases JT (kx a) (kx b)with r|r|r;.exact r
 .exact absurd r h2
 .rw[<-QL]at r;exact absurd (alA r) h1
theorem Xe(p q:Pl):Pure prog 179 [iD p,iD q] (.int .i64 (lD p q)):=by have h:=JN [gN p.1 q.1,jx p.2 q.2] (by simp[maxLen]);have h1:=Qm p.1 q.1;have h2:=Wb p.2 q.2;unfold lD;generalize ve [gN p.1 q.1,jx p.2 q.2]=M at*;refine iW 0 func179 ntmps179 results179 λc hc hb=>zM ?_;simp[go_sem,iD];refine yA [(4,0),(9,0),(11,0)] 2 rfl kR kR ?_;simp[go_sem];refine pD h1 ?_;simp[go_sem];refine pD h2 ?_;simp[go_sem];refine pD h ?_;simp[go_sem];exact wR
theorem xX9(p q:Pl):Pure prog 255 [.agg (.int .i64 p.1::.str p.2::List.replicate (3-2) .u),.agg (.int .i64 q.1::.str q.2::List.replicate (3-2) .u)] (.int .i64 (lD p q)):=by have h:=Xe p q;rw[iD,iD]at h;show Pure prog 255 [.agg [.int .i64 p.1,.str p.2,.u],.agg [.int .i64 q.1,.str q.2,.u]] (.int .i64 (lD p q));refine iW 0 func255 ntmps255 results255 λc hc hb=>zM ?_;simp[go_sem];refine pC h ?_;simp[go_sem];exact wR
def kD(seen:alX)(W:List (Pl×U))(bs:alX):List ((Pl×U)×Nat):=(W.zip bs).filter λp=>!seen.contains p.2
theorem Xf{U:Type}{g:U->V}{seen:alX}:∀{W:List (Pl×U)}{bs:alX},BN seen (gP g W) bs=(kD seen W bs).map λp=>(iD p.1.1,g p.1.2,p.2)
 |[],bs=>by cases bs<;>rfl|e::W,[]=>rfl|e::W,b::bs=>by
  rw[gP,BN,Xf];unfold kD;rw[E4,Da];cases h:seen.contains b;.simp only[Ci,alH,Bool.not_false,alB,Ag]
  .simp only[alB,Bool.not_true,Ci,alH]
theorem M5{U:Type}{g:U->V}:∀{W:List (Pl×U)}{bs:alX}{p:(Pl×U)×Nat},bs.Nodup->p∈W.zip bs->Gp p.2 (gP g W) bs=some (iD p.1.1,g p.1.2)
 |[],_,_,_,h=>by simp at h|e::W,[],_,_,h=>by simp at h|e::W,b::bs,p,hn,h=>by
  rw[C6]at hn;rw[gP,Gp];rw[E4]at h;rcases Af.1 h with rfl|h;.rw[alq rfl]
  .have:b≠p.2:=λq=>hn.1 (q▸(List.of_mem_zip h).2);rw[alp this];exact M5 hn.2 h
theorem Xg{U:Type}:∀{W:List U}{bs:alX},bs.Nodup->((W.zip bs).map (·.2)).Nodup
 |[],_,_=>by simp|e::W,[],_=>by simp|e::W,b::bs,h=>by rw[C6]at h;rw[E4,Ag,C6];refine⟨λq=>?_,Xg h.2⟩;obtain⟨p,hp,rfl⟩:=Ab.1 q;exact h.1 (List.of_mem_zip hp).2
theorem Xh{U:Type}{p:U×Nat}:∀{L:List (U×Nat)},(L.map (·.2)).Nodup->p∈L->L.Perm (p::L.filter λq=>!decide (q.2=p.2))
 |[],_,h=>by cases h|x::L,hn,h=>by
  rw[Ag,C6]at hn;rcases Af.1 h with rfl|h
  .have:(p::L).filter (λq=>!decide (q.2=p.2))=L:=by
    rw[Da,alp sM];exact D6.2 λq hq=>by have:q.2≠p.2:=λe=>hn.1 (Ab.2 ⟨q,hq,e⟩);simp[this]
   rw[this]
  .have:x.2≠p.2:=λe=>hn.1 (Ab.2 ⟨p,h,e.symm⟩);rw[Da,alq (by simp[this])];exact((Xh hn.2 h).cons x).trans (List.Perm.swap ..)
theorem M6(hn:bs.Nodup){p:(Pl×U)×Nat}(hp:p∈kD seen W bs):(kD seen W bs).Perm (p::kD (seen++[p.2]) W bs):=by
 have h1:((kD seen W bs).map (·.2)).Nodup:=alF ((C8).map _) (Xg hn);refine(Xh h1 hp).trans (alO ?_);congr 1;unfold kD;rw[List.filter_filter];refine List.filter_congr λq _=>?_;by_cases e:q.2=p.2;.simp[e]
 .simp[e]
theorem M7{p:(Pl×U)×Nat}(hp:p∈kD seen W bs):p∈W.zip bs:=(Bn.1 hp).1
theorem wk7(h:bs.length=W.length):(kD [] W bs).map (·.1)=W:=by unfold kD;rw[D6.2 λq _=>sM,List.map_fst_zip om]
def iE(seen:alX)(W:List (Pl×U))(bs:alX)(D:List (Pl×U)):Prop:=(D++(kD seen W bs).map (·.1)).Perm W
theorem iE.start(h:bs.length=W.length):iE [] W bs []:=by unfold iE;rw[wk7 h];exact List.Perm.refl _
theorem iE.next{D:List (Pl×U)}(hn:bs.Nodup)(h:iE seen W bs D){p:(Pl×U)×Nat}(hp:p∈kD seen W bs):iE (seen++[p.2]) W bs (D++[p.1]):=by unfold iE at h⊢;refine List.Perm.trans ?_ h;rw[Bj];have h1:=(M6 hn hp).map λx:(Pl×U)×Nat=>x.1;rw[Ag]at h1;exact List.Perm.append_left _ h1.symm
theorem iE.done{D:List (Pl×U)}(h:iE seen W bs D)(h0:kD seen W bs=[]):D.Perm W:=by unfold iE at h;rw[h0]at h;simpa using h
theorem Xi{U:Type}{p q:U->Bool}:∀{l:List U},(∀x∈l,p x=true->q x=false)->(l.filter p++l.filter q).Perm (l.filter λx=>p x||q x)
 |[],_=>List.Perm.refl _|x::l,h=>by have ih:=Xi (l:=l) λy hy=>h y (Bg _ hy);have hx:=h x (B2 ..);simp only[Da];cases hp:p x with|true=>simp only[hx hp,Dm,alB,Ci,alH,Bk];exact ih.cons x|false=>cases hq:q x with |true=>simp only[Bv,alB,Ci,alH];exact Dj.trans (ih.cons x)|false=>simp only[Bv,Ci,alH];exact ih
theorem Xj{l:List Ln}{c:Ln->Bool}{rg:Int->Int}:∀{G:alZ},(G.map rg).Nodup->(G.flatMap λg=>l.filter λx=>(rg g==x.r)&&c x).Perm (l.filter λx=>(G.any λg=>rg g==x.r)&&c x)
 |[],_=>by simp|g::G,hn=>by
  rw[Ag,C6]at hn;rw[Br];refine(List.Perm.append_left _ (Xj (l:=l) (c:=c) hn.2)).trans ((Xi λx _ hp=>?_).trans (alO (List.filter_congr λx _=>?_)))
  .simp only[Aa,alx]at hp;have:(G.any λg=>rg g==x.r)=false:=by cases q:G.any λg=>rg g==x.r with|false=>rfl|true=>obtain⟨g',h1,h2⟩:=List.any_eq_true.1 q;exact absurd (Ab.2 ⟨g',h1,(beq_iff_eq.1 h2).trans hp.1.symm⟩) hn.1
   rw[this,Di]
  .rw[alU,Bool.and_or_distrib_right]
theorem xJ4{l m:List Ln}(hr:iR (l.map Ln.at))(hp:m.Perm l)(hs:m.Pairwise λa b=>wE b.at a.at=false):m=l:=by
 have aa:(m.map Ln.at).Nodup:=(hp.map Ln.at).nodup_iff.2 hr.nodup;have h1:l.Pairwise λa b=>wE a.at b.at=true:=D5.1 hr;have h2:m.Pairwise λa b=>wE a.at b.at=true:=by
  refine(hs.and (D5.1 aa)).imp λ{a b}h=>?_;rcases JT a.at b.at with q|q|q;.exact q
  .exact absurd q h.2
  .rw[h.1]at q;cases q
 exact hp.eq_of_pairwise (λa b _ _ h g=>by rw[WW h]at g;cases g) h2 h1
theorem QM(c:UInt8):UInt8.ofNat c.toNat=c:=sM
theorem Xk:∀(l:alW)(i v u n:Nat),iH l i v=(u,n,0)->∃w k,u=v+w*128^i/\n=i+k/\l.take k=eQ w/\k<=l.length/\(0<i->0<w)
 |[],i,v,u,n,h=>by grind[iH]|c::rest,i,v,u,n,h=>by
  rw[iH]at h;split at h;.grind
  .split at h
   .rename_i h2;split at h;.grind
    .rename_i h3;simp only[alD]at h;obtain⟨h4,h5,_⟩:=h;refine⟨c.toNat,1,?_,h5.symm,?_,sM,λhi=>?_⟩;.grind
     .rw[zf h2,QM];rfl
     omega
   .rename_i h2;obtain⟨w,k,h4,h5,h6,h7,h8⟩:=Xk rest (i+1) _ u n h;have hw:=om;have hc:=c.toNat_lt;have e1:(c.toNat%128+128*w)%128=c.toNat%128:=om;have e2:(c.toNat%128+128*w)/128=w:=om;refine⟨c.toNat%128+128*w,k+1,?_,om,?_,by grind,om⟩;.grind
    .rw[DO om,e1,e2,Bx,h6];grind[QM]
theorem ws0(u:Nat):gM (lu u)=u:=by grind[gM,lu]
theorem QN{l:alW}{u n:Nat}(h:iH l 0 0=(u,n,0)):l.take n=eQ u/\n<=l.length:=by grind[Xk]
theorem xb5:∀{b:alW},(mg b).e=0->b.take (mg b).n=k6 (mg b).v/\(mg b).n<=b.length/\0<(mg b).n
 |[],h=>by trivial|c::rest,h=>by
  have hc:=QM c;rw[mg]at h⊢;revert h;unfold p5;split;.grind[k6,e9,v0]
  .split;.rename_i _ h1;rw[h1]at hc;unfold wv;cases rest with |nil=>simp|cons d rest=>
     simp only[Ah,List.getD_cons_succ,List.getD_cons_zero];rw[alp om];split;.simp
     .intro _;rename_i hd;refine⟨?_,sM,sM⟩;have hm:e9 ⟨1,(d.toNat:Int),[]⟩=true:=by grind[e9]
      simp_all[k6]
   .split;.rename_i _ _ h2;rw[h2]at hc;obtain⟨⟨u,n,e⟩,hg⟩:∃g,iH rest 0 0=g:=⟨_,rfl⟩;rw[hg];simp only;split;all_goals simp_all[QN,k6,e9,E6,ws0]
    .split
     .rename_i _ _ _ h3;rw[h3]at hc;obtain⟨⟨u,n,e⟩,hg⟩:∃g,iH rest 0 0=g:=⟨_,rfl⟩;unfold uR wY;rw[hg];by_cases he:e=0;rotate_left;.grind
      subst he;by_cases h5:1048576<u;.grind
      by_cases h6:rest.length-n<u;.grind
      obtain⟨h7,h8⟩:=QN hg;have aa:((rest.take (n+u)).drop n).length=u:=by grind
      simp only[h5,h6,alH,ne_eq,alK,aa];by_cases hl:64<u;.grind
      rw[alp hl];intro _;refine⟨?_,by grind,by grind⟩;have hm:e9 ⟨3,0,(rest.take (n+u)).drop n⟩=true:=by grind[e9]
      unfold k6;rw[alq hm];simp only;rw[alp dC,alp dC,alq True.intro,aa,<-h7];rw[E6 1 (n+u),Bx];show c::_=UInt8.ofNat 3::_;rw[hc];congr 1;grind[B0]
     simp
theorem Xl:∀(n:Nat)(b:alW)(l:List bK),iQ n b=some l->l.flatMap k6=b/\l.length=n
 |0,b,l,h=>by rw[iQ]at h;grind|n+1,b,l,h=>by
  rw[iQ]at h;split at h;.rename_i he;rw[As]at h;obtain⟨l',h1,rfl⟩:=h;obtain⟨h2,h3⟩:=Xl n _ l' h1;obtain⟨h4,_,_⟩:=xb5 he;refine⟨?_,by simp[h3]⟩;rw[Br,h2,<-h4,B0]
  grind
theorem xm0{nc:Nat}{data:alW}(h:(R.kj nc data).2=0):xP (R.kj nc data).1=data:=by
 revert h;unfold R.kj;split;.rename_i h0;intro h;obtain⟨⟨u,n,e⟩,hg⟩:∃g,iH data 0 0=g:=⟨_,rfl⟩;rw[hg]at h h0⊢;obtain⟨h1,h2⟩:=h0;simp only at h1 h2 h⊢;rw[h1]at hg;subst h2;obtain⟨h3,_⟩:=QN hg;cases hr:iQ u (data.drop n)with|none=>grind[uS]|some l=>obtain⟨h5,h6⟩:=Xl _ _ _ hr;show xP l=data;unfold xP tE;grind[B0]
 omega
theorem gm.read{x:Ln}(h:gm x):eM bO (ga x.r).1 (xP x.v)=(x.v,0):=by obtain⟨tn,T,e,hT,hm⟩:=h.jV;obtain⟨aa,ab⟩:=A3.1 hT;have hL:=HN ((by decide:∀T∈bO,T.cw.length<=20) T (by grind)) h.ok hm;simp_all[eM,wa0]
def xd(t:Int)(e:Pl×alW):Ln:=⟨e.1.1,e.1.2,(eM bO t e.2).1⟩
def qZ(dN:Int)(lo hi:alW)(e:Pl×alW):Bool:=(e.1.1==dN)&&(!Op.bytesLess e.1.2 lo&&Op.bytesLess e.1.2 hi)
def JX(dN:Int)(lo hi:alW)(x:Ln):Bool:=(dN==x.r)&&(!Op.bytesLess x.k lo&&Op.bytesLess x.k hi)
theorem yZ1{l:List Ln}(h:dd b l){D:List (Pl×alW)}(hD:D.Perm b.W){t dN:Int}(hr:(ga dN).1=t)(lo hi:alW):((D.filter (qZ dN lo hi)).map (xd t)).Perm (l.filter (JX dN lo hi)):=by
 have h1:=((hD.trans h.perm).filter (qZ dN lo hi)).map (xd t);refine h1.trans (alO ?_);rw[List.filter_map,B8];have e1:l.filter (qZ dN lo hi∘λx=>(x.at,xP x.v))=l.filter (JX dN lo hi):=List.filter_congr λx _=>by show((x.r==dN)&&_)=((dN==x.r)&&_);rw[Bool.beq_comm];rfl
 rw[e1];refine(Bb λx hx=>?_).trans (List.map_id _);obtain⟨ad,aa⟩:=Bn.1 hx;unfold JX at aa;rw[Aa,alx]at aa;have ab:=(h.rows x ad).read;rw[<-aa.1,hr]at ab;show xd t (x.at,xP x.v)=x;unfold xd;rw[ab];rfl
theorem xl4(j:Nat)(hj:j<3)(st:bZ):((wJ (j:Int) st).map λg=>(xJ j g).1).Nodup:=by match j,hj with |0,_=>have e:wJ ((0:Nat):Int) st=jv (pj st) [0,1]:=rfl;rw[e,QE];exact alF ((C8).map _) (by decide:([0,1].map λg=>(xJ ((0:Nat):Int) g).1).Nodup)|1,_=>exact(by decide:([-1].map λg=>(xJ ((1:Nat):Int) g).1).Nodup)|2,_=>exact(by decide:([1].map λg=>(xJ ((2:Nat):Int) g).1).Nodup)
theorem Xm(j:Nat)(hj:j<3){g:Int}(hg:g∈wJ (j:Int) st):(g=-1\/g=0\/g=1)/\(xJ j g).2=0/\ga (xJ j g).1=((j:Int),g,0):=by match j,hj with |0,_=>have e:wJ ((0:Nat):Int) st=jv (pj st) [0,1]:=rfl;rw[e,QE]at hg;have:=(Bn.1 hg).1;simp at this;rcases this with rfl|rfl;all_goals decide|1,_=>have e:wJ ((1:Nat):Int) st=[-1]:=rfl;rw[e]at hg;simp at hg;subst hg;decide|2,_=>have e:wJ ((2:Nat):Int) st=[1]:=rfl;rw[e]at hg;simp at hg;subst hg;decide
theorem yI8(j:Nat)(hj:j<3)(st:bZ)(l:List Ln):((wJ (j:Int) st).flatMap λg=>l.filter (JX (xJ j g).1 (oC bO j st).1 (oC bO j st).2)).Perm (l.filter (qm j st)):=Xj (l:=l) (c:=λx=>!Op.bytesLess x.k (oC bO j st).1&&Op.bytesLess x.k (oC bO j st).2) (rg:=λg=>(xJ j g).1) (xl4 j hj st)
theorem xj3{j:Nat}{l m:List Ln}(hr:iR (l.map Ln.at))(hp:m.Perm (l.filter (qm j st)))(hs:m.Pairwise λa b=>¬lD b.at a.at<0):m=l.filter (qm j st):=by refine xJ4 (List.Pairwise.sublist ((C8).map _) hr) hp (hs.imp λ{a b}h=>?_);rw[<-QL];grind
def pv(l:List Wr):Prop:=l.Pairwise λa b=>wE a.p b.p=true
theorem QO(l:List Wr)(x:Wr):(lC l x).Perm (x::l):=by unfold lC;refine Dj.trans (List.Perm.cons _ (alO ?_));simp
theorem Xn{x:Wr}:∀{l:List Wr},pv l->(∀y∈l,y.p≠x.p)->∀y∈l.dropWhile (λy=>wE y.p x.p),wE x.p y.p=true
 |[],_,_,y,hy=>by simp_all|z::l,hr,hn,y,hy=>by
  rw[pv,Ck]at hr;rw[List.dropWhile_cons]at hy;by_cases q:wE z.p x.p=true;.rw[alq q]at hy;exact Xn hr.2 (by grind) y hy
  .rw[alp q]at hy;have hz:wE x.p z.p:=by grind[JT]
   rcases Af.1 hy with rfl|hy;all_goals grind[JS]
theorem xD2{l:List Wr}{x:Wr}(h:pv l)(hn:∀y∈l,y.p≠x.p):pv (lC l x):=by have hd:=Xn h hn;have ht:∀y∈l.takeWhile (λy=>wE y.p x.p),wE y.p x.p:=QJ;unfold pv at h;rw[<-Cr (p:=λy:Wr=>wE y.p x.p) (l:=l),Bw]at h;unfold lC pv;rw[Bw,Ck];grind
theorem QP{f:Ln->Wr}(hf:∀x,(f x).p=x.at):∀{m:List Ln}{l:List Wr},pv l->(l.map (·.p)++m.map Ln.at).Nodup->pv (m.foldl (λl x=>lC l (f x)) l)/\(m.foldl (λl x=>lC l (f x)) l).Perm (l++m.map f)
 |[],l,h,_=>(by simp_all)|x::m,l,h,hn=>by
  have hx:∀y∈l,y.p≠(f x).p:=(by grind);have h2:((lC l (f x)).map (·.p)++m.map Ln.at).Nodup:=by
   have hp:((lC l (f x)).map (·.p)++m.map Ln.at).Perm (l.map (·.p)++(x::m).map Ln.at):=by refine(((QO l (f x)).map (·.p)).append_right _).trans ?_;rw[Ag,Ag,hf];exact Dj.symm
   exact hp.nodup_iff.2 hn
  obtain⟨h3,h4⟩:=QP hf (m:=m) (xD2 h hx) h2;refine⟨h3,h4.trans ?_⟩;refine((QO l (f x)).append_right _).trans ?_;rw[Ag];exact Dj.symm
theorem Xo{l m:List Wr}(h:pv l)(g:pv m)(e:∀x,x∈l↔x∈m):l=m:=by have nd:∀{l:List Wr},pv l->l.Nodup:=λh=>h.imp (by grind[MX]);exact((List.perm_ext_iff_of_nodup (nd h) (nd g)).2 om).eq_of_pairwise (by grind[WW]) h g
def isW(qY now:List Ln)(w:Wr):Prop:=(w.drop=true/\w.data=[]/\(∃x∈qY,x.at=w.p)/\j5 now w.p=false)\/(w.drop=false/\∃x∈now,x.at=w.p/\xP x.v=w.data/\∀y∈qY,y.at=x.at->xP y.v≠xP x.v)
theorem M8{aa now:List Ln}(hw:iR (aa.map Ln.at))(hn:iR (now.map Ln.at)):pv (jz aa now)/\∀w,w∈jz aa now↔isW aa now w:=by
 obtain⟨h1,h2⟩:=QP (f:=λx=>⟨x.at,true,[]⟩) sM (m:=aa.filter λx=>!j5 now x.at) (l:=[]) List.Pairwise.nil (by simp only[Bq,Cc];exact alF ((C8).map _) hw.nodup);rw[Cc]at h2;obtain⟨h3,h4⟩:=QP (f:=λx=>⟨x.at,false,xP x.v⟩) sM (m:=now.filter λx=>!(aa.any λy=>decide (y.at=x.at)&&decide (xP y.v=xP x.v))) h1 (by have hp:=(h2.map (·.p)).append_right ((now.filter λx=>!(aa.any λy=>decide (y.at=x.at)&&decide (xP y.v=xP x.v))).map Ln.at);refine hp.nodup_iff.2 ?_;rw[B8,Ct];refine⟨alF ((C8).map _) hw.nodup,alF ((C8).map _) hn.nodup,λa ha b hb e=>?_⟩;obtain⟨x,hx,rfl⟩:=Ab.1 ha;obtain⟨y,hy,rfl⟩:=Ab.1 hb;grind[j5]);refine⟨h3,λw=>?_⟩;have h5:=(h4.trans (h2.append_right _)).mem_iff (a:=w);rw[Ai,Ab,Ab]at h5;refine h5.trans (or_congr ⟨?_,?_⟩ ⟨?_,?_⟩);.grind
 .rintro⟨e1,e2,⟨x,hx,e3⟩,e4⟩;refine⟨x,(by grind),?_⟩;obtain⟨p,d,b⟩:=w;grind
 .grind
 .rintro⟨e1,x,hx,e2,e3,e4⟩;refine⟨x,Bn.2 ⟨hx,?_⟩,?_⟩;.grind
  .obtain⟨p,d,b⟩:=w;grind
def iF(out:List (Int×List Wr))(w:Wr):List (Int×List Wr):=match out.getLast? with|some q=>if q.1=w.p.1then out.dropLast++[(q.1,q.2++[w])]else out++[(w.p.1,[w])]|none=>[(w.p.1,[w])]
def nv(l:List Wr):List (Int×List Wr):=l.foldl iF []
theorem Xp{r:Int}:∀{B C:List Wr}{out:List (Int×List Wr)},(∀w∈B,w.p.1=r)->B.foldl iF (out++[(r,C)])=out++[(r,C++B)]
 |[],C,out,_=>by simp|w::B,C,out,h=>by
  have hw:=h w (B2 ..);have e:iF (out++[(r,C)]) w=out++[(r,C++[w])]:=by unfold iF;rw[List.getLast?_append];simp[hw]
  rw[B7,e,Xp λy hy=>h y (Bg _ hy)];simp
theorem M9{B:List Wr}{out:List (Int×List Wr)}(h:∀w∈B,w.p.1=r)(ho:∀q∈out,q.1≠r):B.foldl iF out=out++(if B=[]then[]else[(r,B)]):=by cases B with |nil=>simp|cons w B=>
  have hw:=h w (B2 ..);have e:iF out w=out++[(r,[w])]:=by unfold iF;cases q:out.getLast? with |none=>simp_all|some p=>grind
  grind[Xp]
theorem yZ5{l:List Wr}(h:pv l)(hr:∀w∈l,w.p.1=0\/w.p.1=1\/w.p.1=2\/w.p.1=3):l=l.filter (λw=>w.p.1==0)++(l.filter (λw=>w.p.1==1)++(l.filter (λw=>w.p.1==2)++l.filter (λw=>w.p.1==3))):=by
 have hl:∀{a b:Wr},a.p.1<b.p.1->wE a.p b.p=true:=(by grind[wE]);refine Xo h ?_ λw=>?_
 .unfold pv at h⊢;rw[Bw,Bw,Bw];refine⟨h.filter _,⟨h.filter _,⟨h.filter _,h.filter _,?_⟩,?_⟩,?_⟩;.grind
  .grind
  .intro a ha b hb;have h1:=(Bn.1 ha).2;rw[Ai,Ai]at hb;grind
 grind
def ir(l:List Wr)(r:Int):List (Int×List Wr):=if l.filter (λw=>w.p.1==r)=[]then[]else[(r,l.filter (λw=>w.p.1==r))]
theorem xe{l:List Wr}:∀q∈ir l r,q.1=r:=(by grind[ir])
theorem Xq{l:List Wr}(h:pv l)(hr:∀w∈l,w.p.1=0\/w.p.1=1\/w.p.1=2\/w.p.1=3):nv l=ir l 0++(ir l 1++(ir l 2++ir l 3)):=by
 have hb:∀r:Int,∀w∈l.filter (λw=>w.p.1==r),w.p.1=r:=sM;have e:=yZ5 h hr;unfold nv;rw[e,D4,D4,D4,M9 (hb 0) sM];have e0:∀r,(if l.filter (λw=>w.p.1==r)=[]then[]else[(r,l.filter (λw=>w.p.1==r))])=ir l r:=λ_=>rfl;rw[<-e,e0,Cc,M9 (hb 1) (λq hq=>by rw[xe q hq];decide),e0,M9 (hb 2) (λq hq=>by rcases Ai.1 hq with hq|hq<;>rw[xe q hq]<;>decide),e0,M9 (hb 3) (λq hq=>by
   rcases Ai.1 hq with hq|hq;.rcases Ai.1 hq with hq|hq<;>rw[xe q hq]<;>decide
   .rw[xe q hq];decide),e0];simp
theorem wz3{g:Int}(he:(ga g).2.2=0):∃(tn:Nat)(T:bL),(ga g).1=(tn:Int)/\bO[tn]?=some T:=by
 unfold ga at he⊢;split at he<;>rename_i q0;.rw[alq q0];exact⟨0,_,rfl,rfl⟩
 .rw[alp q0];split at he<;>rename_i q1;.rw[alq q1];exact⟨0,_,rfl,rfl⟩
  .rw[alp q1];split at he<;>rename_i q2;.rw[alq q2];exact⟨1,_,rfl,rfl⟩
   .rw[alp q2];split at he<;>rename_i q3;.rw[alq q3];exact⟨2,_,rfl,rfl⟩
    grind
def zu(x:Ln):Prop:=mJ x.r x.k (xP x.v)=true
theorem Xr{data:alW}(h:mJ p.1 p.2 data):gm ⟨p.1,p.2,(eM bO (ga p.1).1 data).1⟩/\xP (eM bO (ga p.1).1 data).1=data:=by
 unfold mJ at h;simp only[Aa,alw]at h;obtain⟨h1,h2,h3⟩:=h;obtain⟨tn,T,aa,hT⟩:=wz3 h1;have ab:bO.getD tn fj=T:=by grind
 have cZ:=W4 tn data;rw[aa]at h2 h3⊢;rw[Ay,ab]at h3;have hk:=MZ tn T hT (eM bO tn data).1 (by rw[h3]);rw[h3]at hk;refine⟨⟨(by grind),h1,cZ.2⟩,?_⟩;obtain⟨hl,ad⟩:=A3.1 hT;simp_all[eM,xm0]
theorem Xs{U:Type}{p q:Pl}{v:U}(h:q≠p):∀{W:List (Pl×U)},ep p (W++[(q,v)])=ep p W
 |[]=>by grind[ep]|e::W=>by rw[Bk,ep,ep,Xs h]
theorem Xt{U:Type}{p q:Pl}{v:U}:∀{W:List (Pl×U)}{i:Nat}{u:U},ep p W=some (i,u)->(ep q (W.set i (p,v))).map (·.2)=if q=p then some v else(ep q W).map (·.2)
 |[],i,u,h=>by trivial|e::W,i,u,h=>by
  rw[ep]at h;by_cases c:e.1=p;.rw[alq c]at h;simp only[alu,alD]at h;obtain⟨rfl,rfl⟩:=h;rw[Cj,ep,ep];grind
  .rw[alp c,As]at h;obtain⟨⟨j,w⟩,h1,h2⟩:=h;simp only[alD]at h2;obtain⟨rfl,rfl⟩:=h2;rw[C4,ep,ep];by_cases d:e.1=q;.grind
   .rw[alp d,alp d,Option.map_map,Option.map_map];exact Xt h1
theorem QQ(m:Mp U)(p q:Pl)(v:U):(m.put p v).get q=if q=p then some v else m.get q:=by unfold Mp.get Mp.put Mp.at;cases h:ep p m.W with
 |none=>
  simp only;by_cases d:q=p;.subst d;rw[MU h,alq rfl];rfl
  .rw[Xs (by grind),alp d]|some w=>grind[Xt]
theorem lE{m:Mp U}:m.get p=none↔m.at p=none:=by grind[Mp.get,Option.map_eq_none_iff]
def xf(s:List (Pl×alW)×List Ln)(q:Pl×alW):List (Pl×alW)×List Ln:=if(s.1.any λe=>e.1==q.1)=true then s else(s.1++[q],if mJ q.1.1 q.1.2 q.2=true then zt s.2 ⟨q.1.1,q.1.2,(eM bO (ga q.1.1).1 q.2).1⟩else s.2)
structure pw(n:Nat)(s:List (Pl×alW)×List Ln)(m:M3):Prop where
 same:m.1=m.2.1now:dd m.2.1 s.2sn:m.2.2.ok
 seen:∀p,m.2.2.get p=none↔(s.1.any λe=>e.1==p)=false
 QK:∀p v,m.2.2.get p=some v->1<=v/\v<=n
 lines:∀x∈s.2,zu x/\(x.at,xP x.v)∈s.1rows:∀q∈s.1,mJ q.1.1 q.1.2 q.2=true->∃x∈s.2,x.at=q.1/\xP x.v=q.2len:s.2.length<=n
theorem pw.step{n:Nat}{s:List (Pl×alW)×List Ln}{m:M3}(h:pw n s m)(q:Pl×alW):pw (n+1) (xf s q) (DV q.1 q.2 m):=by obtain⟨p,data⟩:=q;obtain⟨a,b,c⟩:=m;obtain⟨se,out⟩:=s;obtain⟨h1,h2,h3,h4,h6,h5,h7,h8⟩:=h;simp only at h1 h2 h3 h4 h5 h6 h7 h8;subst h1;have aa:∀w:Int,1<=w->w<=(n:Int)+1->∀q v,(c.put p w).get q=some v->1<=v/\v<=((n+1:Nat):Int):=(by grind[QQ]);unfold xf DV;simp only;cases hs:se.any λe=>e.1==p with
 |true=>
  have hc:c.get p≠none:=(by grind);obtain⟨v,hv⟩:=Option.ne_none_iff_exists'.1 hc;have ad:mq c p=v:=by unfold mq;grind
  have af:=h6 p v hv;rw[alq rfl,alp om,ad];refine⟨rfl,h2,Mp.jy h3 _ _,λq=>?_,aa _ om om,h5,h7,by grind⟩;grind[QQ]|false=>
  have hg:=(h4 p).2 hs;have ad:mq c p=0:=by unfold mq;grind
  have ab:∀q,(c.put p (0+1)).get q=none↔((se++[(p,data)]).any λe=>e.1==q)=false:=(by grind[QQ]);rw[alp sM,ad];by_cases hr:mJ p.1 p.2 data=true
  .rw[alq hr,alq (by grind)];obtain⟨hl,hd⟩:=Xr hr;have ha:j5 out p=false:=by cases e:j5 out p with |false=>rfl|true=>obtain⟨x,hx,ah⟩:=Ab.1 (gF.1 e);grind
   have hn:=h2.ins hl ha;rw[show(Ln.mk p.1 p.2 (eM bO (ga p.1).1 data).1).at=p from rfl,hd]at hn;refine⟨rfl,hn,Mp.jy h3 _ _,ab,aa _ om om,λx hx=>?_,λq hq ae=>?_,?_⟩
   .rcases Af.1 ((DW _ _).mem_iff.1 hx)with rfl|hx
    .refine⟨?_,List.mem_append_right _ (Bl.2 ?_)⟩;.show mJ p.1 p.2 (xP _)=true;grind
     .show(p,xP _)=(p,data);rw[hd]
    grind
   .rcases Ai.1 hq with hq|hq;.grind[DW]
    .rw[Bl]at hq;subst hq;exact⟨_,(DW _ _).mem_iff.2 (B2 ..),rfl,hd⟩
   .rw[(DW _ _).length_eq];grind
  .rw[alp hr,alp (by grind)];refine⟨rfl,h2,Mp.jy h3 _ _,ab,aa _ om om,(by grind),λq hq ae=>?_,by grind⟩;grind
theorem Xu:pw 0 ([],[]) (xc _,xc _,xc _):=by
 refine⟨rfl,⟨WG _,List.Pairwise.nil,List.Perm.nil,sM⟩,WG _,λp=>?_,λp v h=>?_,sM,sM,sM⟩;.exact⟨λ_=>rfl,λ_=>rfl⟩
 trivial
end Go.Proofs.YtegbonbgofjlcaaGreat
