/-
  exec.choose: what a SELECT tells of the rows that it meets; used by the walk of exec.Run.
  Conditions: as the theorem states them.
-/
import Derived.Test.YtefbicjgbaaieaaGreatLAQ
import Derived.Test.YtefbicjgbaaieaaGreatLAP
import Derived.Test.YtefbicjgbaaieaaGreatLAR
import Derived.Test.YtefbicjgbaaieaaGreatLAE
import Derived.Test.YtefbicjgbaaieaaGreatLAF
import Derived.Test.YtefbicjgbaaieaaGreatLAO
import Derived.Test.YtefbicjgbaaieaaGreatLAG
set_option maxHeartbeats 8000000
namespace Go.Proofs.YtefbicjgbaaieaaGreat
open Go Go.Vx R Go.Proofs.Tryz
set_option maxRecDepth 100000
def Ij(a b:Mp aij)(sn:Mp Int)(M:List Ln×Int)(r:V)(s:St):Prop:=(M.2≠0/\s=cT a b sn/\r=.cm [.sl .ro [],.int .i64 M.2])\/(M.2=0/\s=cT a b sn++[.cj (M.1.map Ln.row) 3]/\r=.cm [.cL 4 3 M.1.length 0 M.1.length,.int .i64 0])
theorem eP.BJ{x:Ln}(h:eP x):il x.v:=by obtain⟨tn,T,_,hT,hm⟩:=h.jl;exact Gk ((by decide:∀T∈bI,T.bP.length<=20) T (by grind)) h.ok hm
theorem OX{nt:Nat}{d:Option Tmp}{K:KT}{e:Env}{U:St}{i id cM:Nat}{seen:aik}{b:Mp aij}{R0:Vx.R}(hR:R0=nA true U (.ptr i 0))(hi:U[i]?=some (.it (some id) cM seen cM))(hid:U[id]?=some (.mp (gb V.str b.W) b.bs cM))(hb:∀x∈b.bs,x<cM)(h0:j8 seen b.W b.bs=[]->iQ nt d (.cm [.bool false]) K fx e U)(h1:∀p∈j8 seen b.W b.bs,iQ nt d (.cm [.bool true,gT p.1.1,.str p.1.2]) K fx e (U.set i (.it (some id) cM (seen++[p.2]) cM))):dN nt d R0 K fx e U:=by subst hR;have aa:(b.bs.all λx=>decide (x<cM))=true:=(by grind);unfold nA;simp only[hi,hid,aa,A6,and_self,ai0,UR];match hL:j8 seen b.W b.bs with
 |[]=>exact h0 hL|[p]=>exact h1 p (by grind)|p::q::r=>
  simp only[Ad];rw[Yb];refine Yc λx hx=>?_;have ab:x∈(p::q::r).map λp:(Pl×aij)×Nat=>((.cm [.bool true,gT p.1.1,.str p.1.2]:V),U.set i (.it (some id) cM (seen++[p.2]) cM)):=by grind
  obtain⟨y,hy,rfl⟩:=Aa.1 ab;exact h1 y (by grind)
theorem Vb{a b:Mp aij}{sn:Mp Int}{m:List Ln}{k:Nat}{U:St}(hk:4<=k)(h4:U.take 4=cT a b sn)(cD:U[k]?=some (.cj (m.map Ln.row) 3)):bW (some (.cm [.cL k 3 m.length 0 m.length,.int .i64 0])) 4 (Ij a b sn (m,0)) U:=by
 refine JH [0,1,2,3,k] (s:=cT a b sn++[.cj (m.map Ln.row) 3]) (r:=.cm [.cL 4 3 m.length 0 m.length,.int .i64 0]) ?_ (λi hi=>?_) rfl (λi j o ab ho=>?_) (.inl (by rfl)) (.inr sm);.grind
 .match i,hi with |0,_=>rfl|1,_=>rfl|2,_=>rfl|3,_=>rfl
 .by_cases q:i<4
  .have e:j=i:=by grind
   subst e;have h1:(cT a b sn)[j]?=some o:=by grind
   have aa:bO 4 o:=Aj.1 (by grind[wK]) o (B9 h1);rw[mF (n:=4) (λx hx=>?_) aa];.grind
   .rw[jD (by grind)];match x,hx with |0,_=>rfl|1,_=>rfl|2,_=>rfl|3,_=>rfl
  .have e:i=4:=by grind
   subst e;have e1:o=.cj (m.map Ln.row) 3:=by grind
   have e2:j=k:=by grind
   subst e1;subst e2;rw[mF (n:=0) om (by grind[bO,cH,cF,Ln.row])];omega
theorem Vc(T:bH)(st:bQ)(acc:List Ln)(x:Ln)(l:List Ln):oL T st acc (x::l)=if(fN T x.v st.bU).2≠0then([],(fN T x.v st.bU).2)else oL T st (if vg (fN T x.v st.bU).1=true then acc++[x]else acc) l:=rfl
theorem wu2(tn:Nat)(T:bH)(hT:bI[tn]?=some T)(st:bQ)(aH:gR st)(hv:N9 st)(a b:Mp aij)(sn:Mp Int)(l:List Ln)(aa:cE b l)(hl:l.length<=10000):bL prog 90 [.ptr 3 0,.int .i64 tn,.agg st.row] (cT a b sn) (Ij a b sn (fb tn T st l)):=by
 obtain⟨aw,aI⟩:=A5.1 hT;have h3:tn<3:=aw;have ax:=xD4 yL bI tn st dc dc (by grind[Tq,maxLen]) hv;have ay:=xu2 tn st (by have:=Tq st;unfold maxLen;omega);obtain⟨⟨lo,hi⟩,az⟩:∃bd,mR bI tn st=bd:=⟨_,rfl⟩;rw[az]at ax;obtain⟨G,hG⟩:=eX (wE tn st);have aJ:=Tr tn st;have a1:=λg(hg:g∈wE (tn:Int) st)=>KW tn h3 hg;rw[hG]at ay aJ a1;refine iV 4 func90 ntmps90 results90 λc hc hb=>?_;refine zN (zA ?_);simp[go_sem,cT,fI];refine zN (zA ?_);simp[go_sem];refine yB [(6,0)] 5 rfl kR kR ?_;simp[go_sem];refine pD ax ?_;simp[go_sem,Eu];refine zN (zA ?_);simp[go_sem];refine FH 10 3 dc sg ?_;refine zN (zA ?_);simp[go_sem];refine yB [(6,0)] 6 rfl kR kR ?_;simp[go_sem];refine pD ay ?_;simp[go_sem];have a6:∀(m:List Ln),([a.ob .str,b.ob .str,sn.ob (V.int .i64),.box [.sl .ro yL,.sl .ro (bI.map bH.row),.mp 0,.mp 1,.mp 2],.box st.row,.cj (m.map Ln.row) 3]:St).all (bO 6)=true:=λm=>by have h:=wK 6 om a b sn;simp_all[cT,bO,cH,cF,bQ.row,Ln.row]
 have eB:b.ob .str=.mp (gb .str b.W) b.bs b.cM:=rfl;have aK:∀x∈b.bs,x<b.cM:=aa.ok.lt;have ad:∀(m:List Ln)(se:aik),([a.ob .str,b.ob .str,sn.ob (V.int .i64),.box [.sl .ro yL,.sl .ro (bI.map bH.row),.mp 0,.mp 1,.mp 2],.box st.row,.cj (m.map Ln.row) 3,.it (some 1) b.cM se b.cM]:St).all (bO 7)=true:=λm se=>by have h:=wK 7 om a b sn;simp_all[cT,bO,cH,cF,bQ.row,Ln.row]
 refine zG (S:=Nat×List Ln) [0,1,5,8,9,10,40,41,42] (λu=>[.ptr 3 0,.int .i64 tn,.ptr 4 0,.str lo,.str hi,.cL 5 3 u.2.length 0 u.2.length,.sl .ro (G.map yG),.int .i64 G.length,.int .i64 u.1]) (λu=>[a.ob .str,b.ob .str,sn.ob (V.int .i64),.box [.sl .ro yL,.sl .ro (bI.map bH.row),.mp 0,.mp 1,.mp 2],.box st.row,.cj (u.2.map Ln.row) 3]) (λu=>G.length-u.1) (λu=>u.1<=G.length/\u.2.Perm ((G.take u.1).flatMap λg=>l.filter (Ih (wY tn g).1 lo hi))/\u.2.length<=u.1*10000) hc hb (0,[]) sm ?_ ?_;.exact aN 6 (a6 [])
 rintro⟨i,acc⟩⟨aL,aj,aP⟩;simp only at aL aj aP;by_cases q:i<G.length
 .have ei:=zR q om;obtain⟨g,hg⟩:=eX (G[i]);obtain⟨bb,aQ,a7⟩:=a1 g (hg▸A7 q);have a8:=SU tn g om om;obtain⟨gU,aA⟩:=eX ((wY tn g).1);have aR:wY tn g=(gU,0):=aih aA aQ;rw[aR]at a8 a7;refine zA ?_;simp[go_sem,q,hg,yG];refine pC a8 ?_;simp[go_sem,Ew,eB];refine zG (S:=aik×List (Pl×aij)) [0,1,5,8,9,10,13,40,41,42,60] (λu=>[.ptr 3 0,.int .i64 tn,.ptr 4 0,.str lo,.str hi,.cL 5 3 (acc++(u.2.filter (qf gU lo hi)).map (vl tn)).length 0 (acc++(u.2.filter (qf gU lo hi)).map (vl tn)).length,.int .i64 gU,.sl .ro (G.map yG),.int .i64 G.length,.int .i64 i,.ptr 6 0]) (λu=>[a.ob .str,b.ob .str,sn.ob (V.int .i64),.box [.sl .ro yL,.sl .ro (bI.map bH.row),.mp 0,.mp 1,.mp 2],.box st.row,.cj ((acc++(u.2.filter (qf gU lo hi)).map (vl tn)).map Ln.row) 3,.it (some 1) b.cM u.1 b.cM]) (λu=>(j8 u.1 b.W b.bs).length) (λu=>gV u.1 b.W b.bs u.2) hc hb ([],[]) (gV.start aa.ok.len) ?_ ?_;.exact bT 7 (by simp[go_sem];rfl) rfl (ad _ _) dc (zC sg rfl)
  rintro⟨se,D⟩hD;simp only at hD;refine qQ 61 dc ?_;refine zA ?_;simp[go_sem,eB];have aB:∀p∈j8 se b.W b.bs,p.1.2.length<=cu:=λp hp=>by obtain⟨x,hx,aS⟩:=Aa.1 (aa.perm.mem_iff.1 (List.of_mem_zip (KU hp)).1);rw[<-aS];have:=Km (eP.BJ (aa.rows x hx)) x.v.length;exact Ao this dc
  have bc:D.length<=10000:=by have h1:=hD.length_eq;rw[aa.perm.length_eq]at h1;grind
  have bf:((D.filter (qf gU lo hi)).map (vl tn)).length<=D.length:=by grind
  refine OX (b:=b) (i:=6) (id:=1) (seen:=se) (cM:=b.cM) (by simp[go_sem,nA]) rfl rfl aK (λhL=>?_) (λp hp=>?_);.have aT:=yW2 aa (hD.done hL) (t:=tn) (gU:=gU) (by rw[a7]) lo hi;simp[go_sem,ei];exact zH (i+1,acc++(D.filter (qf gU lo hi)).map (vl tn)) ⟨om,⟨q,by show(acc++_).Perm _;rw[B3 q,ai9,hg];grind,by grind⟩,bT 6 (by simp[go_sem];rfl) rfl (a6 _) dc (zC sg rfl)⟩
  .have ae:=KR (g:=V.str) aa.ok.nd (KU hp);have af:=hD.next aa.ok.nd hp;have aC:=(KS aa.ok.nd hp).length_eq;have an:=aB p hp;clear aB;obtain⟨⟨⟨pr,pk⟩,data⟩,dX⟩:=p;simp only[gT]at ae af aC an;have ab:(j8 (se++[dX]) b.W b.bs).length<(j8 se b.W b.bs).length:=by grind
   have al:=SG yL bI tn data an dc;have aD:vl tn ((pr,pk),data)=⟨pr,pk,(eO bI tn data).1⟩:=rfl;obtain⟨rf,aU⟩:=eX (eO bI tn data);rw[aU]at al aD;have ak:qf gU lo hi ((pr,pk),data)=((pr==gU)&&(!Op.bytesLess pk lo&&Op.bytesLess pk hi)):=rfl;clear aC hp an;refine(A1 (pr==gU)).elim (λr1=>?_) (λr1=>?_);rotate_left
   .have hE:qf gU lo hi ((pr,pk),data)=false:=by rw[ak,r1];rfl
    simp[go_sem,gT,qx,ae,r1];exact zH (se++[dX],D++[((pr,pk),data)]) ⟨ab,af,bT 7 (by simp[go_sem,hE];rfl) rfl (ad _ _) dc (zC (by simp[go_sem,hE]) rfl)⟩
   refine(A1 (Op.bytesLess pk lo)).elim (λr2=>?_) (λr2=>?_)
   .have hE:qf gU lo hi ((pr,pk),data)=false:=by rw[ak,r1,r2];rfl
    simp[go_sem,gT,qx,ae,r1,r2];exact zH (se++[dX],D++[((pr,pk),data)]) ⟨ab,af,bT 7 (by simp[go_sem,hE];rfl) rfl (ad _ _) dc (zC (by simp[go_sem,hE]) rfl)⟩
   refine(A1 (Op.bytesLess pk hi)).elim (λr3=>?_) (λr3=>?_);rotate_left
   .have hE:qf gU lo hi ((pr,pk),data)=false:=by rw[ak,r1,r2,r3];rfl
    simp[go_sem,gT,qx,ae,r1,r2,r3];exact zH (se++[dX],D++[((pr,pk),data)]) ⟨ab,af,bT 7 (by simp[go_sem,hE];rfl) rfl (ad _ _) dc (zC (by simp[go_sem,hE]) rfl)⟩
   have hE:qf gU lo hi ((pr,pk),data)=true:=by rw[ak,r1,r2,r3];rfl
   simp[go_sem,gT,qx,ae,r1,r2,r3];refine pC al ?_;simp[go_sem,jv,Br];have bg:(D.filter (qf gU lo hi)).length<=D.length:=Dk _ _;refine zF ⟨zT rfl,om⟩ ?_;simp[go_sem];exact zH (se++[dX],D++[((pr,pk),data)]) ⟨ab,af,bT 7 (by simp[go_sem,hE,aD];rfl) rfl (ad _ _) dc (zC (by simp[go_sem,hE,Dt]) rfl)⟩
 .have aV:i=G.length:=om;have bh:∀x:Ln,mn tn st x=((G.any λg=>(wY tn g).1==x.r)&&(!Op.bytesLess x.k lo&&Op.bytesLess x.k hi)):=(by grind[mn]);have ag:acc.Perm (l.filter (mn tn st)):=by have h:=yJ1 tn h3 st l;rw[hG,az]at h;rw[aV,Dq]at aj;exact aj.trans h
  have hlen:acc.length<=l.length:=by rw[ag.length_eq];grind
  obtain⟨M,hM⟩:=eX (fb tn T st l);have ao:st.cz=false->M=(l.filter (mn tn st),0):=λh=>by simp_all[fb]
  have aq:st.cz=true->M=oL T st [] (l.filter (mn tn st)):=λh=>by simp_all[fb]
  rw[hM];clear hM;refine zA ?_;simp[go_sem,q];refine zN (zA ?_);simp[go_sem];refine Rx Tryz.x7 rfl cB dc Tryz.ou Tryz.pH cB UP xP1 (f:=Ln.row) (kx:=Ln.at) (λx=>⟨_,rfl,rfl⟩) acc rfl om (λl' ar aE=>?_);have aF:=xf0 aa.fY (ar.symm.trans ag) aE;have au:acc.length=l'.length:=ar.length_eq;rw[<-aF]at ao aq;simp[go_sem,au];refine zN (zA ?_);simp[go_sem];refine zO (λh=>?_) (λh=>?_);.have hf:st.cz=false:=sU h;rw[ao hf];simp[go_sem];exact Vb dc rfl rfl
  .have hf:st.cz:=sU h;have hM:=aq hf;have bj:l'.length<=10000:=om;have aW:∀x∈l',eP x:=λx hx=>aa.rows x (by grind);have aX:T.bP.length<=maxLen:=(by decide:∀T∈bI,T.bP.length<=maxLen) T (B9 hT);clear ao aq aF ar aE aj ag;have ah:∀(m:List Ln),([a.ob .str,b.ob .str,sn.ob (V.int .i64),.box [.sl .ro yL,.sl .ro (bI.map bH.row),.mp 0,.mp 1,.mp 2],.box st.row,.cj (l'.map Ln.row) 3,.cj (m.map Ln.row) 3]:St).all (bO 7)=true:=(by simp_all[bO,cH,cF,Ln.row]);refine zN (zA ?_);simp[go_sem];refine FH 19 3 dc sg ?_;refine zN (zA ?_);simp[go_sem];refine zG (S:=Nat×List Ln) [0,1,5,19,105,106,107] (λu=>[.ptr 3 0,.int .i64 tn,.ptr 4 0,.cL 6 3 u.2.length 0 u.2.length,.cL 5 3 l'.length 0 l'.length,.int .i64 l'.length,.int .i64 u.1]) (λu=>[a.ob .str,b.ob .str,sn.ob (V.int .i64),.box [.sl .ro yL,.sl .ro (bI.map bH.row),.mp 0,.mp 1,.mp 2],.box st.row,.cj (l'.map Ln.row) 3,.cj (u.2.map Ln.row) 3]) (λu=>l'.length-u.1) (λu=>u.1<=l'.length/\u.2.length<=u.1/\oL T st u.2 (l'.drop u.1)=M) hc hb (0,[]) (by grind) ?_ ?_;.exact aN 7 (ah [])
   rintro⟨j,out⟩⟨hj,aY,hinv⟩;simp only at hj aY hinv;by_cases p:j<l'.length;rotate_left;.rw[A4 om,oL]at hinv;subst hinv;refine zA ?_;simp[go_sem,p];refine zA ?_;simp[go_sem];exact Vb dc rfl rfl
   have ej:=zR p om;obtain⟨x,hx⟩:=eX (l'[j]);have aZ:=aW x (hx▸A7 p);rw[A2 p,hx,Vc]at hinv;have ai:=KP T aX x.v aZ.ok st.bU aH.bU;obtain⟨⟨v,er⟩,hv⟩:∃kv,fN T x.v st.bU=kv:=⟨_,rfl⟩;rw[hv]at hinv ai;simp only at hinv;have aG:=TF v;obtain⟨tv,ba⟩:=eX (vg v);rw[ba]at hinv aG;refine zA ?_;simp[go_sem,p,hx];refine yB [(12,0)] 8 rfl kR kR ?_;simp[go_sem,aw,aI];refine yF ai cB (λ_=>⟨zD rfl,zP,oI st.bU,tV⟩) rfl ?_;simp[go_sem,dP];by_cases q2:er=0;rotate_left;.have av:(er !=0)=true:=sU q2;rw[ahP q2]at hinv;subst hinv;simp[go_sem,av];exact wC 4 (s:=cT a b sn) (r:=.cm [.sl .ro [],.int .i64 er]) rfl rfl (wK 4 dc a b sn) (A6 _) (yJ ⟨lJ,xJ rfl,tV⟩) (.inl ⟨q2,rfl,rfl⟩)
   have av:(er !=0)=false:=sU q2;rw[ahO (λh=>h q2)]at hinv;simp[go_sem,av];refine pC aG ?_;refine(A1 tv).elim (λt=>?_) (λt=>?_);.rw[ahP t]at hinv;simp[go_sem,t,Br];refine zF ⟨zT rfl,om⟩ ?_;simp[go_sem,ej];exact zH (j+1,out++[x]) ⟨om,(by grind),aN 7 (ah (out++[x]))⟩
   .rw[ahO (by rw[t];decide)]at hinv;simp[go_sem,t,ej];exact zH (j+1,out) ⟨om,(by grind),aN 7 (ah out)⟩
end Go.Proofs.YtefbicjgbaaieaaGreat
namespace Go.Proofs.YtefbicjgbaaieaaGreat
open Go Go.Vx Go.Proofs.Tryz
structure Ord(lt:Nat->Nat->Bool):Prop where
 Gl:∀i,lt i i=false
 tr:∀i j k,lt i j=true->lt j k=true->lt i k=true
 nt:∀i j k,lt i j=false->lt j k=false->lt i k=false
variable{a:Nat}{b:Nat}{i:Nat}{k:Nat}{m:Nat}{j:Nat}{lt:Nat->Nat->Bool}{f:Nat->Nat}{g:Nat->Nat}
def TO(lt:Nat->Nat->Bool)(i j:Nat):Prop:=lt i j=true\/lt j i=false/\i<j
theorem Ord.asym(o:Ord lt)(h:lt i j):lt j i=false:=by
 cases q:lt j i;.rfl
 .have:=o.tr _ _ _ h q;rw[o.Gl]at this;grind
theorem TO.trans(o:Ord lt)(h:TO lt i j)(g:TO lt j k):TO lt i k:=by cases q:lt i k with |true=>exact .inl q|false=>
  rcases h with h|⟨h,h'⟩
  .rcases g with g|⟨g,g'⟩;.rw[o.tr _ _ _ h g]at q;cases q
   .have:=o.nt _ _ _ q g;grind
  .rcases g with g|⟨g,g'⟩;.have:=o.nt _ _ _ h q;grind
   .exact .inr ⟨o.nt _ _ _ g h,om⟩
theorem TO.Gl(o:Ord lt)(h:TO lt i i):False:=by
 rcases h with h|⟨_,h⟩;.rw[o.Gl]at h;cases h
 .omega
theorem TO.x8(o:Ord lt)(h:j<i):TO lt j i↔lt i j=false:=⟨λq=>q.elim o.asym λq=>q.1,λq=>.inr ⟨q,h⟩⟩
def jd(lt:Nat->Nat->Bool)(f:Nat->Nat)(a b:Nat):Prop:=∀i j,a<=i->i<j->j<b->TO lt (f i) (f j)
def Mv(f f':Nat->Nat)(a b:Nat):Prop:=∃π:Nat->Nat,(∀k,a<=k->k<b->a<=π k/\π k<b)/\(∀k,k<a\/b<=k->π k=k)/\(∀i j,π i=π j->i=j)/\∀k,f' k=f (π k)
theorem Mv.refl(f:Nat->Nat)(a b:Nat):Mv f f a b:=⟨id,(by grind),sm,sm,λ_=>rfl⟩
theorem Mv.mono{f':Nat->Nat}{c d:Nat}(h:Mv f f' a b)(h1:c<=a)(h2:b<=d):Mv f f' c d:=by obtain⟨π,p1,p2,p3,p4⟩:=h;refine⟨π,λk k1 k2=>?_,(by grind),p3,p4⟩;grind
theorem Mv.trans{h:Nat->Nat}(p:Mv f g a b)(q:Mv g h a b):Mv f h a b:=by obtain⟨π,p1,p2,p3,p4⟩:=p;obtain⟨ρ,q1,q2,q3,q4⟩:=q;refine⟨λk=>π (ρ k),(by grind),(by grind),(by grind),(by grind)⟩;all_goals grind
theorem Mv.out(p:Mv f g a b)(h:k<a\/b<=k):g k=f k:=by obtain⟨π,p1,p2,p3,p4⟩:=p;grind
theorem Mv.at(p:Mv f g a b)(h1:a<=k)(h2:k<b):∃j,a<=j/\j<b/\g k=f j:=by obtain⟨π,p1,p2,p3,p4⟩:=p;grind
def sw(f:Nat->Nat)(i j:Nat):Nat->Nat:=λk=>if k=i then f j else if k=j then f i else f k
def ov(f:Nat->Nat)(a b n:Nat):Nat->Nat:=λk=>if a<=k/\k<a+n then f (k-a+b)else if b<=k/\k<b+n then f (k-b+a)else f k
theorem wv2(f:Nat->Nat)(a b:Nat):ov f a b 0=f:=by funext x;unfold ov;grind
theorem xT9(f:Nat->Nat)(h:a+i<b):sw (ov f a b i) (a+i) (b+i)=ov f a b (i+1):=by funext x;unfold sw ov;grind
def dh(f:Nat->Nat)(a m b:Nat):Nat->Nat:=λk=>if a<=k/\k<a+(b-m)then f (k+(m-a))else if a+(b-m)<=k/\k<b then f (k-(b-m))else f k
theorem Mv.K3(f:Nat->Nat)(h1:a<=m)(h2:m<=b):Mv f (dh f a m b) a b:=by
 refine⟨λk=>if a<=k/\k<a+(b-m)then k+(m-a)else if a+(b-m)<=k/\k<b then k-(b-m)else k,λk k1 k2=>?_,λk hk=>?_,λx y e=>?_,λk=>?_⟩;.grind
 .grind
 .grind
 .unfold dh;grind
theorem wq4(g:Nat->Nat)(h:j<i)(hi:i<=m):dh (ov g (m-i) m j) (m-(i-j)) m (m+j)=dh g (m-i) m (m+j):=by funext x;unfold dh ov;grind
theorem wq5(g:Nat->Nat)(h:i<j)(hi:i<=m):dh (ov g (m-i) (m+j-i) i) (m-i) m (m+(j-i))=dh g (m-i) m (m+j):=by funext x;unfold dh ov;grind
theorem wq3(g:Nat->Nat)(hi:i<=m):ov g (m-i) m i=dh g (m-i) m (m+i):=by funext x;unfold dh ov;grind
theorem wv3(f:Nat->Nat)(h:a<=k):sw (dh f a (a+1) (k+1)) k (k+1)=dh f a (a+1) (k+2):=by funext x;unfold sw dh;grind
theorem Vd(f:Nat->Nat)(a m:Nat):dh f a m m=f:=by funext x;unfold dh;grind
theorem Ve(f:Nat->Nat)(h:k<=m)(hk:0<k):sw (dh f k m (m+1)) k (k-1)=dh f (k-1) m (m+1):=by funext x;unfold sw dh;grind
theorem OY(f:Nat->Nat)(m b:Nat):dh f m m b=f:=by funext x;unfold dh;grind
theorem ug(f:Nat->Nat)(h:a<=k/\k<a+(b-m)):dh f a m b k=f (k+(m-a)):=by simp_all[dh]
theorem uh(f:Nat->Nat)(h:a+(b-m)<=k/\k<b):dh f a m b k=f (k-(b-m)):=by simp_all[dh,ahO]
theorem qh(f:Nat->Nat)(hm:m<=b)(h0:a<=m)(h:k<a\/b<=k):dh f a m b k=f k:=by unfold dh;grind
section
variable{lt:Nat->Nat->Bool}{f:Nat->Nat}
theorem wc3{a b i:Nat}(hs:jd lt f (a+1) b)(h1:a+1<=i)(h2:i<=b)(hl:∀x,a+1<=x->x<i->TO lt (f x) (f a))(hr:∀x,i<=x->x<b->TO lt (f a) (f x)):jd lt (dh f a (a+1) i) a b:=by
 intro x y hx aa hy;rcases Ba y (i-1)with q|q|q;.rw[ug f om,ug f om];exact hs _ _ om om om
 .grind[ug,uh]
 .rw[qh f om om (k:=y) om];rcases Ba x (i-1)with p|p|p;.rw[ug f om];exact hs _ _ om om om
  .grind[uh]
  .rw[qh f om om (k:=x) om];exact hs _ _ om om om
theorem Vf{a m i:Nat}(hs:jd lt f a m)(h1:a<=i)(h2:i<=m)(hl:∀x,a<=x->x<i->TO lt (f x) (f m))(hr:∀x,i<=x->x<m->TO lt (f m) (f x)):jd lt (dh f i m (m+1)) a (m+1):=by
 intro x y hx aa hy;rcases Ba x i with q|q|q
 .rw[qh f om om (k:=x) om];rcases Ba y i with p|p|p;.rw[qh f om om (k:=y) om];exact hs _ _ om om om
  .grind[ug]
  .rw[uh f om];exact hs _ _ om om om
 .rw[ug f om,show x+(m-i)=m by omega,uh f om];grind
 .rw[uh f om,uh f om];exact hs _ _ om om om
theorem xy5(o:Ord lt){a m b eE s e lo hi:Nat}(ha:a<m)(hb:m<b)(al:eE=(a+b)/2)(ad:jd lt f a m)(ae:jd lt f m b)(ai:lo=if eE<m then eE+m-b else a)(aj:hi=if eE<m then eE else m)(h1:lo<=s)(h2:s<=hi)(he:e=eE+m-s)(hl:∀c,lo<=c->c<s->TO lt (f c) (f (eE+m-1-c)))(hr:∀c,s<=c->c<hi->TO lt (f (eE+m-1-c)) (f c)):(a<=s/\s<=eE/\s<=m/\m<=e/\eE<=e/\e<=b/\s+(e-m)=eE)/\(∀x y,a<=x->x<eE->eE<=y->y<b->TO lt (dh f s m e x) (dh f s m e y))/\jd lt (dh f s m e) a s/\jd lt (dh f s m e) s eE/\jd lt (dh f s m e) eE e/\jd lt (dh f s m e) e b:=by
 have hm:eE*2<=a+b/\a+b<=eE*2+1:=om;have ak:a<=s/\s<=eE/\s<=m/\m<=e/\eE<=e/\e<=b/\s+(e-m)=eE/\a<eE/\eE<b:=by split at ai<;>split at aj<;>omega
 obtain⟨r1,r2,r3,r4,r5,r6,r7,r8,r9⟩:=ak;have k1:∀x,a<=x->x<s->∀y,s<=y->y<m->TO lt (f x) (f y):=λx aa ag y ah ab=>ad _ _ aa om ab;have k2:∀x,m<=x->x<e->∀y,e<=y->y<b->TO lt (f x) (f y):=λx aa ag y ah ab=>ae _ _ aa om ab;have k3:∀x,a<=x->x<s->∀y,e<=y->y<b->TO lt (f x) (f y):=λx aa ag y ah ab=>by
  have q:lo<=s-1:=by split at ai<;>omega
  have h:=hl (s-1) q om;rw[show eE+m-1-(s-1)=e by omega]at h;have h3:TO lt (f x) (f e):=by
   by_cases hx:x=s-1;.rw[hx];exact h
   .exact(ad x (s-1) aa om om).trans o h
  by_cases hy:y=e;.rw[hy];exact h3
  .exact h3.trans o (ae _ _ om om ab)
 have k4:∀x,m<=x->x<e->∀y,s<=y->y<m->TO lt (f x) (f y):=λx aa ag y ah ab=>by
  have q:s<hi:=by split at aj<;>omega
  have h:=hr s (A6 _) q;have h3:TO lt (f x) (f s):=by
   by_cases hx:x=eE+m-1-s;.rw[hx];exact h
   .exact(ae x (eE+m-1-s) aa om om).trans o h
  by_cases hy:y=s;.rw[hy];exact h3
  .exact h3.trans o (ad _ _ om om ab)
 refine⟨⟨r1,r2,r3,r4,r5,r6,r7⟩,λx y aa ag ah ab=>?_,λx y hx af hy=>?_,λx y hx af hy=>?_,λx y hx af hy=>?_,λx y hx af hy=>?_⟩
 .by_cases c1:x<s
  .rw[qh f r4 r3 (k:=x) om];by_cases c2:y<e;.rw[uh f om];exact k1 _ aa c1 _ om om
   .rw[qh f r4 r3 (k:=y) om];exact k3 _ aa c1 _ om ab
  .rw[ug f om];by_cases c2:y<e;.rw[uh f om];exact k4 _ om om _ om om
   .rw[qh f r4 r3 (k:=y) om];exact k2 _ om om _ om ab
 .rw[qh f r4 r3 om,qh f r4 r3 om];exact ad _ _ hx af om
 .rw[ug f om,ug f om];exact ae _ _ om om om
 .rw[uh f om,uh f om];exact ad _ _ om om om
 .rw[qh f r4 r3 om,qh f r4 r3 om];exact ae _ _ om af hy
end
variable{f:Nat->Nat}{lt:Nat->Nat->Bool}{a:Nat}{b:Nat}{w:Nat}{f':Nat->Nat}{n:Nat}{t:Nat}{m:Nat}{eE:Nat}
def uj(f:Nat->Nat)(a m b:Nat):Prop:=∀x y,a<=x->x<m->m<=y->y<b->f x<f y
theorem uj.Ik{s e:Nat}(h:uj f a m b)(h2:s<=m)(h3:m<=e)(h4:e<=b)(h5:s+(e-m)=eE):uj (dh f s m e) a s eE:=by intro x y aa ab ad ae;rw[qh f h3 h2 om,ug f om];exact h _ _ aa om om om
theorem uj.Il{s e:Nat}(h:uj f a m b)(h1:a<=s)(h2:s<=m)(h3:m<=e)(h5:s+(e-m)=eE):uj (dh f s m e) eE e b:=by intro x y aa ab ad ae;rw[uh f om,qh f h3 h2 (k:=y) om];exact h _ _ om om om om
def kF(lt:Nat->Nat->Bool)(f g:Nat->Nat)(a b:Nat):Prop:=Mv f g a b/\jd lt g a b
theorem kF.both{g h1 h2:Nat->Nat}(h0:Mv f g a b)(hp:∀x y,a<=x->x<eE->eE<=y->y<b->TO lt (g x) (g y))(hm:a<=eE/\eE<=b)(q1:kF lt g h1 a eE)(q2:kF lt h1 h2 eE b):kF lt f h2 a b:=by
 refine⟨(h0.trans (q1.1.mono om hm.2)).trans (q2.1.mono hm.1 om),λx y hx aa hy=>?_⟩;by_cases c1:y<eE;.rw[q2.1.out om,q2.1.out om];exact q1.2 _ _ hx aa c1
 .by_cases c2:eE<=x;.exact q2.2 _ _ c2 aa hy
  .rw[q2.1.out (k:=x) om];obtain⟨i,i1,i2,i3⟩:=q1.1.at hx om;obtain⟨j,j1,j2,j3⟩:=q2.1.at (k:=y) om hy;rw[i3,j3,q1.1.out (k:=j) om];grind
theorem kF.id(h:jd lt f a b):kF lt f f a b:=⟨.refl f a b,h⟩
def kN(lt:Nat->Nat->Bool)(f:Nat->Nat)(a b:Nat):Prop:=(∀k,a<=k->k<b->a<=f k/\f k<b)/\jd lt f a b
theorem kN.Vg(h:kN lt f a m)(g:kN lt f m b):uj f a m b:=λx y aa ab ad ae=>by have:=h.1 x aa ab;have:=g.1 y ad ae;omega
theorem kN.merged(h:kN lt f a m)(g:kN lt f m b)(hm:a<=m/\m<=b)(q:kF lt f f' a b):kN lt f' a b:=by
 refine⟨λk h1 h2=>?_,q.2⟩;obtain⟨j,j1,j2,j3⟩:=q.1.at h1 h2;rw[j3];by_cases c:j<m;.have:=h.1 j j1 c;omega
 .have:=g.1 j om j2;omega
theorem kN.uk{c d:Nat}(h:kN lt f c d)(q:Mv f f' a b)(hd:d<=a\/b<=c):kN lt f' c d:=by
 refine⟨λk h1 h2=>?_,λx y hx aa hy=>?_⟩;.rw[q.out om];exact h.1 k h1 h2
 .rw[q.out om,q.out om];exact h.2 x y hx aa hy
theorem kN.sorted(h:∀k,a<=k->f k=k)(q:kF lt f f' a b):kN lt f' a b:=by refine⟨λk h1 h2=>?_,q.2⟩;obtain⟨j,j1,j2,j3⟩:=q.1.at h1 h2;grind
def mX(lt:Nat->Nat->Bool)(f:Nat->Nat)(w n:Nat):Prop:=∀q,q*w<n->kN lt f (q*w) (min (q*w+w) n)
def jV(lt:Nat->Nat->Bool)(f:Nat->Nat)(w n t:Nat):Prop:=(∀q,q<t->kN lt f (q*(2*w)) (q*(2*w)+2*w))/\∀q,2*t<=q->q*w<n->kN lt f (q*w) (min (q*w+w) n)
theorem jV.start(h:mX lt f w n):jV lt f w n 0:=⟨om,(by simpa)⟩
theorem jV.pair(h:jV lt f w n t)(hw:0<w)(hm:t*(2*w)+w<n):kN lt f (t*(2*w)) (t*(2*w)+w)/\kN lt f (t*(2*w)+w) (min (t*(2*w)+2*w) n):=by
 have e1:2*t*w=t*(2*w):=by grind
 have e2:(2*t+1)*w=t*(2*w)+w:=by grind
 have h1:=h.2 (2*t) om om;have h2:=h.2 (2*t+1) om om;grind
theorem jV.next(h:jV lt f w n t)(hw:0<w)(hb:t*(2*w)+2*w<=n)(q:kF lt f f' (t*(2*w)) (t*(2*w)+2*w)):jV lt f' w n (t+1):=by
 have e1:2*t*w=t*(2*w):=by grind
 have hp:=h.pair hw om;refine⟨λp aa=>?_,λp aa h1=>?_⟩
 .by_cases c:p=t;.subst c;rw[show min (p*(2*w)+2*w) n=p*(2*w)+2*w by omega]at hp;exact hp.1.merged hp.2 om q
  .have:=Ae (2*w) (show p+1<=t by omega);rw[B0,D5]at this;exact(h.1 p om).uk q.1 (.inl this)
 .have:=Ae w (show 2*t+2<=p by omega);rw[B0,e1]at this;exact(h.2 p om h1).uk q.1 (.inr this)
theorem jV.last(h:jV lt f w n t)(hw:0<w)(hm:t*(2*w)+w<n)(hb:n<t*(2*w)+2*w)(q:kF lt f f' (t*(2*w)) n):mX lt f' (2*w) n:=by
 have hp:=h.pair hw hm;rw[show min (t*(2*w)+2*w) n=n by omega]at hp;intro p h1;rcases Ba p t with c|c|c;.have:=Ae (2*w) (show p+1<=t by omega);rw[B0,D5]at this;rw[show min (p*(2*w)+2*w) n=p*(2*w)+2*w by omega];exact(h.1 p c).uk q.1 (.inl this)
 .subst c;rw[show min (p*(2*w)+2*w) n=n by omega];exact hp.1.merged hp.2 om q
 .have:=Ae (2*w) (show t+1<=p by omega);grind
theorem jV.none(h:jV lt f w n t)(h0:t*(2*w)<=n)(hm:n<=t*(2*w)+w):mX lt f (2*w) n:=by
 have e1:2*t*w=t*(2*w):=by grind
 intro p h1;rcases Ba p t with c|c|c;.have:=Ae (2*w) (show p+1<=t by omega);rw[B0,D5]at this;rw[show min (p*(2*w)+2*w) n=p*(2*w)+2*w by omega];exact h.1 p c
 .subst c;have:=h.2 (2*p) om om;grind
 .have:=Ae (2*w) (show t+1<=p by omega);grind
theorem mX.all(h:mX lt f w n)(hw:n<=w):kN lt f 0 n:=by
 by_cases c:n=0;.subst c;exact⟨om,λx y _ _ h=>om⟩
 .have:=h 0 om;grind
theorem xb3(h1:∀q,q<t->kN lt f (q*w) (q*w+w))(h2:∀k,t*w<=k->f k=k)(ht:t*w<=n)(hn:n<t*w+w)(q:kF lt f f' (t*w) n):mX lt f' w n:=by
 intro p hp;rcases Ba p t with c|c|c;.have:=Ae w (show p+1<=t by omega);rw[B0,D5]at this;rw[show min (p*w+w) n=p*w+w by omega];exact(h1 p c).uk q.1 (.inl this)
 .grind[kN.sorted]
 .have:=Ae w (show t+1<=p by omega);grind
theorem xu6(h1:∀q,q<t->kN lt f (q*w) (q*w+w))(h2:∀k,t*w<=k->f k=k)(q:kF lt f f' (t*w) (t*w+w)):(∀q,q<t+1->kN lt f' (q*w) (q*w+w))/\∀k,(t+1)*w<=k->f' k=k:=by
 refine⟨λp hp=>?_,λk hk=>?_⟩
 .by_cases c:p=t;.grind[kN.sorted]
  .have:=Ae w (show p+1<=t by omega);rw[B0,D5]at this;exact(h1 p om).uk q.1 (.inl this)
 .rw[B0,D5]at hk;rw[q.1.out om];grind
end Go.Proofs.YtefbicjgbaaieaaGreat
namespace Go.Proofs.YtefbicjgbaaieaaGreat
open Go Go.Vx Go.Proofs.Tryz
set_option maxRecDepth 100000
@[go_sem]theorem Im:eT prog 215=some 1:=kR
@[go_sem]theorem Gm:cQ prog 215=some false:=kR
@[go_sem]theorem Io:eT prog 306=some 1:=kR
@[go_sem]theorem Gn:cQ prog 306=some false:=kR
def fk(cd:St)(id s n:Nat)(row:Nat->List V)(f:Nat->Nat):St:=cd.set id (.cj ((List.range n).map λk=>row (f k)) s)
theorem BK(cd:St)(id s n:Nat)(row:Nat->List V)(f:Nat->Nat):(fk cd id s n row f).length=cd.length:=by simp[fk]
structure SC(P:Program)(gl gs:FuncId)(cl cs:List V)(cd:St)(id s n:Nat)(row:Nat->List V)(lt:Nat->Nat->Bool):Prop where
 here:id<cd.length
 nn:n<=1000000Ip:cl.all (cF cd.length)=true
 BL:cs.all (cF cd.length)=true
 Iq:cd.all (bO cd.length)=true
 ED:∀k,(row k).all (cH cd.length)=true
 less:∀(c:Ctx)(τ:St)(f:Nat->Nat)(i j:Nat)(K:V->St->Prop),i<n->j<n->i≠j->K (.bool (lt (f i) (f j))) (fk cd id s n row f++τ)->jE P c (.fn gl cl) [.int .i64 i,.int .i64 j] (fk cd id s n row f++τ) K fx
 swap:∀(c:Ctx)(τ:St)(f:Nat->Nat)(i j:Nat)(K:V->St->Prop),i<n->j<n->i≠j->K (.cm []) (fk cd id s n row (sw f i j)++τ)->jE P c (.fn gs cs) [.int .i64 i,.int .i64 j] (fk cd id s n row f++τ) K fx
section
variable{gl gs:FuncId}{cl cs:List V}{cd:St}{id s n:Nat}{row:Nat->List V}{lt:Nat->Nat->Bool}
theorem SC.iw(S:SC prog gl gs cl cs cd id s n row lt)(f:Nat->Nat):(fk cd id s n row f).all (bO cd.length)=true:=by
 unfold fk;rw[Aj];intro o ho;rcases List.mem_or_eq_of_mem_set ho with h|rfl;.exact Aj.1 S.Iq o h
 .simp only[bO,Aj];intro r hr x hx;obtain⟨k,_,rfl⟩:=Aa.1 hr;exact Aj.1 (S.ED (f k)) x hx
def fC(gl gs:FuncId)(cl cs:List V):Ob:=.box [.fn gl cl,.fn gs cs]
theorem yY6(S:SC prog gl gs cl cs cd id s n row lt)(f:Nat->Nat)(a b m:Nat)(h1:a+m<=b)(h2:b+m<=n):bL prog 359 [.agg [.fn gl cl,.fn gs cs],.int .i64 a,.int .i64 b,.int .i64 m] (fk cd id s n row f) (λr t=>r=.cm []/\t=fk cd id s n row (ov f a b m)):=by
 have hn:=S.nn;refine bL.jL (fk cd id s n row f).length func359 ntmps359 results359 rfl rfl (Cc rfl) λc hc hb=>?_;have hl:∀g,(fk cd id s n row g).length=cd.length:=λg=>BK ..;refine zA ?_;simp[go_sem,hl];refine zG (S:=Nat) [1,2,3,4,8] (λi=>[.int .i64 a,.int .i64 b,.int .i64 m,.ptr cd.length 0,.int .i64 i]) (λi=>fk cd id s n row (ov f a b i)++[fC gl gs cl cs]) (λi=>m-i) (λi=>i<=m) (hc.trans (hl f)) hb 0 (A3 _) ?_ ?_;.rw[wv2];exact zY (by simp[hl]) sg
 rintro i hi;have hd:∀g,(fk cd id s n row g++[fC gl gs cl cs])[cd.length]?=some (.box [.fn gl cl,.fn gs cs]):=λg=>by rw[Bb (by rw[hl];exact A6 _),hl];simp[fC]
 by_cases q:i<m;rotate_left;.have ab:i=m:=om;subst ab;refine zA ?_;simp[go_sem];exact wC cd.length (C9 (hl _)) (hl _) (S.iw _) (D7 (hl f)) (zD rfl) ⟨rfl,rfl⟩
 have ea:IntKind.i64.wrap ((a:Int)+i)=((a+i:Nat):Int):=by rw[bR om om];omega
 have eb:IntKind.i64.wrap ((b:Int)+i)=((b+i:Nat):Int):=by rw[bR om om];omega
 have ei:=zR q om;have aa:=λK=>S.swap c [fC gl gs cl cs] (ov f a b i) (a+i) (b+i) K om om om;rw[xT9 f om]at aa;refine zA ?_;simp[go_sem,q,hd,ea,eb];refine aa _ ?_;simp[go_sem,ei];exact zH (i+1) ⟨om,om,zY (by simp[hl]) sg⟩
end
section
variable{gl gs:FuncId}{cl cs:List V}{cd:St}{id s n:Nat}{row:Nat->List V}{lt:Nat->Nat->Bool}
theorem K4(f:Nat->Nat):(fk cd id s n row f++[fC gl gs cl cs])[cd.length]?=some (.box [.fn gl cl,.fn gs cs]):=by rw[Bb (by rw[BK];exact A6 _),BK];simp[fC]
theorem xL2(o:Ord lt){f g:Nat->Nat}{a b i j:Nat}(hi:i<b)(aa:∀x y,a<=x->x<y->y<b->f x<f y)(hm:Mv f g a i)(hs:jd lt g a i)(ab:a<=j)(ad:j<=i)(hl:∀x,j<=x->x<i->lt (g i) (g x))(he:j=a\/lt (g i) (g (j-1))=false):Mv f (dh g j i (i+1)) a (i+1)/\jd lt (dh g j i (i+1)) a (i+1):=by
 refine⟨(hm.mono (A6 _) (Nat.le_succ _)).trans ((Mv.K3 g ad (Nat.le_succ _)).mono ab (A6 _)),?_⟩;refine Vf hs ab ad (λx h1 h2=>?_) (λx h1 h2=>.inl (hl x h1 h2));rcases he with he|he;.omega
 have ae:g i=f i:=hm.out (.inr (A6 _));obtain⟨y,y1,y2,y3⟩:=hm.at (k:=j-1) om om;have af:g (j-1)<g i:=by rw[y3,ae];exact aa y i y1 y2 hi
 have h3:TO lt (g (j-1)) (g i):=(TO.x8 o af).2 he;by_cases q:x=j-1;.rw[q];exact h3
 .exact(hs x (j-1) h1 om om).trans o h3
theorem Vh(S:SC prog gl gs cl cs cd id s n row lt)(o:Ord lt)(f:Nat->Nat)(a b:Nat)(ae:a<=b)(af:b<=n)(aa:∀x y,a<=x->x<y->y<b->f x<f y):bL prog 301 [.agg [.fn gl cl,.fn gs cs],.int .i64 a,.int .i64 b] (fk cd id s n row f) (λr t=>r=.cm []/\∃g,t=fk cd id s n row g/\kF lt f g a b):=by
 have hn:=S.nn;refine bL.jL (fk cd id s n row f).length func301 ntmps301 results301 rfl rfl (Cc rfl) λc hc hb=>?_;have hl:∀g,(fk cd id s n row g).length=cd.length:=λg=>BK ..;have ad:IntKind.i64.wrap ((a:Int)+1)=((a+1:Nat):Int):=by rw[bR om om];omega
 refine zA ?_;simp[go_sem,hl,ad];refine zG (S:=Nat×(Nat->Nat)) [1,2,3,6] (λu=>[.int .i64 a,.int .i64 b,.ptr cd.length 0,.int .i64 u.1]) (λu=>fk cd id s n row u.2++[fC gl gs cl cs]) (λu=>b-u.1) (λu=>a+1<=u.1/\Mv f u.2 a (min u.1 b)/\jd lt u.2 a (min u.1 b)) (hc.trans (hl f)) hb (a+1,f) ⟨A6 _,Mv.refl _ _ _,λx y h1 h2 h3=>om⟩ ?_ ?_;.exact zY (by simp[hl]) sg
 rintro⟨i,g⟩⟨hi,hm,hs⟩;simp only at hi hm hs;by_cases q:i<b;rotate_left;.rw[Nat.min_eq_right om]at hm hs;refine zA ?_;simp[go_sem,q];exact wC cd.length (C9 (hl _)) (hl _) (S.iw _) (D7 (hl f)) (zD rfl) ⟨rfl,g,rfl,hm,hs⟩
 rw[Dj om]at hm hs;have ei:=zR q om;have hd:=K4 (cd:=cd) (id:=id) (s:=s) (n:=n) (row:=row) (gl:=gl) (gs:=gs) (cl:=cl) (cs:=cs);refine zA ?_;simp[go_sem,q];refine zG (S:=Nat) [1,2,3,6,7] (λj=>[.int .i64 a,.int .i64 b,.ptr cd.length 0,.int .i64 i,.int .i64 j]) (λj=>fk cd id s n row (dh g j i (i+1))++[fC gl gs cl cs]) (λj=>j) (λj=>a<=j/\j<=i/\∀x,j<=x->x<i->lt (g i) (g x)=true) (hc.trans (hl f)) hb i ⟨om,A6 _,λx h1 h2=>om⟩ ?_ ?_;.rw[OY];exact zY (by simp[hl]) sg
 rintro j ⟨h1,h2,h3⟩;have fin:∀(he:j=a\/lt (g i) (g (j-1))=false),Mv f (dh g j i (i+1)) a (min (i+1) b)/\jd lt (dh g j i (i+1)) a (min (i+1) b):=λhe=>by rw[Dj om];exact xL2 o q aa hm hs h1 h2 h3 he
 by_cases p:a<j;rotate_left;.have p':¬((a:Int)<j):=om;obtain⟨f1,f2⟩:=fin (.inl om);refine zA ?_;simp[go_sem,p,ei];exact zH (i+1,dh g j i (i+1)) ⟨by show b-(i+1)<b-i;omega,⟨by show a+1<=i+1;omega,f1,f2⟩,zY (by simp[hl]) sg⟩
 have ej:IntKind.i64.wrap ((j:Int)-1)=((j-1:Nat):Int):=by rw[bR om om];omega
 have hle:=λK=>S.less c [fC gl gs cl cs] (dh g j i (i+1)) j (j-1) K om om om;have ab:=λK=>S.swap c [fC gl gs cl cs] (dh g j i (i+1)) j (j-1) K om om om;rw[Ve g h2 om]at ab;have e1:dh g j i (i+1) j=g i:=by rw[ug g om];congr 1;omega
 have e2:dh g j i (i+1) (j-1)=g (j-1):=qh g om h2 om;rw[e1,e2]at hle;refine zA ?_;simp[go_sem,p,hd,ej];refine hle _ ?_;cases hL:lt (g i) (g (j-1))with |false=>obtain⟨f1,f2⟩:=fin (.inr hL);simp[go_sem,ei];exact zH (i+1,dh g j i (i+1)) ⟨by show b-(i+1)<b-i;omega,⟨by show a+1<=i+1;omega,f1,f2⟩,zY (by simp[hl]) sg⟩|true=>simp[go_sem,hd,ej];refine ab _ ?_;simp[go_sem,ej];exact zH (j-1) ⟨om,⟨om,om,λx x1 x2=>by
   by_cases c1:x=j-1;.rw[c1];exact hL
   .exact h3 x om x2⟩,zY (by simp[hl]) sg⟩
end
section
variable{gl gs:FuncId}{cl cs:List V}{cd:St}{id s n:Nat}{row:Nat->List V}{lt:Nat->Nat->Bool}
theorem SC.call(S:SC prog gl gs cl cs cd id s n row lt){F:FuncId}{ints:List V}{g:Nat->Nat}{Q:(Nat->Nat)->Prop}{c:Ctx}{τ:St}{K:V->St->Prop}(hc:bL prog F (.agg [.fn gl cl,.fn gs cs]::ints) (fk cd id s n row g) (λr t=>r=.cm []/\∃g',t=fk cd id s n row g'/\Q g'))(hb:wQ prog F)(hi:ints.all iH)(hK:∀g',Q g'->K (.cm []) (fk cd id s n row g'++τ)):jE prog c (.fn F []) (.agg [.fn gl cl,.fn gs cs]::ints) (fk cd id s n row g++τ) K fx:=by
 have hl:∀g,(fk cd id s n row g).length=cd.length:=λg=>BK ..;refine sf cd.length hc hb (C9 (hl _)) (hl _) (S.iw _) ?_ ?_ ?_;.rw[Ay];exact⟨o7 (by simp[jZ,l8,cH,S.Ip,S.BL]),yC hi⟩
 .rintro r t ⟨rfl,g',rfl,_⟩;exact⟨hl _,S.iw _,rfl⟩
 .rintro r t ⟨rfl,g',rfl,hq⟩;rw[List.drop_left' (hl _)];exact hK g' hq
theorem xR4(S:SC prog gl gs cl cs cd id s n row lt)(f:Nat->Nat)(a m b:Nat)(h1:a<m)(h2:m<b)(h3:b<=n):bL prog 345 [.agg [.fn gl cl,.fn gs cs],.int .i64 a,.int .i64 m,.int .i64 b] (fk cd id s n row f) (λr t=>r=.cm []/\∃g,t=fk cd id s n row g/\g=dh f a m b):=by
 have hn:=S.nn;have ab:∀g x y k,x+k<=y->y+k<=n->bL prog 359 [.agg [.fn gl cl,.fn gs cs],.int .i64 (x:Nat),.int .i64 (y:Nat),.int .i64 (k:Nat)] (fk cd id s n row g) (λr t=>r=.cm []/\∃g',t=fk cd id s n row g'/\g'=ov g x y k):=λg x y k q1 q2=>(yY6 S g x y k q1 q2).mono λr t h=>⟨h.1,_,h.2,rfl⟩;refine bL.jL (fk cd id s n row f).length func345 ntmps345 results345 rfl rfl (Cc rfl) λc hc hb=>?_;have hl:∀g,(fk cd id s n row g).length=cd.length:=λg=>BK ..;have hd:=K4 (cd:=cd) (id:=id) (s:=s) (n:=n) (row:=row) (gl:=gl) (gs:=gs) (cl:=cl) (cs:=cs);have e1:IntKind.i64.wrap ((m:Int)-a)=((m-a:Nat):Int):=by rw[bR om om];omega
 have e2:IntKind.i64.wrap ((b:Int)-m)=((b-m:Nat):Int):=by rw[bR om om];omega
 refine zA ?_;simp[go_sem,hl,e1,e2];refine zG (S:=Nat×Nat×(Nat->Nat)) [1,2,3,4,8,9] (λu=>[.int .i64 a,.int .i64 m,.int .i64 b,.ptr cd.length 0,.int .i64 u.1,.int .i64 u.2.1]) (λu=>fk cd id s n row u.2.2++[fC gl gs cl cs]) (λu=>u.1+u.2.1) (λu=>0<u.1/\0<u.2.1/\u.1<=m/\m+u.2.1<=n/\dh u.2.2 (m-u.1) m (m+u.2.1)=dh f a m b) (hc.trans (hl f)) hb (m-a,b-m,f) ⟨by show 0<m-a;omega,by show 0<b-m;omega,by show m-a<=m;omega,by show m+(b-m)<=n;omega,by show dh f (m-(m-a)) m (m+(b-m))=_;rw[show m-(m-a)=a by omega,show m+(b-m)=b by omega]⟩ ?_ ?_;.exact zY (by simp[hl]) sg
 rintro⟨i,j,g⟩⟨hi,hj,aa,ae,hg⟩;simp only at hi hj aa ae hg;have ad:IntKind.i64.wrap ((m:Int)-i)=((m-i:Nat):Int):=by rw[bR om om];omega
 rcases Ba i j with q|q|q
 .have p1:((i:Int)!=j)=true:=by simp;omega
  have p2:¬((j:Int)<i):=om;have p3:¬(j<i):=om;have p4:¬i=j:=om;have ea:IntKind.i64.wrap ((m:Int)+j)=(m:Int)+j:=bR om om;have eb:IntKind.i64.wrap ((m:Int)+j-i)=((m+j-i:Nat):Int):=by rw[bR om om];omega
  have ej:IntKind.i64.wrap ((j:Int)-i)=((j-i:Nat):Int):=by rw[bR om om];omega
  refine zA ?_;simp[go_sem,p1,p2,hd,ad,ea,eb];refine S.call (ab g (m-i) (m+j-i) i om om) cB rfl ?_;rintro g' rfl;simp[go_sem,ej];exact zH (i,j-i,ov g (m-i) (m+j-i) i) ⟨by show i+(j-i)<i+j;omega,⟨hi,by show 0<j-i;omega,aa,by show m+(j-i)<=n;omega,by show dh _ (m-i) m (m+(j-i))=_;rw[wq5 g q aa];exact hg⟩,zY (by simp[hl]) sg⟩
 .subst q;refine zA ?_;simp[go_sem,hd,ad];refine S.call (ab g (m-i) m i om om) cB rfl ?_;rintro g' rfl;rw[wq3 g aa,hg];simp[go_sem];exact wC cd.length (C9 (hl _)) (hl _) (S.iw _) (D7 (hl f)) (zD rfl) ⟨rfl,rfl⟩
 .have p1:((i:Int)!=j)=true:=by simp;omega
  have p2:(j:Int)<i:=om;have p4:¬i=j:=om;have ei:IntKind.i64.wrap ((i:Int)-j)=((i-j:Nat):Int):=by rw[bR om om];omega
  refine zA ?_;simp[go_sem,p1,p2,hd,ad];refine S.call (ab g (m-i) m j om om) cB rfl ?_;rintro g' rfl;simp[go_sem,ei];exact zH (i-j,j,ov g (m-i) m j) ⟨by show i-j+j<i+j;omega,⟨by show 0<i-j;omega,hj,by show i-j<=m;omega,ae,by show dh _ (m-(i-j)) m (m+j)=_;rw[wq4 g q aa];exact hg⟩,zY (by simp[hl]) sg⟩
end
section
variable {lt:Nat->Nat->Bool}
variable {x:Nat}{h:Nat}{a:Nat}
theorem wt9(o:Ord lt)(t:TO lt x h)(g:lt h a):lt x a=true:=by
 rcases t with t|⟨t,_⟩;.exact o.tr _ _ _ t g
 .cases q:lt x a with|true=>rfl|false=>have:=o.nt _ _ _ t q;grind
theorem wo1(o:Ord lt)(t:TO lt h x)(g:lt h a=false):lt x a=false:=by cases q:lt x a with |false=>rfl|true=>
  rcases t with t|⟨t,_⟩;.have:=o.tr _ _ _ t q;grind
  .have:=o.nt _ _ _ t g;grind
theorem wv6(o:Ord lt)(t:TO lt h x)(g:lt a h):lt a x=true:=by
 rcases t with t|⟨t,_⟩;.exact o.tr _ _ _ g t
 .cases q:lt a x with|true=>rfl|false=>have:=o.nt _ _ _ q t;grind
theorem wr3(o:Ord lt)(t:TO lt x h)(g:lt a h=false):lt a x=false:=by cases q:lt a x with |false=>rfl|true=>
  rcases t with t|⟨t,_⟩;.have:=o.tr _ _ _ q t;grind
  .have:=o.nt _ _ _ g t;grind
end
theorem K5{i j:Nat}(h:i+j<4000000000):IntKind.i64.wrap ((IntKind.u64.wrap (IntKind.i64.wrap ((i:Int)+j))).fdiv 2)=(((i+j)/2:Nat):Int):=by grind[bR,cC]
section
variable{gl gs:FuncId}{cl cs:List V}{cd:St}{id s n:Nat}{row:Nat->List V}{lt:Nat->Nat->Bool}
theorem yv2(S:SC prog gl gs cl cs cd id s n row lt)(o:Ord lt)(f:Nat->Nat)(a m b:Nat)(h1:a<m)(h2:m<b)(h3:b<=n)(ag:jd lt f a m)(af:jd lt f m b)(ae:uj f a m b)(ih:∀f a' m b',b'-a'<b-a->a'<m->m<b'->b'<=n->jd lt f a' m->jd lt f m b'->uj f a' m b'->bL prog 302 [.agg [.fn gl cl,.fn gs cs],.int .i64 (a':Nat),.int .i64 (m:Nat),.int .i64 (b':Nat)] (fk cd id s n row f) (λr t=>r=.cm []/\∃g,t=fk cd id s n row g/\kF lt f g a' b')):bL prog 302 [.agg [.fn gl cl,.fn gs cs],.int .i64 a,.int .i64 m,.int .i64 b] (fk cd id s n row f) (λr t=>r=.cm []/\∃g,t=fk cd id s n row g/\kF lt f g a b):=by
 have hn:=S.nn;refine bL.jL (fk cd id s n row f).length func302 ntmps302 results302 rfl rfl (Cc rfl) λc hc hb=>?_;have hl:∀g,(fk cd id s n row g).length=cd.length:=λg=>BK ..;have hd:=K4 (cd:=cd) (id:=id) (s:=s) (n:=n) (row:=row) (gl:=gl) (gs:=gs) (cl:=cl) (cs:=cs);have e1:IntKind.i64.wrap ((m:Int)-a)=((m-a:Nat):Int):=by rw[bR om om];omega
 have e2:IntKind.i64.wrap ((b:Int)-m)=((b-m:Nat):Int):=by rw[bR om om];omega
 by_cases c1:m-a=1
 .have ar:(((m-a:Nat):Int)==1)=true:=by simp;omega
  refine zA ?_;simp[go_sem,hl,e1,ar];refine zG (S:=Nat×Nat) [1,2,3,4,8,9] (λu=>[.int .i64 a,.int .i64 m,.int .i64 b,.ptr cd.length 0,.int .i64 u.1,.int .i64 u.2]) (λ_=>fk cd id s n row f++[fC gl gs cl cs]) (λu=>u.2-u.1) (λu=>m<=u.1/\u.1<=u.2/\u.2<=b/\(∀x,m<=x->x<u.1->lt (f x) (f a)=true)/\∀x,u.2<=x->x<b->lt (f x) (f a)=false) (hc.trans (hl f)) hb (m,b) ⟨A6 _,by show m<=b;omega,A6 _,λx q1 q2=>om,λx q1 q2=>om⟩ ?_ ?_;.exact zY (by simp[hl]) sg
  rintro⟨i,j⟩⟨hi,ai,hj,hL,hR⟩;simp only at hi ai hj hL hR;by_cases q:i<j;.obtain⟨h,hh⟩:=eX ((i+j)/2);have eh:=K5 (i:=i) (j:=j) om;rw[hh]at eh;have ei:=zR (show h<j by omega) om;have hle:=λK=>S.less c [fC gl gs cl cs] f h a K om om om;refine zA ?_;simp[go_sem,q,hd,eh];refine hle _ ?_;cases aa:lt (f h) (f a)with
   |true=>simp[go_sem,ei];exact zH (h+1,j) ⟨by show j-(h+1)<j-i;omega,⟨by show m<=h+1;omega,by show h+1<=j;omega,hj,λx q1 q2=>by
     by_cases c2:x=h;.rw[c2];exact aa
     .exact wt9 o (af x h q1 (by have:x<h+1:=q2;omega) om) aa,hR⟩,zY (by simp[hl]) sg⟩|false=>simp[go_sem];exact zH (i,h) ⟨by show h-i<j-i;omega,⟨hi,by show i<=h;omega,by show h<=b;omega,hL,λx q1 q2=>by
     by_cases c2:x=h;.rw[c2];exact aa
     .exact wo1 o (af h x om (by have:h<=x:=q1;omega) q2) aa⟩,zY (by simp[hl]) sg⟩
  .have e3:IntKind.i64.wrap ((i:Int)-1)=((i-1:Nat):Int):=by rw[bR om om];omega
   have aj:i=j:=om;have a6:m=a+1:=om;refine zA ?_;simp[go_sem,q];refine zG (S:=Nat) [1,2,3,4,8,11] (λk=>[.int .i64 a,.int .i64 m,.int .i64 b,.ptr cd.length 0,.int .i64 i,.int .i64 k]) (λk=>fk cd id s n row (dh f a (a+1) (k+1))++[fC gl gs cl cs]) (λk=>i-k) (λk=>a<=k/\k+1<=i) (hc.trans (hl f)) hb a ⟨A6 _,om⟩ ?_ ?_;.rw[Vd];exact zY (by simp[hl]) sg
   rintro k ⟨k1,k2⟩;by_cases q2:k<i-1
   .have a7:(k:Int)<((i-1:Nat):Int):=om;have ek:IntKind.i64.wrap ((k:Int)+1)=((k+1:Nat):Int):=by rw[bR om om];omega
    have ak:=λK=>S.swap c [fC gl gs cl cs] (dh f a (a+1) (k+1)) k (k+1) K om om om;rw[wv3 f k1]at ak;refine zA ?_;simp[go_sem,e3,q2,hd,ek];refine ak _ ?_;simp[go_sem,ek];exact zH (k+1) ⟨om,⟨om,om⟩,zY (by simp[hl]) sg⟩
   .have a7:¬(k:Int)<((i-1:Nat):Int):=om;have hk:k+1=i:=om;refine zA ?_;simp[go_sem,e3,q2];refine wC cd.length (C9 (hl _)) (hl _) (S.iw _) (D7 (hl f)) (zD rfl) ⟨rfl,_,rfl,?_,?_⟩;.rw[hk];exact(Mv.K3 f om om).mono (A6 _) om
    .rw[hk];rw[a6]at af hL;refine wc3 af om om (λx x1 x2=>.inl (hL x x1 x2)) (λx x1 x2=>?_);exact(TO.x8 o (ae a x (A6 _) h1 om x2)).2 (hR x om x2)
 .have ar:(((m-a:Nat):Int)==1)=false:=by simp;omega
  refine zN (zA ?_);simp[go_sem,hl];refine zN (zA ?_);simp[go_sem,e1,ar];by_cases c2:b-m=1
  .have au:(((b-m:Nat):Int)==1)=true:=by simp;omega
   have a8:b=m+1:=om;refine zA ?_;simp[go_sem,e2,au];refine zG (S:=Nat×Nat) [1,2,3,4,12,13] (λu=>[.int .i64 a,.int .i64 m,.int .i64 b,.ptr cd.length 0,.int .i64 u.1,.int .i64 u.2]) (λ_=>fk cd id s n row f++[fC gl gs cl cs]) (λu=>u.2-u.1) (λu=>a<=u.1/\u.1<=u.2/\u.2<=m/\(∀x,a<=x->x<u.1->lt (f m) (f x)=false)/\∀x,u.2<=x->x<m->lt (f m) (f x)=true) (hc.trans (hl f)) hb (a,m) ⟨A6 _,by show a<=m;omega,A6 _,λx q1 q2=>om,λx q1 q2=>om⟩ ?_ ?_;.exact zY (by simp[hl]) sg
   rintro⟨i,j⟩⟨hi,ai,hj,hL,hR⟩;simp only at hi ai hj hL hR;by_cases q:i<j;.obtain⟨h,hh⟩:=eX ((i+j)/2);have eh:=K5 (i:=i) (j:=j) om;rw[hh]at eh;have ei:=zR (show h<j by omega) om;have hle:=λK=>S.less c [fC gl gs cl cs] f m h K om om om;refine zA ?_;simp[go_sem,q,hd,eh];refine hle _ ?_;cases aa:lt (f m) (f h)with
    |false=>simp[go_sem,ei];exact zH (h+1,j) ⟨by show j-(h+1)<j-i;omega,⟨by show a<=h+1;omega,by show h+1<=j;omega,hj,λx q1 q2=>by
      by_cases c2:x=h;.rw[c2];exact aa
      .exact wr3 o (ag x h q1 (by have:x<h+1:=q2;omega) om) aa,hR⟩,zY (by simp[hl]) sg⟩|true=>simp[go_sem];exact zH (i,h) ⟨by show h-i<j-i;omega,⟨hi,by show i<=h;omega,by show h<=m;omega,hL,λx q1 q2=>by
      by_cases c2:x=h;.rw[c2];exact aa
      .exact wv6 o (ag h x om (by have:h<=x:=q1;omega) q2) aa⟩,zY (by simp[hl]) sg⟩
   .have aj:i=j:=om;refine zA ?_;simp[go_sem,q];refine zG (S:=Nat) [1,2,3,4,12,15] (λk=>[.int .i64 a,.int .i64 m,.int .i64 b,.ptr cd.length 0,.int .i64 i,.int .i64 k]) (λk=>fk cd id s n row (dh f k m (m+1))++[fC gl gs cl cs]) (λk=>k) (λk=>i<=k/\k<=m) (hc.trans (hl f)) hb m ⟨om,A6 _⟩ ?_ ?_;.rw[OY];exact zY (by simp[hl]) sg
    rintro k ⟨k1,k2⟩;by_cases q2:i<k
    .have ek:IntKind.i64.wrap ((k:Int)-1)=((k-1:Nat):Int):=by rw[bR om om];omega
     have ak:=λK=>S.swap c [fC gl gs cl cs] (dh f k m (m+1)) k (k-1) K om om om;rw[Ve f k2 om]at ak;refine zA ?_;simp[go_sem,q2,hd,ek];refine ak _ ?_;simp[go_sem,ek];exact zH (k-1) ⟨om,⟨om,om⟩,zY (by simp[hl]) sg⟩
    .have hk:k=i:=om;refine zA ?_;simp[go_sem,q2];refine wC cd.length (C9 (hl _)) (hl _) (S.iw _) (D7 (hl f)) (zD rfl) ⟨rfl,_,rfl,?_,?_⟩;.rw[hk];exact(Mv.K3 f om om).mono hi om
     .rw[hk,a8];refine Vf ag hi om (λx x1 x2=>?_) (λx x1 x2=>.inl (hR x om x2));exact(TO.x8 o (ae x m x1 om (A6 _) h2)).2 (hL x x1 x2)
  .have au:(((b-m:Nat):Int)==1)=false:=by simp;omega
   refine zN (zA ?_);simp[go_sem,e2,au];obtain⟨eE,aq⟩:=eX ((a+b)/2);have eh:=K5 (i:=a) (j:=b) om;rw[aq]at eh;have en:IntKind.i64.wrap ((eE:Int)+m)=(eE:Int)+m:=bR om om;refine zN (zA ?_);simp[go_sem,eh];refine zN (zA ?_);simp[go_sem,en];refine zN (zA ?_);simp[go_sem];obtain⟨lo,al⟩:=eX ((if eE<m then eE+m-b else a));obtain⟨hi,ah⟩:=eX ((if eE<m then eE else m));have aE:eE*2<=a+b/\a+b<=eE*2+1:=om;have aA:a<=lo/\lo<=hi/\hi<=m/\hi<=eE/\eE+m<=lo+b:=by split at al<;>split at ah<;>omega
   obtain⟨l1,l2,l3,l4,l5⟩:=aA;refine wM (S:=Unit) [1,2,3,4,16,17,18,19] (λ_=>[.int .i64 a,.int .i64 m,.int .i64 b,.ptr cd.length 0,.int .i64 eE,.int .i64 ((eE:Int)+m),.int .i64 lo,.int .i64 hi]) (λ_=>fk cd id s n row f++[fC gl gs cl cs]) (λ_=>True) (hc.trans (hl f)) hb ?_ ?_
   .by_cases c3:eE<m
    .rw[ahP c3]at al ah;have e4:IntKind.i64.wrap ((eE:Int)+m-b)=(lo:Int):=by rw[bR om om];omega
     refine zA ?_;simp[go_sem,c3,e4];exact zH () ⟨tV,zY (by simp[hl]) (by simp[go_sem,ah])⟩
    .rw[ahO c3]at al ah;refine zA ?_;simp[go_sem,c3];exact zH () ⟨tV,zY (by simp[hl]) (by simp[go_sem,al,ah])⟩
   rintro _ _;obtain⟨p,hp⟩:=eX (eE+m-1);have e5:IntKind.i64.wrap ((eE:Int)+m-1)=(p:Int):=by rw[bR om om];omega
   refine zN (zA ?_);simp[go_sem,e5];refine zN (zA ?_);simp[go_sem];refine zG (S:=Nat×Nat) [1,2,3,4,16,17,18,19,20] (λu=>[.int .i64 a,.int .i64 m,.int .i64 b,.ptr cd.length 0,.int .i64 eE,.int .i64 ((eE:Int)+m),.int .i64 u.1,.int .i64 u.2,.int .i64 p]) (λ_=>fk cd id s n row f++[fC gl gs cl cs]) (λu=>u.2-u.1) (λu=>lo<=u.1/\u.1<=u.2/\u.2<=hi/\(∀x,lo<=x->x<u.1->TO lt (f x) (f (p-x)))/\∀x,u.2<=x->x<hi->TO lt (f (p-x)) (f x)) (hc.trans (hl f)) hb (lo,hi) ⟨A6 _,l2,A6 _,λx q1 q2=>om,λx q1 q2=>om⟩ ?_ ?_;.exact zY (by simp[hl]) sg
   rintro⟨i,j⟩⟨av,ai,hj,hL,hR⟩;simp only at av ai hj hL hR;by_cases q:i<j
   .obtain⟨h,hh⟩:=eX ((i+j)/2);have eh:=K5 (i:=i) (j:=j) om;rw[hh]at eh;have ei:=zR (show h<j by omega) om;have e6:IntKind.i64.wrap ((p:Int)-h)=((p-h:Nat):Int):=by rw[bR om om];omega
    have hle:=λK=>S.less c [fC gl gs cl cs] f (p-h) h K om om om;refine zA ?_;simp[go_sem,q,hd,eh,e6];refine hle _ ?_;cases aa:lt (f (p-h)) (f h)with
    |false=>simp[go_sem,ei];exact zH (h+1,j) ⟨by show j-(h+1)<j-i;omega,⟨by show lo<=h+1;omega,by show h+1<=j;omega,hj,λx q1 q2=>by
      have q2:x<h+1:=q2;have t1:TO lt (f h) (f (p-h)):=(TO.x8 o (ae h (p-h) om om om om)).2 aa;by_cases c2:x=h;.rw[c2];exact t1
      .exact((ag x h om om om).trans o t1).trans o (af (p-h) (p-x) om om om),hR⟩,zY (by simp[hl]) sg⟩|true=>simp[go_sem];exact zH (i,h) ⟨by show h-i<j-i;omega,⟨av,by show i<=h;omega,by show h<=hi;omega,hL,λx q1 q2=>by
      have q1:h<=x:=q1;by_cases c2:x=h;.rw[c2];exact .inl aa
      .exact((af (p-x) (p-h) om om om).trans o (.inl aa)).trans o (ag h x om om om)⟩,zY (by simp[hl]) sg⟩
   .have aj:i=j:=om;subst aj;obtain⟨e,he⟩:=eX (eE+m-i);have e7:IntKind.i64.wrap ((eE:Int)+m-i)=(e:Int):=by rw[bR om om];omega
    obtain⟨⟨r1,r2,r3,r4,r5,r6,r7⟩,ao,t1,t2,t3,t4⟩:=xy5 o (f:=f) (lo:=lo) (hi:=hi) (s:=i) (e:=e) h1 h2 aq.symm ag af al.symm ah.symm av hj he.symm (λx q1 q2=>by rw[hp];exact hL x q1 q2) (λx q1 q2=>by rw[hp];exact hR x q1 q2);have aB:=ae.Ik r3 r4 r6 r7;have aC:=ae.Il r1 r3 r4 r7;have aD:Mv f (dh f i m e) a b:=(Mv.K3 f r3 r4).mono r1 r6;have an:¬(i<m/\m<e)->dh f i m e=f:=λhn=>by
     rcases Ck i m with c|c;.have:e=m:=om;rw[this];exact Vd f i m
     .have:i=m:=om;rw[this];exact OY f m e
    have ax:=λc1 c2=>xR4 S f i m e c1 c2 om;generalize dh f i m e=g0 at*;refine zA ?_;simp[go_sem];refine zN (zA ?_);simp[go_sem,e7];refine wM (S:=Unit) [1,2,3,4,16,18,22] (λ_=>[.int .i64 a,.int .i64 m,.int .i64 b,.ptr cd.length 0,.int .i64 eE,.int .i64 i,.int .i64 e]) (λ_=>fk cd id s n row g0++[fC gl gs cl cs]) (λ_=>True) (hc.trans (hl f)) hb ?_ ?_
    .by_cases k1:i<m
     .by_cases k2:m<e;.have ab:=ax k1 k2;refine zA ?_;simp[go_sem,k1,k2,hd];refine S.call ab cB rfl ?_;rintro g' rfl;simp[go_sem];exact zH () ⟨tV,zY (by simp[hl]) sg⟩
      .rw[an λh=>k2 h.2];refine zA ?_;simp[go_sem,k1,k2];exact zH () ⟨tV,zY (by simp[hl]) sg⟩
     .rw[an λh=>k1 h.1];refine zA ?_;simp[go_sem,k1];exact zH () ⟨tV,zY (by simp[hl]) sg⟩
    rintro _ _;clear ax an hL hR;refine wM (S:=Nat->Nat) [1,2,3,4,16,22] (λ_=>[.int .i64 a,.int .i64 m,.int .i64 b,.ptr cd.length 0,.int .i64 eE,.int .i64 e]) (λg=>fk cd id s n row g++[fC gl gs cl cs]) (λg=>kF lt g0 g a eE) (hc.trans (hl f)) hb ?_ ?_
    .by_cases k1:a<i
     .by_cases k2:i<eE;.have ab:=ih g0 a i eE om k1 k2 om t1 t2 aB;refine zA ?_;simp[go_sem,k1,k2,hd];refine S.call ab cB rfl ?_;rintro g' aw;simp[go_sem];exact zH g' ⟨aw,zY (by simp[hl]) sg⟩
      .have hq:jd lt g0 a eE:=by rw[show eE=i by omega];exact t1
       refine zA ?_;simp[go_sem,k1,k2];exact zH g0 ⟨kF.id hq,zY (by simp[hl]) sg⟩
     .have hq:jd lt g0 a eE:=by rw[show a=i by omega];exact t2
      refine zA ?_;simp[go_sem,k1];exact zH g0 ⟨kF.id hq,zY (by simp[hl]) sg⟩
    rintro ad q1;have same:∀k,eE<=k->ad k=g0 k:=λk hk=>q1.1.out (.inr hk);have ay:jd lt ad eE e:=λx y x1 x2 x3=>by rw[same x x1,same y om];exact t3 x y x1 x2 x3
    have az:jd lt ad e b:=λx y x1 x2 x3=>by rw[same x om,same y om];exact t4 x y x1 x2 x3
    have a1:uj ad eE e b:=λx y x1 x2 x3 x4=>by rw[same x x1,same y om];exact aC x y x1 x2 x3 x4
    have fin:∀g2,kF lt ad g2 eE b->kF lt f g2 a b:=λg2 q2=>kF.both aD ao ⟨om,om⟩ q1 q2;by_cases k1:eE<e
    .by_cases k2:e<b;.have ab:=ih ad eE e b om k1 k2 om ay az a1;refine zA ?_;simp[go_sem,k1,k2,hd];refine S.call ab cB rfl ?_;rintro g' aw;simp[go_sem];exact wC cd.length (C9 (hl _)) (hl _) (S.iw _) (D7 (hl f)) (zD rfl) ⟨rfl,_,rfl,fin g' aw⟩
     .have hq:jd lt ad eE b:=by rw[show b=e by omega];exact ay
      refine zA ?_;simp[go_sem,k1,k2];exact wC cd.length (C9 (hl _)) (hl _) (S.iw _) (D7 (hl f)) (zD rfl) ⟨rfl,_,rfl,fin ad (kF.id hq)⟩
    .have hq:jd lt ad eE b:=by rw[show eE=e by omega];exact az
     refine zA ?_;simp[go_sem,k1];exact wC cd.length (C9 (hl _)) (hl _) (S.iw _) (D7 (hl f)) (zD rfl) ⟨rfl,_,rfl,fin ad (kF.id hq)⟩
theorem OZ(S:SC prog gl gs cl cs cd id s n row lt)(o:Ord lt):∀(d:Nat)(f:Nat->Nat)(a m b:Nat),b-a<d->a<m->m<b->b<=n->jd lt f a m->jd lt f m b->uj f a m b->bL prog 302 [.agg [.fn gl cl,.fn gs cs],.int .i64 a,.int .i64 m,.int .i64 b] (fk cd id s n row f) (λr t=>r=.cm []/\∃g,t=fk cd id s n row g/\kF lt f g a b)|0,_,_,_,_,h,_,_,_,_,_,_=>absurd h om|d+1,f,a,m,b,h,h1,h2,h3,aa,ab,hg=>yv2 S o f a m b h1 h2 h3 aa ab hg λf' a' m' b' h' q1 q2 q3 q4 q5 q6=>OZ S o d f' a' m' b' om q1 q2 q3 q4 q5 q6
end
section
variable{gl gs:FuncId}{cl cs:List V}{cd:St}{id s n:Nat}{row:Nat->List V}{lt:Nat->Nat->Bool}
theorem xT4(S:SC prog gl gs cl cs cd id s n row lt)(o:Ord lt):bL prog 234 [.agg [.fn gl cl,.fn gs cs],.int .i64 n] (fk cd id s n row λk=>k) (λr t=>r=.cm []/\∃g,t=fk cd id s n row g/\kF lt (λk=>k) g 0 n):=by
 have hn:=S.nn;refine bL.jL (fk cd id s n row λk=>k).length func234 ntmps234 results234 rfl rfl (Cc rfl) λc hc hb=>?_;have hl:∀g,(fk cd id s n row g).length=cd.length:=λg=>BK ..;have hd:=K4 (cd:=cd) (id:=id) (s:=s) (n:=n) (row:=row) (gl:=gl) (gs:=gs) (cl:=cl) (cs:=cs);refine zN (zA ?_);simp[go_sem,hl];refine zN (zA ?_);simp[go_sem];refine zN (zA ?_);simp[go_sem];refine zN (zA ?_);simp[go_sem];refine zG (S:=Nat×Nat×(Nat->Nat)) [1,2,4,5,6] (λu=>[.int .i64 n,.ptr cd.length 0,.int .i64 20,.int .i64 u.2.1,.int .i64 ((u.2.1+20:Nat):Int)]) (λu=>fk cd id s n row u.2.2++[fC gl gs cl cs]) (λu=>n-u.2.1) (λu=>u.2.1=u.1*20/\u.2.1<=n/\(∀q,q<u.1->kN lt u.2.2 (q*20) (q*20+20))/\(∀k,u.2.1<=k->u.2.2 k=k)/\Mv (λk=>k) u.2.2 0 n) (hc.trans (hl _)) hb (0,0,λk=>k) ⟨rfl,A3 _,λq hq=>absurd hq (Nat.not_lt_zero _),λ_ _=>rfl,Mv.refl _ _ _⟩ ?_ ?_;.exact zY (by simp[hl]) sg
 rintro⟨t,A,g⟩⟨hA,af,ah,hid,ab⟩;simp only at hA af ah hid ab;have ag:∀b,∀x y,A<=x->x<y->y<b->g x<g y:=λb x y x1 x2 x3=>by rw[hid x x1,hid y om];exact x2
 by_cases q:A+20<=n;.have q':(A:Int)+20<=n:=om;have e1:IntKind.i64.wrap ((A:Int)+20+20)=(A:Int)+20+20:=bR om om;have aa:=Vh S o g A (A+20) om q (ag _);refine zA ?_;simp[go_sem,q',hd];refine S.call aa cB rfl ?_;rintro g' ad;rw[hA]at ad;rw[hA]at hid;obtain⟨f1,f2⟩:=xu6 ah hid ad;simp[go_sem,e1];exact zH (t+1,A+20,g') ⟨by show n-(A+20)<n-A;omega,⟨by show A+20=(t+1)*20;omega,q,f1,λk hk=>f2 k (by have:A+20<=k:=hk;omega),ab.trans (ad.1.mono (A3 _) om)⟩,zY (by simp[hl]) sg⟩
 .have q':¬(A:Int)+20<=n:=om;have aa:=Vh S o g A n af (A6 _) (ag _);refine zA ?_;simp[go_sem,q'];refine zN (zA ?_);simp[go_sem,hd];refine S.call aa cB rfl ?_;rintro g' ad;rw[hA]at ad hid;have hB:=xb3 ah hid om om ad;have ai:=ab.trans (ad.1.mono (A3 _) (A6 _));clear aa ad ag hid ah ab;simp[go_sem];refine zA ?_;simp[go_sem];refine zG (S:=Nat×(Nat->Nat)) [1,2,4] (λu=>[.int .i64 n,.ptr cd.length 0,.int .i64 u.1]) (λu=>fk cd id s n row u.2++[fC gl gs cl cs]) (λu=>n-u.1) (λu=>20<=u.1/\u.1<=2000020/\mX lt u.2 u.1 n/\Mv (λk=>k) u.2 0 n) (hc.trans (hl _)) hb (20,g') ⟨A6 _,by show 20<=2000020;omega,hB,ai⟩ ?_ ?_;.exact zY (by simp[hl]) sg
  clear hB ai q q' hA af g' g t A;rintro⟨w,g⟩⟨hw,ak,hB,ab⟩;simp only at hw ak hB ab;by_cases q:w<n;rotate_left;.refine zA ?_;simp[go_sem,q];exact wC cd.length (C9 (hl _)) (hl _) (S.iw _) (D7 (hl _)) (zD rfl) ⟨rfl,g,rfl,ab,(hB.all om).2⟩
  have e2:IntKind.i64.wrap (2*(w:Int))=2*(w:Int):=bR om om;have e3:IntKind.i64.wrap ((w:Int)*2)=(w:Int)*2:=bR om om;refine zA ?_;simp[go_sem,q,e2];refine zG (S:=Nat×Nat×(Nat->Nat)) [1,2,4,5,6] (λu=>[.int .i64 n,.ptr cd.length 0,.int .i64 w,.int .i64 u.2.1,.int .i64 ((u.2.1+2*w:Nat):Int)]) (λu=>fk cd id s n row u.2.2++[fC gl gs cl cs]) (λu=>n-u.2.1) (λu=>u.2.1=u.1*(2*w)/\u.2.1<=n/\jV lt u.2.2 w n u.1/\Mv (λk=>k) u.2.2 0 n) (hc.trans (hl _)) hb (0,0,g) ⟨sm,A3 _,jV.start hB,ab⟩ ?_ ?_;.exact zY (by simp[hl]) sg
  clear hB ab g;rintro⟨t,A,g⟩⟨hA,af,hM,ab⟩;simp only at hA af hM ab;have e4:IntKind.i64.wrap ((A:Int)+w)=(A:Int)+w:=bR om om;by_cases p:A+2*w<=n
  .have p':(A:Int)+2*w<=n:=om;have e5:IntKind.i64.wrap ((A:Int)+2*w+2*w)=(A:Int)+2*w+2*w:=bR om om;have ae:=hM.pair om (by rw[<-hA];omega);rw[<-hA,Dj p]at ae;have aa:=OZ S o (2*w+1) g A (A+w) (A+2*w) om om om p ae.1.2 ae.2.2 (ae.1.Vg ae.2);refine zA ?_;simp[go_sem,p',hd,e4];refine S.call aa cB rfl ?_;rintro g' ad;have hN:=hM.next om (by rw[<-hA];exact p) (hA▸ad);have em:(t+1)*(2*w)=t*(2*w)+2*w:=by rw[B0,D5]
   simp[go_sem,e2,e5];exact zH (t+1,A+2*w,g') ⟨by show n-(A+2*w)<n-A;omega,⟨by show A+2*w=(t+1)*(2*w);rw[em,hA],p,hN,ab.trans (ad.1.mono (A3 _) p)⟩,zY (by simp[hl]) sg⟩
  .have p':¬(A:Int)+2*w<=n:=om;by_cases p2:A+w<n;.have aj:(A:Int)+w<n:=om;have ae:=hM.pair om (by rw[<-hA];exact p2);rw[<-hA,Nat.min_eq_right om]at ae;have aa:=OZ S o (2*w+1) g A (A+w) n om om p2 (A6 _) ae.1.2 ae.2.2 (ae.1.Vg ae.2);refine zA ?_;simp[go_sem,p',aj,hd,e4];refine S.call aa cB rfl ?_;rintro g' ad;have hN:=hM.last om (by rw[<-hA];exact p2) (by rw[<-hA];omega) (hA▸ad);simp[go_sem,e3];exact zH (w*2,g') ⟨by show n-w*2<n-w;omega,⟨by show 20<=w*2;omega,by show w*2<=2000020;omega,by show mX lt g' (w*2) n;rw[Dp];exact hN,ab.trans (ad.1.mono (A3 _) (A6 _))⟩,zY (by simp[hl]) sg⟩
   .have aj:¬(A:Int)+w<n:=om;have hN:=hM.none (by rw[<-hA];exact af) (by rw[<-hA];omega);refine zA ?_;simp[go_sem,p',aj,e4,e3];exact zH (w*2,g) ⟨by show n-w*2<n-w;omega,⟨by show 20<=w*2;omega,by show w*2<=2000020;omega,by show mX lt g (w*2) n;rw[Dp];exact hN,ab⟩,zY (by simp[hl]) sg⟩
end
end Go.Proofs.YtefbicjgbaaieaaGreat
namespace Go.Proofs.YtefbicjgbaaieaaGreat
open Go Go.Vx R Go.Proofs.Tryz
set_option maxRecDepth 100000
variable{J:Type}{l:List Ln}{b:Mp aij}{n:Nat}
def kG(gt:J->Bool)(out:List J)(x:J):List J:=(out.reverse.dropWhile gt).reverse++x::(out.reverse.takeWhile gt).reverse
theorem Vi(gt:J->Bool)(out:List J)(x:J):(kG gt out x).Perm (x::out):=by unfold kG;refine Dg.trans (List.Perm.cons _ ?_);rw[<-List.reverse_append,B5,List.reverse_reverse]
theorem xK9{I:Type}(h:J->I)(gt:I->Bool)(out:List J)(x:J):(kG (λy=>gt (h y)) out x).map h=kG gt (out.map h) (h x):=by unfold kG;rw[Da,Ad,List.map_reverse,List.map_reverse,<-List.map_reverse (l:=out),List.dropWhile_map,List.takeWhile_map];rfl
theorem yR6{lt:Nat->Nat->Bool}(o:Ord lt){out:aik}{x:Nat}(hs:out.Pairwise (TO lt))(hx:∀y∈out,y<x):(kG (λy=>lt x y) out x).Pairwise (TO lt):=by
 have hl:out=(out.reverse.dropWhile (λy=>lt x y)).reverse++(out.reverse.takeWhile (λy=>lt x y)).reverse:=by grind[B5]
 have ab:∀y∈out.reverse.takeWhile (λy=>lt x y),lt x y:=by intro y hy;exact Aj.1 List.all_takeWhile y hy
 have ad:∀y∈out.reverse.dropWhile (λy=>lt x y),lt x y=false:=by cases hd:out.reverse.dropWhile (λy=>lt x y)with |nil=>simp|cons z d=>
   have hz:lt x z=false:=by have:=List.head?_dropWhile_not (λy=>lt x y) out.reverse;grind
   intro y hy;rcases Ag.1 hy with rfl|hy;.exact hz
   .have hp:(out.reverse).Pairwise (λa b=>TO lt b a):=(by grind);have aa:(z::d).Pairwise (λa b=>TO lt b a):=(by grind);have h3:=(C8.1 aa).1 y hy;cases q:lt x y with|false=>rfl|true=>
     rcases h3 with h3|⟨h3,_⟩;.rw[o.tr _ _ _ q h3]at hz;cases hz
     .have:=o.nt _ _ _ hz h3;grind
 unfold kG;rw[hl,By]at hs;have ae:∀y∈out.reverse.dropWhile (λy=>lt x y),y∈out:=(by grind);rw[By,C8];refine⟨hs.1,⟨λy hy=>.inl (by grind),hs.2.1⟩,λy hy z hz=>?_⟩;rcases Ag.1 hz with rfl|hz;.exact .inr (by grind)
 grind
def rM(lt:Nat->Nat->Bool)(n:Nat):aik:=(List.range n).foldl (λout x=>kG (λy=>lt x y) out x) []
theorem Vj{lt:Nat->Nat->Bool}(o:Ord lt):∀n,(rM lt n).Perm (List.range n)/\(rM lt n).Pairwise (TO lt)
 |0=>⟨List.Perm.nil,List.Pairwise.nil⟩|n+1=>by
  obtain⟨h1,h2⟩:=Vj o n;have e:rM lt (n+1)=kG (λy=>lt n y) (rM lt n) n:=by unfold rM;rw[List.range_succ,Bv];rfl
  rw[e];refine⟨(Vi _ _ _).trans ?_,yR6 o h2 λy hy=>D4.1 (h1.mem_iff.1 hy)⟩;grind
theorem xC2{lt:Nat->Nat->Bool}(o:Ord lt){f:Nat->Nat}(hm:Mv id f 0 n)(hs:jd lt f 0 n):(List.range n).map f=rM lt n:=by
 obtain⟨hp,hq⟩:=Vj o n;obtain⟨π,p1,p2,p3,p4⟩:=hm;have hf:∀k,f k=π k:=p4;have ad:((List.range n).map f).Nodup:=by grind[Bw]
 have aa:((List.range n).map f).Perm (List.range n):=by rw[List.perm_ext_iff_of_nodup ad Bw];have ab:∀y∈(List.range n).map f,y∈List.range n:=(by grind);intro y;refine⟨ab y,λhy=>Classical.byContradiction λhn=>?_⟩;have h1:(y::(List.range n).map f).Nodup:=(by grind);have:=h1.length_le_of_subset (l₂:=List.range n) (by grind);grind
 have ae:((List.range n).map f).Pairwise (TO lt):=by rw[Cv];have:=List.pairwise_lt_range (n:=n);refine List.Pairwise.imp_of_mem (λ{a b}ha hb af=>?_) this;exact hs a b om af (by grind)
 exact(aa.trans hp.symm).eq_of_pairwise (λa b _ _ h1 h2=>absurd (h1.trans o h2) (λh=>h.Gl o)) ae hq
theorem xd5(gt:J->J->Bool)(l:List J)(d:J):l.foldl (λout x=>kG (λy=>gt x y) out x) []=(rM (λi j=>gt (l.getD i d) (l.getD j d)) l.length).map λi=>l.getD i d:=by
 have key:∀n,n<=l.length->(l.take n).foldl (λout x=>kG (λy=>gt x y) out x) []=(rM (λi j=>gt (l.getD i d) (l.getD j d)) n).map λi=>l.getD i d:=by intro n;induction n with|zero=>grind[rM]|succ n ih=>
   intro h;have hn:n<l.length:=h;rw[B3 hn,Bv,ih om];have e:rM (λi j=>gt (l.getD i d) (l.getD j d)) (n+1)=kG (λy=>gt (l.getD n d) (l.getD y d)) (rM (λi j=>gt (l.getD i d) (l.getD j d)) n) n:=by unfold rM;rw[List.range_succ,Bv];rfl
   rw[e,xK9 (λi=>l.getD i d) (λy=>gt (l.getD n d) y)];grind
 grind
def oN(a b:bF):Prop:=a.kind<b.kind\/a.kind=b.kind/\(a.n<b.n\/a.n=b.n/\Op.bytesLess a.s b.s=true)
theorem wt2{a b:aij}(h:Op.bytesLess a b):Op.bytesLess b a=false:=by
 cases q:Op.bytesLess b a;.rfl
 grind[tY,vi]
theorem O1(a b:bF):(fw a b<0↔oN a b)/\(0<fw a b↔oN b a):=by grind[fw,oN,oK,fR,gH,wt2]
theorem oN.Gl(a:bF):¬oN a a:=by intro h;rcases h with h|⟨_,h|⟨_,h⟩⟩;all_goals grind[vi]
theorem oN.trans{a b c:bF}(h:oN a b)(g:oN b c):oN a c:=by
 rcases h with h|⟨h,h|⟨h',h⟩⟩<;>rcases g with g|⟨g,g|⟨g',g⟩⟩;.exact .inl om
 .exact .inl om
 .exact .inl om
 .exact .inl om
 .exact .inr om
 .exact .inr om
 .exact .inl om
 .exact .inr om
 .exact .inr (by grind[tY])
theorem oN.some{a c:bF}(b:bF)(h:oN a c):oN a b\/oN b c:=by
 rcases aif a.kind b.kind with k|k|k;.exact .inl (.inl k)
 .rcases h with h|⟨h,h⟩;.exact .inr (.inl om)
  .rcases aif a.n b.n with m|m|m;.exact .inl (.inr om)
   .rcases h with h|⟨h',h⟩;.exact .inr (.inr om)
    .rcases xu a.s b.s with f|f|f;.exact .inl (.inr (by grind))
     .exact .inr (.inr (by grind))
     .exact .inr (.inr (by grind[tY]))
   .rcases h with h|⟨h',h⟩;.exact .inr (.inr om)
    .exact .inr (.inr om)
 .rcases h with h|⟨h,_⟩;.exact .inr (.inl om)
  .exact .inr (.inl om)
def ow(d:Ln)(c:Nat)(down:Bool)(l:List Ln)(i j:Nat):Bool:=decide (0<kB c down (l.getD j d) (l.getD i d))
theorem O2(d:Ln)(c:Nat)(down:Bool)(l:List Ln)(i j:Nat):ow d c down l i j=true↔if down=true then oN ((l.getD j d).v.getD c zeroV) ((l.getD i d).v.getD c zeroV)else oN ((l.getD i d).v.getD c zeroV) ((l.getD j d).v.getD c zeroV):=by unfold ow kB;rw[ahS];cases down<;>simp[O1]
theorem Vk(d:Ln)(c:Nat)(down:Bool)(l:List Ln):Ord (ow d c down l):=by
 refine⟨λi=>?_,λi j k h g=>?_,λi j k h g=>?_⟩;.cases q:ow d c down l i i with |false=>rfl|true=>grind[O2,oN.Gl]
 .rw[O2]at h g⊢;split at h;.rename_i e0;rw[ahP e0]at g⊢;exact g.trans h
  .rename_i e0;rw[ahO e0]at g⊢;exact h.trans g
 .cases q:ow d c down l i k with |false=>rfl|true=>
   exfalso;have h':¬ow d c down l i j:=by grind
   have g':¬ow d c down l j k:=by grind
   rw[O2]at h' g' q;split at q;.rename_i e0;rw[ahP e0]at h' g';exact(q.some ((l.getD j d).v.getD c zeroV)).elim g' h'
   .rename_i e0;rw[ahO e0]at h' g';exact(q.some ((l.getD j d).v.getD c zeroV)).elim h' g'
theorem xT3(d:Ln)(c:Nat)(down:Bool)(l:List Ln):nq c down l=(rM (ow d c down l) l.length).map λi=>l.getD i d:=xd5 (λx y=>decide (0<kB c down y x)) l d
theorem xj0{d:Ln}{c:Nat}{down:Bool}{f:Nat->Nat}(hm:Mv id f 0 l.length)(hs:jd (ow d c down l) f 0 l.length):((List.range l.length).map λk=>l.getD (f k) d)=nq c down l:=by rw[xT3 d,<-xC2 (by grind[Vk]) hm hs,B8];rfl
def jG(T:bH)(st:bQ)(c:Int)(rows:List (List V))(n:Nat):St:=[.cj rows 3,.box T.row,.box st.row,.box [.cL 0 3 n 0 n],.box di,.box [.int .i64 c]]
theorem BM(T:bH)(st:bQ)(c:Int)(l:List Ln)(n:Nat):(jG T st c (l.map Ln.row) n).all (bO 6)=true:=by simp[jG,di,bO,cH,cF,Ln.row,bH.row,bQ.row]
theorem x9{l:List J}{i:Nat}(h:i<l.length)(d:J):l.getD i d=l[i]:=by rw[A9,A0 h];rfl
theorem wn5(d:Ln)(T:bH)(st:bQ)(dC:Nat)(_hc0:dC<=10000)(l:List Ln)(ab:∀x∈l,dC<x.v.length)(i j:Nat)(hi:i<l.length)(hj:j<l.length):bL prog 158 [.int .i64 i,.int .i64 j,.ptr 3 0,.ptr 5 0,.ptr 2 0] (jG T st dC (l.map Ln.row) l.length) (λr s=>r=.bool (ow d dC st.down l i j)/\s=jG T st dC (l.map Ln.row) l.length):=by
 obtain⟨x,hx⟩:=eX (l[i]);obtain⟨y,hy⟩:=eX (l[j]);have ad:=ab x (hx▸A7 hi);have ae:=ab y (hy▸A7 hj);obtain⟨v,hv⟩:=eX (x.v[dC]);obtain⟨u,hu⟩:=eX (y.v[dC]);have aa:=TD v u;obtain⟨a1,a2,a3,a4,a5,a6,a7,a8,dn,a9⟩:=st;have hM:ow d dC dn l i j=(if dn=true then decide (0<fw v u)else decide (fw v u<0)):=by
  unfold ow kB;rw[x9 hi,x9 hj,hx,hy,x9 ad,x9 ae,hv,hu];obtain⟨h1,h2⟩:=O1 v u;obtain⟨h3,h4⟩:=O1 u v;split;.rw[decide_eq_decide];exact⟨λh=>h2.2 (h3.1 om),λh=>by have:=h3.2 (h2.1 h);omega⟩
  .rw[decide_eq_decide];exact⟨λh=>h1.2 (h4.1 h),λh=>h4.2 (h1.1 h)⟩
 show bL _ _ _ _ (λr s=>r=.bool (ow d dC dn l i j)/\_);rw[hM];clear hM;generalize fw v u=k at aa;have cK:=BM T ⟨a1,a2,a3,a4,a5,a6,a7,a8,dn,a9⟩ dC l l.length;generalize hB:(if dn=true then decide (0<k)else decide (k<0))=B;have ret:∀(r:Bool)(Ul:St),r=B->bW (some (.bool r)) 6 (λr s=>r=.bool B/\s=jG T ⟨a1,a2,a3,a4,a5,a6,a7,a8,dn,a9⟩ dC (l.map Ln.row) l.length) (jG T ⟨a1,a2,a3,a4,a5,a6,a7,a8,dn,a9⟩ dC (l.map Ln.row) l.length++Ul):=λr Ul h=>by subst h;exact wC 6 (C9 rfl) rfl cK (A6 _) (zD rfl) ⟨rfl,rfl⟩
 clear cK ab;have hk:=aif k 0;cases dn<;>(
  refine iV 6 func158 ntmps158 results158 λc hc hb=>?_;refine zA ?_;simp[go_sem,jG];refine yB [(16,0)] 6 rfl kR kR ?_;simp[go_sem,hi,hj,hx,hy,ad,ae,hv,hu];refine pD aa ?_;simp[go_sem];rcases hk with q|q|q;.have q2:¬0<k:=om;simp[go_sem,q,q2];exact ret _ _ (by rw[<-hB];simp[q,q2])
  .subst q;simp[go_sem];exact ret _ _ (by rw[<-hB];simp)
  .have q2:¬k<0:=om;simp[go_sem,q,q2];exact ret _ _ (by rw[<-hB];simp[q,q2]))
theorem Vl:(Tryz.prog.info? 200).map (λi=>(i.size,i.hasPointers,i.bytes))=some (3,true,48):=kR
theorem xy8:(Tryz.prog.info? 195).map (λi=>i.desc)=some (.slice 200):=kR
theorem xM9(w:World):(Extern.Rtype.kind 200).run prog w=.ok 25 w:=kR
theorem wf7{ie:TypeInfo}(hn:2<=n)(h1:ie.hasPointers)(h2:ie.bytes=48):Lib.swapperK n ie 25=9:=by
 unfold Lib.swapperK;have e1:(n==0)=false:=by simp;omega
 have e2:(n==1)=false:=by simp;omega
 rw[e1,e2,h1,h2];rfl
theorem wv4(args:ain)(w:World):(callFunc 300 args).run prog w=((Extern.ReflectliteSwapper.swap false args).run prog w).andThen λv w'=>.ok (.value v) w':=run_callFunc_extern func300 kR kR kR (e:=Extern.ReflectliteSwapper.swap false) kR args w
def mq(dC:Nat):Ln:=⟨0,[],List.replicate (dC+1) zeroV⟩
noncomputable def ns(T:bH)(st:bQ)(dC:Int)(rows:List (List V))(n:Nat):St:=jG T st dC rows n++[.box [.cL 0 3 n 0 n],.box [.raw (typeHandle prog 195),.ptr 6 0,.int .u64 151]]
noncomputable def EE(n:Nat):List V:=if n<=1then[]else[.cL 0 3 n 0 n,.raw (typeHandle prog 200)]
theorem Vm{T:bH}{st:bQ}{dC:Nat}(f:Nat->Nat):fk (ns T st dC (l.map Ln.row) l.length) 0 3 l.length (λk=>(l.getD k (mq dC)).row) f=ns T st dC (((List.range l.length).map λk=>l.getD (f k) (mq dC)).map Ln.row) l.length:=by unfold fk ns jG;rw[B8];rfl
theorem wf0{d:Ln}(f:Nat->Nat):((List.range l.length).map λk=>l.getD (f k) d).length=l.length:=sm
theorem ws7(G:FuncId)(T:bH)(st:bQ)(dC:Nat)(af:dC<=10000)(l:List Ln)(hl:l.length<=10000)(ag:∀x∈l,dC<x.v.length)(hG:2<=l.length->G=300):SC prog 158 G [.ptr 3 0,.ptr 5 0,.ptr 2 0] (EE l.length) (ns T st dC (l.map Ln.row) l.length) 0 3 l.length (λk=>(l.getD k (mq dC)).row) (ow (mq dC) dC st.down l):=by
 have ad:∀k,dC<(l.getD k (mq dC)).v.length:=λk=>by
  by_cases q:k<l.length;.rw[x9 q];exact ag _ (A7 q)
  .rw[A9,Cq om];simp[mq]
 have an:∀rows n,(jG T st dC rows n).length=6:=λ_ _=>rfl;refine⟨by simp[ns,jG],om,rfl,?_,?_,λk=>?_,λc τ f i j K hi hj ah hk=>?_,λc τ f i j K hi hj ah hk=>?_⟩
 .unfold EE;split;.rfl
  .simp[ns,jG,cF]
 .have h:=BM T st dC l l.length;unfold ns;rw[List.all_append,A8];refine⟨?_,by simp[jG,bO,cH,cF]⟩;rw[Aj]at h⊢;exactλo ho=>QZ (by simp[jG]) (h o ho)
 .simp[Ln.row,cH,cF]
 .rw[Vm]at hk⊢;obtain⟨l',aa⟩:∃l',((List.range l.length).map λk=>l.getD (f k) (mq dC))=l':=⟨_,rfl⟩;have ai:l'.length=l.length:=by rw[<-aa,wf0]
  have hg:∀k,k<l.length->l'.getD k (mq dC)=l.getD (f k) (mq dC):=λk hk=>by rw[<-aa,x9 (sU hk)];simp
  have ae:=wn5 (mq dC) T st dC af l' (λx hx=>by rw[<-aa]at hx;obtain⟨k,_,rfl⟩:=Aa.1 hx;exact ad _) i j om om;have aj:ow (mq dC) dC st.down l' i j=ow (mq dC) dC st.down l (f i) (f j):=by unfold ow;rw[hg i hi,hg j hj]
  rw[aj,ai]at ae;rw[aa]at hk⊢;refine sf 6 ae cB ?_ rfl (by have:=BM T st dC l' l.length;exact this) ?_ ?_ ?_;.show(jG _ _ _ _ _++_++τ).take 6=_;rw[Cb];exact C9 rfl
  .exact pa rfl
  .rintro r s ⟨rfl,rfl⟩;exact⟨rfl,BM T st dC l' l.length,rfl⟩
  .rintro r s ⟨rfl,rfl⟩;have e:jG T st dC (l'.map Ln.row) l.length++(ns T st dC (l'.map Ln.row) l.length++τ).drop 6=ns T st dC (l'.map Ln.row) l.length++τ:=rfl;rw[e];exact hk
 .have h2:2<=l.length:=om;rw[hG h2];obtain⟨ie,ak,ab⟩:=Ar.1 Vl;simp only[ai1]at ab;obtain⟨al,_,_⟩:=ab;have e0:EE l.length=[.cL 0 3 l.length 0 l.length,.raw (typeHandle prog 200)]:=by unfold EE;rw[ahO om]
  rw[e0];refine ZG wv4 ak isAgg200 al sm (rows:=(List.range l.length).map λk=>(l.getD (f k) (mq dC)).row) (R:=(List.range l.length).map λk=>(l.getD (sw f i j k) (mq dC)).row) rfl hi hj ?_ hk;have gd:∀q,q<l.length->((List.range l.length).map λk=>(l.getD (f k) (mq dC)).row).getD q []=(l.getD (f q) (mq dC)).row:=λq hq=>by rw[x9 (sU hq)];simp
  rw[gd i hi,gd j hj];refine List.ext_getElem sm λk h1 h2=>?_;rw[List.getElem_set,List.getElem_set];simp only[List.getElem_map,List.getElem_range,sw];split;.rename_i q;subst q;rw[ahO om,ahP rfl]
  .split;.rename_i q;subst q;rw[ahP rfl]
   .rename_i q1 q2;rw[ahO om,ahO om]
theorem O3(args:ain)(w:World):(callFunc 232 args).run prog w=((Extern.ReflectliteValue.unpack (args.getD 0 (.tuple #[]))).run prog w).andThen λv w'=>.ok (.value v) w':=run_callFunc_extern func232 kR kR kR (e:=λargs=>Extern.ReflectliteValue.unpack (args.getD 0 (.tuple #[]))) kR args w
theorem wv5(args:ain)(w:World):(callFunc 233 args).run prog w=((Extern.ReflectliteSwapper.swapper "internal/reflectlite" (Extern.ReflectliteValue.valueError "Swapper") args).run prog w).andThen λv w'=>.ok (.value v) w':=run_callFunc_extern func233 kR kR kR (e:=Extern.ReflectliteSwapper.swapper "internal/reflectlite" (Extern.ReflectliteValue.valueError "Swapper")) kR args w
theorem wv9(args:ain)(w:World):(callFunc 235 args).run prog w=((Extern.ReflectliteValue.method (Extern.ReflectliteValue.valueError "reflectlite.Value.Len" 0) Extern.ReflectliteValue.len args).run prog w).andThen λv w'=>.ok (.value v) w':=run_callFunc_extern func235 kR kR kR (e:=Extern.ReflectliteValue.method (Extern.ReflectliteValue.valueError "reflectlite.Value.Len" 0) Extern.ReflectliteValue.len) kR args w
theorem xZ9:(Tryz.prog.funcs.findIdx? (·.name=="internal/reflectlite"++".Swapper$"++toString 1),Tryz.prog.funcs.findIdx? (·.name=="internal/reflectlite"++".Swapper$"++toString 2),Tryz.prog.funcs.findIdx? (·.name=="internal/reflectlite"++".Swapper$"++toString 9))=(some 292,some 293,some 300):=kR
@[go_sem]theorem Gp:gK prog 304=some [.fK,.fK,.int .u64 0]:=kR
@[go_sem]theorem K6:eT prog 304=some 3:=kR
@[go_sem]theorem Ir:cQ prog 304=some true:=kR
theorem yv1(T:bH)(st:bQ)(dC:Nat)(Hs:dC<=10000)(l:List Ln)(hl:l.length<=10000)(hcl:∀x∈l,dC<x.v.length):bL prog 157 [.gW 195 [.cL 0 3 l.length 0 l.length],.fn 158 [.ptr 3 0,.ptr 5 0,.ptr 2 0]] (jG T st dC (l.map Ln.row) l.length) (λr s=>r=.cm []/\s=jG T st dC ((nq dC st.down l).map Ln.row) l.length):=by
 obtain⟨ti,O4,O5⟩:=Ar.1 xy8;obtain⟨ie,Na,Is⟩:=Ar.1 Vl;simp only[ai1]at Is;obtain⟨hs3,hp,hby⟩:=Is;obtain⟨G,hG,hG2,It⟩:∃G,Tryz.prog.funcs.findIdx? (·.name=="internal/reflectlite"++".Swapper$"++toString (Lib.swapperK l.length ie 25))=some G/\(2<=l.length->G=300)/\(Lib.swapperK l.length ie 25<=2↔l.length<=1):=by
  have h:=xZ9;simp only[ai1]at h;obtain⟨f1,f2,f3⟩:=h;by_cases q:2<=l.length;.rw[wf7 q hp hby];exact⟨_,f3,λ_=>rfl,om⟩
  .rcases(by omega:l.length=0\/l.length=1)with e|e;.rw[e];exact⟨_,f1,λh=>om,⟨λ_=>dc,λ_=>(by show 1<=2;decide)⟩⟩
   .rw[e];exact⟨_,f2,λh=>om,⟨λ_=>dc,λ_=>(by show 2<=2;decide)⟩⟩
 have S:=ws7 G T st dC Hs l hl hcl hG2;have Vn:=xT4 S (Vk (mq dC) dC st.down l);have Vo:∀f,fk (ns T st dC (l.map Ln.row) l.length) 0 3 l.length (λk=>(l.getD k (mq dC)).row) f=ns T st dC (((List.range l.length).map λk=>l.getD (f k) (mq dC)).map Ln.row) l.length:=λf=>Vm f;have O6:((List.range l.length).map λk=>l.getD k (mq dC))=l:=by refine List.ext_getElem sm λk h1 h2=>?_;simp[h2]
 have O7:bL prog 234 [.agg [.fn 158 [.ptr 3 0,.ptr 5 0,.ptr 2 0],.fn G (EE l.length)],.int .i64 l.length] (ns T st dC (l.map Ln.row) l.length) (λr t=>r=.cm []/\t=ns T st dC ((nq dC st.down l).map Ln.row) l.length):=by rw[Vo,O6]at Vn;refine Vn.mono λr t h=>?_;obtain⟨h1,g,h2,h3⟩:=h;refine⟨h1,?_⟩;rw[h2,Vo];congr 2;exact xj0 h3.1 h3.2
 have cK:∀m:List Ln,(ns T st dC (m.map Ln.row) l.length).all (bO 8)=true:=λm=>by have h:=BM T st dC m l.length;unfold ns;rw[List.all_append,A8];refine⟨?_,by simp[bO,cH,cF]⟩;rw[Aj]at h⊢;exactλo ho=>QZ dc (h o ho)
 have hsc:EE l.length=(if Lib.swapperK l.length ie 25<=2then[]else[.cL 0 3 l.length 0 l.length,.raw (typeHandle prog 200)]):=by
  unfold EE;by_cases q:l.length<=1;.rw[ahP q,ahP (It.2 q)]
  .rw[ahO q,ahO λh=>q (It.1 h)]
 refine iV 6 func157 ntmps157 results157 λc hc hb=>?_;refine zN (zA ?_);simp[go_sem];refine ZH O3 O4 O5 ?_;simp[go_sem];have e6:(jG T st dC (l.map Ln.row) l.length).length=6:=rfl;rw[e6];refine zN (zA ?_);simp[go_sem];refine ZI wv5 O4 O5 Na xM9 hG ?_;rw[<-hsc];simp[go_sem];have h7:(jG T st dC (l.map Ln.row) l.length++[.box [.cL 0 3 l.length 0 l.length],.box [.raw (typeHandle prog 195),.ptr 6 0,.int .u64 151]])[7]?=some (.box [.raw (typeHandle prog 195),.ptr 6 0,.int .u64 151]):=rfl;refine zA ?_;simp[go_sem,h7];refine ZL wv9 O4 O5 kR (id:=0) (s:=3) (n:=l.length) (m:=l.length) (k:=6) rfl ?_;simp[go_sem];have cD:jG T st dC (l.map Ln.row) l.length++[.box [.cL 0 3 l.length 0 l.length],.box [.raw (typeHandle prog 195),.ptr 6 0,.int .u64 151]]=ns T st dC (l.map Ln.row) l.length:=rfl;rw[cD];refine sf 8 O7 cB (Ac (A6 8)) rfl (cK l) ?_ ?_ ?_;.rw[Ay];refine pa ?_;have:=S.BL;have e8:(ns T st (dC:Int) (l.map Ln.row) l.length).length=8:=rfl;rw[e8]at this;simp[jZ,l8,cH,this,cF]
 .rintro r s ⟨rfl,rfl⟩;exact⟨rfl,cK _,rfl⟩
 .rintro r s ⟨rfl,rfl⟩;have hd8:(ns T st (dC:Int) (l.map Ln.row) l.length).drop 8=[]:=rfl;rw[hd8];simp[go_sem];exact wC 6 (s:=jG T st dC ((nq dC st.down l).map Ln.row) l.length) rfl rfl (BM T st dC _ _) (A6 _) (zD rfl) ⟨rfl,rfl⟩
theorem cE.get(h:cE b l){p:Pl}{d:aij}:b.get p=some d↔∃x∈l,x.at=p/\yK x.v=d:=by
 rw[Mp.get_mem h.ok,h.perm.mem_iff,Aa];constructor;.rintro⟨x,hx,he⟩;simp only[ai1]at he;exact⟨x,hx,he⟩
 .rintro⟨x,hx,h1,h2⟩;exact⟨x,hx,by rw[h1,h2]⟩
theorem cE.get_none(h:cE b l){p:Pl}:b.get p=none↔fT l p=false:=lj.trans h.gI
def Iu(a:Mp aij)(e:Pl×aij):Bool:=a.get e.1!=some e.2
def Gq(b:Mp aij)(e:Pl×aij):Bool:=(b.get e.1).isNone
def iK(a:Mp aij)(D:List (Pl×aij)):List Pl:=(D.filter (Iu a)).map (·.1)
def iy(b:Mp aij)(D:List (Pl×aij)):List Pl:=(D.filter (Gq b)).map (·.1)
def qm(b:Mp aij)(p:Pl):Wr:=⟨p,(b.get p).isNone,(b.get p).getD []⟩
theorem xG4{a:Mp aij}{dy now:List Ln}(ha:cE a dy)(hb:cE b now){L:List Pl}(hp:L.Perm (iK a b.W++iy b a.W))(hs:L.Pairwise λp q=>¬lh q p<0):L.map (qm b)=gj dy now:=by
 have nN:(iK a b.W).Nodup:=ahY ((Bo).map _) hb.keys;have nO:(iy b a.W).Nodup:=ahY ((Bo).map _) ha.keys;have nL:L.Nodup:=by rw[hp.nodup_iff,Dc];refine⟨nN,nO,λp h1 q h2 e=>?_⟩;subst e;obtain⟨e1,ad,rfl⟩:=Aa.1 h1;obtain⟨e2,ae,h3⟩:=Aa.1 h2;have h4:=(Mp.get_mem hb.ok).2 (Bl.1 ad).1;have h5:=(Bl.1 ae).2;unfold Gq at h5;rw[h3,h4]at h5;cases h5
 have hr:gv L:=by have:=we3 (kx:=λp:Pl=>p) (l:=L) hs (by rw[Dy];exact nL);rwa[Dy]at this
 obtain⟨c1,c2⟩:=KX ha.fY hb.fY;refine OV ?_ c1 λw=>?_;.unfold oi;rw[Cv];exact hr
 rw[c2 w,Aa];have hm:∀p,p∈L↔p∈iK a b.W\/p∈iy b a.W:=λp=>by rw[hp.mem_iff,Ak]
 constructor
 .rintro⟨p,ah,rfl⟩;rcases(hm p).1 ah with h|h;.obtain⟨⟨p',d⟩,he,rfl⟩:=Aa.1 h;obtain⟨ad,ae⟩:=Bl.1 he;have hg:=(Mp.get_mem hb.ok).2 ad;obtain⟨x,hx,aa,ab⟩:=hb.get.1 hg;refine .inr ⟨by simp[qm,hg],x,hx,aa,by simp[qm,hg,ab],λy hy af ag=>?_⟩;have:=ha.get.2 ⟨y,hy,af.trans aa,ag.trans ab⟩;simp[Iu,this]at ae
  .obtain⟨⟨p',d⟩,he,rfl⟩:=Aa.1 h;obtain⟨ad,ae⟩:=Bl.1 he;have hg:=(Mp.get_mem ha.ok).2 ad;have hn:b.get p'=none:=by simpa[Gq]using ae
   obtain⟨x,hx,aa,ab⟩:=ha.get.1 hg;exact .inl ⟨by simp[qm,hn],by simp[qm,hn],⟨x,hx,aa⟩,hb.get_none.1 hn⟩
 .rintro(⟨h1,h2,⟨x,hx,aa⟩,h3⟩|⟨h1,x,hx,aa,ab,h3⟩);.have hn:=hb.get_none.2 h3;have hg:=ha.get.2 ⟨x,hx,aa,rfl⟩;refine⟨w.p,(hm _).2 (.inr (Aa.2 ⟨(w.p,yK x.v),Bl.2 ⟨(Mp.get_mem ha.ok).1 hg,by simp[Gq,hn]⟩,rfl⟩)),?_⟩;obtain⟨p,dr,da⟩:=w;simp only at h1 h2 hn;simp[qm,hn,h1,h2]
  .have hg:=hb.get.2 ⟨x,hx,aa,ab⟩;refine⟨w.p,(hm _).2 (.inl (Aa.2 ⟨(w.p,w.data),Bl.2 ⟨(Mp.get_mem hb.ok).1 hg,?_⟩,rfl⟩)),?_⟩;.simp only[Iu,bne_iff_ne,ne_eq];intro h;obtain⟨y,hy,af,ag⟩:=ha.get.1 h;exact h3 y hy (af.trans aa.symm) (ag.trans ab.symm)
   .obtain⟨p,dr,da⟩:=w;simp only at h1 hg;simp[qm,hg,h1]
theorem wg6{P:Program}{c:Ctx}{U:St}{f:FuncId}{bY args cc:List V}{KV:V->St->Prop}{rows:List (List V)}{w:Nat}(hc:bL P f cc [] λr s=>r=.cL 0 w n 0 n/\s=[.cj rows w])(hb:wQ P f)(ab:bO 0 (.cj rows w))(aa:bM (cR (cO [] U.length)) cc (args++bY))(hK:KV (.cL U.length w n 0 n) (U++[.cj rows w])):jE P c (.fn f bY) args U KV fx:=by
 refine VC.of hc hb [] C5 rfl sm aa λr s h _=>?_;obtain⟨rfl,rfl⟩:=h;have e:wD [] U [.cj rows w]=U++[.cj rows w]:=by simp only[wD,gr,Au,D8,Ad,Bp];rw[mF (n:=0) om ab]
 grind[dG,cO,dQ,dz,dE]
def EF(a:Mp aij)(sn:Mp Int)(m:List Ln)(B:Mp aij)(M:List Ln×Int)(r:V)(s:St):Prop:=s=cT a B sn++[.cj (m.map Ln.row) 3]/\((M.2≠0/\r=.cm [.agg (Ot.row ⟨0,[]⟩),.int .i64 M.2])\/(M.2=0/\r=.cm [.agg (Ot.row ⟨m.length,[]⟩),.int .i64 0]/\cE B M.1))
def mY(T:bH)(cp:List bX):List Ln->Mp aij->Mp aij
 |[],b=>b|x::m,b=>if(fH T x.v cp x.v).2≠0then b else if dS T.bP (fH T x.v cp x.v).1≠0then b else mY T cp m (b.put x.at (yK (fH T x.v cp x.v).1))
theorem xA4{r:Int}{k d:aij}{w:Nat×aij}(h:b.at (r,k)=some w):Ob.mp (((gb V.str b.W).set (2*w.1) (.agg [.int .i64 r,.str k])).set (2*w.1+1) (.str d)) b.bs b.cM=(b.put (r,k) d).ob V.str:=by unfold Mp.put Mp.ob;rw[h];show _=Ob.mp (gb V.str (b.W.set w.1 ((r,k),d))) _ _;rw[<-Up];rfl
theorem Iv{x:Ln}(h:eP x):1<=x.v.length/\x.v.length<=20:=by obtain⟨tn,T,_,hT,hm⟩:=h.jl;have h1:=vh hm;have h2:=(by decide:∀T∈bI,1<=T.bP.length/\T.bP.length<=20) T (by grind);omega
theorem O8(T:bH)(name:aij):cq T name<T.bP.length:=by grind[xh,cq]
theorem xU8(tn:Nat)(T:bH)(hT:bI[tn]?=some T)(st:bQ)(aC:gR st)(ar:∀x∈st.cp,0<=cq T x.name)(a b:Mp aij)(sn:Mp Int)(l m:List Ln)(aK:cE b l)(hm:∀x∈m,fT l x.at=true/\eP x/\(dY x.r).1=(tn:Int))(hl:m.length<=10000):bL prog 92 [.ptr 3 0,.agg T.row,.agg st.row,.cL 4 3 m.length 0 m.length] (cT a b sn++[.cj (m.map Ln.row) 3]) (EF a sn m (mY T st.cp m b) (gh T st.cp m l)):=by
 generalize hM:gh T st.cp m l=M;generalize hB:mY T st.cp m b=B;have au:∀(b':Mp aij),(cT a b' sn++([.cj (m.map Ln.row) 3]:St)).all (bO 5)=true:=(by simp[wK,bO,cH,cF,Ln.row]);have cN:∀(b':Mp aij)(Ul:St)(l':List Ln),b'=B->M=(l',0)->cE b' l'->bW (some (.cm [.agg [.sl .full [],.int .i64 m.length],.int .i64 0])) 5 (EF a sn m B M) (a.ob .str::b'.ob .str::sn.ob (V.int .i64)::.box [.sl .ro yL,.sl .ro (bI.map bH.row),.mp 0,.mp 1,.mp 2]::.cj (m.map Ln.row) 3::Ul):=λb' Ul l' h0 h1 h2=>wC 5 (s:=cT a b' sn++[.cj (m.map Ln.row) 3]) (r:=.cm [.agg (Ot.row ⟨m.length,[]⟩),.int .i64 0]) rfl rfl (au b') (A6 _) (yJ ⟨xS ⟨yH,zU rfl,tV⟩,xJ rfl,tV⟩) ⟨by rw[h0],(by grind)⟩;have bad:∀(b':Mp aij)(e:Int)(Ul:St),b'=B->M.2=e->e≠0->bW (some (.cm [.agg [.sl .full [],.int .i64 0],.int .i64 e])) 5 (EF a sn m B M) (a.ob .str::b'.ob .str::sn.ob (V.int .i64)::.box [.sl .ro yL,.sl .ro (bI.map bH.row),.mp 0,.mp 1,.mp 2]::.cj (m.map Ln.row) 3::Ul):=λb' e Ul h0 h1 h2=>wC 5 (s:=cT a b' sn++[.cj (m.map Ln.row) 3]) (r:=.cm [.agg (Ot.row ⟨0,[]⟩),.int .i64 e]) rfl rfl (au b') (A6 _) (yJ ⟨xS ⟨yH,zU rfl,tV⟩,xJ rfl,tV⟩) ⟨by rw[h0],(by grind)⟩;refine iV 5 func92 ntmps92 results92 λc hc hb=>?_;refine zA ?_;simp[go_sem,cT,fI];have av:∀(b':Mp aij),([a.ob .str,b'.ob .str,sn.ob (V.int .i64),.box [.sl .ro yL,.sl .ro (bI.map bH.row),.mp 0,.mp 1,.mp 2],.cj (m.map Ln.row) 3,.box T.row,.box st.row,.box di]:St).all (bO 8)=true:=λb'=>by have h:=wK 8 om a b' sn;simp only[cT,fI,Aq,Cs,D3]at h⊢;simp_all[bO,cH,cF,bQ.row,bH.row,Ln.row,di]
 have af:∀(b':Mp aij)(x:Ln)(row:List bF),([a.ob .str,b'.ob .str,sn.ob (V.int .i64),.box [.sl .ro yL,.sl .ro (bI.map bH.row),.mp 0,.mp 1,.mp 2],.cj (m.map Ln.row) 3,.box T.row,.box st.row,.box di,.box x.row,.cj (row.map bF.row) 3]:St).all (bO 10)=true:=λb' x row=>by have h:=wK 10 om a b' sn;simp only[cT,fI,Aq,Cs,D3]at h⊢;simp_all[bO,cH,cF,bQ.row,bH.row,Ln.row,bF.row,di]
 have aw:T.bP.length<=maxLen:=(by decide:∀T∈bI,T.bP.length<=maxLen) T (B9 hT);have hlen:∀x,eP x->(dY x.r).1=(tn:Int)->x.v.length=T.bP.length:=λx hx al=>by
  obtain⟨aD,T',h1,h2,h3⟩:=hx.jl;have:aD=tn:=by omega
  grind[vh]
 refine zG (S:=Nat×Mp aij×List Ln) [0,3,5,6,8,9,18,19,20] (λu=>[.ptr 3 0,.cL 4 3 m.length 0 m.length,.ptr 5 0,.ptr 6 0,.ptr 7 0,.int .i64 0,.cL 4 3 m.length 0 m.length,.int .i64 m.length,.int .i64 u.1]) (λu=>[a.ob .str,u.2.1.ob .str,sn.ob (V.int .i64),.box [.sl .ro yL,.sl .ro (bI.map bH.row),.mp 0,.mp 1,.mp 2],.cj (m.map Ln.row) 3,.box T.row,.box st.row,.box di]) (λu=>m.length-u.1) (λu=>u.1<=m.length/\cE u.2.1 u.2.2/\(∀p,fT u.2.2 p=fT l p)/\gh T st.cp (m.drop u.1) u.2.2=M/\mY T st.cp (m.drop u.1) u.2.1=B) hc hb (0,b,l) (by grind) ?_ ?_;.exact bT 8 (by simp[go_sem,di]) rfl (av b) dc (zC sg rfl)
 rintro⟨i,b1,l1⟩⟨hi,ai,ag,aa,ab⟩;simp only at hi ai ag aa ab;by_cases q:i<m.length;rotate_left;.rw[A4 om,gh]at aa;rw[A4 om,mY]at ab;refine zA ?_;simp[go_sem,q,di];exact cN b1 _ l1 ab aa.symm ai
 have ei:=zR q om;obtain⟨x,hx⟩:=eX (m[i]);obtain⟨ax,ae,al⟩:=hm x (hx▸A7 q);refine zA ?_;simp[go_sem,q,hx];have aL:=Iv ae;have aE:=UH x.v om (by grind);refine wg6 aE cB (by simp[bO,cH,cF,bF.row]) ⟨zP,tV⟩ ?_;simp[go_sem,di];obtain⟨E,hE⟩:=eX (fH T x.v st.cp x.v);rw[A2 q,hx,gh,hE]at aa;rw[A2 q,hx,mY,hE]at ab;have ay:=aC.cp;refine zG (S:=Nat×List bF) [0,3,5,6,8,9,11,12,18,19,20,28,29,30] (λu=>[.ptr 3 0,.cL 4 3 m.length 0 m.length,.ptr 5 0,.ptr 6 0,.ptr 7 0,.int .i64 0,.ptr 8 0,.cL 9 3 x.v.length 0 x.v.length,.cL 4 3 m.length 0 m.length,.int .i64 m.length,.int .i64 i,.sl .ro (st.cp.map bX.row),.int .i64 st.cp.length,.int .i64 u.1]) (λu=>[a.ob .str,b1.ob .str,sn.ob (V.int .i64),.box [.sl .ro yL,.sl .ro (bI.map bH.row),.mp 0,.mp 1,.mp 2],.cj (m.map Ln.row) 3,.box T.row,.box st.row,.box di,.box x.row,.cj (u.2.map bF.row) 3]) (λu=>st.cp.length-u.1) (λu=>u.1<=st.cp.length/\u.2.length=x.v.length/\fH T x.v (st.cp.drop u.1) u.2=E) hc hb (0,x.v) ⟨A3 _,rfl,hE⟩ ?_ ?_;.exact bT 10 (by simp[go_sem,di]) rfl (af b1 x x.v) dc (zC sg rfl)
 rintro⟨j,row⟩⟨hj,aj,ad⟩;simp only at hj aj ad;by_cases qj:j<st.cp.length
 .have ej:=zR qj om;obtain⟨y,hy⟩:=eX (st.cp[j]);have aF:=(ay.2 y (hy▸A7 qj)).2;have aP:=ar y (hy▸A7 qj);rw[A2 qj,hy,fH]at ad;have ah:=KP T aw x.v ae.ok y.e aF;have az:Pure prog 156 [.agg T.row,.str y.name] (.int .i64 (cq T y.name)):=F9 T y.name aw;obtain⟨k,hk⟩:∃k:Nat,cq T y.name=k:=⟨(cq T y.name).toNat,om⟩;have aQ:k<row.length:=by have h1:=O8 T y.name;grind
  have aG:k<x.v.length:=om;rw[hk]at az ad;simp only[Ai]at ad;obtain⟨⟨v,er⟩,hv⟩:∃kv,fN T x.v y.e=kv:=⟨_,rfl⟩;rw[hv]at ad ah;simp only at ad;refine zA ?_;simp[go_sem,qj,hy];refine zJ ah cB ⟨zD rfl,zP,oI y.e,tV⟩ rfl ?_;simp[go_sem,dP];by_cases q2:er=0;rotate_left;.have an:(er !=0)=true:=sU q2;rw[ahP q2]at ad;subst ad;simp only at aa ab;rw[ahP q2]at aa ab;simp[go_sem,an,di];exact bad b1 er _ ab (by rw[<-aa]) q2
  have an:(er !=0)=false:=sU q2;rw[ahO (λh=>h q2)]at ad;simp[go_sem,an];refine yB [(4,0)] 12 rfl kR kR ?_;simp[go_sem];refine pD az ?_;simp[go_sem];refine zF om ?_;simp[go_sem,aj,aG,ej];exact zH (j+1,row.set k v) ⟨om,(by grind),bT 10 (by simp[go_sem,di]) rfl (af b1 x _) dc (zC sg rfl)⟩
 rw[A4 om,fH]at ad;subst ad;simp only at aa ab;rw[ahO (λh=>h rfl)]at aa ab;have aR:=hlen x ae al;have aH:∀v∈row,v.ok:=by have h1:=KQ (T:=T) ae.ok (cp:=st.cp) (row:=x.v) (λy hy=>(ay.2 y hy).2) ae.ok;grind
 have ak:=TN T row (by unfold maxLen;omega);have a1:xB (row.map bF.row):=by simp[xB,oz,bF.row]
 obtain⟨mr,a6⟩:=eX (dS T.bP row);rw[a6]at aa ak ab;have aI:mr=0->il row:=(by grind[Gk]);have ao:=λh0=>SB row (aI h0);obtain⟨w0,a7⟩:∃w0,b1.at x.at=some w0:=by cases h:b1.at x.at with |none=>have:=ag x.at;rw[ax,ai.gI.1 h]at this;grind|some w=>exact⟨w,rfl⟩
 have eB:b1.ob .str=.mp (gb .str b1.W) b1.bs b1.cM:=rfl;have a8:dI (x.r,x.k) b1.W=some w0:=a7;have aA:=xA4 (d:=yK row) (r:=x.r) (k:=x.k) a7;have aB:mr=0->cE (b1.put x.at (yK row)) (fB l1 x.at row):=λh0=>ai.Ie x.at row (by rw[ag];exact ax) ⟨⟨tn,T,al,hT,a6.trans h0⟩,ae.err,aH⟩;have aJ:gE (row.map bF.row) 0 x.v.length=row.map bF.row:=by rw[<-aj];unfold gE;rw[Au,Ac sm,B8];rfl
 refine zA ?_;simp[go_sem,qj];refine Yq ak cB (.step 9 3 (row.map bF.row) rfl a1 (.refl _ _)) (zK (by simp[fr,iF,iE,ij,aJ,aj,go_sem]) rfl) rfl ?_;simp[go_sem];by_cases m0:mr=0;rotate_left;.have aq:(mr !=0)=true:=sU m0;rw[ahP m0]at aa ab;simp[go_sem,aq,di];exact bad b1 mr _ ab (by rw[<-aa]) m0
 have aq:(mr !=0)=false:=sU m0;rw[ahO (λh=>h m0)]at aa ab;simp[go_sem,aq];refine yB [(7,1)] 10 rfl kR kR ?_;simp[go_sem];refine Yo (ao m0) cB (λs hs=>⟨_,_,.step 9 3 (row.map bF.row) ((Kp.get (k:=Kp.pre 10) rfl hs).trans rfl) a1 (.refl _ _),zK (by grind[fr,iF,iE,ij]) rfl⟩) rfl ?_;simp[go_sem,eB,pE,a8,lI,l6,aA,ei];exact zH (i+1,b1.put x.at (yK row),fB l1 x.at row) ⟨om,⟨q,aB m0,λp=>by show fT (fB l1 x.at row) p=_;rw[OQ];grind,aa,ab⟩,bT 8 (by simp[go_sem,di];rfl) rfl (av _) dc (zC sg rfl)⟩
theorem yO1(l:List bF)(hl:l.length<=10000)(hz:l≠[]):Pure prog 160 [.sl .ro (l.map bF.row)] (.sl .ro (l.map bF.row)):=by
 refine(UH l hl hz).GM λr s h=>?_;obtain⟨rfl,rfl⟩:=h;have aa:gE (l.map bF.row) 0 l.length=l.map bF.row:=by unfold gE;rw[Au,Ac sm,B8];rfl
 refine⟨_,_,.step 0 3 (l.map bF.row) rfl (by grind[xB,oz,bF.row]) (.refl _ _),?_⟩;simp_all[fr,iF,iE,ij,zP]
def iz(r:Ot×Int):V:=.cm [.agg r.1.row,.int .i64 r.2]
theorem Vp(T:bH)(name:aij)(h:0<=cq T name):∃k:Nat,cq T name=k/\k<T.bP.length:=by have:=O8 T name;exact⟨(cq T name).toNat,om,om⟩
theorem Vq(T:bH)(st:bQ)(l:List Ln)(h:sG st.items=false):jz T st l=(if(mW T st.items (kC st.cG (if 0<=cq T st.order then nq (cq T st.order).toNat st.down l else l)) []).2≠0then(⟨0,[]⟩,(mW T st.items (kC st.cG (if 0<=cq T st.order then nq (cq T st.order).toNat st.down l else l)) []).2)else(⟨0,(mW T st.items (kC st.cG (if 0<=cq T st.order then nq (cq T st.order).toNat st.down l else l)) []).1⟩,0)):=by simp_all[jz]
theorem K7(c:Nat)(down:Bool)(l:List Ln):(nq c down l).Perm l:=by
 unfold nq;have h:∀(m out:List Ln),(m.foldl (λout x=>oh (λy=>decide (0<kB c down y x)) out x) out).Perm (out++m):=by intro m;induction m with|nil=>simp|cons x m ih=>intro out;refine(ih _).trans ?_;refine((Vi _ out x).append_right m).trans ?_;exact Dg.symm
 grind
def Iw(T:bH)(st:bQ)(l:List Ln):List Ln:=if sG st.items=true then l else if 0<=cq T st.order then nq (cq T st.order).toNat st.down l else l
theorem yE8(tn:Nat)(T:bH)(hT:bI[tn]?=some T)(st:bQ)(ak:gR st)(hit:st.items≠[])(l:List Ln)(hl:l.length<=10000)(cK:∀x∈l,eP x/\x.v.length=T.bP.length):bL prog 91 [.agg T.row,.agg st.row,.cL 0 3 l.length 0 l.length] [.cj (l.map Ln.row) 3] (λr s=>r=iz (jz T st l)/\s=[.cj ((Iw T st l).map Ln.row) 3]):=by
 have al:T.bP.length<=maxLen:=(by decide:∀T∈bI,T.bP.length<=maxLen) T (by grind);have aP:T.bP.length<=20:=(by decide:∀T∈bI,T.bP.length<=20) T (by grind);have av:=wh3 st ak;have ad:=wu5 T al st ak l hl (λx hx=>(cK x hx).1.ok);obtain⟨wb,aw⟩:=eX (sG st.items);rw[aw]at av;have af:Pure prog 156 [.agg T.row,.str st.order] (.int .i64 (cq T st.order)):=F9 T st.order al;obtain⟨M,hM⟩:=eX (jz T st l);rw[hM];obtain⟨C,hC⟩:=eX (Iw T st l);rw[hC];have aQ:wb=true->C=l:=λh=>by simp_all[Iw]
 have aR:wb=false->C=if 0<=cq T st.order then nq (cq T st.order).toNat st.down l else l:=λh=>by simp_all[Iw]
 have ax:wb=true->rK (lB T l st.items [])=iz M:=λh=>by rw[<-hM];unfold rK iz jz;grind
 have ay:=λh:wb=false=>(Vq T st l (aw.trans h)).symm.trans hM;clear hM;refine iV 1 func91 ntmps91 results91 λc hc hb=>?_;refine zN (zA ?_);simp[go_sem];refine zN (zA ?_);simp[go_sem];refine pC av ?_;refine(A1 wb).elim (λw=>?_) (λw=>?_);.rw[ax w]at ad;simp[go_sem,w];refine pd 0 ad cB rfl (by grind[bO,cH,cF,Ln.row]) ⟨zD rfl,zD rfl,.inl rfl,tV⟩ (by rintro r s ⟨rfl,rfl⟩;exact⟨_,rfl,by grind[bO,cH,cF,Ln.row]⟩) ?_;rintro r o ⟨rfl,ho⟩;cases ho;simp[go_sem,iz,Ot.row];exact wC 1 (s:=[.cj (l.map Ln.row) 3]) (r:=.cm [.agg (Ot.row M.1),.int .i64 M.2]) rfl rfl (by simp[bO,cH,cF,Ln.row]) om (yJ ⟨xS ⟨yH,zU rfl,tV⟩,xJ rfl,tV⟩) ⟨rfl,by grind⟩
 .have hM:=ay w;clear ax ay ad;obtain⟨m,hm⟩:=eX ((if 0<=cq T st.order then nq (cq T st.order).toNat st.down l else l));rw[hm]at hM;have az:C=m:=(by grind);have aD:m.Perm l:=by grind[K7,List.Perm.refl]
  have an:=aD.length_eq;have a1:0<=cq T st.order->∃k:Nat,cq T st.order=k/\bL prog 157 [.gW 195 [.cL 0 3 l.length 0 l.length],.fn 158 [.ptr 3 0,.ptr 5 0,.ptr 2 0]] (jG T st k (l.map Ln.row) l.length) (λr s=>r=.cm []/\s=jG T st k (m.map Ln.row) l.length):=λh0=>by obtain⟨k,hk,ag⟩:=Vp T st.order h0;have hs:=yv1 T st k om l hl (by grind);rw[ahP h0,hk,Ai]at hm;rw[hm]at hs;exact⟨k,hk,hs⟩
  have ai:¬0<=cq T st.order->m=l:=(by grind);clear hm;simp[go_sem,w];refine wM (S:=Unit) [3,4,5,6] (λ_=>[.ptr 1 0,.ptr 2 0,.ptr 3 0,.ptr 4 0]) (λ_=>jG T st (cq T st.order) (m.map Ln.row) l.length) (λ_=>True) hc hb ?_ ?_
  .by_cases h0:0<=cq T st.order;.obtain⟨k,hk,hs⟩:=a1 h0;rw[hk]at af⊢;refine zA ?_;simp[go_sem];refine pC af ?_;simp[go_sem,ze];refine He (bY:=[]) (args:=[.gW 195 [.cL 0 3 l.length 0 l.length],.fn 158 [.ptr 3 0,.ptr 5 0,.ptr 2 0]]) hs cB ?_;rintro r s ⟨rfl,rfl⟩_;simp[go_sem];exact zH () ⟨tV,bT 6 (by rfl) rfl (by grind[BM]) dc (zC (by rfl) rfl)⟩
   .rw[ai h0];refine zA ?_;simp[go_sem];refine pC af ?_;simp[go_sem,h0];exact zH () ⟨tV,bT 6 (by rfl) rfl (by grind[BM]) dc (zC (by rfl) rfl)⟩
  rintro _ _;clear a1 ai af;generalize cq T st.order=dC at*;obtain⟨k,a6,ag⟩:∃k,kC st.cG m=m.take k/\k<=m.length/\(k=if 0<=st.cG/\st.cG<m.length then st.cG.toNat else m.length):=by unfold kC;grind
  obtain⟨ag,ab⟩:=ag;rw[a6]at hM;rw[an]at ag ab;refine wM (S:=Unit) [3,4,5,6] (λ_=>[.ptr 1 0,.ptr 2 0,.ptr 3 0,.ptr 4 0]) (λ_=>[.cj (m.map Ln.row) 3,.box T.row,.box st.row,.box [.cL 0 3 l.length 0 k],.box di,.box [.int .i64 dC]]) (λ_=>True) hc hb ?_ ?_
  .have ao:([.cj (m.map Ln.row) 3,.box T.row,.box st.row,.box [.cL 0 3 l.length 0 k],.box di,.box [.int .i64 dC]]:St).all (bO 6)=true:=by simp[bO,cH,cF,Ln.row,bH.row,bQ.row,di]
   by_cases h0:0<=st.cG
   .by_cases h1:st.cG<l.length;.rw[ahP ⟨h0,h1⟩]at ab;refine zA ?_;simp[go_sem,jG,h0,h1];refine zF om ?_;simp[go_sem,<-ab];exact zH () ⟨tV,bT 6 (by rfl) rfl ao dc (zC (by rfl) rfl)⟩
    .rw[ahO om]at ab;subst ab;refine zA ?_;simp[go_sem,jG,h0,h1];exact zH () ⟨tV,bT 6 (by rfl) rfl ao dc (zC (by rfl) rfl)⟩
   .rw[ahO om]at ab;subst ab;refine zA ?_;simp[go_sem,jG,h0];exact zH () ⟨tV,bT 6 (by rfl) rfl ao dc (zC (by rfl) rfl)⟩
  rintro _ _;clear ab a6;refine zN (zA ?_);simp[go_sem];refine DK 6 0 1 _ dc rfl rfl ?_;obtain⟨y0,ys,aS⟩:∃y0 ys,st.items=y0::ys:=by cases h:st.items<;>grind
  obtain⟨uJ,hJ⟩:=eX st.items;obtain⟨aE,a7⟩:=ak.items;rw[hJ]at aE a7 hM;have aF:uJ.head?.map (·.kind)=some y0.kind:=by grind
  have ah:∃h:0<uJ.length,uJ[0]=y0:=by grind
  obtain⟨a8,ah⟩:=ah;obtain⟨P,hP⟩:=eX (mW T uJ (m.take k) []);rw[hP]at hM;have aG:∀x∈m,eP x:=(by grind);have fin:∀(rows:List (List bF))(Ul:St),P=(rows,0)->bW (some (.cm [.agg [.sl (.app 7) (rows.map λr=>[V.sl .ro (r.map bF.row)]),.int .i64 0],.int .i64 0])) 1 (λr s=>r=iz M/\s=[.cj (C.map Ln.row) 3]) (.cj (m.map Ln.row) 3::Ul):=λrows Ul h=>by rw[h,ahO om]at hM;exact wC 1 (s:=[.cj (m.map Ln.row) 3]) (r:=.cm [.agg (Ot.row ⟨0,rows⟩),.int .i64 0]) rfl rfl (by simp[bO,cH,cF,Ln.row]) om (yJ ⟨xS ⟨yH,zU rfl,tV⟩,xJ rfl,tV⟩) ⟨by rw[<-hM];rfl,by rw[az]⟩
  have bad:∀(er:Int)(Ul:St),P.2=er->er≠0->bW (some (.cm [.agg [.sl .full [],.int .i64 0],.int .i64 er])) 1 (λr s=>r=iz M/\s=[.cj (C.map Ln.row) 3]) (.cj (m.map Ln.row) 3::Ul):=λer Ul h h0=>by rw[h,ahP h0]at hM;exact wC 1 (s:=[.cj (m.map Ln.row) 3]) (r:=.cm [.agg (Ot.row ⟨0,[]⟩),.int .i64 er]) rfl rfl (by simp[bO,cH,cF,Ln.row]) om (yJ ⟨xS ⟨yH,zU rfl,tV⟩,xJ rfl,tV⟩) ⟨by rw[<-hM];rfl,by rw[az]⟩
  clear hM;have aq:∀n:Nat,∀out:List (List bF),([.cj (m.map Ln.row) 3,.box T.row,.box st.row,.box [.cL 0 3 l.length 0 k],.box di,.box [.int .i64 dC],.box [.sl (.app 7) (out.map λr=>[V.sl .ro (r.map bF.row)]),.int .i64 0],.app n 1]:St).all (bO 8)=true:=λn out=>by simp[bO,cH,cF,Ln.row,bH.row,bQ.row,di]
  refine zN (zA ?_);simp[go_sem];refine zG (S:=Nat×List (List bF)) [3,4,6,9,49,50,51] (λu=>[.ptr 1 0,.ptr 2 0,.ptr 4 0,.ptr 6 0,.cL 0 3 l.length 0 k,.int .i64 k,.int .i64 u.1]) (λu=>[.cj (m.map Ln.row) 3,.box T.row,.box st.row,.box [.cL 0 3 l.length 0 k],.box di,.box [.int .i64 dC],.box [.sl (.app 7) (u.2.map λr=>[V.sl .ro (r.map bF.row)]),.int .i64 0],.app u.2.length 1]) (λu=>k-u.1) (λu=>u.1<=k/\u.2.length<=u.1/\mW T uJ ((m.take k).drop u.1) u.2=P) hc hb (0,[]) (by grind) ?_ ?_;.exact bT 8 (by rfl) rfl (aq 0 []) dc (zC (by rfl) rfl)
  rintro⟨i,out⟩⟨hi,aH,hinv⟩;simp only at hi aH hinv;by_cases q:i<k;rotate_left;.rw[A4 (by grind),mW]at hinv;refine zA ?_;simp[go_sem,q];refine zA ?_;simp[go_sem,di];exact fin out _ hinv.symm
  have ei:=zR q om;have aI:i<m.length:=om;have aA:i<l.length:=om;obtain⟨x,hx⟩:=eX (m[i]);have aT:m[i]?=some x:=by grind
  have aB:=aG x (hx▸A7 aI);have aC:=Iv aB;rw[A2 (by grind),List.getElem_take,hx,mW,aF]at hinv;by_cases k1:y0.kind=1
  .have ar:(y0.kind==1)=true:=by grind
   rw[ahP (by rw[k1])]at hinv;have aJ:=yO1 x.v om (λh=>by rw[h]at aC;simp at aC);refine zA ?_;simp[go_sem,q,aA,an,hx,hJ,a8,ah,ar];refine zW [(3,2),(4,0),(6,3)] 7 sm (by rfl) kR ?_;simp[go_sem];refine pD aJ ?_;simp[go_sem];refine zF ⟨om,zT rfl⟩ ?_;simp[go_sem,ei];exact zH (i+1,out++[x.v]) ⟨om,(by grind),bT 8 (by simp_all) rfl (aq _ _) dc (zC (by rfl) rfl)⟩
  .have ar:(y0.kind==1)=false:=by grind
   rw[ahO (by grind)]at hinv;obtain⟨E,hE⟩:=eX (dJ T x.v (uJ.map (·.e)) []);rw[hE]at hinv;have aj:∀n:Nat,∀out:List (List bF),([.cj (m.map Ln.row) 3,.box T.row,.box st.row,.box [.cL 0 3 l.length 0 k],.box di,.box [.int .i64 dC],.box [.sl (.app 7) (out.map λr=>[V.sl .ro (r.map bF.row)]),.int .i64 0],.app out.length 1,.box x.row,.app n 3]:St).all (bO 10)=true:=λn out=>by simp[bO,cH,cF,Ln.row,bH.row,bQ.row,di]
   refine zA ?_;simp[go_sem,q,aA,an,hx,hJ,a8,ah,ar];refine wL 12 3 dc (by rfl) ?_;refine zG (S:=Nat×List bF) [3,4,6,9,11,12,49,50,51,70,71,72] (λu=>[.ptr 1 0,.ptr 2 0,.ptr 4 0,.ptr 6 0,.ptr 8 0,.sl (.app 9) (u.2.map bF.row),.cL 0 3 l.length 0 k,.int .i64 k,.int .i64 i,.sl .ro (uJ.map cJ.row),.int .i64 uJ.length,.int .i64 u.1]) (λu=>[.cj (m.map Ln.row) 3,.box T.row,.box st.row,.box [.cL 0 3 l.length 0 k],.box di,.box [.int .i64 dC],.box [.sl (.app 7) (out.map λr=>[V.sl .ro (r.map bF.row)]),.int .i64 0],.app out.length 1,.box x.row,.app u.2.length 3]) (λu=>uJ.length-u.1) (λu=>u.1<=uJ.length/\u.2.length<=u.1/\dJ T x.v ((uJ.drop u.1).map (·.e)) u.2=E) hc hb (0,[]) (by grind) ?_ ?_;.exact bT 10 (by simp[go_sem,hJ]) rfl (aj _ _) dc (zC (by rfl) rfl)
   rintro⟨j,acc⟩⟨hj,aK,aa⟩;simp only at hj aK aa;by_cases p:j<uJ.length
   .have ej:=zR p om;obtain⟨y,hy⟩:=eX (uJ[j]);have aL:=(a7 y (hy▸A7 p)).2;rw[A2 p,hy,Ad,dJ]at aa;have ae:=KP T al x.v aB.ok y.e aL;obtain⟨⟨v,er⟩,hv⟩:∃kv,fN T x.v y.e=kv:=⟨_,rfl⟩;rw[hv]at aa ae;simp only at aa;refine zA ?_;simp[go_sem,p,hy];refine zJ ae cB ⟨zD rfl,zP,oI y.e,tV⟩ rfl ?_;simp[go_sem,dP];by_cases q2:er=0;rotate_left
    .have au:(er !=0)=true:=by grind
     rw[ahP q2]at aa;subst aa;simp only at hinv;rw[ahP q2]at hinv;simp[go_sem,au,di];exact bad er _ (by grind) q2
    have au:(er !=0)=false:=by grind
    rw[ahO om]at aa;simp[go_sem,au];refine zF ⟨om,zT rfl⟩ ?_;simp[go_sem,ej];exact zH (j+1,acc++[v]) ⟨om,(by grind),bT 10 sm rfl (aj _ _) dc (zC sg rfl)⟩
   .rw[A4 om,Bp,dJ]at aa;subst aa;simp only at hinv;rw[ahO om]at hinv;refine zA ?_;simp[go_sem,p];refine zF ⟨om,zT rfl⟩ ?_;simp[go_sem,ei];exact zH (i+1,out++[acc]) ⟨om,(by grind),bT 8 sm rfl (aq _ _) dc (zC (by rfl) rfl)⟩
end Go.Proofs.YtefbicjgbaaieaaGreat
