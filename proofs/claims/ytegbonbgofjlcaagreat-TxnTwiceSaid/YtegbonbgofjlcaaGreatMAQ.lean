/-
  exec.choose: what a SELECT tells of the rows that it meets; used by the walk of exec.Run.
  Conditions: as the theorem states them.
-/
import Derived.Test.YtegbonbgofjlcaaGreatMAO
import Derived.Test.YtegbonbgofjlcaaGreatMAP
import Derived.Test.YtegbonbgofjlcaaGreatMAE
import Derived.Test.YtegbonbgofjlcaaGreatMAF
import Derived.Test.YtegbonbgofjlcaaGreatMAN
import Derived.Test.YtegbonbgofjlcaaGreatMAG
set_option maxHeartbeats 8000000
namespace Go.Proofs.YtegbonbgofjlcaaGreat
open Go Go.Vx R Go.Proofs.Tryz
set_option maxRecDepth 100000
def JY(a b:Mp alW)(sn:Mp Int)(M:List Ln×Int)(r:V)(s:St):Prop:=(M.2≠0/\s=dF a b sn/\r=.cC [.sl .ro [],.int .i64 M.2])\/(M.2=0/\s=dF a b sn++[.cv (M.1.map Ln.row) 3]/\r=.cC [.cS 4 3 M.1.length 0 M.1.length,.int .i64 0])
theorem gm.JZ{x:Ln}(h:gm x):ju x.v:=by obtain⟨tn,T,_,hT,hm⟩:=h.jV;exact HN ((by decide:∀T∈bO,T.cw.length<=20) T (by grind)) h.ok hm
theorem QR{nt:Nat}{d:Option Tmp}{K:KT}{e:Env}{I:St}{i id dm:Nat}{seen:alX}{b:Mp alW}{R0:Vx.R}(hR:R0=nZ true I (.ptr i 0))(hi:I[i]?=some (.it (some id) dm seen dm))(hid:I[id]?=some (.mp (gP V.str b.W) b.bs dm))(hb:∀x∈b.bs,x<dm)(h0:kD seen b.W b.bs=[]->jd nt d (.cC [.bool false]) K fx e I)(h1:∀p∈kD seen b.W b.bs,jd nt d (.cC [.bool true,iD p.1.1,.str p.1.2]) K fx e (I.set i (.it (some id) dm (seen++[p.2]) dm))):eC nt d R0 K fx e I:=by subst hR;have aa:(b.bs.all λx=>decide (x<dm))=true:=(by grind);unfold nZ;simp only[hi,hid,aa,A7,and_self,alB,Xf];match hL:kD seen b.W b.bs with
 |[]=>exact h0 hL|[p]=>exact h1 p (by grind)|p::q::r=>
  simp only[Ag];rw[we5];refine wr3 λx hx=>?_;have ab:x∈(p::q::r).map λp:(Pl×alW)×Nat=>((.cC [.bool true,iD p.1.1,.str p.1.2]:V),I.set i (.it (some id) dm (seen++[p.2]) dm)):=by grind
  obtain⟨y,hy,rfl⟩:=Ab.1 ab;exact h1 y (by grind)
theorem Xv{a b:Mp alW}{sn:Mp Int}{m:List Ln}{k:Nat}{I:St}(hk:4<=k)(h4:I.take 4=dF a b sn)(cP:I[k]?=some (.cv (m.map Ln.row) 3)):cz (some (.cC [.cS k 3 m.length 0 m.length,.int .i64 0])) 4 (JY a b sn (m,0)) I:=by
 refine OU [0,1,2,3,k] (s:=dF a b sn++[.cv (m.map Ln.row) 3]) (r:=.cC [.cS 4 3 m.length 0 m.length,.int .i64 0]) ?_ (λi hi=>?_) rfl (λi j o ab ho=>?_) (.inl (by rfl)) (.inr sM);.grind
 .match i,hi with |0,_=>rfl|1,_=>rfl|2,_=>rfl|3,_=>rfl
 .by_cases q:i<4
  .have e:j=i:=by grind
   subst e;have h1:(dF a b sn)[j]?=some o:=by grind
   have aa:bS 4 o:=Am.1 (by grind[wK]) o (Bp h1);rw[yV (n:=4) (λx hx=>?_) aa];.grind
   .rw[jW (by grind)];match x,hx with |0,_=>rfl|1,_=>rfl|2,_=>rfl|3,_=>rfl
  .have e:i=4:=by grind
   subst e;have e1:o=.cv (m.map Ln.row) 3:=by grind
   have e2:j=k:=by grind
   subst e1;subst e2;rw[yV (n:=0) om (by grind[bS,cV,cR,Ln.row])];omega
theorem xL2(T:bL)(st:bZ)(acc:List Ln)(x:Ln)(l:List Ln):vo T st acc (x::l)=if(gZ T x.v st.cH).2≠0then([],(gZ T x.v st.cH).2)else vo T st (if F0 (gZ T x.v st.cH).1=true then acc++[x]else acc) l:=rfl
theorem wF3(tn:Nat)(T:bL)(hT:bO[tn]?=some T)(st:bZ)(aI:lq st)(hv:MK st)(a b:Mp alW)(sn:Mp Int)(l:List Ln)(aa:dd b l)(hl:l.length<=10000):bN prog 175 [.ptr 3 0,.int .i64 tn,.agg st.row] (dF a b sn) (JY a b sn (gE tn T st l)):=by
 obtain⟨ax,aJ⟩:=A3.1 hT;have h3:tn<3:=ax;have ay:=Vj xN bO tn st dC dC (by grind[MI,maxLen]) hv;have az:=Vp tn st (by have:=MI st;unfold maxLen;omega);obtain⟨⟨lo,hi⟩,a1⟩:∃bd,oC bO tn st=bd:=⟨_,rfl⟩;rw[a1]at ay;obtain⟨G,hG⟩:=eX (wJ tn st);have aK:=V5 tn st;have a6:=λg(hg:g∈wJ (tn:Int) st)=>Xm tn h3 hg;rw[hG]at az aK a6;refine iV 4 func175 ntmps175 results175 λc hc hb=>?_;refine zN (zA ?_);simp[go_sem,dF,gq];refine zN (zA ?_);simp[go_sem];refine yA [(6,0)] 5 rfl kR kR ?_;simp[go_sem];refine pD ay ?_;simp[go_sem,My];refine zN (zA ?_);simp[go_sem];refine Fh 10 3 dC sg ?_;refine zN (zA ?_);simp[go_sem];refine yA [(6,0)] 6 rfl kR kR ?_;simp[go_sem];refine pD az ?_;simp[go_sem];have a7:∀(m:List Ln),([a.ob .str,b.ob .str,sn.ob (V.int .i64),.box [.sl .ro xN,.sl .ro (bO.map bL.row),.mp 0,.mp 1,.mp 2],.box st.row,.cv (m.map Ln.row) 3]:St).all (bS 6)=true:=λm=>by have h:=wK 6 om a b sn;simp_all[dF,bS,cV,cR,bZ.row,Ln.row]
 have eB:b.ob .str=.mp (gP .str b.W) b.bs b.dm:=rfl;have aL:∀x∈b.bs,x<b.dm:=aa.ok.lt;have ad:∀(m:List Ln)(se:alX),([a.ob .str,b.ob .str,sn.ob (V.int .i64),.box [.sl .ro xN,.sl .ro (bO.map bL.row),.mp 0,.mp 1,.mp 2],.box st.row,.cv (m.map Ln.row) 3,.it (some 1) b.dm se b.dm]:St).all (bS 7)=true:=λm se=>by have h:=wK 7 om a b sn;simp_all[dF,bS,cV,cR,bZ.row,Ln.row]
 refine zG (S:=Nat×List Ln) [0,1,5,8,9,10,40,41,42] (λu=>[.ptr 3 0,.int .i64 tn,.ptr 4 0,.str lo,.str hi,.cS 5 3 u.2.length 0 u.2.length,.sl .ro (G.map yU),.int .i64 G.length,.int .i64 u.1]) (λu=>[a.ob .str,b.ob .str,sn.ob (V.int .i64),.box [.sl .ro xN,.sl .ro (bO.map bL.row),.mp 0,.mp 1,.mp 2],.box st.row,.cv (u.2.map Ln.row) 3]) (λu=>G.length-u.1) (λu=>u.1<=G.length/\u.2.Perm ((G.take u.1).flatMap λg=>l.filter (JX (xJ tn g).1 lo hi))/\u.2.length<=u.1*10000) hc hb (0,[]) sM ?_ ?_;.exact aN 6 (a7 [])
 rintro⟨i,acc⟩⟨aP,ak,aQ⟩;simp only at aP ak aQ;by_cases q:i<G.length
 .have ei:=zO q om;obtain⟨g,hg⟩:=eX (G[i]);obtain⟨bc,aR,a8⟩:=a6 g (hg▸A9 q);have aA:=Jz tn g om om;obtain⟨dN,aB⟩:=eX ((xJ tn g).1);have aS:xJ tn g=(dN,0):=Prod.ext aB aR;rw[aS]at aA a8;refine zA ?_;simp[go_sem,q,hg,yU];refine pC aA ?_;simp[go_sem,FV,eB];refine zG (S:=alX×List (Pl×alW)) [0,1,5,8,9,10,13,40,41,42,60] (λu=>[.ptr 3 0,.int .i64 tn,.ptr 4 0,.str lo,.str hi,.cS 5 3 (acc++(u.2.filter (qZ dN lo hi)).map (xd tn)).length 0 (acc++(u.2.filter (qZ dN lo hi)).map (xd tn)).length,.int .i64 dN,.sl .ro (G.map yU),.int .i64 G.length,.int .i64 i,.ptr 6 0]) (λu=>[a.ob .str,b.ob .str,sn.ob (V.int .i64),.box [.sl .ro xN,.sl .ro (bO.map bL.row),.mp 0,.mp 1,.mp 2],.box st.row,.cv ((acc++(u.2.filter (qZ dN lo hi)).map (xd tn)).map Ln.row) 3,.it (some 1) b.dm u.1 b.dm]) (λu=>(kD u.1 b.W b.bs).length) (λu=>iE u.1 b.W b.bs u.2) hc hb ([],[]) (iE.start aa.ok.len) ?_ ?_;.exact bU 7 (by simp[go_sem];rfl) rfl (ad _ _) dC (zD sg rfl)
  rintro⟨se,D⟩hD;simp only at hD;refine tg 61 dC ?_;refine zA ?_;simp[go_sem,eB];have aC:∀p∈kD se b.W b.bs,p.1.2.length<=cN:=λp hp=>by obtain⟨x,hx,aT⟩:=Ab.1 (aa.perm.mem_iff.1 (List.of_mem_zip (M7 hp)).1);rw[<-aT];have:=P5 (gm.JZ (aa.rows x hx)) x.v.length;exact Ax this dC
  have bf:D.length<=10000:=by have h1:=hD.length_eq;rw[aa.perm.length_eq]at h1;grind
  have bg:((D.filter (qZ dN lo hi)).map (xd tn)).length<=D.length:=by grind
  refine QR (b:=b) (i:=6) (id:=1) (seen:=se) (dm:=b.dm) (by simp[go_sem,nZ]) rfl rfl aL (λhL=>?_) (λp hp=>?_);.have aU:=yZ1 aa (hD.done hL) (t:=tn) (dN:=dN) (by rw[a8]) lo hi;simp[go_sem,ei];exact zH (i+1,acc++(D.filter (qZ dN lo hi)).map (xd tn)) ⟨om,⟨q,by show(acc++_).Perm _;rw[Ac q,alN,hg];grind,by grind⟩,bU 6 (by simp[go_sem];rfl) rfl (a7 _) dC (zD sg rfl)⟩
  .have ae:=M5 (g:=V.str) aa.ok.nd (M7 hp);have af:=hD.next aa.ok.nd hp;have aD:=(M6 aa.ok.nd hp).length_eq;have ao:=aC p hp;clear aC;obtain⟨⟨⟨pr,pk⟩,data⟩,eO⟩:=p;simp only[iD]at ae af aD ao;have ab:(kD (se++[eO]) b.W b.bs).length<(kD se b.W b.bs).length:=by grind
   have an:=U6 xN bO tn data ao dC;have aE:xd tn ((pr,pk),data)=⟨pr,pk,(eM bO tn data).1⟩:=rfl;obtain⟨rf,aV⟩:=eX (eM bO tn data);rw[aV]at an aE;have al:qZ dN lo hi ((pr,pk),data)=((pr==dN)&&(!Op.bytesLess pk lo&&Op.bytesLess pk hi)):=rfl;clear aD hp ao;refine(A6 (pr==dN)).elim (λr1=>?_) (λr1=>?_);rotate_left
   .have hE:qZ dN lo hi ((pr,pk),data)=false:=by rw[al,r1];rfl
    simp[go_sem,iD,rF,ae,r1];exact zH (se++[eO],D++[((pr,pk),data)]) ⟨ab,af,bU 7 (by simp[go_sem,hE];rfl) rfl (ad _ _) dC (zD (by simp[go_sem,hE]) rfl)⟩
   refine(A6 (Op.bytesLess pk lo)).elim (λr2=>?_) (λr2=>?_)
   .have hE:qZ dN lo hi ((pr,pk),data)=false:=by rw[al,r1,r2];rfl
    simp[go_sem,iD,rF,ae,r1,r2];exact zH (se++[eO],D++[((pr,pk),data)]) ⟨ab,af,bU 7 (by simp[go_sem,hE];rfl) rfl (ad _ _) dC (zD (by simp[go_sem,hE]) rfl)⟩
   refine(A6 (Op.bytesLess pk hi)).elim (λr3=>?_) (λr3=>?_);rotate_left
   .have hE:qZ dN lo hi ((pr,pk),data)=false:=by rw[al,r1,r2,r3];rfl
    simp[go_sem,iD,rF,ae,r1,r2,r3];exact zH (se++[eO],D++[((pr,pk),data)]) ⟨ab,af,bU 7 (by simp[go_sem,hE];rfl) rfl (ad _ _) dC (zD (by simp[go_sem,hE]) rfl)⟩
   have hE:qZ dN lo hi ((pr,pk),data)=true:=by rw[al,r1,r2,r3];rfl
   simp[go_sem,iD,rF,ae,r1,r2,r3];refine pC an ?_;simp[go_sem,eG,C0];have bh:(D.filter (qZ dN lo hi)).length<=D.length:=Dp _ _;refine zJ ⟨zZ rfl,om⟩ ?_;simp[go_sem];exact zH (se++[eO],D++[((pr,pk),data)]) ⟨ab,af,bU 7 (by simp[go_sem,hE,aE];rfl) rfl (ad _ _) dC (zD (by simp[go_sem,hE,E1]) rfl)⟩
 .have aW:i=G.length:=om;have bj:∀x:Ln,qm tn st x=((G.any λg=>(xJ tn g).1==x.r)&&(!Op.bytesLess x.k lo&&Op.bytesLess x.k hi)):=(by grind[qm]);have ah:acc.Perm (l.filter (qm tn st)):=by have h:=yI8 tn h3 st l;rw[hG,a1]at h;rw[aW,List.take_length]at ak;exact ak.trans h
  have hlen:acc.length<=l.length:=by rw[ah.length_eq];grind
  obtain⟨M,hM⟩:=eX (gE tn T st l);have aq:st.ef=false->M=(l.filter (qm tn st),0):=λh=>by simp_all[gE]
  have ar:st.ef=true->M=vo T st [] (l.filter (qm tn st)):=λh=>by simp_all[gE]
  rw[hM];clear hM;refine zA ?_;simp[go_sem,q];refine zN (zA ?_);simp[go_sem];refine TZ Tryz.zw rfl cB dC Tryz.oL Tryz.qu cB Xd xX9 (f:=Ln.row) (kx:=Ln.at) (λx=>⟨_,rfl,rfl⟩) acc rfl om (λl' au aF=>?_);have aG:=xj3 aa.jA (au.symm.trans ah) aF;have av:acc.length=l'.length:=au.length_eq;rw[<-aG]at aq ar;simp[go_sem,av];refine zN (zA ?_);simp[go_sem];refine zX (λh=>?_) (λh=>?_);.have hf:st.ef=false:=sU h;rw[aq hf];simp[go_sem];exact Xv dC rfl rfl
  .have hf:st.ef:=sU h;have hM:=ar hf;have bk:l'.length<=10000:=om;have aX:∀x∈l',gm x:=λx hx=>aa.rows x (by grind);have aY:T.cw.length<=maxLen:=(by decide:∀T∈bO,T.cw.length<=maxLen) T (Bp hT);clear aq ar aG au aF ak ah;have ai:∀(m:List Ln),([a.ob .str,b.ob .str,sn.ob (V.int .i64),.box [.sl .ro xN,.sl .ro (bO.map bL.row),.mp 0,.mp 1,.mp 2],.box st.row,.cv (l'.map Ln.row) 3,.cv (m.map Ln.row) 3]:St).all (bS 7)=true:=(by simp_all[bS,cV,cR,Ln.row]);refine zN (zA ?_);simp[go_sem];refine Fh 19 3 dC sg ?_;refine zN (zA ?_);simp[go_sem];refine zG (S:=Nat×List Ln) [0,1,5,19,105,106,107] (λu=>[.ptr 3 0,.int .i64 tn,.ptr 4 0,.cS 6 3 u.2.length 0 u.2.length,.cS 5 3 l'.length 0 l'.length,.int .i64 l'.length,.int .i64 u.1]) (λu=>[a.ob .str,b.ob .str,sn.ob (V.int .i64),.box [.sl .ro xN,.sl .ro (bO.map bL.row),.mp 0,.mp 1,.mp 2],.box st.row,.cv (l'.map Ln.row) 3,.cv (u.2.map Ln.row) 3]) (λu=>l'.length-u.1) (λu=>u.1<=l'.length/\u.2.length<=u.1/\vo T st u.2 (l'.drop u.1)=M) hc hb (0,[]) (by grind) ?_ ?_;.exact aN 7 (ai [])
   rintro⟨j,out⟩⟨hj,aZ,hinv⟩;simp only at hj aZ hinv;by_cases p:j<l'.length;rotate_left;.rw[A8 om,vo]at hinv;subst hinv;refine zA ?_;simp[go_sem,p];refine zA ?_;simp[go_sem];exact Xv dC rfl rfl
   have ej:=zO p om;obtain⟨x,hx⟩:=eX (l'[j]);have ba:=aX x (hx▸A9 p);rw[A4 p,hx,xL2]at hinv;have aj:=M0 T aY x.v ba.ok st.cH aI.cH;obtain⟨⟨v,er⟩,hv⟩:∃kv,gZ T x.v st.cH=kv:=⟨_,rfl⟩;rw[hv]at hinv aj;simp only at hinv;have aH:=Wg v;obtain⟨tv,bb⟩:=eX (F0 v);rw[bb]at hinv aH;refine zA ?_;simp[go_sem,p,hx];refine yA [(12,0)] 8 rfl kR kR ?_;simp[go_sem,ax,aJ];refine wW aj cB (λ_=>⟨zC rfl,zK,zk st.cH,tV⟩) rfl ?_;simp[go_sem,fR];by_cases q2:er=0;rotate_left;.have aw:(er !=0)=true:=sU q2;rw[alq q2]at hinv;subst hinv;simp[go_sem,aw];exact yW 4 (s:=dF a b sn) (r:=.cC [.sl .ro [],.int .i64 er]) rfl rfl (wK 4 dC a b sn) (A7 _) (yO ⟨rP,xD rfl,tV⟩) (.inl ⟨q2,rfl,rfl⟩)
   have aw:(er !=0)=false:=sU q2;rw[alp (λh=>h q2)]at hinv;simp[go_sem,aw];refine pC aH ?_;refine(A6 tv).elim (λt=>?_) (λt=>?_);.rw[alq t]at hinv;simp[go_sem,t,C0];refine zJ ⟨zZ rfl,om⟩ ?_;simp[go_sem,ej];exact zH (j+1,out++[x]) ⟨om,(by grind),aN 7 (ai (out++[x]))⟩
   .rw[alp (by rw[t];decide)]at hinv;simp[go_sem,t,ej];exact zH (j+1,out) ⟨om,(by grind),aN 7 (ai out)⟩
end Go.Proofs.YtegbonbgofjlcaaGreat
namespace Go.Proofs.YtegbonbgofjlcaaGreat
open Go Go.Vx Go.Proofs.Tryz
structure Ord(lt:Nat->Nat->Bool):Prop where
 HO:∀i,lt i i=false
 tr:∀i j k,lt i j=true->lt j k=true->lt i k=true
 nt:∀i j k,lt i j=false->lt j k=false->lt i k=false
variable{a:Nat}{b:Nat}{i:Nat}{k:Nat}{m:Nat}{j:Nat}{lt:Nat->Nat->Bool}{f:Nat->Nat}{g:Nat->Nat}
def TO(lt:Nat->Nat->Bool)(i j:Nat):Prop:=lt i j=true\/lt j i=false/\i<j
theorem Ord.asym(o:Ord lt)(h:lt i j):lt j i=false:=by
 cases q:lt j i;.rfl
 .have:=o.tr _ _ _ h q;rw[o.HO]at this;grind
theorem TO.trans(o:Ord lt)(h:TO lt i j)(g:TO lt j k):TO lt i k:=by cases q:lt i k with |true=>exact .inl q|false=>
  rcases h with h|⟨h,h'⟩
  .rcases g with g|⟨g,g'⟩;.rw[o.tr _ _ _ h g]at q;cases q
   .have:=o.nt _ _ _ q g;grind
  .rcases g with g|⟨g,g'⟩;.have:=o.nt _ _ _ h q;grind
   .exact .inr ⟨o.nt _ _ _ g h,om⟩
theorem TO.HO(o:Ord lt)(h:TO lt i i):False:=by
 rcases h with h|⟨_,h⟩;.rw[o.HO]at h;cases h
 .omega
theorem TO.zy(o:Ord lt)(h:j<i):TO lt j i↔lt i j=false:=⟨λq=>q.elim o.asym λq=>q.1,λq=>.inr ⟨q,h⟩⟩
def jC(lt:Nat->Nat->Bool)(f:Nat->Nat)(a b:Nat):Prop:=∀i j,a<=i->i<j->j<b->TO lt (f i) (f j)
def Mv(f f':Nat->Nat)(a b:Nat):Prop:=∃π:Nat->Nat,(∀k,a<=k->k<b->a<=π k/\π k<b)/\(∀k,k<a\/b<=k->π k=k)/\(∀i j,π i=π j->i=j)/\∀k,f' k=f (π k)
theorem Mv.refl(f:Nat->Nat)(a b:Nat):Mv f f a b:=⟨id,(by grind),sM,sM,λ_=>rfl⟩
theorem Mv.mono{f':Nat->Nat}{c d:Nat}(h:Mv f f' a b)(h1:c<=a)(h2:b<=d):Mv f f' c d:=by obtain⟨π,p1,p2,p3,p4⟩:=h;refine⟨π,λk k1 k2=>?_,(by grind),p3,p4⟩;grind
theorem Mv.trans{h:Nat->Nat}(p:Mv f g a b)(q:Mv g h a b):Mv f h a b:=by obtain⟨π,p1,p2,p3,p4⟩:=p;obtain⟨ρ,q1,q2,q3,q4⟩:=q;refine⟨λk=>π (ρ k),(by grind),(by grind),(by grind),(by grind)⟩;all_goals grind
theorem Mv.out(p:Mv f g a b)(h:k<a\/b<=k):g k=f k:=by obtain⟨π,p1,p2,p3,p4⟩:=p;grind
theorem Mv.at(p:Mv f g a b)(h1:a<=k)(h2:k<b):∃j,a<=j/\j<b/\g k=f j:=by obtain⟨π,p1,p2,p3,p4⟩:=p;grind
def sw(f:Nat->Nat)(i j:Nat):Nat->Nat:=λk=>if k=i then f j else if k=j then f i else f k
def oM(f:Nat->Nat)(a b n:Nat):Nat->Nat:=λk=>if a<=k/\k<a+n then f (k-a+b)else if b<=k/\k<b+n then f (k-b+a)else f k
theorem wG5(f:Nat->Nat)(a b:Nat):oM f a b 0=f:=by funext x;unfold oM;grind
theorem wb9(f:Nat->Nat)(h:a+i<b):sw (oM f a b i) (a+i) (b+i)=oM f a b (i+1):=by funext x;unfold sw oM;grind
def dO(f:Nat->Nat)(a m b:Nat):Nat->Nat:=λk=>if a<=k/\k<a+(b-m)then f (k+(m-a))else if a+(b-m)<=k/\k<b then f (k-(b-m))else f k
theorem Mv.Na(f:Nat->Nat)(h1:a<=m)(h2:m<=b):Mv f (dO f a m b) a b:=by
 refine⟨λk=>if a<=k/\k<a+(b-m)then k+(m-a)else if a+(b-m)<=k/\k<b then k-(b-m)else k,λk k1 k2=>?_,λk hk=>?_,λx y e=>?_,λk=>?_⟩;.grind
 .grind
 .grind
 .unfold dO;grind
theorem wB0(g:Nat->Nat)(h:j<i)(hi:i<=m):dO (oM g (m-i) m j) (m-(i-j)) m (m+j)=dO g (m-i) m (m+j):=by funext x;unfold dO oM;grind
theorem wB1(g:Nat->Nat)(h:i<j)(hi:i<=m):dO (oM g (m-i) (m+j-i) i) (m-i) m (m+(j-i))=dO g (m-i) m (m+j):=by funext x;unfold dO oM;grind
theorem wA9(g:Nat->Nat)(hi:i<=m):oM g (m-i) m i=dO g (m-i) m (m+i):=by funext x;unfold dO oM;grind
theorem wG6(f:Nat->Nat)(h:a<=k):sw (dO f a (a+1) (k+1)) k (k+1)=dO f a (a+1) (k+2):=by funext x;unfold sw dO;grind
theorem Xw(f:Nat->Nat)(a m:Nat):dO f a m m=f:=by funext x;unfold dO;grind
theorem Xx(f:Nat->Nat)(h:k<=m)(hk:0<k):sw (dO f k m (m+1)) k (k-1)=dO f (k-1) m (m+1):=by funext x;unfold sw dO;grind
theorem QS(f:Nat->Nat)(m b:Nat):dO f m m b=f:=by funext x;unfold dO;grind
theorem vp(f:Nat->Nat)(h:a<=k/\k<a+(b-m)):dO f a m b k=f (k+(m-a)):=by simp_all[dO]
theorem vq(f:Nat->Nat)(h:a+(b-m)<=k/\k<b):dO f a m b k=f (k-(b-m)):=by simp_all[dO,alp]
theorem q9(f:Nat->Nat)(hm:m<=b)(h0:a<=m)(h:k<a\/b<=k):dO f a m b k=f k:=by unfold dO;grind
section
variable{lt:Nat->Nat->Bool}{f:Nat->Nat}
theorem wl4{a b i:Nat}(hs:jC lt f (a+1) b)(h1:a+1<=i)(h2:i<=b)(hl:∀x,a+1<=x->x<i->TO lt (f x) (f a))(hr:∀x,i<=x->x<b->TO lt (f a) (f x)):jC lt (dO f a (a+1) i) a b:=by
 intro x y hx aa hy;rcases Bc y (i-1)with q|q|q;.rw[vp f om,vp f om];exact hs _ _ om om om
 .grind[vp,vq]
 .rw[q9 f om om (k:=y) om];rcases Bc x (i-1)with p|p|p;.rw[vp f om];exact hs _ _ om om om
  .grind[vq]
  .rw[q9 f om om (k:=x) om];exact hs _ _ om om om
theorem Xy{a m i:Nat}(hs:jC lt f a m)(h1:a<=i)(h2:i<=m)(hl:∀x,a<=x->x<i->TO lt (f x) (f m))(hr:∀x,i<=x->x<m->TO lt (f m) (f x)):jC lt (dO f i m (m+1)) a (m+1):=by
 intro x y hx aa hy;rcases Bc x i with q|q|q
 .rw[q9 f om om (k:=x) om];rcases Bc y i with p|p|p;.rw[q9 f om om (k:=y) om];exact hs _ _ om om om
  .grind[vp]
  .rw[vq f om];exact hs _ _ om om om
 .rw[vp f om,show x+(m-i)=m by omega,vq f om];grind
 .rw[vq f om,vq f om];exact hs _ _ om om om
theorem xF7(o:Ord lt){a m b fg s e lo hi:Nat}(ha:a<m)(hb:m<b)(an:fg=(a+b)/2)(ad:jC lt f a m)(ae:jC lt f m b)(aj:lo=if fg<m then fg+m-b else a)(ak:hi=if fg<m then fg else m)(h1:lo<=s)(h2:s<=hi)(he:e=fg+m-s)(hl:∀c,lo<=c->c<s->TO lt (f c) (f (fg+m-1-c)))(hr:∀c,s<=c->c<hi->TO lt (f (fg+m-1-c)) (f c)):(a<=s/\s<=fg/\s<=m/\m<=e/\fg<=e/\e<=b/\s+(e-m)=fg)/\(∀x y,a<=x->x<fg->fg<=y->y<b->TO lt (dO f s m e x) (dO f s m e y))/\jC lt (dO f s m e) a s/\jC lt (dO f s m e) s fg/\jC lt (dO f s m e) fg e/\jC lt (dO f s m e) e b:=by
 have hm:fg*2<=a+b/\a+b<=fg*2+1:=om;have al:a<=s/\s<=fg/\s<=m/\m<=e/\fg<=e/\e<=b/\s+(e-m)=fg/\a<fg/\fg<b:=by split at aj<;>split at ak<;>omega
 obtain⟨r1,r2,r3,r4,r5,r6,r7,r8,r9⟩:=al;have k1:∀x,a<=x->x<s->∀y,s<=y->y<m->TO lt (f x) (f y):=λx aa ah y ai ab=>ad _ _ aa om ab;have k2:∀x,m<=x->x<e->∀y,e<=y->y<b->TO lt (f x) (f y):=λx aa ah y ai ab=>ae _ _ aa om ab;have k3:∀x,a<=x->x<s->∀y,e<=y->y<b->TO lt (f x) (f y):=λx aa ah y ai ab=>by
  have q:lo<=s-1:=by split at aj<;>omega
  have h:=hl (s-1) q om;rw[show fg+m-1-(s-1)=e by omega]at h;have h3:TO lt (f x) (f e):=by
   by_cases hx:x=s-1;.rw[hx];exact h
   .exact(ad x (s-1) aa om om).trans o h
  by_cases hy:y=e;.rw[hy];exact h3
  .exact h3.trans o (ae _ _ om om ab)
 have k4:∀x,m<=x->x<e->∀y,s<=y->y<m->TO lt (f x) (f y):=λx aa ah y ai ab=>by
  have q:s<hi:=by split at ak<;>omega
  have h:=hr s (A7 _) q;have h3:TO lt (f x) (f s):=by
   by_cases hx:x=fg+m-1-s;.rw[hx];exact h
   .exact(ae x (fg+m-1-s) aa om om).trans o h
  by_cases hy:y=s;.rw[hy];exact h3
  .exact h3.trans o (ad _ _ om om ab)
 refine⟨⟨r1,r2,r3,r4,r5,r6,r7⟩,λx y aa ah ai ab=>?_,λx y hx af hy=>?_,λx y hx af hy=>?_,λx y hx af hy=>?_,λx y hx af hy=>?_⟩
 .by_cases c1:x<s
  .rw[q9 f r4 r3 (k:=x) om];by_cases c2:y<e;.rw[vq f om];exact k1 _ aa c1 _ om om
   .rw[q9 f r4 r3 (k:=y) om];exact k3 _ aa c1 _ om ab
  .rw[vp f om];by_cases c2:y<e;.rw[vq f om];exact k4 _ om om _ om om
   .rw[q9 f r4 r3 (k:=y) om];exact k2 _ om om _ om ab
 .rw[q9 f r4 r3 om,q9 f r4 r3 om];exact ad _ _ hx af om
 .rw[vp f om,vp f om];exact ae _ _ om om om
 .rw[vq f om,vq f om];exact ad _ _ om om om
 .rw[q9 f r4 r3 om,q9 f r4 r3 om];exact ae _ _ om af hy
end
variable{f:Nat->Nat}{lt:Nat->Nat->Bool}{a:Nat}{b:Nat}{f':Nat->Nat}{n:Nat}{t:Nat}{m:Nat}{fg:Nat}
def vt(f:Nat->Nat)(a m b:Nat):Prop:=∀x y,a<=x->x<m->m<=y->y<b->f x<f y
theorem vt.J0{s e:Nat}(h:vt f a m b)(h2:s<=m)(h3:m<=e)(h4:e<=b)(h5:s+(e-m)=fg):vt (dO f s m e) a s fg:=by intro x y aa ab ad ae;rw[q9 f h3 h2 om,vp f om];exact h _ _ aa om om om
theorem vt.J4{s e:Nat}(h:vt f a m b)(h1:a<=s)(h2:s<=m)(h3:m<=e)(h5:s+(e-m)=fg):vt (dO f s m e) fg e b:=by intro x y aa ab ad ae;rw[vq f om,q9 f h3 h2 (k:=y) om];exact h _ _ om om om om
def kU(lt:Nat->Nat->Bool)(f g:Nat->Nat)(a b:Nat):Prop:=Mv f g a b/\jC lt g a b
theorem kU.both{g h1 h2:Nat->Nat}(h0:Mv f g a b)(hp:∀x y,a<=x->x<fg->fg<=y->y<b->TO lt (g x) (g y))(hm:a<=fg/\fg<=b)(q1:kU lt g h1 a fg)(q2:kU lt h1 h2 fg b):kU lt f h2 a b:=by
 refine⟨(h0.trans (q1.1.mono om hm.2)).trans (q2.1.mono hm.1 om),λx y hx aa hy=>?_⟩;by_cases c1:y<fg;.rw[q2.1.out om,q2.1.out om];exact q1.2 _ _ hx aa c1
 .by_cases c2:fg<=x;.exact q2.2 _ _ c2 aa hy
  .rw[q2.1.out (k:=x) om];obtain⟨i,i1,i2,i3⟩:=q1.1.at hx om;obtain⟨j,j1,j2,j3⟩:=q2.1.at (k:=y) om hy;rw[i3,j3,q1.1.out (k:=j) om];grind
theorem kU.id(h:jC lt f a b):kU lt f f a b:=⟨.refl f a b,h⟩
def k8(lt:Nat->Nat->Bool)(f:Nat->Nat)(a b:Nat):Prop:=(∀k,a<=k->k<b->a<=f k/\f k<b)/\jC lt f a b
theorem k8.Xz(h:k8 lt f a m)(g:k8 lt f m b):vt f a m b:=λx y aa ab ad ae=>by have:=h.1 x aa ab;have:=g.1 y ad ae;omega
theorem k8.merged(h:k8 lt f a m)(g:k8 lt f m b)(hm:a<=m/\m<=b)(q:kU lt f f' a b):k8 lt f' a b:=by
 refine⟨λk h1 h2=>?_,q.2⟩;obtain⟨j,j1,j2,j3⟩:=q.1.at h1 h2;rw[j3];by_cases c:j<m;.have:=h.1 j j1 c;omega
 .have:=g.1 j om j2;omega
theorem k8.vu{c d:Nat}(h:k8 lt f c d)(q:Mv f f' a b)(hd:d<=a\/b<=c):k8 lt f' c d:=by
 refine⟨λk h1 h2=>?_,λx y hx aa hy=>?_⟩;.rw[q.out om];exact h.1 k h1 h2
 .rw[q.out om,q.out om];exact h.2 x y hx aa hy
theorem k8.sorted(h:∀k,a<=k->f k=k)(q:kU lt f f' a b):k8 lt f' a b:=by refine⟨λk h1 h2=>?_,q.2⟩;obtain⟨j,j1,j2,j3⟩:=q.1.at h1 h2;grind
def nx(lt:Nat->Nat->Bool)(f:Nat->Nat)(w n:Nat):Prop:=∀q,q*w<n->k8 lt f (q*w) (min (q*w+w) n)
def kp(lt:Nat->Nat->Bool)(f:Nat->Nat)(w n t:Nat):Prop:=(∀q,q<t->k8 lt f (q*(2*w)) (q*(2*w)+2*w))/\∀q,2*t<=q->q*w<n->k8 lt f (q*w) (min (q*w+w) n)
theorem kp.start{w:Nat}(h:nx lt f w n):kp lt f w n 0:=⟨om,(by simpa)⟩
theorem kp.pair{w:Nat}(h:kp lt f w n t)(hw:0<w)(hm:t*(2*w)+w<n):k8 lt f (t*(2*w)) (t*(2*w)+w)/\k8 lt f (t*(2*w)+w) (min (t*(2*w)+2*w) n):=by
 have e1:2*t*w=t*(2*w):=by grind
 have e2:(2*t+1)*w=t*(2*w)+w:=by grind
 have h1:=h.2 (2*t) om om;have h2:=h.2 (2*t+1) om om;grind
theorem kp.next{w:Nat}(h:kp lt f w n t)(hw:0<w)(hb:t*(2*w)+2*w<=n)(q:kU lt f f' (t*(2*w)) (t*(2*w)+2*w)):kp lt f' w n (t+1):=by
 have e1:2*t*w=t*(2*w):=by grind
 have hp:=h.pair hw om;refine⟨λp aa=>?_,λp aa h1=>?_⟩
 .by_cases c:p=t;.subst c;rw[show min (p*(2*w)+2*w) n=p*(2*w)+2*w by omega]at hp;exact hp.1.merged hp.2 om q
  .have:=Ak (2*w) (show p+1<=t by omega);rw[B5,Dc]at this;exact(h.1 p om).vu q.1 (.inl this)
 .have:=Ak w (show 2*t+2<=p by omega);rw[B5,e1]at this;exact(h.2 p om h1).vu q.1 (.inr this)
theorem kp.last{w:Nat}(h:kp lt f w n t)(hw:0<w)(hm:t*(2*w)+w<n)(hb:n<t*(2*w)+2*w)(q:kU lt f f' (t*(2*w)) n):nx lt f' (2*w) n:=by
 have hp:=h.pair hw hm;rw[show min (t*(2*w)+2*w) n=n by omega]at hp;intro p h1;rcases Bc p t with c|c|c;.have:=Ak (2*w) (show p+1<=t by omega);rw[B5,Dc]at this;rw[show min (p*(2*w)+2*w) n=p*(2*w)+2*w by omega];exact(h.1 p c).vu q.1 (.inl this)
 .subst c;rw[show min (p*(2*w)+2*w) n=n by omega];exact hp.1.merged hp.2 om q
 .have:=Ak (2*w) (show t+1<=p by omega);grind
theorem kp.none{w:Nat}(h:kp lt f w n t)(h0:t*(2*w)<=n)(hm:n<=t*(2*w)+w):nx lt f (2*w) n:=by
 have e1:2*t*w=t*(2*w):=by grind
 intro p h1;rcases Bc p t with c|c|c;.have:=Ak (2*w) (show p+1<=t by omega);rw[B5,Dc]at this;rw[show min (p*(2*w)+2*w) n=p*(2*w)+2*w by omega];exact h.1 p c
 .subst c;have:=h.2 (2*p) om om;grind
 .have:=Ak (2*w) (show t+1<=p by omega);grind
theorem nx.all{w:Nat}(h:nx lt f w n)(hw:n<=w):k8 lt f 0 n:=by
 by_cases c:n=0;.subst c;exact⟨om,λx y _ _ h=>om⟩
 .have:=h 0 om;grind
theorem xf8{w:Nat}(h1:∀q,q<t->k8 lt f (q*w) (q*w+w))(h2:∀k,t*w<=k->f k=k)(ht:t*w<=n)(hn:n<t*w+w)(q:kU lt f f' (t*w) n):nx lt f' w n:=by
 intro p hp;rcases Bc p t with c|c|c;.have:=Ak w (show p+1<=t by omega);rw[B5,Dc]at this;rw[show min (p*w+w) n=p*w+w by omega];exact(h1 p c).vu q.1 (.inl this)
 .grind[k8.sorted]
 .have:=Ak w (show t+1<=p by omega);grind
theorem xB4{w:Nat}(h1:∀q,q<t->k8 lt f (q*w) (q*w+w))(h2:∀k,t*w<=k->f k=k)(q:kU lt f f' (t*w) (t*w+w)):(∀q,q<t+1->k8 lt f' (q*w) (q*w+w))/\∀k,(t+1)*w<=k->f' k=k:=by
 refine⟨λp hp=>?_,λk hk=>?_⟩
 .by_cases c:p=t;.grind[k8.sorted]
  .have:=Ak w (show p+1<=t by omega);rw[B5,Dc]at this;exact(h1 p om).vu q.1 (.inl this)
 .rw[B5,Dc]at hk;rw[q.1.out om];grind
end Go.Proofs.YtegbonbgofjlcaaGreat
namespace Go.Proofs.YtegbonbgofjlcaaGreat
open Go Go.Vx Go.Proofs.Tryz
set_option maxRecDepth 100000
@[go_sem]theorem J5:eJ prog 328=some 1:=kR
@[go_sem]theorem HP:cQ prog 328=some false:=kR
@[go_sem]theorem J6:eJ prog 437=some 1:=kR
@[go_sem]theorem HQ:cQ prog 437=some false:=kR
def fV(cD:St)(id s n:Nat)(row:Nat->List V)(f:Nat->Nat):St:=cD.set id (.cv ((List.range n).map λk=>row (f k)) s)
theorem DX(cD:St)(id s n:Nat)(row:Nat->List V)(f:Nat->Nat):(fV cD id s n row f).length=cD.length:=by simp[fV]
structure SC(P:Program)(gl gs:FuncId)(cl cs:List V)(cD:St)(id s n:Nat)(row:Nat->List V)(lt:Nat->Nat->Bool):Prop where
 here:id<cD.length
 nn:n<=1000000J7:cl.all (cR cD.length)=true
 DY:cs.all (cR cD.length)=true
 J8:cD.all (bS cD.length)=true
 F4:∀k,(row k).all (cV cD.length)=true
 less:∀(c:Ctx)(τ:St)(f:Nat->Nat)(i j:Nat)(K:V->St->Prop),i<n->j<n->i≠j->K (.bool (lt (f i) (f j))) (fV cD id s n row f++τ)->jn P c (.fn gl cl) [.int .i64 i,.int .i64 j] (fV cD id s n row f++τ) K fx
 swap:∀(c:Ctx)(τ:St)(f:Nat->Nat)(i j:Nat)(K:V->St->Prop),i<n->j<n->i≠j->K (.cC []) (fV cD id s n row (sw f i j)++τ)->jn P c (.fn gs cs) [.int .i64 i,.int .i64 j] (fV cD id s n row f++τ) K fx
section
variable{gl gs:FuncId}{cl cs:List V}{cD:St}{id s n:Nat}{row:Nat->List V}{lt:Nat->Nat->Bool}
theorem SC.iT(S:SC prog gl gs cl cs cD id s n row lt)(f:Nat->Nat):(fV cD id s n row f).all (bS cD.length)=true:=by
 unfold fV;rw[Am];intro o ho;rcases Dw ho with h|rfl;.exact Am.1 S.J8 o h
 .simp only[bS,Am];intro r hr x hx;obtain⟨k,_,rfl⟩:=Ab.1 hr;exact Am.1 (S.F4 (f k)) x hx
def gn(gl gs:FuncId)(cl cs:List V):Ob:=.box [.fn gl cl,.fn gs cs]
theorem xb4(S:SC prog gl gs cl cs cD id s n row lt)(f:Nat->Nat)(a b m:Nat)(h1:a+m<=b)(h2:b+m<=n):bN prog 454 [.agg [.fn gl cl,.fn gs cs],.int .i64 a,.int .i64 b,.int .i64 m] (fV cD id s n row f) (λr t=>r=.cC []/\t=fV cD id s n row (oM f a b m)):=by
 have hn:=S.nn;refine bN.iN (fV cD id s n row f).length func454 ntmps454 results454 rfl rfl (Ca rfl) λc hc hb=>?_;have hl:∀g,(fV cD id s n row g).length=cD.length:=λg=>DX ..;refine zA ?_;simp[go_sem,hl];refine zG (S:=Nat) [1,2,3,4,8] (λi=>[.int .i64 a,.int .i64 b,.int .i64 m,.ptr cD.length 0,.int .i64 i]) (λi=>fV cD id s n row (oM f a b i)++[gn gl gs cl cs]) (λi=>m-i) (λi=>i<=m) (hc.trans (hl f)) hb 0 (A5 _) ?_ ?_;.rw[wG5];exact yI (by simp[hl]) sg
 rintro i hi;have hd:∀g,(fV cD id s n row g++[gn gl gs cl cs])[cD.length]?=some (.box [.fn gl cl,.fn gs cs]):=λg=>by rw[Ar (by rw[hl];exact A7 _),hl];simp[gn]
 by_cases q:i<m;rotate_left;.have ab:i=m:=om;subst ab;refine zA ?_;simp[go_sem];exact yW cD.length (Cd (hl _)) (hl _) (S.iT _) (Cg (hl f)) (zC rfl) ⟨rfl,rfl⟩
 have ea:IntKind.i64.wrap ((a:Int)+i)=((a+i:Nat):Int):=by rw[bX om om];omega
 have eb:IntKind.i64.wrap ((b:Int)+i)=((b+i:Nat):Int):=by rw[bX om om];omega
 have ei:=zO q om;have aa:=λK=>S.swap c [gn gl gs cl cs] (oM f a b i) (a+i) (b+i) K om om om;rw[wb9 f om]at aa;refine zA ?_;simp[go_sem,q,hd,ea,eb];refine aa _ ?_;simp[go_sem,ei];exact zH (i+1) ⟨om,om,yI (by simp[hl]) sg⟩
end
section
variable{gl gs:FuncId}{cl cs:List V}{cD:St}{id s n:Nat}{row:Nat->List V}{lt:Nat->Nat->Bool}
theorem Nb(f:Nat->Nat):(fV cD id s n row f++[gn gl gs cl cs])[cD.length]?=some (.box [.fn gl cl,.fn gs cs]):=by rw[Ar (by rw[DX];exact A7 _),DX];simp[gn]
theorem xT6(o:Ord lt){f g:Nat->Nat}{a b i j:Nat}(hi:i<b)(aa:∀x y,a<=x->x<y->y<b->f x<f y)(hm:Mv f g a i)(hs:jC lt g a i)(ab:a<=j)(ad:j<=i)(hl:∀x,j<=x->x<i->lt (g i) (g x))(he:j=a\/lt (g i) (g (j-1))=false):Mv f (dO g j i (i+1)) a (i+1)/\jC lt (dO g j i (i+1)) a (i+1):=by
 refine⟨(hm.mono (A7 _) (Nat.le_succ _)).trans ((Mv.Na g ad (Nat.le_succ _)).mono ab (A7 _)),?_⟩;refine Xy hs ab ad (λx h1 h2=>?_) (λx h1 h2=>.inl (hl x h1 h2));rcases he with he|he;.omega
 have ae:g i=f i:=hm.out (.inr (A7 _));obtain⟨y,y1,y2,y3⟩:=hm.at (k:=j-1) om om;have af:g (j-1)<g i:=by rw[y3,ae];exact aa y i y1 y2 hi
 have h3:TO lt (g (j-1)) (g i):=(TO.zy o af).2 he;by_cases q:x=j-1;.rw[q];exact h3
 .exact(hs x (j-1) h1 om om).trans o h3
theorem XA(S:SC prog gl gs cl cs cD id s n row lt)(o:Ord lt)(f:Nat->Nat)(a b:Nat)(ae:a<=b)(af:b<=n)(aa:∀x y,a<=x->x<y->y<b->f x<f y):bN prog 402 [.agg [.fn gl cl,.fn gs cs],.int .i64 a,.int .i64 b] (fV cD id s n row f) (λr t=>r=.cC []/\∃g,t=fV cD id s n row g/\kU lt f g a b):=by
 have hn:=S.nn;refine bN.iN (fV cD id s n row f).length func402 ntmps402 results402 rfl rfl (Ca rfl) λc hc hb=>?_;have hl:∀g,(fV cD id s n row g).length=cD.length:=λg=>DX ..;have ad:IntKind.i64.wrap ((a:Int)+1)=((a+1:Nat):Int):=by rw[bX om om];omega
 refine zA ?_;simp[go_sem,hl,ad];refine zG (S:=Nat×(Nat->Nat)) [1,2,3,6] (λu=>[.int .i64 a,.int .i64 b,.ptr cD.length 0,.int .i64 u.1]) (λu=>fV cD id s n row u.2++[gn gl gs cl cs]) (λu=>b-u.1) (λu=>a+1<=u.1/\Mv f u.2 a (min u.1 b)/\jC lt u.2 a (min u.1 b)) (hc.trans (hl f)) hb (a+1,f) ⟨A7 _,Mv.refl _ _ _,λx y h1 h2 h3=>om⟩ ?_ ?_;.exact yI (by simp[hl]) sg
 rintro⟨i,g⟩⟨hi,hm,hs⟩;simp only at hi hm hs;by_cases q:i<b;rotate_left;.rw[Nat.min_eq_right om]at hm hs;refine zA ?_;simp[go_sem,q];exact yW cD.length (Cd (hl _)) (hl _) (S.iT _) (Cg (hl f)) (zC rfl) ⟨rfl,g,rfl,hm,hs⟩
 rw[C1 om]at hm hs;have ei:=zO q om;have hd:=Nb (cD:=cD) (id:=id) (s:=s) (n:=n) (row:=row) (gl:=gl) (gs:=gs) (cl:=cl) (cs:=cs);refine zA ?_;simp[go_sem,q];refine zG (S:=Nat) [1,2,3,6,7] (λj=>[.int .i64 a,.int .i64 b,.ptr cD.length 0,.int .i64 i,.int .i64 j]) (λj=>fV cD id s n row (dO g j i (i+1))++[gn gl gs cl cs]) (λj=>j) (λj=>a<=j/\j<=i/\∀x,j<=x->x<i->lt (g i) (g x)=true) (hc.trans (hl f)) hb i ⟨om,A7 _,λx h1 h2=>om⟩ ?_ ?_;.rw[QS];exact yI (by simp[hl]) sg
 rintro j ⟨h1,h2,h3⟩;have fin:∀(he:j=a\/lt (g i) (g (j-1))=false),Mv f (dO g j i (i+1)) a (min (i+1) b)/\jC lt (dO g j i (i+1)) a (min (i+1) b):=λhe=>by rw[C1 om];exact xT6 o q aa hm hs h1 h2 h3 he
 by_cases p:a<j;rotate_left;.have p':¬((a:Int)<j):=om;obtain⟨f1,f2⟩:=fin (.inl om);refine zA ?_;simp[go_sem,p,ei];exact zH (i+1,dO g j i (i+1)) ⟨by show b-(i+1)<b-i;omega,⟨by show a+1<=i+1;omega,f1,f2⟩,yI (by simp[hl]) sg⟩
 have ej:IntKind.i64.wrap ((j:Int)-1)=((j-1:Nat):Int):=by rw[bX om om];omega
 have hle:=λK=>S.less c [gn gl gs cl cs] (dO g j i (i+1)) j (j-1) K om om om;have ab:=λK=>S.swap c [gn gl gs cl cs] (dO g j i (i+1)) j (j-1) K om om om;rw[Xx g h2 om]at ab;have e1:dO g j i (i+1) j=g i:=by rw[vp g om];congr 1;omega
 have e2:dO g j i (i+1) (j-1)=g (j-1):=q9 g om h2 om;rw[e1,e2]at hle;refine zA ?_;simp[go_sem,p,hd,ej];refine hle _ ?_;cases hL:lt (g i) (g (j-1))with |false=>obtain⟨f1,f2⟩:=fin (.inr hL);simp[go_sem,ei];exact zH (i+1,dO g j i (i+1)) ⟨by show b-(i+1)<b-i;omega,⟨by show a+1<=i+1;omega,f1,f2⟩,yI (by simp[hl]) sg⟩|true=>simp[go_sem,hd,ej];refine ab _ ?_;simp[go_sem,ej];exact zH (j-1) ⟨om,⟨om,om,λx x1 x2=>by
   by_cases c1:x=j-1;.rw[c1];exact hL
   .exact h3 x om x2⟩,yI (by simp[hl]) sg⟩
end
section
variable{gl gs:FuncId}{cl cs:List V}{cD:St}{id s n:Nat}{row:Nat->List V}{lt:Nat->Nat->Bool}
theorem SC.call(S:SC prog gl gs cl cs cD id s n row lt){F:FuncId}{ints:List V}{g:Nat->Nat}{Q:(Nat->Nat)->Prop}{c:Ctx}{τ:St}{K:V->St->Prop}(hc:bN prog F (.agg [.fn gl cl,.fn gs cs]::ints) (fV cD id s n row g) (λr t=>r=.cC []/\∃g',t=fV cD id s n row g'/\Q g'))(hb:xI prog F)(hi:ints.all gY)(hK:∀g',Q g'->K (.cC []) (fV cD id s n row g'++τ)):jn prog c (.fn F []) (.agg [.fn gl cl,.fn gs cs]::ints) (fV cD id s n row g++τ) K fx:=by
 have hl:∀g,(fV cD id s n row g).length=cD.length:=λg=>DX ..;refine vV cD.length hc hb (Cd (hl _)) (hl _) (S.iT _) ?_ ?_ ?_;.rw[Aw];exact⟨xR (by simp[hZ,iu,cV,S.J7,S.DY]),yD hi⟩
 .rintro r t ⟨rfl,g',rfl,_⟩;exact⟨hl _,S.iT _,rfl⟩
 .rintro r t ⟨rfl,g',rfl,hq⟩;rw[List.drop_left' (hl _)];exact hK g' hq
theorem xZ9(S:SC prog gl gs cl cs cD id s n row lt)(f:Nat->Nat)(a m b:Nat)(h1:a<m)(h2:m<b)(h3:b<=n):bN prog 441 [.agg [.fn gl cl,.fn gs cs],.int .i64 a,.int .i64 m,.int .i64 b] (fV cD id s n row f) (λr t=>r=.cC []/\∃g,t=fV cD id s n row g/\g=dO f a m b):=by
 have hn:=S.nn;have ab:∀g x y k,x+k<=y->y+k<=n->bN prog 454 [.agg [.fn gl cl,.fn gs cs],.int .i64 (x:Nat),.int .i64 (y:Nat),.int .i64 (k:Nat)] (fV cD id s n row g) (λr t=>r=.cC []/\∃g',t=fV cD id s n row g'/\g'=oM g x y k):=λg x y k q1 q2=>(xb4 S g x y k q1 q2).mono λr t h=>⟨h.1,_,h.2,rfl⟩;refine bN.iN (fV cD id s n row f).length func441 ntmps441 results441 rfl rfl (Ca rfl) λc hc hb=>?_;have hl:∀g,(fV cD id s n row g).length=cD.length:=λg=>DX ..;have hd:=Nb (cD:=cD) (id:=id) (s:=s) (n:=n) (row:=row) (gl:=gl) (gs:=gs) (cl:=cl) (cs:=cs);have e1:IntKind.i64.wrap ((m:Int)-a)=((m-a:Nat):Int):=by rw[bX om om];omega
 have e2:IntKind.i64.wrap ((b:Int)-m)=((b-m:Nat):Int):=by rw[bX om om];omega
 refine zA ?_;simp[go_sem,hl,e1,e2];refine zG (S:=Nat×Nat×(Nat->Nat)) [1,2,3,4,8,9] (λu=>[.int .i64 a,.int .i64 m,.int .i64 b,.ptr cD.length 0,.int .i64 u.1,.int .i64 u.2.1]) (λu=>fV cD id s n row u.2.2++[gn gl gs cl cs]) (λu=>u.1+u.2.1) (λu=>0<u.1/\0<u.2.1/\u.1<=m/\m+u.2.1<=n/\dO u.2.2 (m-u.1) m (m+u.2.1)=dO f a m b) (hc.trans (hl f)) hb (m-a,b-m,f) ⟨by show 0<m-a;omega,by show 0<b-m;omega,by show m-a<=m;omega,by show m+(b-m)<=n;omega,by show dO f (m-(m-a)) m (m+(b-m))=_;rw[show m-(m-a)=a by omega,show m+(b-m)=b by omega]⟩ ?_ ?_;.exact yI (by simp[hl]) sg
 rintro⟨i,j,g⟩⟨hi,hj,aa,ae,hg⟩;simp only at hi hj aa ae hg;have ad:IntKind.i64.wrap ((m:Int)-i)=((m-i:Nat):Int):=by rw[bX om om];omega
 rcases Bc i j with q|q|q
 .have p1:((i:Int)!=j)=true:=by simp;omega
  have p2:¬((j:Int)<i):=om;have p3:¬(j<i):=om;have p4:¬i=j:=om;have ea:IntKind.i64.wrap ((m:Int)+j)=(m:Int)+j:=bX om om;have eb:IntKind.i64.wrap ((m:Int)+j-i)=((m+j-i:Nat):Int):=by rw[bX om om];omega
  have ej:IntKind.i64.wrap ((j:Int)-i)=((j-i:Nat):Int):=by rw[bX om om];omega
  refine zA ?_;simp[go_sem,p1,p2,hd,ad,ea,eb];refine S.call (ab g (m-i) (m+j-i) i om om) cB rfl ?_;rintro g' rfl;simp[go_sem,ej];exact zH (i,j-i,oM g (m-i) (m+j-i) i) ⟨by show i+(j-i)<i+j;omega,⟨hi,by show 0<j-i;omega,aa,by show m+(j-i)<=n;omega,by show dO _ (m-i) m (m+(j-i))=_;rw[wB1 g q aa];exact hg⟩,yI (by simp[hl]) sg⟩
 .subst q;refine zA ?_;simp[go_sem,hd,ad];refine S.call (ab g (m-i) m i om om) cB rfl ?_;rintro g' rfl;rw[wA9 g aa,hg];simp[go_sem];exact yW cD.length (Cd (hl _)) (hl _) (S.iT _) (Cg (hl f)) (zC rfl) ⟨rfl,rfl⟩
 .have p1:((i:Int)!=j)=true:=by simp;omega
  have p2:(j:Int)<i:=om;have p4:¬i=j:=om;have ei:IntKind.i64.wrap ((i:Int)-j)=((i-j:Nat):Int):=by rw[bX om om];omega
  refine zA ?_;simp[go_sem,p1,p2,hd,ad];refine S.call (ab g (m-i) m j om om) cB rfl ?_;rintro g' rfl;simp[go_sem,ei];exact zH (i-j,j,oM g (m-i) m j) ⟨by show i-j+j<i+j;omega,⟨by show 0<i-j;omega,hj,by show i-j<=m;omega,ae,by show dO _ (m-(i-j)) m (m+j)=_;rw[wB0 g q aa];exact hg⟩,yI (by simp[hl]) sg⟩
end
section
variable {lt:Nat->Nat->Bool}
variable {x:Nat}{h:Nat}{a:Nat}
theorem wF0(o:Ord lt)(t:TO lt x h)(g:lt h a):lt x a=true:=by
 rcases t with t|⟨t,_⟩;.exact o.tr _ _ _ t g
 .cases q:lt x a with|true=>rfl|false=>have:=o.nt _ _ _ t q;grind
theorem wz1(o:Ord lt)(t:TO lt h x)(g:lt h a=false):lt x a=false:=by cases q:lt x a with |false=>rfl|true=>
  rcases t with t|⟨t,_⟩;.have:=o.tr _ _ _ t q;grind
  .have:=o.nt _ _ _ t g;grind
theorem wG9(o:Ord lt)(t:TO lt h x)(g:lt a h):lt a x=true:=by
 rcases t with t|⟨t,_⟩;.exact o.tr _ _ _ g t
 .cases q:lt a x with|true=>rfl|false=>have:=o.nt _ _ _ q t;grind
theorem wC0(o:Ord lt)(t:TO lt x h)(g:lt a h=false):lt a x=false:=by cases q:lt a x with |false=>rfl|true=>
  rcases t with t|⟨t,_⟩;.have:=o.tr _ _ _ q t;grind
  .have:=o.nt _ _ _ g t;grind
end
theorem Nc{i j:Nat}(h:i+j<4000000000):IntKind.i64.wrap ((IntKind.u64.wrap (IntKind.i64.wrap ((i:Int)+j))).fdiv 2)=(((i+j)/2:Nat):Int):=by grind[bX,dp]
section
variable{gl gs:FuncId}{cl cs:List V}{cD:St}{id s n:Nat}{row:Nat->List V}{lt:Nat->Nat->Bool}
theorem yv0(S:SC prog gl gs cl cs cD id s n row lt)(o:Ord lt)(f:Nat->Nat)(a m b:Nat)(h1:a<m)(h2:m<b)(h3:b<=n)(ah:jC lt f a m)(af:jC lt f m b)(ae:vt f a m b)(ih:∀f a' m b',b'-a'<b-a->a'<m->m<b'->b'<=n->jC lt f a' m->jC lt f m b'->vt f a' m b'->bN prog 403 [.agg [.fn gl cl,.fn gs cs],.int .i64 (a':Nat),.int .i64 (m:Nat),.int .i64 (b':Nat)] (fV cD id s n row f) (λr t=>r=.cC []/\∃g,t=fV cD id s n row g/\kU lt f g a' b')):bN prog 403 [.agg [.fn gl cl,.fn gs cs],.int .i64 a,.int .i64 m,.int .i64 b] (fV cD id s n row f) (λr t=>r=.cC []/\∃g,t=fV cD id s n row g/\kU lt f g a b):=by
 have hn:=S.nn;refine bN.iN (fV cD id s n row f).length func403 ntmps403 results403 rfl rfl (Ca rfl) λc hc hb=>?_;have hl:∀g,(fV cD id s n row g).length=cD.length:=λg=>DX ..;have hd:=Nb (cD:=cD) (id:=id) (s:=s) (n:=n) (row:=row) (gl:=gl) (gs:=gs) (cl:=cl) (cs:=cs);have e1:IntKind.i64.wrap ((m:Int)-a)=((m-a:Nat):Int):=by rw[bX om om];omega
 have e2:IntKind.i64.wrap ((b:Int)-m)=((b-m:Nat):Int):=by rw[bX om om];omega
 by_cases c1:m-a=1
 .have au:(((m-a:Nat):Int)==1)=true:=by simp;omega
  refine zA ?_;simp[go_sem,hl,e1,au];refine zG (S:=Nat×Nat) [1,2,3,4,8,9] (λu=>[.int .i64 a,.int .i64 m,.int .i64 b,.ptr cD.length 0,.int .i64 u.1,.int .i64 u.2]) (λ_=>fV cD id s n row f++[gn gl gs cl cs]) (λu=>u.2-u.1) (λu=>m<=u.1/\u.1<=u.2/\u.2<=b/\(∀x,m<=x->x<u.1->lt (f x) (f a)=true)/\∀x,u.2<=x->x<b->lt (f x) (f a)=false) (hc.trans (hl f)) hb (m,b) ⟨A7 _,by show m<=b;omega,A7 _,λx q1 q2=>om,λx q1 q2=>om⟩ ?_ ?_;.exact yI (by simp[hl]) sg
  rintro⟨i,j⟩⟨hi,aj,hj,hL,hR⟩;simp only at hi aj hj hL hR;by_cases q:i<j;.obtain⟨h,hh⟩:=eX ((i+j)/2);have eh:=Nc (i:=i) (j:=j) om;rw[hh]at eh;have ei:=zO (show h<j by omega) om;have hle:=λK=>S.less c [gn gl gs cl cs] f h a K om om om;refine zA ?_;simp[go_sem,q,hd,eh];refine hle _ ?_;cases aa:lt (f h) (f a)with
   |true=>simp[go_sem,ei];exact zH (h+1,j) ⟨by show j-(h+1)<j-i;omega,⟨by show m<=h+1;omega,by show h+1<=j;omega,hj,λx q1 q2=>by
     by_cases c2:x=h;.rw[c2];exact aa
     .exact wF0 o (af x h q1 (by have:x<h+1:=q2;omega) om) aa,hR⟩,yI (by simp[hl]) sg⟩|false=>simp[go_sem];exact zH (i,h) ⟨by show h-i<j-i;omega,⟨hi,by show i<=h;omega,by show h<=b;omega,hL,λx q1 q2=>by
     by_cases c2:x=h;.rw[c2];exact aa
     .exact wz1 o (af h x om (by have:h<=x:=q1;omega) q2) aa⟩,yI (by simp[hl]) sg⟩
  .have e3:IntKind.i64.wrap ((i:Int)-1)=((i-1:Nat):Int):=by rw[bX om om];omega
   have ak:i=j:=om;have a7:m=a+1:=om;refine zA ?_;simp[go_sem,q];refine zG (S:=Nat) [1,2,3,4,8,11] (λk=>[.int .i64 a,.int .i64 m,.int .i64 b,.ptr cD.length 0,.int .i64 i,.int .i64 k]) (λk=>fV cD id s n row (dO f a (a+1) (k+1))++[gn gl gs cl cs]) (λk=>i-k) (λk=>a<=k/\k+1<=i) (hc.trans (hl f)) hb a ⟨A7 _,om⟩ ?_ ?_;.rw[Xw];exact yI (by simp[hl]) sg
   rintro k ⟨k1,k2⟩;by_cases q2:k<i-1
   .have a8:(k:Int)<((i-1:Nat):Int):=om;have ek:IntKind.i64.wrap ((k:Int)+1)=((k+1:Nat):Int):=by rw[bX om om];omega
    have al:=λK=>S.swap c [gn gl gs cl cs] (dO f a (a+1) (k+1)) k (k+1) K om om om;rw[wG6 f k1]at al;refine zA ?_;simp[go_sem,e3,q2,hd,ek];refine al _ ?_;simp[go_sem,ek];exact zH (k+1) ⟨om,⟨om,om⟩,yI (by simp[hl]) sg⟩
   .have a8:¬(k:Int)<((i-1:Nat):Int):=om;have hk:k+1=i:=om;refine zA ?_;simp[go_sem,e3,q2];refine yW cD.length (Cd (hl _)) (hl _) (S.iT _) (Cg (hl f)) (zC rfl) ⟨rfl,_,rfl,?_,?_⟩;.rw[hk];exact(Mv.Na f om om).mono (A7 _) om
    .rw[hk];rw[a7]at af hL;refine wl4 af om om (λx x1 x2=>.inl (hL x x1 x2)) (λx x1 x2=>?_);exact(TO.zy o (ae a x (A7 _) h1 om x2)).2 (hR x om x2)
 .have au:(((m-a:Nat):Int)==1)=false:=by simp;omega
  refine zN (zA ?_);simp[go_sem,hl];refine zN (zA ?_);simp[go_sem,e1,au];by_cases c2:b-m=1
  .have av:(((b-m:Nat):Int)==1)=true:=by simp;omega
   have aA:b=m+1:=om;refine zA ?_;simp[go_sem,e2,av];refine zG (S:=Nat×Nat) [1,2,3,4,12,13] (λu=>[.int .i64 a,.int .i64 m,.int .i64 b,.ptr cD.length 0,.int .i64 u.1,.int .i64 u.2]) (λ_=>fV cD id s n row f++[gn gl gs cl cs]) (λu=>u.2-u.1) (λu=>a<=u.1/\u.1<=u.2/\u.2<=m/\(∀x,a<=x->x<u.1->lt (f m) (f x)=false)/\∀x,u.2<=x->x<m->lt (f m) (f x)=true) (hc.trans (hl f)) hb (a,m) ⟨A7 _,by show a<=m;omega,A7 _,λx q1 q2=>om,λx q1 q2=>om⟩ ?_ ?_;.exact yI (by simp[hl]) sg
   rintro⟨i,j⟩⟨hi,aj,hj,hL,hR⟩;simp only at hi aj hj hL hR;by_cases q:i<j;.obtain⟨h,hh⟩:=eX ((i+j)/2);have eh:=Nc (i:=i) (j:=j) om;rw[hh]at eh;have ei:=zO (show h<j by omega) om;have hle:=λK=>S.less c [gn gl gs cl cs] f m h K om om om;refine zA ?_;simp[go_sem,q,hd,eh];refine hle _ ?_;cases aa:lt (f m) (f h)with
    |false=>simp[go_sem,ei];exact zH (h+1,j) ⟨by show j-(h+1)<j-i;omega,⟨by show a<=h+1;omega,by show h+1<=j;omega,hj,λx q1 q2=>by
      by_cases c2:x=h;.rw[c2];exact aa
      .exact wC0 o (ah x h q1 (by have:x<h+1:=q2;omega) om) aa,hR⟩,yI (by simp[hl]) sg⟩|true=>simp[go_sem];exact zH (i,h) ⟨by show h-i<j-i;omega,⟨hi,by show i<=h;omega,by show h<=m;omega,hL,λx q1 q2=>by
      by_cases c2:x=h;.rw[c2];exact aa
      .exact wG9 o (ah h x om (by have:h<=x:=q1;omega) q2) aa⟩,yI (by simp[hl]) sg⟩
   .have ak:i=j:=om;refine zA ?_;simp[go_sem,q];refine zG (S:=Nat) [1,2,3,4,12,15] (λk=>[.int .i64 a,.int .i64 m,.int .i64 b,.ptr cD.length 0,.int .i64 i,.int .i64 k]) (λk=>fV cD id s n row (dO f k m (m+1))++[gn gl gs cl cs]) (λk=>k) (λk=>i<=k/\k<=m) (hc.trans (hl f)) hb m ⟨om,A7 _⟩ ?_ ?_;.rw[QS];exact yI (by simp[hl]) sg
    rintro k ⟨k1,k2⟩;by_cases q2:i<k
    .have ek:IntKind.i64.wrap ((k:Int)-1)=((k-1:Nat):Int):=by rw[bX om om];omega
     have al:=λK=>S.swap c [gn gl gs cl cs] (dO f k m (m+1)) k (k-1) K om om om;rw[Xx f k2 om]at al;refine zA ?_;simp[go_sem,q2,hd,ek];refine al _ ?_;simp[go_sem,ek];exact zH (k-1) ⟨om,⟨om,om⟩,yI (by simp[hl]) sg⟩
    .have hk:k=i:=om;refine zA ?_;simp[go_sem,q2];refine yW cD.length (Cd (hl _)) (hl _) (S.iT _) (Cg (hl f)) (zC rfl) ⟨rfl,_,rfl,?_,?_⟩;.rw[hk];exact(Mv.Na f om om).mono hi om
     .rw[hk,aA];refine Xy ah hi om (λx x1 x2=>?_) (λx x1 x2=>.inl (hR x om x2));exact(TO.zy o (ae x m x1 om (A7 _) h2)).2 (hL x x1 x2)
  .have av:(((b-m:Nat):Int)==1)=false:=by simp;omega
   refine zN (zA ?_);simp[go_sem,e2,av];obtain⟨fg,ar⟩:=eX ((a+b)/2);have eh:=Nc (i:=a) (j:=b) om;rw[ar]at eh;have en:IntKind.i64.wrap ((fg:Int)+m)=(fg:Int)+m:=bX om om;refine zN (zA ?_);simp[go_sem,eh];refine zN (zA ?_);simp[go_sem,en];refine zN (zA ?_);simp[go_sem];obtain⟨lo,an⟩:=eX ((if fg<m then fg+m-b else a));obtain⟨hi,ai⟩:=eX ((if fg<m then fg else m));have aF:fg*2<=a+b/\a+b<=fg*2+1:=om;have aB:a<=lo/\lo<=hi/\hi<=m/\hi<=fg/\fg+m<=lo+b:=by split at an<;>split at ai<;>omega
   obtain⟨l1,l2,l3,l4,l5⟩:=aB;refine nK (S:=Unit) [1,2,3,4,16,17,18,19] (λ_=>[.int .i64 a,.int .i64 m,.int .i64 b,.ptr cD.length 0,.int .i64 fg,.int .i64 ((fg:Int)+m),.int .i64 lo,.int .i64 hi]) (λ_=>fV cD id s n row f++[gn gl gs cl cs]) (λ_=>True) (hc.trans (hl f)) hb ?_ ?_
   .by_cases c3:fg<m
    .rw[alq c3]at an ai;have e4:IntKind.i64.wrap ((fg:Int)+m-b)=(lo:Int):=by rw[bX om om];omega
     refine zA ?_;simp[go_sem,c3,e4];exact zH () ⟨tV,yI (by simp[hl]) (by simp[go_sem,ai])⟩
    .rw[alp c3]at an ai;refine zA ?_;simp[go_sem,c3];exact zH () ⟨tV,yI (by simp[hl]) (by simp[go_sem,an,ai])⟩
   rintro _ _;obtain⟨p,hp⟩:=eX (fg+m-1);have e5:IntKind.i64.wrap ((fg:Int)+m-1)=(p:Int):=by rw[bX om om];omega
   refine zN (zA ?_);simp[go_sem,e5];refine zN (zA ?_);simp[go_sem];refine zG (S:=Nat×Nat) [1,2,3,4,16,17,18,19,20] (λu=>[.int .i64 a,.int .i64 m,.int .i64 b,.ptr cD.length 0,.int .i64 fg,.int .i64 ((fg:Int)+m),.int .i64 u.1,.int .i64 u.2,.int .i64 p]) (λ_=>fV cD id s n row f++[gn gl gs cl cs]) (λu=>u.2-u.1) (λu=>lo<=u.1/\u.1<=u.2/\u.2<=hi/\(∀x,lo<=x->x<u.1->TO lt (f x) (f (p-x)))/\∀x,u.2<=x->x<hi->TO lt (f (p-x)) (f x)) (hc.trans (hl f)) hb (lo,hi) ⟨A7 _,l2,A7 _,λx q1 q2=>om,λx q1 q2=>om⟩ ?_ ?_;.exact yI (by simp[hl]) sg
   rintro⟨i,j⟩⟨aw,aj,hj,hL,hR⟩;simp only at aw aj hj hL hR;by_cases q:i<j
   .obtain⟨h,hh⟩:=eX ((i+j)/2);have eh:=Nc (i:=i) (j:=j) om;rw[hh]at eh;have ei:=zO (show h<j by omega) om;have e6:IntKind.i64.wrap ((p:Int)-h)=((p-h:Nat):Int):=by rw[bX om om];omega
    have hle:=λK=>S.less c [gn gl gs cl cs] f (p-h) h K om om om;refine zA ?_;simp[go_sem,q,hd,eh,e6];refine hle _ ?_;cases aa:lt (f (p-h)) (f h)with
    |false=>simp[go_sem,ei];exact zH (h+1,j) ⟨by show j-(h+1)<j-i;omega,⟨by show lo<=h+1;omega,by show h+1<=j;omega,hj,λx q1 q2=>by
      have q2:x<h+1:=q2;have t1:TO lt (f h) (f (p-h)):=(TO.zy o (ae h (p-h) om om om om)).2 aa;by_cases c2:x=h;.rw[c2];exact t1
      .exact((ah x h om om om).trans o t1).trans o (af (p-h) (p-x) om om om),hR⟩,yI (by simp[hl]) sg⟩|true=>simp[go_sem];exact zH (i,h) ⟨by show h-i<j-i;omega,⟨aw,by show i<=h;omega,by show h<=hi;omega,hL,λx q1 q2=>by
      have q1:h<=x:=q1;by_cases c2:x=h;.rw[c2];exact .inl aa
      .exact((af (p-x) (p-h) om om om).trans o (.inl aa)).trans o (ah h x om om om)⟩,yI (by simp[hl]) sg⟩
   .have ak:i=j:=om;subst ak;obtain⟨e,he⟩:=eX (fg+m-i);have e7:IntKind.i64.wrap ((fg:Int)+m-i)=(e:Int):=by rw[bX om om];omega
    obtain⟨⟨r1,r2,r3,r4,r5,r6,r7⟩,aq,t1,t2,t3,t4⟩:=xF7 o (f:=f) (lo:=lo) (hi:=hi) (s:=i) (e:=e) h1 h2 ar.symm ah af an.symm ai.symm aw hj he.symm (λx q1 q2=>by rw[hp];exact hL x q1 q2) (λx q1 q2=>by rw[hp];exact hR x q1 q2);have aC:=ae.J0 r3 r4 r6 r7;have aD:=ae.J4 r1 r3 r4 r7;have aE:Mv f (dO f i m e) a b:=(Mv.Na f r3 r4).mono r1 r6;have ao:¬(i<m/\m<e)->dO f i m e=f:=λhn=>by
     rcases C3 i m with c|c;.have:e=m:=om;rw[this];exact Xw f i m
     .have:i=m:=om;rw[this];exact QS f m e
    have ay:=λc1 c2=>xZ9 S f i m e c1 c2 om;generalize dO f i m e=g0 at*;refine zA ?_;simp[go_sem];refine zN (zA ?_);simp[go_sem,e7];refine nK (S:=Unit) [1,2,3,4,16,18,22] (λ_=>[.int .i64 a,.int .i64 m,.int .i64 b,.ptr cD.length 0,.int .i64 fg,.int .i64 i,.int .i64 e]) (λ_=>fV cD id s n row g0++[gn gl gs cl cs]) (λ_=>True) (hc.trans (hl f)) hb ?_ ?_
    .by_cases k1:i<m
     .by_cases k2:m<e;.have ab:=ay k1 k2;refine zA ?_;simp[go_sem,k1,k2,hd];refine S.call ab cB rfl ?_;rintro g' rfl;simp[go_sem];exact zH () ⟨tV,yI (by simp[hl]) sg⟩
      .rw[ao λh=>k2 h.2];refine zA ?_;simp[go_sem,k1,k2];exact zH () ⟨tV,yI (by simp[hl]) sg⟩
     .rw[ao λh=>k1 h.1];refine zA ?_;simp[go_sem,k1];exact zH () ⟨tV,yI (by simp[hl]) sg⟩
    rintro _ _;clear ay ao hL hR;refine nK (S:=Nat->Nat) [1,2,3,4,16,22] (λ_=>[.int .i64 a,.int .i64 m,.int .i64 b,.ptr cD.length 0,.int .i64 fg,.int .i64 e]) (λg=>fV cD id s n row g++[gn gl gs cl cs]) (λg=>kU lt g0 g a fg) (hc.trans (hl f)) hb ?_ ?_
    .by_cases k1:a<i
     .by_cases k2:i<fg;.have ab:=ih g0 a i fg om k1 k2 om t1 t2 aC;refine zA ?_;simp[go_sem,k1,k2,hd];refine S.call ab cB rfl ?_;rintro g' ax;simp[go_sem];exact zH g' ⟨ax,yI (by simp[hl]) sg⟩
      .have hq:jC lt g0 a fg:=by rw[show fg=i by omega];exact t1
       refine zA ?_;simp[go_sem,k1,k2];exact zH g0 ⟨kU.id hq,yI (by simp[hl]) sg⟩
     .have hq:jC lt g0 a fg:=by rw[show a=i by omega];exact t2
      refine zA ?_;simp[go_sem,k1];exact zH g0 ⟨kU.id hq,yI (by simp[hl]) sg⟩
    rintro ad q1;have same:∀k,fg<=k->ad k=g0 k:=λk hk=>q1.1.out (.inr hk);have az:jC lt ad fg e:=λx y x1 x2 x3=>by rw[same x x1,same y om];exact t3 x y x1 x2 x3
    have a1:jC lt ad e b:=λx y x1 x2 x3=>by rw[same x om,same y om];exact t4 x y x1 x2 x3
    have a6:vt ad fg e b:=λx y x1 x2 x3 x4=>by rw[same x x1,same y om];exact aD x y x1 x2 x3 x4
    have fin:∀g2,kU lt ad g2 fg b->kU lt f g2 a b:=λg2 q2=>kU.both aE aq ⟨om,om⟩ q1 q2;by_cases k1:fg<e
    .by_cases k2:e<b;.have ab:=ih ad fg e b om k1 k2 om az a1 a6;refine zA ?_;simp[go_sem,k1,k2,hd];refine S.call ab cB rfl ?_;rintro g' ax;simp[go_sem];exact yW cD.length (Cd (hl _)) (hl _) (S.iT _) (Cg (hl f)) (zC rfl) ⟨rfl,_,rfl,fin g' ax⟩
     .have hq:jC lt ad fg b:=by rw[show b=e by omega];exact az
      refine zA ?_;simp[go_sem,k1,k2];exact yW cD.length (Cd (hl _)) (hl _) (S.iT _) (Cg (hl f)) (zC rfl) ⟨rfl,_,rfl,fin ad (kU.id hq)⟩
    .have hq:jC lt ad fg b:=by rw[show fg=e by omega];exact a1
     refine zA ?_;simp[go_sem,k1];exact yW cD.length (Cd (hl _)) (hl _) (S.iT _) (Cg (hl f)) (zC rfl) ⟨rfl,_,rfl,fin ad (kU.id hq)⟩
theorem QU(S:SC prog gl gs cl cs cD id s n row lt)(o:Ord lt):∀(d:Nat)(f:Nat->Nat)(a m b:Nat),b-a<d->a<m->m<b->b<=n->jC lt f a m->jC lt f m b->vt f a m b->bN prog 403 [.agg [.fn gl cl,.fn gs cs],.int .i64 a,.int .i64 m,.int .i64 b] (fV cD id s n row f) (λr t=>r=.cC []/\∃g,t=fV cD id s n row g/\kU lt f g a b)|0,_,_,_,_,h,_,_,_,_,_,_=>absurd h om|d+1,f,a,m,b,h,h1,h2,h3,aa,ab,hg=>yv0 S o f a m b h1 h2 h3 aa ab hg λf' a' m' b' h' q1 q2 q3 q4 q5 q6=>QU S o d f' a' m' b' om q1 q2 q3 q4 q5 q6
end
section
variable{gl gs:FuncId}{cl cs:List V}{cD:St}{id s n:Nat}{row:Nat->List V}{lt:Nat->Nat->Bool}
theorem wb6(S:SC prog gl gs cl cs cD id s n row lt)(o:Ord lt):bN prog 335 [.agg [.fn gl cl,.fn gs cs],.int .i64 n] (fV cD id s n row λk=>k) (λr t=>r=.cC []/\∃g,t=fV cD id s n row g/\kU lt (λk=>k) g 0 n):=by
 have hn:=S.nn;refine bN.iN (fV cD id s n row λk=>k).length func335 ntmps335 results335 rfl rfl (Ca rfl) λc hc hb=>?_;have hl:∀g,(fV cD id s n row g).length=cD.length:=λg=>DX ..;have hd:=Nb (cD:=cD) (id:=id) (s:=s) (n:=n) (row:=row) (gl:=gl) (gs:=gs) (cl:=cl) (cs:=cs);refine zN (zA ?_);simp[go_sem,hl];refine zN (zA ?_);simp[go_sem];refine zN (zA ?_);simp[go_sem];refine zN (zA ?_);simp[go_sem];refine zG (S:=Nat×Nat×(Nat->Nat)) [1,2,4,5,6] (λu=>[.int .i64 n,.ptr cD.length 0,.int .i64 20,.int .i64 u.2.1,.int .i64 ((u.2.1+20:Nat):Int)]) (λu=>fV cD id s n row u.2.2++[gn gl gs cl cs]) (λu=>n-u.2.1) (λu=>u.2.1=u.1*20/\u.2.1<=n/\(∀q,q<u.1->k8 lt u.2.2 (q*20) (q*20+20))/\(∀k,u.2.1<=k->u.2.2 k=k)/\Mv (λk=>k) u.2.2 0 n) (hc.trans (hl _)) hb (0,0,λk=>k) ⟨rfl,A5 _,λq hq=>absurd hq (Nat.not_lt_zero _),λ_ _=>rfl,Mv.refl _ _ _⟩ ?_ ?_;.exact yI (by simp[hl]) sg
 rintro⟨t,A,g⟩⟨hA,af,ai,hid,ab⟩;simp only at hA af ai hid ab;have ah:∀b,∀x y,A<=x->x<y->y<b->g x<g y:=λb x y x1 x2 x3=>by rw[hid x x1,hid y om];exact x2
 by_cases q:A+20<=n;.have q':(A:Int)+20<=n:=om;have e1:IntKind.i64.wrap ((A:Int)+20+20)=(A:Int)+20+20:=bX om om;have aa:=XA S o g A (A+20) om q (ah _);refine zA ?_;simp[go_sem,q',hd];refine S.call aa cB rfl ?_;rintro g' ad;rw[hA]at ad;rw[hA]at hid;obtain⟨f1,f2⟩:=xB4 ai hid ad;simp[go_sem,e1];exact zH (t+1,A+20,g') ⟨by show n-(A+20)<n-A;omega,⟨by show A+20=(t+1)*20;omega,q,f1,λk hk=>f2 k (by have:A+20<=k:=hk;omega),ab.trans (ad.1.mono (A5 _) om)⟩,yI (by simp[hl]) sg⟩
 .have q':¬(A:Int)+20<=n:=om;have aa:=XA S o g A n af (A7 _) (ah _);refine zA ?_;simp[go_sem,q'];refine zN (zA ?_);simp[go_sem,hd];refine S.call aa cB rfl ?_;rintro g' ad;rw[hA]at ad hid;have hB:=xf8 ai hid om om ad;have aj:=ab.trans (ad.1.mono (A5 _) (A7 _));clear aa ad ah hid ai ab;simp[go_sem];refine zA ?_;simp[go_sem];refine zG (S:=Nat×(Nat->Nat)) [1,2,4] (λu=>[.int .i64 n,.ptr cD.length 0,.int .i64 u.1]) (λu=>fV cD id s n row u.2++[gn gl gs cl cs]) (λu=>n-u.1) (λu=>20<=u.1/\u.1<=2000020/\nx lt u.2 u.1 n/\Mv (λk=>k) u.2 0 n) (hc.trans (hl _)) hb (20,g') ⟨A7 _,by show 20<=2000020;omega,hB,aj⟩ ?_ ?_;.exact yI (by simp[hl]) sg
  clear hB aj q q' hA af g' g t A;rintro⟨w,g⟩⟨hw,al,hB,ab⟩;simp only at hw al hB ab;by_cases q:w<n;rotate_left;.refine zA ?_;simp[go_sem,q];exact yW cD.length (Cd (hl _)) (hl _) (S.iT _) (Cg (hl _)) (zC rfl) ⟨rfl,g,rfl,ab,(hB.all om).2⟩
  have e2:IntKind.i64.wrap (2*(w:Int))=2*(w:Int):=bX om om;have e3:IntKind.i64.wrap ((w:Int)*2)=(w:Int)*2:=bX om om;refine zA ?_;simp[go_sem,q,e2];refine zG (S:=Nat×Nat×(Nat->Nat)) [1,2,4,5,6] (λu=>[.int .i64 n,.ptr cD.length 0,.int .i64 w,.int .i64 u.2.1,.int .i64 ((u.2.1+2*w:Nat):Int)]) (λu=>fV cD id s n row u.2.2++[gn gl gs cl cs]) (λu=>n-u.2.1) (λu=>u.2.1=u.1*(2*w)/\u.2.1<=n/\kp lt u.2.2 w n u.1/\Mv (λk=>k) u.2.2 0 n) (hc.trans (hl _)) hb (0,0,g) ⟨sM,A5 _,kp.start hB,ab⟩ ?_ ?_;.exact yI (by simp[hl]) sg
  clear hB ab g;rintro⟨t,A,g⟩⟨hA,af,hM,ab⟩;simp only at hA af hM ab;have e4:IntKind.i64.wrap ((A:Int)+w)=(A:Int)+w:=bX om om;by_cases p:A+2*w<=n
  .have p':(A:Int)+2*w<=n:=om;have e5:IntKind.i64.wrap ((A:Int)+2*w+2*w)=(A:Int)+2*w+2*w:=bX om om;have ae:=hM.pair om (by rw[<-hA];omega);rw[<-hA,C1 p]at ae;have aa:=QU S o (2*w+1) g A (A+w) (A+2*w) om om om p ae.1.2 ae.2.2 (ae.1.Xz ae.2);refine zA ?_;simp[go_sem,p',hd,e4];refine S.call aa cB rfl ?_;rintro g' ad;have hN:=hM.next om (by rw[<-hA];exact p) (hA▸ad);have em:(t+1)*(2*w)=t*(2*w)+2*w:=by rw[B5,Dc]
   simp[go_sem,e2,e5];exact zH (t+1,A+2*w,g') ⟨by show n-(A+2*w)<n-A;omega,⟨by show A+2*w=(t+1)*(2*w);rw[em,hA],p,hN,ab.trans (ad.1.mono (A5 _) p)⟩,yI (by simp[hl]) sg⟩
  .have p':¬(A:Int)+2*w<=n:=om;by_cases p2:A+w<n;.have ak:(A:Int)+w<n:=om;have ae:=hM.pair om (by rw[<-hA];exact p2);rw[<-hA,Nat.min_eq_right om]at ae;have aa:=QU S o (2*w+1) g A (A+w) n om om p2 (A7 _) ae.1.2 ae.2.2 (ae.1.Xz ae.2);refine zA ?_;simp[go_sem,p',ak,hd,e4];refine S.call aa cB rfl ?_;rintro g' ad;have hN:=hM.last om (by rw[<-hA];exact p2) (by rw[<-hA];omega) (hA▸ad);simp[go_sem,e3];exact zH (w*2,g') ⟨by show n-w*2<n-w;omega,⟨by show 20<=w*2;omega,by show w*2<=2000020;omega,by show nx lt g' (w*2) n;rw[Dx];exact hN,ab.trans (ad.1.mono (A5 _) (A7 _))⟩,yI (by simp[hl]) sg⟩
   .have ak:¬(A:Int)+w<n:=om;have hN:=hM.none (by rw[<-hA];exact af) (by rw[<-hA];omega);refine zA ?_;simp[go_sem,p',ak,e4,e3];exact zH (w*2,g) ⟨by show n-w*2<n-w;omega,⟨by show 20<=w*2;omega,by show w*2<=2000020;omega,by show nx lt g (w*2) n;rw[Dx];exact hN,ab⟩,yI (by simp[hl]) sg⟩
end
end Go.Proofs.YtegbonbgofjlcaaGreat
namespace Go.Proofs.YtegbonbgofjlcaaGreat
open Go Go.Vx R Go.Proofs.Tryz
set_option maxRecDepth 100000
variable{U:Type}{l:List Ln}{b:Mp alW}{n:Nat}
def kV(gt:U->Bool)(out:List U)(x:U):List U:=(out.reverse.dropWhile gt).reverse++x::(out.reverse.takeWhile gt).reverse
theorem XB(gt:U->Bool)(out:List U)(x:U):(kV gt out x).Perm (x::out):=by unfold kV;refine Dj.trans (List.Perm.cons _ ?_);rw[<-List.reverse_append,Cr,List.reverse_reverse]
theorem xT4{J:Type}(h:U->J)(gt:J->Bool)(out:List U)(x:U):(kV (λy=>gt (h y)) out x).map h=kV gt (out.map h) (h x):=by unfold kV;rw[C2,Ag,List.map_reverse,List.map_reverse,<-List.map_reverse (l:=out),List.dropWhile_map,List.takeWhile_map];rfl
theorem yT8{lt:Nat->Nat->Bool}(o:Ord lt){out:alX}{x:Nat}(hs:out.Pairwise (TO lt))(hx:∀y∈out,y<x):(kV (λy=>lt x y) out x).Pairwise (TO lt):=by
 have hl:out=(out.reverse.dropWhile (λy=>lt x y)).reverse++(out.reverse.takeWhile (λy=>lt x y)).reverse:=by grind[Cr]
 have ab:∀y∈out.reverse.takeWhile (λy=>lt x y),lt x y:=by intro y hy;exact Am.1 List.all_takeWhile y hy
 have ad:∀y∈out.reverse.dropWhile (λy=>lt x y),lt x y=false:=by cases hd:out.reverse.dropWhile (λy=>lt x y)with |nil=>simp|cons z d=>
   have hz:lt x z=false:=by have:=List.head?_dropWhile_not (λy=>lt x y) out.reverse;grind
   intro y hy;rcases Af.1 hy with rfl|hy;.exact hz
   .have hp:(out.reverse).Pairwise (λa b=>TO lt b a):=(by grind);have aa:(z::d).Pairwise (λa b=>TO lt b a):=(by grind);have h3:=(Ck.1 aa).1 y hy;cases q:lt x y with|false=>rfl|true=>
     rcases h3 with h3|⟨h3,_⟩;.rw[o.tr _ _ _ q h3]at hz;cases hz
     .have:=o.nt _ _ _ hz h3;grind
 unfold kV;rw[hl,Bw]at hs;have ae:∀y∈out.reverse.dropWhile (λy=>lt x y),y∈out:=(by grind);rw[Bw,Ck];refine⟨hs.1,⟨λy hy=>.inl (by grind),hs.2.1⟩,λy hy z hz=>?_⟩;rcases Af.1 hz with rfl|hz;.exact .inr (by grind)
 grind
def sG(lt:Nat->Nat->Bool)(n:Nat):alX:=(List.range n).foldl (λout x=>kV (λy=>lt x y) out x) []
theorem XC{lt:Nat->Nat->Bool}(o:Ord lt):∀n,(sG lt n).Perm (List.range n)/\(sG lt n).Pairwise (TO lt)
 |0=>⟨List.Perm.nil,List.Pairwise.nil⟩|n+1=>by
  obtain⟨h1,h2⟩:=XC o n;have e:sG lt (n+1)=kV (λy=>lt n y) (sG lt n) n:=by unfold sG;rw[List.range_succ,D4];rfl
  rw[e];refine⟨(XB _ _ _).trans ?_,yT8 o h2 λy hy=>Cs.1 (h1.mem_iff.1 hy)⟩;grind
theorem xJ6{lt:Nat->Nat->Bool}(o:Ord lt){f:Nat->Nat}(hm:Mv id f 0 n)(hs:jC lt f 0 n):(List.range n).map f=sG lt n:=by
 obtain⟨hp,hq⟩:=XC o n;obtain⟨π,p1,p2,p3,p4⟩:=hm;have hf:∀k,f k=π k:=p4;have ad:((List.range n).map f).Nodup:=by grind[Be]
 have aa:((List.range n).map f).Perm (List.range n):=by rw[List.perm_ext_iff_of_nodup ad Be];have ab:∀y∈(List.range n).map f,y∈List.range n:=(by grind);intro y;refine⟨ab y,λhy=>Classical.byContradiction λhn=>?_⟩;have h1:(y::(List.range n).map f).Nodup:=(by grind);have:=h1.length_le_of_subset (l₂:=List.range n) (by grind);grind
 have ae:((List.range n).map f).Pairwise (TO lt):=by rw[D5];have:=List.pairwise_lt_range (n:=n);refine List.Pairwise.imp_of_mem (λ{a b}ha hb af=>?_) this;exact hs a b om af (by grind)
 exact(aa.trans hp.symm).eq_of_pairwise (λa b _ _ h1 h2=>absurd (h1.trans o h2) (λh=>h.HO o)) ae hq
theorem xh7(gt:U->U->Bool)(l:List U)(d:U):l.foldl (λout x=>kV (λy=>gt x y) out x) []=(sG (λi j=>gt (l.getD i d) (l.getD j d)) l.length).map λi=>l.getD i d:=by
 have key:∀n,n<=l.length->(l.take n).foldl (λout x=>kV (λy=>gt x y) out x) []=(sG (λi j=>gt (l.getD i d) (l.getD j d)) n).map λi=>l.getD i d:=by intro n;induction n with|zero=>grind[sG]|succ n ih=>
   intro h;have hn:n<l.length:=h;rw[Ac hn,D4,ih om];have e:sG (λi j=>gt (l.getD i d) (l.getD j d)) (n+1)=kV (λy=>gt (l.getD n d) (l.getD y d)) (sG (λi j=>gt (l.getD i d) (l.getD j d)) n) n:=by unfold sG;rw[List.range_succ,D4];rfl
   rw[e,xT4 (λi=>l.getD i d) (λy=>gt (l.getD n d) y)];grind
 grind
def px(a b:bK):Prop:=a.kind<b.kind\/a.kind=b.kind/\(a.n<b.n\/a.n=b.n/\Op.bytesLess a.s b.s=true)
theorem wE0{a b:alW}(h:Op.bytesLess a b):Op.bytesLess b a=false:=by
 cases q:Op.bytesLess b a;.rfl
 grind[JP,MP]
theorem QV(a b:bK):(jR a b<0↔px a b)/\(0<jR a b↔px b a):=by grind[jR,px,ve,gN,jx,wE0]
theorem px.HO(a:bK):¬px a a:=by intro h;rcases h with h|⟨_,h|⟨_,h⟩⟩;all_goals grind[MP]
theorem px.trans{a b c:bK}(h:px a b)(g:px b c):px a c:=by
 rcases h with h|⟨h,h|⟨h',h⟩⟩<;>rcases g with g|⟨g,g|⟨g',g⟩⟩;.exact .inl om
 .exact .inl om
 .exact .inl om
 .exact .inl om
 .exact .inr om
 .exact .inr om
 .exact .inl om
 .exact .inr om
 .exact .inr (by grind[JP])
theorem px.some{a c:bK}(b:bK)(h:px a c):px a b\/px b c:=by
 rcases alT a.kind b.kind with k|k|k;.exact .inl (.inl k)
 .rcases h with h|⟨h,h⟩;.exact .inr (.inl om)
  .rcases alT a.n b.n with m|m|m;.exact .inl (.inr om)
   .rcases h with h|⟨h',h⟩;.exact .inr (.inr om)
    .rcases Qz a.s b.s with f|f|f;.exact .inl (.inr (by grind))
     .exact .inr (.inr (by grind))
     .exact .inr (.inr (by grind[JP]))
   .rcases h with h|⟨h',h⟩;.exact .inr (.inr om)
    .exact .inr (.inr om)
 .rcases h with h|⟨h,_⟩;.exact .inr (.inl om)
  .exact .inr (.inl om)
def oN(d:Ln)(c:Nat)(down:Bool)(l:List Ln)(i j:Nat):Bool:=decide (0<sy c down (l.getD j d) (l.getD i d))
theorem QW(d:Ln)(c:Nat)(down:Bool)(l:List Ln)(i j:Nat):oN d c down l i j=true↔if down=true then px ((l.getD j d).v.getD c zeroV) ((l.getD i d).v.getD c zeroV)else px ((l.getD i d).v.getD c zeroV) ((l.getD j d).v.getD c zeroV):=by unfold oN sy;rw[alw];cases down<;>simp[QV]
theorem XD(d:Ln)(c:Nat)(down:Bool)(l:List Ln):Ord (oN d c down l):=by
 refine⟨λi=>?_,λi j k h g=>?_,λi j k h g=>?_⟩;.cases q:oN d c down l i i with |false=>rfl|true=>grind[QW,px.HO]
 .rw[QW]at h g⊢;split at h;.rename_i e0;rw[alq e0]at g⊢;exact g.trans h
  .rename_i e0;rw[alp e0]at g⊢;exact h.trans g
 .cases q:oN d c down l i k with |false=>rfl|true=>
   exfalso;have h':¬oN d c down l i j:=by grind
   have g':¬oN d c down l j k:=by grind
   rw[QW]at h' g' q;split at q;.rename_i e0;rw[alq e0]at h' g';exact(q.some ((l.getD j d).v.getD c zeroV)).elim g' h'
   .rename_i e0;rw[alp e0]at h' g';exact(q.some ((l.getD j d).v.getD c zeroV)).elim h' g'
theorem wb5(d:Ln)(c:Nat)(down:Bool)(l:List Ln):qn c down l=(sG (oN d c down l) l.length).map λi=>l.getD i d:=xh7 (λx y=>decide (0<sy c down y x)) l d
theorem xn5{d:Ln}{c:Nat}{down:Bool}{f:Nat->Nat}(hm:Mv id f 0 l.length)(hs:jC (oN d c down l) f 0 l.length):((List.range l.length).map λk=>l.getD (f k) d)=qn c down l:=by rw[wb5 d,<-xJ6 (by grind[XD]) hm hs,B8];rfl
def j6(T:bL)(st:bZ)(c:Int)(rows:List (List V))(n:Nat):St:=[.cv rows 3,.box T.row,.box st.row,.box [.cS 0 3 n 0 n],.box eH,.box [.int .i64 c]]
theorem DZ(T:bL)(st:bZ)(c:Int)(l:List Ln)(n:Nat):(j6 T st c (l.map Ln.row) n).all (bS 6)=true:=by simp[j6,eH,bS,cV,cR,Ln.row,bL.row,bZ.row]
theorem F5{l:List U}{i:Nat}(h:i<l.length)(d:U):l.getD i d=l[i]:=by rw[Aj,A0 h];rfl
theorem wy5(d:Ln)(T:bL)(st:bZ)(aa:Nat)(_hc0:aa<=10000)(l:List Ln)(ad:∀x∈l,aa<x.v.length)(i j:Nat)(hi:i<l.length)(hj:j<l.length):bN prog 260 [.int .i64 i,.int .i64 j,.ptr 3 0,.ptr 5 0,.ptr 2 0] (j6 T st aa (l.map Ln.row) l.length) (λr s=>r=.bool (oN d aa st.down l i j)/\s=j6 T st aa (l.map Ln.row) l.length):=by
 obtain⟨x,hx⟩:=eX (l[i]);obtain⟨y,hy⟩:=eX (l[j]);have ae:=ad x (hx▸A9 hi);have af:=ad y (hy▸A9 hj);obtain⟨v,hv⟩:=eX (x.v[aa]);obtain⟨u,hu⟩:=eX (y.v[aa]);have ab:=Wd v u;obtain⟨a1,a2,a3,a4,a5,a6,a7,a8,dn,a9⟩:=st;have hM:oN d aa dn l i j=(if dn=true then decide (0<jR v u)else decide (jR v u<0)):=by
  unfold oN sy;rw[F5 hi,F5 hj,hx,hy,F5 ae,F5 af,hv,hu];obtain⟨h1,h2⟩:=QV v u;obtain⟨h3,h4⟩:=QV u v;split;.rw[decide_eq_decide];exact⟨λh=>h2.2 (h3.1 om),λh=>by have:=h3.2 (h2.1 h);omega⟩
  .rw[decide_eq_decide];exact⟨λh=>h1.2 (h4.1 h),λh=>h4.2 (h1.1 h)⟩
 show bN _ _ _ _ (λr s=>r=.bool (oN d aa dn l i j)/\_);rw[hM];clear hM;generalize jR v u=k at ab;have cZ:=DZ T ⟨a1,a2,a3,a4,a5,a6,a7,a8,dn,a9⟩ aa l l.length;generalize hB:(if dn=true then decide (0<k)else decide (k<0))=B;have ret:∀(r:Bool)(Il:St),r=B->cz (some (.bool r)) 6 (λr s=>r=.bool B/\s=j6 T ⟨a1,a2,a3,a4,a5,a6,a7,a8,dn,a9⟩ aa (l.map Ln.row) l.length) (j6 T ⟨a1,a2,a3,a4,a5,a6,a7,a8,dn,a9⟩ aa (l.map Ln.row) l.length++Il):=λr Il h=>by subst h;exact yW 6 (Cd rfl) rfl cZ (A7 _) (zC rfl) ⟨rfl,rfl⟩
 clear cZ ad;have hk:=alT k 0;cases dn<;>(
  refine iV 6 func260 ntmps260 results260 λc hc hb=>?_;refine zA ?_;simp[go_sem,j6];refine yA [(16,0)] 6 rfl kR kR ?_;simp[go_sem,hi,hj,hx,hy,ae,af,hv,hu];refine pD ab ?_;simp[go_sem];rcases hk with q|q|q;.have q2:¬0<k:=om;simp[go_sem,q,q2];exact ret _ _ (by rw[<-hB];simp[q,q2])
  .subst q;simp[go_sem];exact ret _ _ (by rw[<-hB];simp)
  .have q2:¬k<0:=om;simp[go_sem,q,q2];exact ret _ _ (by rw[<-hB];simp[q,q2]))
theorem XE:(Tryz.prog.info? 311).map (λi=>(i.size,i.hasPointers,i.bytes))=some (3,true,48):=kR
theorem xG0:(Tryz.prog.info? 306).map (λi=>i.desc)=some (.slice 311):=kR
theorem xV3(w:World):(Extern.Rtype.kind 311).run prog w=.ok 25 w:=kR
theorem wp2{ie:TypeInfo}(hn:2<=n)(h1:ie.hasPointers)(h2:ie.bytes=48):Lib.swapperK n ie 25=9:=by
 unfold Lib.swapperK;have e1:(n==0)=false:=by simp;omega
 have e2:(n==1)=false:=by simp;omega
 rw[e1,e2,h1,h2];rfl
theorem wG7(args:am0)(w:World):(callFunc 401 args).run prog w=((Extern.ReflectliteSwapper.swap false args).run prog w).andThen λv w'=>.ok (.value v) w':=run_callFunc_extern func401 kR kR kR (e:=Extern.ReflectliteSwapper.swap false) kR args w
def mK(jD:Nat):Ln:=⟨0,[],List.replicate (jD+1) zeroV⟩
noncomputable def nS(T:bL)(st:bZ)(jD:Int)(rows:List (List V))(n:Nat):St:=j6 T st jD rows n++[.box [.cS 0 3 n 0 n],.box [.raw (typeHandle prog 306),.ptr 6 0,.int .u64 151]]
noncomputable def F6(n:Nat):List V:=if n<=1then[]else[.cS 0 3 n 0 n,.raw (typeHandle prog 311)]
theorem XF{T:bL}{st:bZ}{aa:Nat}(f:Nat->Nat):fV (nS T st aa (l.map Ln.row) l.length) 0 3 l.length (λk=>(l.getD k (mK aa)).row) f=nS T st aa (((List.range l.length).map λk=>l.getD (f k) (mK aa)).map Ln.row) l.length:=by unfold fV nS j6;rw[B8];rfl
theorem wo5{d:Ln}(f:Nat->Nat):((List.range l.length).map λk=>l.getD (f k) d).length=l.length:=sM
theorem wD4(G:FuncId)(T:bL)(st:bZ)(aa:Nat)(ah:aa<=10000)(l:List Ln)(hl:l.length<=10000)(ai:∀x∈l,aa<x.v.length)(hG:2<=l.length->G=401):SC prog 260 G [.ptr 3 0,.ptr 5 0,.ptr 2 0] (F6 l.length) (nS T st aa (l.map Ln.row) l.length) 0 3 l.length (λk=>(l.getD k (mK aa)).row) (oN (mK aa) aa st.down l):=by
 have ae:∀k,aa<(l.getD k (mK aa)).v.length:=λk=>by
  by_cases q:k<l.length;.rw[F5 q];exact ai _ (A9 q)
  .rw[Aj,Do om];simp[mK]
 have aq:∀rows n,(j6 T st aa rows n).length=6:=λ_ _=>rfl;refine⟨by simp[nS,j6],om,rfl,?_,?_,λk=>?_,λc τ f i j K hi hj aj hk=>?_,λc τ f i j K hi hj aj hk=>?_⟩
 .unfold F6;split;.rfl
  .simp[nS,j6,cR]
 .have h:=DZ T st aa l l.length;unfold nS;rw[E9,Aa];refine⟨?_,by simp[j6,bS,cV,cR]⟩;rw[Am]at h⊢;exactλo ho=>LD (by simp[j6]) (h o ho)
 .simp[Ln.row,cV,cR]
 .rw[XF]at hk⊢;obtain⟨l',ab⟩:∃l',((List.range l.length).map λk=>l.getD (f k) (mK aa))=l':=⟨_,rfl⟩;have ak:l'.length=l.length:=by rw[<-ab,wo5]
  have hg:∀k,k<l.length->l'.getD k (mK aa)=l.getD (f k) (mK aa):=λk hk=>by rw[<-ab,F5 (sU hk)];simp
  have af:=wy5 (mK aa) T st aa ah l' (λx hx=>by rw[<-ab]at hx;obtain⟨k,_,rfl⟩:=Ab.1 hx;exact ae _) i j om om;have al:oN (mK aa) aa st.down l' i j=oN (mK aa) aa st.down l (f i) (f j):=by unfold oN;rw[hg i hi,hg j hj]
  rw[al,ak]at af;rw[ab]at hk⊢;refine vV 6 af cB ?_ rfl (by have:=DZ T st aa l' l.length;exact this) ?_ ?_ ?_;.show(j6 _ _ _ _ _++_++τ).take 6=_;rw[Bj];exact Cd rfl
  .exact tf rfl
  .rintro r s ⟨rfl,rfl⟩;exact⟨rfl,DZ T st aa l' l.length,rfl⟩
  .rintro r s ⟨rfl,rfl⟩;have e:j6 T st aa (l'.map Ln.row) l.length++(nS T st aa (l'.map Ln.row) l.length++τ).drop 6=nS T st aa (l'.map Ln.row) l.length++τ:=rfl;rw[e];exact hk
 .have h2:2<=l.length:=om;rw[hG h2];obtain⟨ie,an,ad⟩:=As.1 XE;simp only[alD]at ad;obtain⟨ao,_,_⟩:=ad;have e0:F6 l.length=[.cS 0 3 l.length 0 l.length,.raw (typeHandle prog 311)]:=by unfold F6;rw[alp om]
  rw[e0];refine xL1 wG7 an isAgg311 ao sM (rows:=(List.range l.length).map λk=>(l.getD (f k) (mK aa)).row) (R:=(List.range l.length).map λk=>(l.getD (sw f i j k) (mK aa)).row) rfl hi hj ?_ hk;have gd:∀q,q<l.length->((List.range l.length).map λk=>(l.getD (f k) (mK aa)).row).getD q []=(l.getD (f q) (mK aa)).row:=λq hq=>by rw[F5 (sU hq)];simp
  rw[gd i hi,gd j hj];refine List.ext_getElem sM λk h1 h2=>?_;rw[List.getElem_set,List.getElem_set];simp only[D1,List.getElem_range,sw];split;.rename_i q;subst q;rw[alp om,alq rfl]
  .split;.rename_i q;subst q;rw[alq rfl]
   .rename_i q1 q2;rw[alp om,alp om]
theorem QX(args:am0)(w:World):(callFunc 333 args).run prog w=((Extern.ReflectliteValue.unpack (args.getD 0 (.tuple #[]))).run prog w).andThen λv w'=>.ok (.value v) w':=run_callFunc_extern func333 kR kR kR (e:=λargs=>Extern.ReflectliteValue.unpack (args.getD 0 (.tuple #[]))) kR args w
theorem wG8(args:am0)(w:World):(callFunc 334 args).run prog w=((Extern.ReflectliteSwapper.swapper "internal/reflectlite" (Extern.ReflectliteValue.valueError "Swapper") args).run prog w).andThen λv w'=>.ok (.value v) w':=run_callFunc_extern func334 kR kR kR (e:=Extern.ReflectliteSwapper.swapper "internal/reflectlite" (Extern.ReflectliteValue.valueError "Swapper")) kR args w
theorem wH2(args:am0)(w:World):(callFunc 336 args).run prog w=((Extern.ReflectliteValue.method (Extern.ReflectliteValue.valueError "reflectlite.Value.Len" 0) Extern.ReflectliteValue.len args).run prog w).andThen λv w'=>.ok (.value v) w':=run_callFunc_extern func336 kR kR kR (e:=Extern.ReflectliteValue.method (Extern.ReflectliteValue.valueError "reflectlite.Value.Len" 0) Extern.ReflectliteValue.len) kR args w
theorem wi7:(Tryz.prog.funcs.findIdx? (·.name=="internal/reflectlite"++".Swapper$"++toString 1),Tryz.prog.funcs.findIdx? (·.name=="internal/reflectlite"++".Swapper$"++toString 2),Tryz.prog.funcs.findIdx? (·.name=="internal/reflectlite"++".Swapper$"++toString 9))=(some 393,some 394,some 401):=kR
@[go_sem]theorem HR:xF prog 435=some [.gv,.gv,.int .u64 0]:=kR
@[go_sem]theorem Nd:eJ prog 435=some 3:=kR
@[go_sem]theorem J9:cQ prog 435=some true:=kR
theorem yu9(T:bL)(st:bZ)(jD:Nat)(I8:jD<=10000)(l:List Ln)(hl:l.length<=10000)(hcl:∀x∈l,jD<x.v.length):bN prog 259 [.iw 306 [.cS 0 3 l.length 0 l.length],.fn 260 [.ptr 3 0,.ptr 5 0,.ptr 2 0]] (j6 T st jD (l.map Ln.row) l.length) (λr s=>r=.cC []/\s=j6 T st jD ((qn jD st.down l).map Ln.row) l.length):=by
 obtain⟨ti,QY,QZ⟩:=As.1 xG0;obtain⟨ie,Pp,Ka⟩:=As.1 XE;simp only[alD]at Ka;obtain⟨hs3,hp,hby⟩:=Ka;obtain⟨G,hG,hG2,Kb⟩:∃G,Tryz.prog.funcs.findIdx? (·.name=="internal/reflectlite"++".Swapper$"++toString (Lib.swapperK l.length ie 25))=some G/\(2<=l.length->G=401)/\(Lib.swapperK l.length ie 25<=2↔l.length<=1):=by
  have h:=wi7;simp only[alD]at h;obtain⟨f1,f2,f3⟩:=h;by_cases q:2<=l.length;.rw[wp2 q hp hby];exact⟨_,f3,λ_=>rfl,om⟩
  .rcases(by omega:l.length=0\/l.length=1)with e|e;.rw[e];exact⟨_,f1,λh=>om,⟨λ_=>dC,λ_=>(by show 1<=2;decide)⟩⟩
   .rw[e];exact⟨_,f2,λh=>om,⟨λ_=>dC,λ_=>(by show 2<=2;decide)⟩⟩
 have S:=wD4 G T st jD I8 l hl hcl hG2;have XG:=wb6 S (XD (mK jD) jD st.down l);have XH:∀f,fV (nS T st jD (l.map Ln.row) l.length) 0 3 l.length (λk=>(l.getD k (mK jD)).row) f=nS T st jD (((List.range l.length).map λk=>l.getD (f k) (mK jD)).map Ln.row) l.length:=λf=>XF f;have Q0:((List.range l.length).map λk=>l.getD k (mK jD))=l:=by refine List.ext_getElem sM λk h1 h2=>?_;simp[h2]
 have Q1:bN prog 335 [.agg [.fn 260 [.ptr 3 0,.ptr 5 0,.ptr 2 0],.fn G (F6 l.length)],.int .i64 l.length] (nS T st jD (l.map Ln.row) l.length) (λr t=>r=.cC []/\t=nS T st jD ((qn jD st.down l).map Ln.row) l.length):=by rw[XH,Q0]at XG;refine XG.mono λr t h=>?_;obtain⟨h1,g,h2,h3⟩:=h;refine⟨h1,?_⟩;rw[h2,XH];congr 2;exact xn5 h3.1 h3.2
 have cZ:∀m:List Ln,(nS T st jD (m.map Ln.row) l.length).all (bS 8)=true:=λm=>by have h:=DZ T st jD m l.length;unfold nS;rw[E9,Aa];refine⟨?_,by simp[bS,cV,cR]⟩;rw[Am]at h⊢;exactλo ho=>LD dC (h o ho)
 have hsc:F6 l.length=(if Lib.swapperK l.length ie 25<=2then[]else[.cS 0 3 l.length 0 l.length,.raw (typeHandle prog 311)]):=by
  unfold F6;by_cases q:l.length<=1;.rw[alq q,alq (Kb.2 q)]
  .rw[alp q,alp λh=>q (Kb.1 h)]
 refine iV 6 func259 ntmps259 results259 λc hc hb=>?_;refine zN (zA ?_);simp[go_sem];refine xe4 QX QY QZ ?_;simp[go_sem];have e6:(j6 T st jD (l.map Ln.row) l.length).length=6:=rfl;rw[e6];refine zN (zA ?_);simp[go_sem];refine xe3 wG8 QY QZ Pp xV3 hG ?_;rw[<-hsc];simp[go_sem];have h7:(j6 T st jD (l.map Ln.row) l.length++[.box [.cS 0 3 l.length 0 l.length],.box [.raw (typeHandle prog 306),.ptr 6 0,.int .u64 151]])[7]?=some (.box [.raw (typeHandle prog 306),.ptr 6 0,.int .u64 151]):=rfl;refine zA ?_;simp[go_sem,h7];refine yN2 wH2 QY QZ kR (id:=0) (s:=3) (n:=l.length) (m:=l.length) (k:=6) rfl ?_;simp[go_sem];have cP:j6 T st jD (l.map Ln.row) l.length++[.box [.cS 0 3 l.length 0 l.length],.box [.raw (typeHandle prog 306),.ptr 6 0,.int .u64 151]]=nS T st jD (l.map Ln.row) l.length:=rfl;rw[cP];refine vV 8 Q1 cB (Ad (A7 8)) rfl (cZ l) ?_ ?_ ?_;.rw[Aw];refine tf ?_;have:=S.DY;have e8:(nS T st (jD:Int) (l.map Ln.row) l.length).length=8:=rfl;rw[e8]at this;simp[hZ,iu,cV,this,cR]
 .rintro r s ⟨rfl,rfl⟩;exact⟨rfl,cZ _,rfl⟩
 .rintro r s ⟨rfl,rfl⟩;have hd8:(nS T st (jD:Int) (l.map Ln.row) l.length).drop 8=[]:=rfl;rw[hd8];simp[go_sem];exact yW 6 (s:=j6 T st jD ((qn jD st.down l).map Ln.row) l.length) rfl rfl (DZ T st jD _ _) (A7 _) (zC rfl) ⟨rfl,rfl⟩
theorem dd.get(h:dd b l){p:Pl}{d:alW}:b.get p=some d↔∃x∈l,x.at=p/\xP x.v=d:=by
 rw[Mp.get_mem h.ok,h.perm.mem_iff,Ab];constructor;.rintro⟨x,hx,he⟩;simp only[alD]at he;exact⟨x,hx,he⟩
 .rintro⟨x,hx,h1,h2⟩;exact⟨x,hx,by rw[h1,h2]⟩
theorem dd.get_none(h:dd b l){p:Pl}:b.get p=none↔j5 l p=false:=lE.trans h.iq
def Kc(a:Mp alW)(e:Pl×alW):Bool:=a.get e.1!=some e.2
def HS(b:Mp alW)(e:Pl×alW):Bool:=(b.get e.1).isNone
def jh(a:Mp alW)(D:List (Pl×alW)):List Pl:=(D.filter (Kc a)).map (·.1)
def iU(b:Mp alW)(D:List (Pl×alW)):List Pl:=(D.filter (HS b)).map (·.1)
def rh(b:Mp alW)(p:Pl):Wr:=⟨p,(b.get p).isNone,(b.get p).getD []⟩
theorem xO3{a:Mp alW}{ai now:List Ln}(ha:dd a ai)(hb:dd b now){L:List Pl}(hp:L.Perm (jh a b.W++iU b a.W))(hs:L.Pairwise λp q=>¬lD q p<0):L.map (rh b)=jz ai now:=by
 have nN:(jh a b.W).Nodup:=alF ((C8).map _) hb.keys;have nO:(iU b a.W).Nodup:=alF ((C8).map _) ha.keys;have nL:L.Nodup:=by rw[hp.nodup_iff,Ct];refine⟨nN,nO,λp h1 q h2 e=>?_⟩;subst e;obtain⟨e1,ad,rfl⟩:=Ab.1 h1;obtain⟨e2,ae,h3⟩:=Ab.1 h2;have h4:=(Mp.get_mem hb.ok).2 (Bn.1 ad).1;have h5:=(Bn.1 ae).2;unfold HS at h5;rw[h3,h4]at h5;cases h5
 have hr:iR L:=by have:=wn5 (kx:=λp:Pl=>p) (l:=L) hs (by rw[E7];exact nL);rwa[E7]at this
 obtain⟨c1,c2⟩:=M8 ha.jA hb.jA;refine Xo ?_ c1 λw=>?_;.unfold pv;rw[D5];exact hr
 rw[c2 w,Ab];have hm:∀p,p∈L↔p∈jh a b.W\/p∈iU b a.W:=λp=>by rw[hp.mem_iff,Ai]
 constructor
 .rintro⟨p,aj,rfl⟩;rcases(hm p).1 aj with h|h;.obtain⟨⟨p',d⟩,he,rfl⟩:=Ab.1 h;obtain⟨ad,ae⟩:=Bn.1 he;have hg:=(Mp.get_mem hb.ok).2 ad;obtain⟨x,hx,aa,ab⟩:=hb.get.1 hg;refine .inr ⟨by simp[rh,hg],x,hx,aa,by simp[rh,hg,ab],λy hy af ah=>?_⟩;have:=ha.get.2 ⟨y,hy,af.trans aa,ah.trans ab⟩;simp[Kc,this]at ae
  .obtain⟨⟨p',d⟩,he,rfl⟩:=Ab.1 h;obtain⟨ad,ae⟩:=Bn.1 he;have hg:=(Mp.get_mem ha.ok).2 ad;have hn:b.get p'=none:=by simpa[HS]using ae
   obtain⟨x,hx,aa,ab⟩:=ha.get.1 hg;exact .inl ⟨by simp[rh,hn],by simp[rh,hn],⟨x,hx,aa⟩,hb.get_none.1 hn⟩
 .rintro(⟨h1,h2,⟨x,hx,aa⟩,h3⟩|⟨h1,x,hx,aa,ab,h3⟩);.have hn:=hb.get_none.2 h3;have hg:=ha.get.2 ⟨x,hx,aa,rfl⟩;refine⟨w.p,(hm _).2 (.inr (Ab.2 ⟨(w.p,xP x.v),Bn.2 ⟨(Mp.get_mem ha.ok).1 hg,by simp[HS,hn]⟩,rfl⟩)),?_⟩;obtain⟨p,dr,da⟩:=w;simp only at h1 h2 hn;simp[rh,hn,h1,h2]
  .have hg:=hb.get.2 ⟨x,hx,aa,ab⟩;refine⟨w.p,(hm _).2 (.inl (Ab.2 ⟨(w.p,w.data),Bn.2 ⟨(Mp.get_mem hb.ok).1 hg,?_⟩,rfl⟩)),?_⟩;.simp only[Kc,bne_iff_ne,ne_eq];intro h;obtain⟨y,hy,af,ah⟩:=ha.get.1 h;exact h3 y hy (af.trans aa.symm) (ah.trans ab.symm)
   .obtain⟨p,dr,da⟩:=w;simp only at h1 hg;simp[rh,hg,h1]
theorem wq7{P:Program}{c:Ctx}{I:St}{f:FuncId}{cd args ct:List V}{KV:V->St->Prop}{rows:List (List V)}{w:Nat}(hc:bN P f ct [] λr s=>r=.cS 0 w n 0 n/\s=[.cv rows w])(hb:xI P f)(ab:bS 0 (.cv rows w))(aa:bP (cW (cO [] I.length)) ct (args++cd))(hK:KV (.cS I.length w n 0 n) (I++[.cv rows w])):jn P c (.fn f cd) args I KV fx:=by
 refine VC.of hc hb [] Bo rfl sM aa λr s h _=>?_;obtain⟨rfl,rfl⟩:=h;have e:yY [] I [.cv rows w]=I++[.cv rows w]:=by simp only[yY,fW,B1,Cy,Ag,Bq];rw[yV (n:=0) om ab]
 grind[dL,cO,dQ,du,dv]
def F7(a:Mp alW)(sn:Mp Int)(m:List Ln)(B:Mp alW)(M:List Ln×Int)(r:V)(s:St):Prop:=s=dF a B sn++[.cv (m.map Ln.row) 3]/\((M.2≠0/\r=.cC [.agg (Ot.row ⟨0,[]⟩),.int .i64 M.2])\/(M.2=0/\r=.cC [.agg (Ot.row ⟨m.length,[]⟩),.int .i64 0]/\dd B M.1))
def ny(T:bL)(cJ:List cy):List Ln->Mp alW->Mp alW
 |[],b=>b|x::m,b=>if(gQ T x.v cJ x.v).2≠0then b else if fC T.cw (gQ T x.v cJ x.v).1≠0then b else ny T cJ m (b.put x.at (xP (gQ T x.v cJ x.v).1))
theorem xH6{r:Int}{k d:alW}{w:Nat×alW}(h:b.at (r,k)=some w):Ob.mp (((gP V.str b.W).set (2*w.1) (.agg [.int .i64 r,.str k])).set (2*w.1+1) (.str d)) b.bs b.dm=(b.put (r,k) d).ob V.str:=by unfold Mp.put Mp.ob;rw[h];show _=Ob.mp (gP V.str (b.W.set w.1 ((r,k),d))) _ _;rw[<-WL];rfl
theorem Q2{x:Ln}(h:gm x):1<=x.v.length/\x.v.length<=20:=by obtain⟨tn,T,_,hT,hm⟩:=h.jV;have h1:=zp hm;have h2:=(by decide:∀T∈bO,1<=T.cw.length/\T.cw.length<=20) T (by grind);omega
theorem XI(T:bL)(name:alW):dg T name<T.cw.length:=by grind[uX,dg]
theorem wd0(tn:Nat)(T:bL)(hT:bO[tn]?=some T)(st:bZ)(aD:lq st)(au:∀x∈st.cJ,0<=dg T x.name)(a b:Mp alW)(sn:Mp Int)(l m:List Ln)(aL:dd b l)(hm:∀x∈m,j5 l x.at=true/\gm x/\(ga x.r).1=(tn:Int))(hl:m.length<=10000):bN prog 177 [.ptr 3 0,.agg T.row,.agg st.row,.cS 4 3 m.length 0 m.length] (dF a b sn++[.cv (m.map Ln.row) 3]) (F7 a sn m (ny T st.cJ m b) (ig T st.cJ m l)):=by
 generalize hM:ig T st.cJ m l=M;generalize hB:ny T st.cJ m b=B;have av:∀(b':Mp alW),(dF a b' sn++([.cv (m.map Ln.row) 3]:St)).all (bS 5)=true:=(by simp[wK,bS,cV,cR,Ln.row]);have eD:∀(b':Mp alW)(Il:St)(l':List Ln),b'=B->M=(l',0)->dd b' l'->cz (some (.cC [.agg [.sl .full [],.int .i64 m.length],.int .i64 0])) 5 (F7 a sn m B M) (a.ob .str::b'.ob .str::sn.ob (V.int .i64)::.box [.sl .ro xN,.sl .ro (bO.map bL.row),.mp 0,.mp 1,.mp 2]::.cv (m.map Ln.row) 3::Il):=λb' Il l' h0 h1 h2=>yW 5 (s:=dF a b' sn++[.cv (m.map Ln.row) 3]) (r:=.cC [.agg (Ot.row ⟨m.length,[]⟩),.int .i64 0]) rfl rfl (av b') (A7 _) (yO ⟨wH ⟨zY,zF rfl,tV⟩,xD rfl,tV⟩) ⟨by rw[h0],(by grind)⟩;have bad:∀(b':Mp alW)(e:Int)(Il:St),b'=B->M.2=e->e≠0->cz (some (.cC [.agg [.sl .full [],.int .i64 0],.int .i64 e])) 5 (F7 a sn m B M) (a.ob .str::b'.ob .str::sn.ob (V.int .i64)::.box [.sl .ro xN,.sl .ro (bO.map bL.row),.mp 0,.mp 1,.mp 2]::.cv (m.map Ln.row) 3::Il):=λb' e Il h0 h1 h2=>yW 5 (s:=dF a b' sn++[.cv (m.map Ln.row) 3]) (r:=.cC [.agg (Ot.row ⟨0,[]⟩),.int .i64 e]) rfl rfl (av b') (A7 _) (yO ⟨wH ⟨zY,zF rfl,tV⟩,xD rfl,tV⟩) ⟨by rw[h0],(by grind)⟩;refine iV 5 func177 ntmps177 results177 λc hc hb=>?_;refine zA ?_;simp[go_sem,dF,gq];have aw:∀(b':Mp alW),([a.ob .str,b'.ob .str,sn.ob (V.int .i64),.box [.sl .ro xN,.sl .ro (bO.map bL.row),.mp 0,.mp 1,.mp 2],.cv (m.map Ln.row) 3,.box T.row,.box st.row,.box eH]:St).all (bS 8)=true:=λb'=>by have h:=wK 8 om a b' sn;simp only[dF,gq,Az,De,Dg]at h⊢;simp_all[bS,cV,cR,bZ.row,bL.row,Ln.row,eH]
 have af:∀(b':Mp alW)(x:Ln)(row:List bK),([a.ob .str,b'.ob .str,sn.ob (V.int .i64),.box [.sl .ro xN,.sl .ro (bO.map bL.row),.mp 0,.mp 1,.mp 2],.cv (m.map Ln.row) 3,.box T.row,.box st.row,.box eH,.box x.row,.cv (row.map bK.row) 3]:St).all (bS 10)=true:=λb' x row=>by have h:=wK 10 om a b' sn;simp only[dF,gq,Az,De,Dg]at h⊢;simp_all[bS,cV,cR,bZ.row,bL.row,Ln.row,bK.row,eH]
 have ax:T.cw.length<=maxLen:=(by decide:∀T∈bO,T.cw.length<=maxLen) T (Bp hT);have hlen:∀x,gm x->(ga x.r).1=(tn:Int)->x.v.length=T.cw.length:=λx hx an=>by
  obtain⟨aE,T',h1,h2,h3⟩:=hx.jV;have:aE=tn:=by omega
  grind[zp]
 refine zG (S:=Nat×Mp alW×List Ln) [0,3,5,6,8,9,18,19,20] (λu=>[.ptr 3 0,.cS 4 3 m.length 0 m.length,.ptr 5 0,.ptr 6 0,.ptr 7 0,.int .i64 0,.cS 4 3 m.length 0 m.length,.int .i64 m.length,.int .i64 u.1]) (λu=>[a.ob .str,u.2.1.ob .str,sn.ob (V.int .i64),.box [.sl .ro xN,.sl .ro (bO.map bL.row),.mp 0,.mp 1,.mp 2],.cv (m.map Ln.row) 3,.box T.row,.box st.row,.box eH]) (λu=>m.length-u.1) (λu=>u.1<=m.length/\dd u.2.1 u.2.2/\(∀p,j5 u.2.2 p=j5 l p)/\ig T st.cJ (m.drop u.1) u.2.2=M/\ny T st.cJ (m.drop u.1) u.2.1=B) hc hb (0,b,l) (by grind) ?_ ?_;.exact bU 8 (by simp[go_sem,eH]) rfl (aw b) dC (zD sg rfl)
 rintro⟨i,b1,l1⟩⟨hi,aj,ah,aa,ab⟩;simp only at hi aj ah aa ab;by_cases q:i<m.length;rotate_left;.rw[A8 om,ig]at aa;rw[A8 om,ny]at ab;refine zA ?_;simp[go_sem,q,eH];exact eD b1 _ l1 ab aa.symm aj
 have ei:=zO q om;obtain⟨x,hx⟩:=eX (m[i]);obtain⟨ay,ae,an⟩:=hm x (hx▸A9 q);refine zA ?_;simp[go_sem,q,hx];have aP:=Q2 ae;have aF:=W6 x.v om (by grind);refine wq7 aF cB (by simp[bS,cV,cR,bK.row]) ⟨zK,tV⟩ ?_;simp[go_sem,eH];obtain⟨E,hE⟩:=eX (gQ T x.v st.cJ x.v);rw[A4 q,hx,ig,hE]at aa;rw[A4 q,hx,ny,hE]at ab;have az:=aD.cJ;refine zG (S:=Nat×List bK) [0,3,5,6,8,9,11,12,18,19,20,28,29,30] (λu=>[.ptr 3 0,.cS 4 3 m.length 0 m.length,.ptr 5 0,.ptr 6 0,.ptr 7 0,.int .i64 0,.ptr 8 0,.cS 9 3 x.v.length 0 x.v.length,.cS 4 3 m.length 0 m.length,.int .i64 m.length,.int .i64 i,.sl .ro (st.cJ.map cy.row),.int .i64 st.cJ.length,.int .i64 u.1]) (λu=>[a.ob .str,b1.ob .str,sn.ob (V.int .i64),.box [.sl .ro xN,.sl .ro (bO.map bL.row),.mp 0,.mp 1,.mp 2],.cv (m.map Ln.row) 3,.box T.row,.box st.row,.box eH,.box x.row,.cv (u.2.map bK.row) 3]) (λu=>st.cJ.length-u.1) (λu=>u.1<=st.cJ.length/\u.2.length=x.v.length/\gQ T x.v (st.cJ.drop u.1) u.2=E) hc hb (0,x.v) ⟨A5 _,rfl,hE⟩ ?_ ?_;.exact bU 10 (by simp[go_sem,eH]) rfl (af b1 x x.v) dC (zD sg rfl)
 rintro⟨j,row⟩⟨hj,ak,ad⟩;simp only at hj ak ad;by_cases qj:j<st.cJ.length
 .have ej:=zO qj om;obtain⟨y,hy⟩:=eX (st.cJ[j]);have aG:=(az.2 y (hy▸A9 qj)).2;have aQ:=au y (hy▸A9 qj);rw[A4 qj,hy,gQ]at ad;have ai:=M0 T ax x.v ae.ok y.e aG;have a1:Pure prog 242 [.agg T.row,.str y.name] (.int .i64 (dg T y.name)):=HA T y.name ax;obtain⟨k,hk⟩:∃k:Nat,dg T y.name=k:=⟨(dg T y.name).toNat,om⟩;have aR:k<row.length:=by have h1:=XI T y.name;grind
  have aH:k<x.v.length:=om;rw[hk]at a1 ad;simp only[Ay]at ad;obtain⟨⟨v,er⟩,hv⟩:∃kv,gZ T x.v y.e=kv:=⟨_,rfl⟩;rw[hv]at ad ai;simp only at ad;refine zA ?_;simp[go_sem,qj,hy];refine zL ai cB ⟨zC rfl,zK,zk y.e,tV⟩ rfl ?_;simp[go_sem,fR];by_cases q2:er=0;rotate_left;.have ao:(er !=0)=true:=sU q2;rw[alq q2]at ad;subst ad;simp only at aa ab;rw[alq q2]at aa ab;simp[go_sem,ao,eH];exact bad b1 er _ ab (by rw[<-aa]) q2
  have ao:(er !=0)=false:=sU q2;rw[alp (λh=>h q2)]at ad;simp[go_sem,ao];refine yA [(4,0)] 12 rfl kR kR ?_;simp[go_sem];refine pD a1 ?_;simp[go_sem];refine zJ om ?_;simp[go_sem,ak,aH,ej];exact zH (j+1,row.set k v) ⟨om,(by grind),bU 10 (by simp[go_sem,eH]) rfl (af b1 x _) dC (zD sg rfl)⟩
 rw[A8 om,gQ]at ad;subst ad;simp only at aa ab;rw[alp (λh=>h rfl)]at aa ab;have aS:=hlen x ae an;have aI:∀v∈row,v.ok:=by have h1:=M1 (T:=T) ae.ok (cJ:=st.cJ) (row:=x.v) (λy hy=>(az.2 y hy).2) ae.ok;grind
 have al:=Ws T row (by unfold maxLen;omega);have a6:xB (row.map bK.row):=by simp[xB,o7,bK.row]
 obtain⟨mr,a7⟩:=eX (fC T.cw row);rw[a7]at aa al ab;have aJ:mr=0->ju row:=(by grind[HN]);have aq:=λh0=>U0 row (aJ h0);obtain⟨w0,a8⟩:∃w0,b1.at x.at=some w0:=by cases h:b1.at x.at with |none=>have:=ah x.at;rw[ay,aj.iq.1 h]at this;grind|some w=>exact⟨w,rfl⟩
 have eB:b1.ob .str=.mp (gP .str b1.W) b1.bs b1.dm:=rfl;have aA:ep (x.r,x.k) b1.W=some w0:=a8;have aB:=xH6 (d:=xP row) (r:=x.r) (k:=x.k) a8;have aC:mr=0->dd (b1.put x.at (xP row)) (jS l1 x.at row):=λh0=>aj.JW x.at row (by rw[ah];exact ay) ⟨⟨tn,T,an,hT,a7.trans h0⟩,ae.err,aI⟩;have aK:wU (row.map bK.row) 0 x.v.length=row.map bK.row:=by rw[<-ak];unfold wU;rw[B1,Ad sM,B8];rfl
 refine zA ?_;simp[go_sem,qj];refine Om al cB (.step 9 3 (row.map bK.row) rfl a6 (.refl _ _)) (zR (by simp[fO,fX,fN,fH,aK,ak,go_sem]) rfl) rfl ?_;simp[go_sem];by_cases m0:mr=0;rotate_left;.have ar:(mr !=0)=true:=sU m0;rw[alq m0]at aa ab;simp[go_sem,ar,eH];exact bad b1 mr _ ab (by rw[<-aa]) m0
 have ar:(mr !=0)=false:=sU m0;rw[alp (λh=>h m0)]at aa ab;simp[go_sem,ar];refine yA [(7,1)] 10 rfl kR kR ?_;simp[go_sem];refine we0 (aq m0) cB (λs hs=>⟨_,_,.step 9 3 (row.map bK.row) ((Kp.get (k:=Kp.pre 10) rfl hs).trans rfl) a6 (.refl _ _),zR (by grind[fO,fX,fN,fH]) rfl⟩) rfl ?_;simp[go_sem,eB,qh,aA,lZ,mC,aB,ei];exact zH (i+1,b1.put x.at (xP row),jS l1 x.at row) ⟨om,⟨q,aC m0,λp=>by show j5 (jS l1 x.at row) p=_;rw[Xc];grind,aa,ab⟩,bU 8 (by simp[go_sem,eH];rfl) rfl (aw _) dC (zD sg rfl)⟩
theorem yQ3(l:List bK)(hl:l.length<=10000)(hz:l≠[]):Pure prog 120 [.sl .ro (l.map bK.row)] (.sl .ro (l.map bK.row)):=by
 refine(W6 l hl hz).Ik λr s h=>?_;obtain⟨rfl,rfl⟩:=h;have aa:wU (l.map bK.row) 0 l.length=l.map bK.row:=by unfold wU;rw[B1,Ad sM,B8];rfl
 refine⟨_,_,.step 0 3 (l.map bK.row) rfl (by grind[xB,o7,bK.row]) (.refl _ _),?_⟩;simp_all[fO,fX,fN,fH,zK]
def qv(r:Ot×Int):V:=.cC [.agg r.1.row,.int .i64 r.2]
theorem wh9(T:bL)(name:alW)(h:0<=dg T name):∃k:Nat,dg T name=k/\k<T.cw.length:=by have:=XI T name;exact⟨(dg T name).toNat,om,om⟩
theorem wo0(T:bL)(st:bZ)(l:List Ln)(h:DU st.items=false):ml T st l=(if(qo T st.items (mj st.bV (if 0<=dg T st.order then qn (dg T st.order).toNat st.down l else l)) []).2≠0then(⟨0,[]⟩,(qo T st.items (mj st.bV (if 0<=dg T st.order then qn (dg T st.order).toNat st.down l else l)) []).2)else(⟨0,(qo T st.items (mj st.bV (if 0<=dg T st.order then qn (dg T st.order).toNat st.down l else l)) []).1⟩,0)):=by simp_all[ml]
theorem Q3(c:Nat)(down:Bool)(l:List Ln):(qn c down l).Perm l:=by
 unfold qn;have h:∀(m out:List Ln),(m.foldl (λout x=>JU (λy=>decide (0<sy c down y x)) out x) out).Perm (out++m):=by intro m;induction m with|nil=>simp|cons x m ih=>intro out;refine(ih _).trans ?_;refine((XB _ out x).append_right m).trans ?_;exact Dj.symm
 grind
def Ke(T:bL)(st:bZ)(l:List Ln):List Ln:=if DU st.items=true then l else if 0<=dg T st.order then qn (dg T st.order).toNat st.down l else l
theorem yF3(tn:Nat)(T:bL)(hT:bO[tn]?=some T)(st:bZ)(an:lq st)(hit:st.items≠[])(l:List Ln)(hl:l.length<=10000)(cZ:∀x∈l,gm x/\x.v.length=T.cw.length):bN prog 176 [.agg T.row,.agg st.row,.cS 0 3 l.length 0 l.length] [.cv (l.map Ln.row) 3] (λr s=>r=qv (ml T st l)/\s=[.cv ((Ke T st l).map Ln.row) 3]):=by
 have ao:T.cw.length<=maxLen:=(by decide:∀T∈bO,T.cw.length<=maxLen) T (by grind);have aR:T.cw.length<=20:=(by decide:∀T∈bO,T.cw.length<=20) T (by grind);have ax:=wr5 st an;have ae:=wF8 T ao st an l hl (λx hx=>(cZ x hx).1.ok);obtain⟨wb,ay⟩:=eX (DU st.items);rw[ay]at ax;have ah:Pure prog 242 [.agg T.row,.str st.order] (.int .i64 (dg T st.order)):=HA T st.order ao;obtain⟨M,hM⟩:=eX (ml T st l);rw[hM];obtain⟨C,hC⟩:=eX (Ke T st l);rw[hC];have aS:wb=true->C=l:=λh=>by simp_all[Ke]
 have aT:wb=false->C=if 0<=dg T st.order then qn (dg T st.order).toNat st.down l else l:=λh=>by simp_all[Ke]
 have az:wb=true->sD (sx T l st.items [])=qv M:=λh=>by rw[<-hM];unfold sD qv ml;grind
 have a1:=λh:wb=false=>(wo0 T st l (ay.trans h)).symm.trans hM;clear hM;refine iV 1 func176 ntmps176 results176 λc hc hb=>?_;refine zN (zA ?_);simp[go_sem];refine zN (zA ?_);simp[go_sem];refine pC ax ?_;refine(A6 wb).elim (λw=>?_) (λw=>?_);.rw[az w]at ae;simp[go_sem,w];refine mY 0 ae cB rfl (by grind[bS,cV,cR,Ln.row]) ⟨zC rfl,zC rfl,.inl rfl,tV⟩ (by rintro r s ⟨rfl,rfl⟩;exact⟨_,rfl,by grind[bS,cV,cR,Ln.row]⟩) ?_;rintro r o ⟨rfl,ho⟩;cases ho;simp[go_sem,qv,Ot.row];exact yW 1 (s:=[.cv (l.map Ln.row) 3]) (r:=.cC [.agg (Ot.row M.1),.int .i64 M.2]) rfl rfl (by simp[bS,cV,cR,Ln.row]) om (yO ⟨wH ⟨zY,zF rfl,tV⟩,xD rfl,tV⟩) ⟨rfl,by grind⟩
 .have hM:=a1 w;clear az a1 ae;obtain⟨m,hm⟩:=eX ((if 0<=dg T st.order then qn (dg T st.order).toNat st.down l else l));rw[hm]at hM;have a6:C=m:=(by grind);have aF:m.Perm l:=by grind[Q3,List.Perm.refl]
  have aq:=aF.length_eq;have a7:0<=dg T st.order->∃k:Nat,dg T st.order=k/\bN prog 259 [.iw 306 [.cS 0 3 l.length 0 l.length],.fn 260 [.ptr 3 0,.ptr 5 0,.ptr 2 0]] (j6 T st k (l.map Ln.row) l.length) (λr s=>r=.cC []/\s=j6 T st k (m.map Ln.row) l.length):=λh0=>by obtain⟨k,hk,ai⟩:=wh9 T st.order h0;have hs:=yu9 T st k om l hl (by grind);rw[alq h0,hk,Ay]at hm;rw[hm]at hs;exact⟨k,hk,hs⟩
  have ak:¬0<=dg T st.order->m=l:=(by grind);clear hm;simp[go_sem,w];refine nK (S:=Unit) [3,4,5,6] (λ_=>[.ptr 1 0,.ptr 2 0,.ptr 3 0,.ptr 4 0]) (λ_=>j6 T st (dg T st.order) (m.map Ln.row) l.length) (λ_=>True) hc hb ?_ ?_
  .by_cases h0:0<=dg T st.order;.obtain⟨k,hk,hs⟩:=a7 h0;rw[hk]at ah⊢;refine zA ?_;simp[go_sem];refine pC ah ?_;simp[go_sem,BO];refine Hb (cd:=[]) (args:=[.iw 306 [.cS 0 3 l.length 0 l.length],.fn 260 [.ptr 3 0,.ptr 5 0,.ptr 2 0]]) hs cB ?_;rintro r s ⟨rfl,rfl⟩_;simp[go_sem];exact zH () ⟨tV,bU 6 (by rfl) rfl (by grind[DZ]) dC (zD (by rfl) rfl)⟩
   .rw[ak h0];refine zA ?_;simp[go_sem];refine pC ah ?_;simp[go_sem,h0];exact zH () ⟨tV,bU 6 (by rfl) rfl (by grind[DZ]) dC (zD (by rfl) rfl)⟩
  rintro _ _;clear a7 ak ah;generalize dg T st.order=ad at*;obtain⟨k,a8,ai⟩:∃k,mj st.bV m=m.take k/\k<=m.length/\(k=if 0<=st.bV/\st.bV<m.length then st.bV.toNat else m.length):=by unfold mj;grind
  obtain⟨ai,ab⟩:=ai;rw[a8]at hM;rw[aq]at ai ab;refine nK (S:=Unit) [3,4,5,6] (λ_=>[.ptr 1 0,.ptr 2 0,.ptr 3 0,.ptr 4 0]) (λ_=>[.cv (m.map Ln.row) 3,.box T.row,.box st.row,.box [.cS 0 3 l.length 0 k],.box eH,.box [.int .i64 ad]]) (λ_=>True) hc hb ?_ ?_
  .have ar:([.cv (m.map Ln.row) 3,.box T.row,.box st.row,.box [.cS 0 3 l.length 0 k],.box eH,.box [.int .i64 ad]]:St).all (bS 6)=true:=by simp[bS,cV,cR,Ln.row,bL.row,bZ.row,eH]
   by_cases h0:0<=st.bV
   .by_cases h1:st.bV<l.length;.rw[alq ⟨h0,h1⟩]at ab;refine zA ?_;simp[go_sem,j6,h0,h1];refine zJ om ?_;simp[go_sem,<-ab];exact zH () ⟨tV,bU 6 (by rfl) rfl ar dC (zD (by rfl) rfl)⟩
    .rw[alp om]at ab;subst ab;refine zA ?_;simp[go_sem,j6,h0,h1];exact zH () ⟨tV,bU 6 (by rfl) rfl ar dC (zD (by rfl) rfl)⟩
   .rw[alp om]at ab;subst ab;refine zA ?_;simp[go_sem,j6,h0];exact zH () ⟨tV,bU 6 (by rfl) rfl ar dC (zD (by rfl) rfl)⟩
  rintro _ _;clear ab a8;refine zN (zA ?_);simp[go_sem];refine Fg 6 0 1 _ dC rfl rfl ?_;obtain⟨y0,ys,aU⟩:∃y0 ys,st.items=y0::ys:=by cases h:st.items<;>grind
  obtain⟨uI,hJ⟩:=eX st.items;obtain⟨aG,aA⟩:=an.items;rw[hJ]at aG aA hM;have aH:uI.head?.map (·.kind)=some y0.kind:=by grind
  have aj:∃h:0<uI.length,uI[0]=y0:=by grind
  obtain⟨aB,aj⟩:=aj;obtain⟨P,hP⟩:=eX (qo T uI (m.take k) []);rw[hP]at hM;have aI:∀x∈m,gm x:=(by grind);have fin:∀(rows:List (List bK))(Il:St),P=(rows,0)->cz (some (.cC [.agg [.sl (.app 7) (rows.map λr=>[V.sl .ro (r.map bK.row)]),.int .i64 0],.int .i64 0])) 1 (λr s=>r=qv M/\s=[.cv (C.map Ln.row) 3]) (.cv (m.map Ln.row) 3::Il):=λrows Il h=>by rw[h,alp om]at hM;exact yW 1 (s:=[.cv (m.map Ln.row) 3]) (r:=.cC [.agg (Ot.row ⟨0,rows⟩),.int .i64 0]) rfl rfl (by simp[bS,cV,cR,Ln.row]) om (yO ⟨wH ⟨zY,zF rfl,tV⟩,xD rfl,tV⟩) ⟨by rw[<-hM];rfl,by rw[a6]⟩
  have bad:∀(er:Int)(Il:St),P.2=er->er≠0->cz (some (.cC [.agg [.sl .full [],.int .i64 0],.int .i64 er])) 1 (λr s=>r=qv M/\s=[.cv (C.map Ln.row) 3]) (.cv (m.map Ln.row) 3::Il):=λer Il h h0=>by rw[h,alq h0]at hM;exact yW 1 (s:=[.cv (m.map Ln.row) 3]) (r:=.cC [.agg (Ot.row ⟨0,[]⟩),.int .i64 er]) rfl rfl (by simp[bS,cV,cR,Ln.row]) om (yO ⟨wH ⟨zY,zF rfl,tV⟩,xD rfl,tV⟩) ⟨by rw[<-hM];rfl,by rw[a6]⟩
  clear hM;have au:∀n:Nat,∀out:List (List bK),([.cv (m.map Ln.row) 3,.box T.row,.box st.row,.box [.cS 0 3 l.length 0 k],.box eH,.box [.int .i64 ad],.box [.sl (.app 7) (out.map λr=>[V.sl .ro (r.map bK.row)]),.int .i64 0],.app n 1]:St).all (bS 8)=true:=λn out=>by simp[bS,cV,cR,Ln.row,bL.row,bZ.row,eH]
  refine zN (zA ?_);simp[go_sem];refine zG (S:=Nat×List (List bK)) [3,4,6,9,49,50,51] (λu=>[.ptr 1 0,.ptr 2 0,.ptr 4 0,.ptr 6 0,.cS 0 3 l.length 0 k,.int .i64 k,.int .i64 u.1]) (λu=>[.cv (m.map Ln.row) 3,.box T.row,.box st.row,.box [.cS 0 3 l.length 0 k],.box eH,.box [.int .i64 ad],.box [.sl (.app 7) (u.2.map λr=>[V.sl .ro (r.map bK.row)]),.int .i64 0],.app u.2.length 1]) (λu=>k-u.1) (λu=>u.1<=k/\u.2.length<=u.1/\qo T uI ((m.take k).drop u.1) u.2=P) hc hb (0,[]) (by grind) ?_ ?_;.exact bU 8 (by rfl) rfl (au 0 []) dC (zD (by rfl) rfl)
  rintro⟨i,out⟩⟨hi,aJ,hinv⟩;simp only at hi aJ hinv;by_cases q:i<k;rotate_left;.rw[A8 (by grind),qo]at hinv;refine zA ?_;simp[go_sem,q];refine zA ?_;simp[go_sem,eH];exact fin out _ hinv.symm
  have ei:=zO q om;have aK:i<m.length:=om;have aC:i<l.length:=om;obtain⟨x,hx⟩:=eX (m[i]);have aV:m[i]?=some x:=by grind
  have aD:=aI x (hx▸A9 aK);have aE:=Q2 aD;rw[A4 (by grind),alS,hx,qo,aH]at hinv;by_cases k1:y0.kind=1
  .have av:(y0.kind==1)=true:=by grind
   rw[alq (by rw[k1])]at hinv;have aL:=yQ3 x.v om (λh=>by rw[h]at aE;simp at aE);refine zA ?_;simp[go_sem,q,aC,aq,hx,hJ,aB,aj,av];refine xV [(3,2),(4,0),(6,3)] 7 sM (by rfl) kR ?_;simp[go_sem];refine pD aL ?_;simp[go_sem];refine zJ ⟨om,zZ rfl⟩ ?_;simp[go_sem,ei];exact zH (i+1,out++[x.v]) ⟨om,(by grind),bU 8 (by simp_all) rfl (au _ _) dC (zD (by rfl) rfl)⟩
  .have av:(y0.kind==1)=false:=by grind
   rw[alp (by grind)]at hinv;obtain⟨E,hE⟩:=eX (fa T x.v (uI.map (·.e)) []);rw[hE]at hinv;have al:∀n:Nat,∀out:List (List bK),([.cv (m.map Ln.row) 3,.box T.row,.box st.row,.box [.cS 0 3 l.length 0 k],.box eH,.box [.int .i64 ad],.box [.sl (.app 7) (out.map λr=>[V.sl .ro (r.map bK.row)]),.int .i64 0],.app out.length 1,.box x.row,.app n 3]:St).all (bS 10)=true:=λn out=>by simp[bS,cV,cR,Ln.row,bL.row,bZ.row,eH]
   refine zA ?_;simp[go_sem,q,aC,aq,hx,hJ,aB,aj,av];refine wQ 12 3 dC (by rfl) ?_;refine zG (S:=Nat×List bK) [3,4,6,9,11,12,49,50,51,70,71,72] (λu=>[.ptr 1 0,.ptr 2 0,.ptr 4 0,.ptr 6 0,.ptr 8 0,.sl (.app 9) (u.2.map bK.row),.cS 0 3 l.length 0 k,.int .i64 k,.int .i64 i,.sl .ro (uI.map de.row),.int .i64 uI.length,.int .i64 u.1]) (λu=>[.cv (m.map Ln.row) 3,.box T.row,.box st.row,.box [.cS 0 3 l.length 0 k],.box eH,.box [.int .i64 ad],.box [.sl (.app 7) (out.map λr=>[V.sl .ro (r.map bK.row)]),.int .i64 0],.app out.length 1,.box x.row,.app u.2.length 3]) (λu=>uI.length-u.1) (λu=>u.1<=uI.length/\u.2.length<=u.1/\fa T x.v ((uI.drop u.1).map (·.e)) u.2=E) hc hb (0,[]) (by grind) ?_ ?_;.exact bU 10 (by simp[go_sem,hJ]) rfl (al _ _) dC (zD (by rfl) rfl)
   rintro⟨j,acc⟩⟨hj,aP,aa⟩;simp only at hj aP aa;by_cases p:j<uI.length
   .have ej:=zO p om;obtain⟨y,hy⟩:=eX (uI[j]);have aQ:=(aA y (hy▸A9 p)).2;rw[A4 p,hy,Ag,fa]at aa;have af:=M0 T ao x.v aD.ok y.e aQ;obtain⟨⟨v,er⟩,hv⟩:∃kv,gZ T x.v y.e=kv:=⟨_,rfl⟩;rw[hv]at aa af;simp only at aa;refine zA ?_;simp[go_sem,p,hy];refine zL af cB ⟨zC rfl,zK,zk y.e,tV⟩ rfl ?_;simp[go_sem,fR];by_cases q2:er=0;rotate_left
    .have aw:(er !=0)=true:=by grind
     rw[alq q2]at aa;subst aa;simp only at hinv;rw[alq q2]at hinv;simp[go_sem,aw,eH];exact bad er _ (by grind) q2
    have aw:(er !=0)=false:=by grind
    rw[alp om]at aa;simp[go_sem,aw];refine zJ ⟨om,zZ rfl⟩ ?_;simp[go_sem,ej];exact zH (j+1,acc++[v]) ⟨om,(by grind),bU 10 sM rfl (al _ _) dC (zD sg rfl)⟩
   .rw[A8 om,Bq,fa]at aa;subst aa;simp only at hinv;rw[alp om]at hinv;refine zA ?_;simp[go_sem,p];refine zJ ⟨om,zZ rfl⟩ ?_;simp[go_sem,ei];exact zH (i+1,out++[acc]) ⟨om,(by grind),bU 8 sM rfl (au _ _) dC (zD (by rfl) rfl)⟩
end Go.Proofs.YtegbonbgofjlcaaGreat
