/-
  exec.choose: what a SELECT tells of the rows that it meets; used by the walk of exec.Run.
  Conditions: as the theorem states them.
-/
import Derived.Test.YtefbicjgbaaieaaGreatMAN
import Derived.Test.YtefbicjgbaaieaaGreatMAO
import Derived.Test.YtefbicjgbaaieaaGreatMAE
import Derived.Test.YtefbicjgbaaieaaGreatMAF
import Derived.Test.YtefbicjgbaaieaaGreatMAM
import Derived.Test.YtefbicjgbaaieaaGreatMAG
set_option maxHeartbeats 8000000
namespace Go.Proofs.YtefbicjgbaaieaaGreat
open Go Go.Vx R Go.Proofs.Tryz
set_option maxRecDepth 100000
def G8 (a b:Mp afE) (sn:Mp Int) (M:List Ln×Int) (r:V) (s:St):Prop:=
 (M.2≠0/\s=cM a b sn/\r= .cm [.sl .ro [],.int .i64 M.2])\/(M.2=0/\s=cM a b sn++ [.cc (M.1.map Ln.row) 3]/\r= .cm [.cJ 4 3 M.1.length 0 M.1.length,.int .i64 0])
theorem eQ.G9 {x:Ln} (h:eQ x):iv x.v:=by
 obtain⟨tn,T,_,hT,hm⟩:=h.iY
 exact EZ ((by decide: ∀T∈bM,T.bW.length<=20) T (by grind)) h.ok hm
theorem Nu {nt:Nat} {d:Option Tmp} {K:KT} {e:Env} {U:St} {i id cD:Nat} {seen:afF} {b:Mp afE} {R0:Vx.R} (hR:R0=mB true U (.ptr i 0)) (hi:U[i]? =some (.it (some id) cD seen cD)) (hid:U[id]? =some (.mp (fL V.str b.W) b.bs cD)) (hb: ∀x∈b.bs,x<cD)
  (h0:jA seen b.W b.bs= []->il nt d (.cm [.bool false]) K fx e U) (h1: ∀p∈jA seen b.W b.bs,il nt d (.cm [.bool true,gB p.1.1,.str p.1.2]) K fx e (U.set i (.it (some id) cD (seen++ [p.2]) cD))):dC nt d R0 K fx e U:=by
 subst hR
 have aa:(b.bs.all λx=>decide (x<cD))=true:=(by grind)
 unfold mB
 simp only[hi,hid,aa,A3,and_self,afj,Ti]
 match hL:jA seen b.W b.bs with
 | []=>exact h0 hL
 | [p]=>exact h1 p (by grind)
 |p::q::r=>
  simp only[Ai]
  rw[Wy]
  refine Wz λx hx=> ?_
  have ab:x∈(p::q::r).map λp:(Pl×afE)×Nat=>((.cm [.bool true,gB p.1.1,.str p.1.2]:V),U.set i (.it (some id) cD (seen++ [p.2]) cD)):=by
   grind
  obtain⟨y,hy,rfl⟩:=Ac.1 ab
  exact h1 y (by grind)
theorem Tw {a b:Mp afE} {sn:Mp Int} {m:List Ln} {k:Nat} {U:St} (hk:4<=k) (h4:U.take 4=cM a b sn) (cv:U[k]? =some (.cc (m.map Ln.row) 3)):cj (some (.cm [.cJ k 3 m.length 0 m.length,.int .i64 0])) 4 (G8 a b sn (m,0)) U:=by
 refine W3 [0,1,2,3,k] (s:=cM a b sn++ [.cc (m.map Ln.row) 3]) (r:= .cm [.cJ 4 3 m.length 0 m.length,.int .i64 0]) ?_ (λi hi=> ?_) rfl (λi j o ab ho=> ?_) (.inl (by rfl)) (.inr sm)
 .grind
 .match i,hi with
  |0,_=>rfl
  |1,_=>rfl
  |2,_=>rfl
  |3,_=>rfl
 .by_cases q:i<4
  .have e:j=i:=by
    grind
   subst e
   have h1:(cM a b sn)[j]? =some o:=by grind
   have aa:bP 4 o:=Ad.1 (by grind[xY]) o (Bh h1)
   rw[xH (n:=4) (λx hx=> ?_) aa]
   .grind
   .rw[xX (by grind)]
    match x,hx with
    |0,_=>rfl
    |1,_=>rfl
    |2,_=>rfl
    |3,_=>rfl
  .have e:i=4:=by
    grind
   subst e
   have e1:o= .cc (m.map Ln.row) 3:=by grind
   have e2:j=k:=by grind
   subst e1;subst e2
   rw[xH (n:=0) om (by grind[bP,cK,cG,Ln.row])]
   omega
theorem xr6 (T:bI) (st:bQ) (acc:List Ln) (x:Ln) (l:List Ln):sF T st acc (x::l)=if(fX T x.v st.ct).2≠0 then([],(fX T x.v st.ct).2)else sF T st (if CC (fX T x.v st.ct).1=true then acc++ [x]else acc) l:=rfl
theorem wf1 (tn:Nat) (T:bI) (hT:bM[tn]? =some T) (st:bQ) (aH:kg st) (hv:MZ st) (a b:Mp afE) (sn:Mp Int) (l:List Ln) (aa:cw b l) (hl:l.length<=10000):
  bK prog 90 [.ptr 3 0,.int .i64 tn,.agg st.row] (cM a b sn) (G8 a b sn (fD tn T st l)):=by
 obtain⟨aw,aI⟩:=A1.1 hT
 have h3:tn<3:=aw
 have ax:=Z8 xZ bM tn st dc dc (by grind[Se,maxLen]) hv
 have ay:=xj6 tn st (by have:=Se st;unfold maxLen;omega)
 obtain⟨⟨lo,hi⟩,az⟩: ∃bd,tJ bM tn st=bd:=⟨_,rfl⟩
 rw[az]at ax
 obtain⟨G,hG⟩:=eX (oh tn st)
 have aJ:=yx6 tn st
 have a1:=λg (hg:g∈oh (tn:Int) st)=>Tq tn h3 hg
 rw[hG]at ay aJ a1
 refine iV 4 func90 ntmps90 results90 λc hc hb=> ?_
 refine zO (zA ?_)
 simp[go_sem,cM,fm]
 refine zO (zA ?_)
 simp[go_sem]
 refine yV [(6,0)] 5 rfl kR kR ?_
 simp[go_sem]
 refine pD ax ?_
 simp[go_sem,MP]
 refine zO (zA ?_)
 simp[go_sem]
 refine Er 10 3 dc sg ?_
 refine zO (zA ?_)
 simp[go_sem]
 refine yV [(6,0)] 6 rfl kR kR ?_
 simp[go_sem]
 refine pD ay ?_
 simp[go_sem]
 have a6: ∀(m:List Ln),([a.ob .str,b.ob .str,sn.ob (V.int .i64),.box [.sl .ro xZ,.sl .ro (bM.map bI.row),.mp 0,.mp 1,.mp 2],.box st.row,.cc (m.map Ln.row) 3]:St).all (bP 6)=true:=λm=>by
  have h:=xY 6 om a b sn
  simp_all[cM,bP,cK,cG,bQ.row,Ln.row]
 have eB:b.ob .str= .mp (fL .str b.W) b.bs b.cD:=rfl
 have aK: ∀x∈b.bs,x<b.cD:=aa.ok.lt
 have ad: ∀(m:List Ln) (se:afF),([a.ob .str,b.ob .str,sn.ob (V.int .i64),.box [.sl .ro xZ,.sl .ro (bM.map bI.row),.mp 0,.mp 1,.mp 2],.box st.row,.cc (m.map Ln.row) 3,.it (some 1) b.cD se b.cD]:St).all (bP 7)=true:=λm se=>by
  have h:=xY 7 om a b sn
  simp_all[cM,bP,cK,cG,bQ.row,Ln.row]
 refine zH (S:=Nat×List Ln) [0,1,5,8,9,10,40,41,42] (λu=> [.ptr 3 0,.int .i64 tn,.ptr 4 0,.str lo,.str hi,.cJ 5 3 u.2.length 0 u.2.length,.sl .ro (G.map yQ),.int .i64 G.length,.int .i64 u.1])
  (λu=> [a.ob .str,b.ob .str,sn.ob (V.int .i64),.box [.sl .ro xZ,.sl .ro (bM.map bI.row),.mp 0,.mp 1,.mp 2],.box st.row,.cc (u.2.map Ln.row) 3]) (λu=>G.length - u.1)
  (λu=>u.1<=G.length/\u.2.Perm ((G.take u.1).flatMap λg=>l.filter (G7 (jU tn g).1 lo hi))/\u.2.length<=u.1*10000) hc hb (0,[]) sm ?_ ?_
 .exact aN 6 (a6 [])
 rintro⟨i,acc⟩ ⟨aL,aj,aP⟩
 simp only at aL aj aP
 by_cases q:i<G.length
 .have ei:=zR q om
  obtain⟨g,hg⟩:=eX (G[i])
  obtain⟨bb,aQ,a7⟩:=a1 g (hg▸Aa q)
  have a8:=RH tn g om om
  obtain⟨gC,aA⟩:=eX ((jU tn g).1)
  have aR:jU tn g=(gC,0):=Prod.ext aA aQ
  rw[aR]at a8 a7
  refine zA ?_
  simp[go_sem,q,hg,yQ]
  refine pC a8 ?_
  simp[go_sem,Jt,eB]
  refine zH (S:=afF×List (Pl×afE)) [0,1,5,8,9,10,13,40,41,42,60] (λu=> [.ptr 3 0,.int .i64 tn,.ptr 4 0,.str lo,.str hi,.cJ 5 3 (acc++(u.2.filter (oU gC lo hi)).map (tQ tn)).length 0 (acc++(u.2.filter (oU gC lo hi)).map (tQ tn)).length,.int .i64 gC,.sl .ro (G.map yQ),.int .i64 G.length,.int .i64 i,.ptr 6 0])
   (λu=> [a.ob .str,b.ob .str,sn.ob (V.int .i64),.box [.sl .ro xZ,.sl .ro (bM.map bI.row),.mp 0,.mp 1,.mp 2],.box st.row,.cc ((acc++(u.2.filter (oU gC lo hi)).map (tQ tn)).map Ln.row) 3,.it (some 1) b.cD u.1 b.cD]) (λu=>(jA u.1 b.W b.bs).length)
   (λu=>gD u.1 b.W b.bs u.2) hc hb ([],[]) (gD.start aa.ok.len) ?_ ?_
  .exact ca 7 (by simp[go_sem];rfl) rfl (ad _ _) dc (zD sg rfl)
  rintro⟨se,D⟩ hD
  simp only at hD
  refine AR 61 dc ?_
  refine zA ?_
  simp[go_sem,eB]
  have aB: ∀p∈jA se b.W b.bs,p.1.2.length<=cZ:=λp hp=>by
   obtain⟨x,hx,aS⟩:=Ac.1 (aa.perm.mem_iff.1 (List.of_mem_zip (JT hp)).1)
   rw[<-aS]
   have:=MJ (eQ.G9 (aa.rows x hx)) x.v.length
   exact An this dc
  have bc:D.length<=10000:=by
   have h1:=hD.length_eq
   rw[aa.perm.length_eq]at h1
   grind
  have bf:((D.filter (oU gC lo hi)).map (tQ tn)).length<=D.length:=by grind
  refine Nu (b:=b) (i:=6) (id:=1) (seen:=se) (cD:=b.cD) (by simp[go_sem,mB]) rfl rfl aK (λhL=> ?_) (λp hp=> ?_)
  .have aT:=yL7 aa (hD.done hL) (t:=tn) (gC:=gC) (by rw[a7]) lo hi
   simp[go_sem,ei]
   exact zG (i+1,acc++(D.filter (oU gC lo hi)).map (tQ tn)) ⟨om,⟨q,by
    show(acc++_).Perm _
    rw[Ce q,afw,hg]
    grind,by grind⟩,ca 6 (by simp[go_sem];rfl) rfl (a6 _) dc (zD sg rfl)⟩
  .have ae:=JR (g:=V.str) aa.ok.nd (JT hp)
   have af:=hD.next aa.ok.nd hp
   have aC:=(JS aa.ok.nd hp).length_eq
   have an:=aB p hp
   clear aB
   obtain⟨⟨⟨pr,pk⟩,data⟩,dI⟩:=p
   simp only[gB]at ae af aC an
   have ab:(jA (se++ [dI]) b.W b.bs).length<(jA se b.W b.bs).length:=by grind
   have al:=RA xZ bM tn data an dc
   have aD:tQ tn ((pr,pk),data)=⟨pr,pk,(fu bM tn data).1⟩:=rfl
   obtain⟨rf,aU⟩:=eX (fu bM tn data)
   rw[aU]at al aD
   have ak:oU gC lo hi ((pr,pk),data)=((pr==gC)&&(!Op.bytesLess pk lo&&Op.bytesLess pk hi)):=rfl
   clear aC hp an
   refine(A4 (pr==gC)).elim (λr1=> ?_) (λr1=> ?_)
   rotate_left
   .have hE:oU gC lo hi ((pr,pk),data)=false:=by rw[ak,r1];rfl
    simp[go_sem,gB,pg,ae,r1]
    exact zG (se++ [dI],D++ [((pr,pk),data)]) ⟨ab,af,ca 7 (by simp[go_sem,hE];rfl) rfl (ad _ _) dc (zD (by simp[go_sem,hE]) rfl)⟩
   refine(A4 (Op.bytesLess pk lo)).elim (λr2=> ?_) (λr2=> ?_)
   .have hE:oU gC lo hi ((pr,pk),data)=false:=by rw[ak,r1,r2];rfl
    simp[go_sem,gB,pg,ae,r1,r2]
    exact zG (se++ [dI],D++ [((pr,pk),data)]) ⟨ab,af,ca 7 (by simp[go_sem,hE];rfl) rfl (ad _ _) dc (zD (by simp[go_sem,hE]) rfl)⟩
   refine(A4 (Op.bytesLess pk hi)).elim (λr3=> ?_) (λr3=> ?_)
   rotate_left
   .have hE:oU gC lo hi ((pr,pk),data)=false:=by rw[ak,r1,r2,r3];rfl
    simp[go_sem,gB,pg,ae,r1,r2,r3]
    exact zG (se++ [dI],D++ [((pr,pk),data)]) ⟨ab,af,ca 7 (by simp[go_sem,hE];rfl) rfl (ad _ _) dc (zD (by simp[go_sem,hE]) rfl)⟩
   have hE:oU gC lo hi ((pr,pk),data)=true:=by rw[ak,r1,r2,r3];rfl
   simp[go_sem,gB,pg,ae,r1,r2,r3]
   refine pC al ?_
   simp[go_sem,oc,Bi]
   have bg:(D.filter (oU gC lo hi)).length<=D.length:=De _ _
   refine zI ⟨zX rfl,om⟩ ?_
   simp[go_sem]
   exact zG (se++ [dI],D++ [((pr,pk),data)]) ⟨ab,af,ca 7 (by simp[go_sem,hE,aD];rfl) rfl (ad _ _) dc (zD (by simp[go_sem,hE,Dp]) rfl)⟩
 .have aV:i=G.length:=om
  have bh: ∀x:Ln,ou tn st x=((G.any λg=>(jU tn g).1==x.r)&&(!Op.bytesLess x.k lo&&Op.bytesLess x.k hi)):=(by grind[ou])
  have ag:acc.Perm (l.filter (ou tn st)):=by
   have h:=yx7 tn h3 st l
   rw[hG,az]at h
   rw[aV,List.take_length]at aj
   exact aj.trans h
  have hlen:acc.length<=l.length:=by rw[ag.length_eq];grind
  obtain⟨M,hM⟩:=eX (fD tn T st l)
  have ao:st.dq=false->M=(l.filter (ou tn st),0):=λh=>by simp_all[fD]
  have aq:st.dq=true->M=sF T st [] (l.filter (ou tn st)):=λh=>by simp_all[fD]
  rw[hM]
  clear hM
  refine zA ?_
  simp[go_sem,q]
  refine zO (zA ?_)
  simp[go_sem]
  refine Qw Tryz.vp rfl cB dc Tryz.mU Tryz.oA cB Tg xD4 (f:=Ln.row) (kx:=Ln.at) (λx=>⟨_,rfl,rfl⟩) acc rfl om (λl' ar aE=> ?_)
  have aF:=yV0 aa.eK (ar.symm.trans ag) aE
  have au:acc.length=l'.length:=ar.length_eq
  rw[<-aF]at ao aq
  simp[go_sem,au]
  refine zO (zA ?_)
  simp[go_sem]
  refine zS (λh=> ?_) (λh=> ?_)
  .have hf:st.dq=false:=sU h
   rw[ao hf]
   simp[go_sem]
   exact Tw dc rfl rfl
  .have hf:st.dq:=sU h
   have hM:=aq hf
   have bj:l'.length<=10000:=om
   have aW: ∀x∈l',eQ x:=λx hx=>aa.rows x (by grind)
   have aX:T.bW.length<=maxLen:=(by decide: ∀T∈bM,T.bW.length<=maxLen) T (Bh hT)
   clear ao aq aF ar aE aj ag
   have ah: ∀(m:List Ln),([a.ob .str,b.ob .str,sn.ob (V.int .i64),.box [.sl .ro xZ,.sl .ro (bM.map bI.row),.mp 0,.mp 1,.mp 2],.box st.row,.cc (l'.map Ln.row) 3,.cc (m.map Ln.row) 3]:St).all (bP 7)=true:=(by simp_all[bP,cK,cG,Ln.row])
   refine zO (zA ?_)
   simp[go_sem]
   refine Er 19 3 dc sg ?_
   refine zO (zA ?_)
   simp[go_sem]
   refine zH (S:=Nat×List Ln) [0,1,5,19,105,106,107] (λu=> [.ptr 3 0,.int .i64 tn,.ptr 4 0,.cJ 6 3 u.2.length 0 u.2.length,.cJ 5 3 l'.length 0 l'.length,.int .i64 l'.length,.int .i64 u.1])
    (λu=> [a.ob .str,b.ob .str,sn.ob (V.int .i64),.box [.sl .ro xZ,.sl .ro (bM.map bI.row),.mp 0,.mp 1,.mp 2],.box st.row,.cc (l'.map Ln.row) 3,.cc (u.2.map Ln.row) 3]) (λu=>l'.length - u.1)
    (λu=>u.1<=l'.length/\u.2.length<=u.1/\sF T st u.2 (l'.drop u.1)=M) hc hb (0,[]) (by grind) ?_ ?_
   .exact aN 7 (ah [])
   rintro⟨j,out⟩ ⟨hj,aY,hinv⟩
   simp only at hj aY hinv
   by_cases p:j<l'.length
   rotate_left
   .rw[A8 om,sF]at hinv
    subst hinv
    refine zA ?_
    simp[go_sem,p]
    refine zA ?_
    simp[go_sem]
    exact Tw dc rfl rfl
   have ej:=zR p om
   obtain⟨x,hx⟩:=eX (l'[j])
   have aZ:=aW x (hx▸Aa p)
   rw[A2 p,hx,xr6]at hinv
   have ai:=JO T aX x.v aZ.ok st.ct aH.ct
   obtain⟨⟨v,er⟩,hv⟩: ∃kv,fX T x.v st.ct=kv:=⟨_,rfl⟩
   rw[hv]at hinv ai
   simp only at hinv
   have aG:=Sp v
   obtain⟨tv,ba⟩:=eX (CC v)
   rw[ba]at hinv aG
   refine zA ?_
   simp[go_sem,p,hx]
   refine yV [(12,0)] 8 rfl kR kR ?_
   simp[go_sem,aw,aI]
   refine qo ai cB (λ_=>⟨zC rfl,zK,ve st.ct,tV⟩) rfl ?_
   simp[go_sem,eV]
   by_cases q2:er=0
   rotate_left
   .have av:(er !=0)=true:=sU q2
    rw[afb q2]at hinv
    subst hinv
    simp[go_sem,av]
    exact xM 4 (s:=cM a b sn) (r:= .cm [.sl .ro [],.int .i64 er]) rfl rfl (xY 4 dc a b sn) (A3 _) (wK ⟨xw,mf rfl,tV⟩) (.inl ⟨q2,rfl,rfl⟩)
   have av:(er !=0)=false:=sU q2
   rw[afa (λh=>h q2)]at hinv
   simp[go_sem,av]
   refine pC aG ?_
   refine(A4 tv).elim (λt=> ?_) (λt=> ?_)
   .rw[afb t]at hinv
    simp[go_sem,t,Bi]
    refine zI ⟨zX rfl,om⟩ ?_
    simp[go_sem,ej]
    exact zG (j+1,out++ [x]) ⟨om,(by grind),aN 7 (ah (out++ [x]))⟩
   .rw[afa (by rw[t];decide)]at hinv
    simp[go_sem,t,ej]
    exact zG (j+1,out) ⟨om,(by grind),aN 7 (ah out)⟩
end Go.Proofs.YtefbicjgbaaieaaGreat
namespace Go.Proofs.YtefbicjgbaaieaaGreat
open Go Go.Vx Go.Proofs.Tryz
structure Ord (lt:Nat->Nat->Bool):Prop where
 E6: ∀i,lt i i=false
 tr: ∀i j k,lt i j=true->lt j k=true->lt i k=true
 nt: ∀i j k,lt i j=false->lt j k=false->lt i k=false
variable {a:Nat}{b:Nat}{i:Nat}{k:Nat}{m:Nat}{j:Nat}{lt:Nat->Nat->Bool}{f:Nat->Nat}{g:Nat->Nat}
def TO (lt:Nat->Nat->Bool) (i j:Nat):Prop:=lt i j=true\/lt j i=false/\i<j
theorem Ord.asym (o:Ord lt) (h:lt i j):lt j i=false:=by
 cases q:lt j i
 .rfl
 .have:=o.tr _ _ _ h q;rw[o.E6]at this;grind
theorem TO.trans (o:Ord lt) (h:TO lt i j) (g:TO lt j k):TO lt i k:=by
 cases q:lt i k with
 |true=>exact .inl q
 |false=>
  rcases h with h|⟨h,h'⟩
  .rcases g with g|⟨g,g'⟩
   .rw[o.tr _ _ _ h g]at q;cases q
   .have:=o.nt _ _ _ q g;grind
  .rcases g with g|⟨g,g'⟩
   .have:=o.nt _ _ _ h q;grind
   .exact .inr ⟨o.nt _ _ _ g h,om⟩
theorem TO.E6 (o:Ord lt) (h:TO lt i i):False:=by
 rcases h with h|⟨_,h⟩
 .rw[o.E6]at h;cases h
 .omega
theorem TO.vq (o:Ord lt) (h:j<i):TO lt j i↔lt i j=false:=
 ⟨λq=>q.elim o.asym λq=>q.1,λq=> .inr ⟨q,h⟩⟩
def iA (lt:Nat->Nat->Bool) (f:Nat->Nat) (a b:Nat):Prop:= ∀i j,a<=i->i<j->j<b->TO lt (f i) (f j)
def Mv (f f':Nat->Nat) (a b:Nat):Prop:=
 ∃π:Nat->Nat,(∀k,a<=k->k<b->a<=π k/\π k<b)/\(∀k,k<a\/b<=k->π k=k)/\(∀i j,π i=π j->i=j)/\ ∀k,f' k=f (π k)
theorem Mv.refl (f:Nat->Nat) (a b:Nat):Mv f f a b:=⟨id,(by grind),sm,sm,λ_=>rfl⟩
theorem Mv.mono {f':Nat->Nat} {c d:Nat} (h:Mv f f' a b) (h1:c<=a) (h2:b<=d):Mv f f' c d:=by
 obtain⟨π,p1,p2,p3,p4⟩:=h
 refine⟨π,λk k1 k2=> ?_,(by grind),p3,p4⟩
 grind
theorem Mv.trans {h:Nat->Nat} (p:Mv f g a b) (q:Mv g h a b):Mv f h a b:=by
 obtain⟨π,p1,p2,p3,p4⟩:=p
 obtain⟨ρ,q1,q2,q3,q4⟩:=q
 refine⟨λk=>π (ρ k),(by grind),(by grind),(by grind),(by grind)⟩
 all_goals grind
theorem Mv.out (p:Mv f g a b) (h:k<a\/b<=k):g k=f k:=by
 obtain⟨π,p1,p2,p3,p4⟩:=p
 grind
theorem Mv.at (p:Mv f g a b) (h1:a<=k) (h2:k<b): ∃j,a<=j/\j<b/\g k=f j:=by
 obtain⟨π,p1,p2,p3,p4⟩:=p
 grind
def sw (f:Nat->Nat) (i j:Nat):Nat->Nat:=λk=>if k=i then f j else if k=j then f i else f k
def mV (f:Nat->Nat) (a b n:Nat):Nat->Nat:=λk=>if a<=k/\k<a+n then f (k - a+b)else if b<=k/\k<b+n then f (k - b+a)else f k
theorem wg6 (f:Nat->Nat) (a b:Nat):mV f a b 0=f:=by
 funext x
 unfold mV
 grind
theorem xG4 (f:Nat->Nat) (h:a+i<b):sw (mV f a b i) (a+i) (b+i)=mV f a b (i+1):=by
 funext x
 unfold sw mV
 grind
def cU (f:Nat->Nat) (a m b:Nat):Nat->Nat:=λk=>if a<=k/\k<a+(b - m)then f (k+(m - a))else if a+(b - m)<=k/\k<b then f (k - (b - m))else f k
theorem Mv.JV (f:Nat->Nat) (h1:a<=m) (h2:m<=b):Mv f (cU f a m b) a b:=by
 refine⟨λk=>if a<=k/\k<a+(b - m)then k+(m - a)else if a+(b - m)<=k/\k<b then k - (b - m)else k,λk k1 k2=> ?_,λk hk=> ?_,λx y e=> ?_,λk=> ?_⟩
 .grind
 .grind
 .grind
 .unfold cU
  grind
theorem wb7 (g:Nat->Nat) (h:j<i) (hi:i<=m):cU (mV g (m - i) m j) (m - (i - j)) m (m+j)=cU g (m - i) m (m+j):=by
 funext x
 unfold cU mV
 grind
theorem wb8 (g:Nat->Nat) (h:i<j) (hi:i<=m):cU (mV g (m - i) (m+j - i) i) (m - i) m (m+(j - i))=cU g (m - i) m (m+j):=by
 funext x
 unfold cU mV
 grind
theorem wb6 (g:Nat->Nat) (hi:i<=m):mV g (m - i) m i=cU g (m - i) m (m+i):=by
 funext x
 unfold cU mV
 grind
theorem wg7 (f:Nat->Nat) (h:a<=k):sw (cU f a (a+1) (k+1)) k (k+1)=cU f a (a+1) (k+2):=by
 funext x
 unfold sw cU
 grind
theorem Tx (f:Nat->Nat) (a m:Nat):cU f a m m=f:=by
 funext x
 unfold cU
 grind
theorem Ty (f:Nat->Nat) (h:k<=m) (hk:0<k):sw (cU f k m (m+1)) k (k - 1)=cU f (k - 1) m (m+1):=by
 funext x
 unfold sw cU
 grind
theorem Nv (f:Nat->Nat) (m b:Nat):cU f m m b=f:=by
 funext x
 unfold cU
 grind
theorem sG (f:Nat->Nat) (h:a<=k/\k<a+(b - m)):cU f a m b k=f (k+(m - a)):=by simp_all[cU]
theorem sH (f:Nat->Nat) (h:a+(b - m)<=k/\k<b):cU f a m b k=f (k - (b - m)):=by simp_all[cU,afa]
theorem oV (f:Nat->Nat) (hm:m<=b) (h0:a<=m) (h:k<a\/b<=k):cU f a m b k=f k:=by unfold cU;grind
section
variable {lt:Nat->Nat->Bool} {f:Nat->Nat}
theorem xO5 {a b i:Nat} (hs:iA lt f (a+1) b) (h1:a+1<=i) (h2:i<=b) (hl: ∀x,a+1<=x->x<i->TO lt (f x) (f a)) (hr: ∀x,i<=x->x<b->TO lt (f a) (f x)):iA lt (cU f a (a+1) i) a b:=by
 intro x y hx aa hy
 rcases Aw y (i - 1)with q|q|q
 .rw[sG f om,sG f om]
  exact hs _ _ om om om
 .grind[sG,sH]
 .rw[oV f om om (k:=y) om]
  rcases Aw x (i - 1)with p|p|p
  .rw[sG f om]
   exact hs _ _ om om om
  .grind[sH]
  .rw[oV f om om (k:=x) om]
   exact hs _ _ om om om
theorem Tz {a m i:Nat} (hs:iA lt f a m) (h1:a<=i) (h2:i<=m) (hl: ∀x,a<=x->x<i->TO lt (f x) (f m)) (hr: ∀x,i<=x->x<m->TO lt (f m) (f x)):iA lt (cU f i m (m+1)) a (m+1):=by
 intro x y hx aa hy
 rcases Aw x i with q|q|q
 .rw[oV f om om (k:=x) om]
  rcases Aw y i with p|p|p
  .rw[oV f om om (k:=y) om]
   exact hs _ _ om om om
  .grind[sG]
  .rw[sH f om]
   exact hs _ _ om om om
 .rw[sG f om,show x+(m - i)=m by omega,sH f om]
  grind
 .rw[sH f om,sH f om]
  exact hs _ _ om om om
theorem xn9 (o:Ord lt) {a m b dV s e lo hi:Nat} (ha:a<m) (hb:m<b) (al:dV=(a+b)/2) (ad:iA lt f a m) (ae:iA lt f m b)
  (ai:lo=if dV<m then dV+m - b else a) (aj:hi=if dV<m then dV else m) (h1:lo<=s) (h2:s<=hi) (he:e=dV+m - s)
  (hl: ∀c,lo<=c->c<s->TO lt (f c) (f (dV+m - 1 - c))) (hr: ∀c,s<=c->c<hi->TO lt (f (dV+m - 1 - c)) (f c)):
  (a<=s/\s<=dV/\s<=m/\m<=e/\dV<=e/\e<=b/\s+(e - m)=dV)/\(∀x y,a<=x->x<dV->dV<=y->y<b->TO lt (cU f s m e x) (cU f s m e y))/\
  iA lt (cU f s m e) a s/\iA lt (cU f s m e) s dV/\iA lt (cU f s m e) dV e/\iA lt (cU f s m e) e b:=by
 have hm:dV*2<=a+b/\a+b<=dV*2+1:=om
 have ak:a<=s/\s<=dV/\s<=m/\m<=e/\dV<=e/\e<=b/\s+(e - m)=dV/\a<dV/\dV<b:=by
  split at ai<;>split at aj<;>omega
 obtain⟨r1,r2,r3,r4,r5,r6,r7,r8,r9⟩:=ak
 have k1: ∀x,a<=x->x<s-> ∀y,s<=y->y<m->TO lt (f x) (f y):=λx aa ag y ah ab=>ad _ _ aa om ab
 have k2: ∀x,m<=x->x<e-> ∀y,e<=y->y<b->TO lt (f x) (f y):=λx aa ag y ah ab=>ae _ _ aa om ab
 have k3: ∀x,a<=x->x<s-> ∀y,e<=y->y<b->TO lt (f x) (f y):=λx aa ag y ah ab=>by
  have q:lo<=s - 1:=by split at ai<;>omega
  have h:=hl (s - 1) q om
  rw[show dV+m - 1 - (s - 1)=e by omega]at h
  have h3:TO lt (f x) (f e):=by
   by_cases hx:x=s - 1
   .rw[hx];exact h
   .exact(ad x (s - 1) aa om om).trans o h
  by_cases hy:y=e
  .rw[hy];exact h3
  .exact h3.trans o (ae _ _ om om ab)
 have k4: ∀x,m<=x->x<e-> ∀y,s<=y->y<m->TO lt (f x) (f y):=λx aa ag y ah ab=>by
  have q:s<hi:=by split at aj<;>omega
  have h:=hr s (A3 _) q
  have h3:TO lt (f x) (f s):=by
   by_cases hx:x=dV+m - 1 - s
   .rw[hx];exact h
   .exact(ae x (dV+m - 1 - s) aa om om).trans o h
  by_cases hy:y=s
  .rw[hy];exact h3
  .exact h3.trans o (ad _ _ om om ab)
 refine⟨⟨r1,r2,r3,r4,r5,r6,r7⟩,λx y aa ag ah ab=> ?_,λx y hx af hy=> ?_,λx y hx af hy=> ?_,λx y hx af hy=> ?_,λx y hx af hy=> ?_⟩
 .by_cases c1:x<s
  .rw[oV f r4 r3 (k:=x) om]
   by_cases c2:y<e
   .rw[sH f om];exact k1 _ aa c1 _ om om
   .rw[oV f r4 r3 (k:=y) om];exact k3 _ aa c1 _ om ab
  .rw[sG f om]
   by_cases c2:y<e
   .rw[sH f om];exact k4 _ om om _ om om
   .rw[oV f r4 r3 (k:=y) om];exact k2 _ om om _ om ab
 .rw[oV f r4 r3 om,oV f r4 r3 om];exact ad _ _ hx af om
 .rw[sG f om,sG f om];exact ae _ _ om om om
 .rw[sH f om,sH f om];exact ad _ _ om om om
 .rw[oV f r4 r3 om,oV f r4 r3 om];exact ae _ _ om af hy
end
variable {f:Nat->Nat}{lt:Nat->Nat->Bool}{a:Nat}{b:Nat}{w:Nat}{f':Nat->Nat}{n:Nat}{t:Nat}{m:Nat}{dV:Nat}
def sI (f:Nat->Nat) (a m b:Nat):Prop:= ∀x y,a<=x->x<m->m<=y->y<b->f x<f y
theorem sI.Ha {s e:Nat} (h:sI f a m b) (h2:s<=m) (h3:m<=e) (h4:e<=b) (h5:s+(e - m)=dV):sI (cU f s m e) a s dV:=by
 intro x y aa ab ad ae
 rw[oV f h3 h2 om,sG f om]
 exact h _ _ aa om om om
theorem sI.Hb {s e:Nat} (h:sI f a m b) (h1:a<=s) (h2:s<=m) (h3:m<=e) (h5:s+(e - m)=dV):sI (cU f s m e) dV e b:=by
 intro x y aa ab ad ae
 rw[sH f om,oV f h3 h2 (k:=y) om]
 exact h _ _ om om om om
def jO (lt:Nat->Nat->Bool) (f g:Nat->Nat) (a b:Nat):Prop:=Mv f g a b/\iA lt g a b
theorem jO.both {g h1 h2:Nat->Nat} (h0:Mv f g a b) (hp: ∀x y,a<=x->x<dV->dV<=y->y<b->TO lt (g x) (g y)) (hm:a<=dV/\dV<=b) (q1:jO lt g h1 a dV) (q2:jO lt h1 h2 dV b):jO lt f h2 a b:=by
 refine⟨(h0.trans (q1.1.mono om hm.2)).trans (q2.1.mono hm.1 om),λx y hx aa hy=> ?_⟩
 by_cases c1:y<dV
 .rw[q2.1.out om,q2.1.out om]
  exact q1.2 _ _ hx aa c1
 .by_cases c2:dV<=x
  .exact q2.2 _ _ c2 aa hy
  .rw[q2.1.out (k:=x) om]
   obtain⟨i,i1,i2,i3⟩:=q1.1.at hx om
   obtain⟨j,j1,j2,j3⟩:=q2.1.at (k:=y) om hy
   rw[i3,j3,q1.1.out (k:=j) om]
   grind
theorem jO.id (h:iA lt f a b):jO lt f f a b:=⟨.refl f a b,h⟩
def jV (lt:Nat->Nat->Bool) (f:Nat->Nat) (a b:Nat):Prop:=(∀k,a<=k->k<b->a<=f k/\f k<b)/\iA lt f a b
theorem jV.TA (h:jV lt f a m) (g:jV lt f m b):sI f a m b:=λx y aa ab ad ae=>by
 have:=h.1 x aa ab;have:=g.1 y ad ae;omega
theorem jV.merged (h:jV lt f a m) (g:jV lt f m b) (hm:a<=m/\m<=b) (q:jO lt f f' a b):jV lt f' a b:=by
 refine⟨λk h1 h2=> ?_,q.2⟩
 obtain⟨j,j1,j2,j3⟩:=q.1.at h1 h2
 rw[j3]
 by_cases c:j<m
 .have:=h.1 j j1 c;omega
 .have:=g.1 j om j2;omega
theorem jV.sJ {c d:Nat} (h:jV lt f c d) (q:Mv f f' a b) (hd:d<=a\/b<=c):jV lt f' c d:=by
 refine⟨λk h1 h2=> ?_,λx y hx aa hy=> ?_⟩
 .rw[q.out om];exact h.1 k h1 h2
 .rw[q.out om,q.out om];exact h.2 x y hx aa hy
theorem jV.sorted (h: ∀k,a<=k->f k=k) (q:jO lt f f' a b):jV lt f' a b:=by
 refine⟨λk h1 h2=> ?_,q.2⟩
 obtain⟨j,j1,j2,j3⟩:=q.1.at h1 h2
 grind
def lW (lt:Nat->Nat->Bool) (f:Nat->Nat) (w n:Nat):Prop:= ∀q,q*w<n->jV lt f (q*w) (min (q*w+w) n)
def js (lt:Nat->Nat->Bool) (f:Nat->Nat) (w n t:Nat):Prop:=(∀q,q<t->jV lt f (q*(2*w)) (q*(2*w)+2*w))/\ ∀q,2*t<=q->q*w<n->jV lt f (q*w) (min (q*w+w) n)
theorem js.start (h:lW lt f w n):js lt f w n 0:=⟨om,(by simpa)⟩
theorem js.pair (h:js lt f w n t) (hw:0<w) (hm:t*(2*w)+w<n):jV lt f (t*(2*w)) (t*(2*w)+w)/\jV lt f (t*(2*w)+w) (min (t*(2*w)+2*w) n):=by
 have e1:2*t*w=t*(2*w):=by grind
 have e2:(2*t+1)*w=t*(2*w)+w:=by grind
 have h1:=h.2 (2*t) om om
 have h2:=h.2 (2*t+1) om om
 grind
theorem js.next (h:js lt f w n t) (hw:0<w) (hb:t*(2*w)+2*w<=n) (q:jO lt f f' (t*(2*w)) (t*(2*w)+2*w)):js lt f' w n (t+1):=by
 have e1:2*t*w=t*(2*w):=by grind
 have hp:=h.pair hw om
 refine⟨λp aa=> ?_,λp aa h1=> ?_⟩
 .by_cases c:p=t
  .subst c
   rw[show min (p*(2*w)+2*w) n=p*(2*w)+2*w by omega]at hp
   exact hp.1.merged hp.2 om q
  .have:=Af (2*w) (show p+1<=t by omega)
   rw[B0,D0]at this
   exact(h.1 p om).sJ q.1 (.inl this)
 .have:=Af w (show 2*t+2<=p by omega)
  rw[B0,e1]at this
  exact(h.2 p om h1).sJ q.1 (.inr this)
theorem js.last (h:js lt f w n t) (hw:0<w) (hm:t*(2*w)+w<n) (hb:n<t*(2*w)+2*w) (q:jO lt f f' (t*(2*w)) n):lW lt f' (2*w) n:=by
 have hp:=h.pair hw hm
 rw[show min (t*(2*w)+2*w) n=n by omega]at hp
 intro p h1
 rcases Aw p t with c|c|c
 .have:=Af (2*w) (show p+1<=t by omega)
  rw[B0,D0]at this
  rw[show min (p*(2*w)+2*w) n=p*(2*w)+2*w by omega]
  exact(h.1 p c).sJ q.1 (.inl this)
 .subst c
  rw[show min (p*(2*w)+2*w) n=n by omega]
  exact hp.1.merged hp.2 om q
 .have:=Af (2*w) (show t+1<=p by omega)
  grind
theorem js.none (h:js lt f w n t) (h0:t*(2*w)<=n) (hm:n<=t*(2*w)+w):lW lt f (2*w) n:=by
 have e1:2*t*w=t*(2*w):=by grind
 intro p h1
 rcases Aw p t with c|c|c
 .have:=Af (2*w) (show p+1<=t by omega)
  rw[B0,D0]at this
  rw[show min (p*(2*w)+2*w) n=p*(2*w)+2*w by omega]
  exact h.1 p c
 .subst c
  have:=h.2 (2*p) om om
  grind
 .have:=Af (2*w) (show t+1<=p by omega)
  grind
theorem lW.all (h:lW lt f w n) (hw:n<=w):jV lt f 0 n:=by
 by_cases c:n=0
 .subst c;exact⟨om,λx y _ _ h=>om⟩
 .have:=h 0 om
  grind
theorem yQ6 (h1: ∀q,q<t->jV lt f (q*w) (q*w+w)) (h2: ∀k,t*w<=k->f k=k) (ht:t*w<=n) (hn:n<t*w+w) (q:jO lt f f' (t*w) n):lW lt f' w n:=by
 intro p hp
 rcases Aw p t with c|c|c
 .have:=Af w (show p+1<=t by omega)
  rw[B0,D0]at this
  rw[show min (p*w+w) n=p*w+w by omega]
  exact(h1 p c).sJ q.1 (.inl this)
 .grind[jV.sorted]
 .have:=Af w (show t+1<=p by omega)
  grind
theorem xk1 (h1: ∀q,q<t->jV lt f (q*w) (q*w+w)) (h2: ∀k,t*w<=k->f k=k) (q:jO lt f f' (t*w) (t*w+w)):
  (∀q,q<t+1->jV lt f' (q*w) (q*w+w))/\ ∀k,(t+1)*w<=k->f' k=k:=by
 refine⟨λp hp=> ?_,λk hk=> ?_⟩
 .by_cases c:p=t
  .grind[jV.sorted]
  .have:=Af w (show p+1<=t by omega)
   rw[B0,D0]at this
   exact(h1 p om).sJ q.1 (.inl this)
 .rw[B0,D0]at hk
  rw[q.1.out om]
  grind
end Go.Proofs.YtefbicjgbaaieaaGreat
namespace Go.Proofs.YtefbicjgbaaieaaGreat
open Go Go.Vx Go.Proofs.Tryz
set_option maxRecDepth 100000
@[go_sem] theorem Hc:ez prog 215=some 1:=kR
@[go_sem] theorem E7:cL prog 215=some false:=kR
@[go_sem] theorem Hd:ez prog 306=some 1:=kR
@[go_sem] theorem E8:cL prog 306=some false:=kR
def eR (bT:St) (id s n:Nat) (row:Nat->List V) (f:Nat->Nat):St:=bT.set id (.cc ((List.range n).map λk=>row (f k)) s)
theorem y4 (bT:St) (id s n:Nat) (row:Nat->List V) (f:Nat->Nat):(eR bT id s n row f).length=bT.length:=by simp[eR]
structure SC (P:Program) (gl gs:FuncId) (cl cs:List V) (bT:St) (id s n:Nat) (row:Nat->List V) (lt:Nat->Nat->Bool):Prop where
 here:id<bT.length
 nn:n<=1000000
 He:cl.all (cG bT.length)=true
 y5:cs.all (cG bT.length)=true
 Hf:bT.all (bP bT.length)=true
 CH: ∀k,(row k).all (cK bT.length)=true
 less: ∀(c:Ctx) (τ:St) (f:Nat->Nat) (i j:Nat) (K:V->St->Prop),i<n->j<n->i≠j->K (.bool (lt (f i) (f j))) (eR bT id s n row f++τ)->iZ P c (.fn gl cl) [.int .i64 i,.int .i64 j] (eR bT id s n row f++τ) K fx
 swap: ∀(c:Ctx) (τ:St) (f:Nat->Nat) (i j:Nat) (K:V->St->Prop),i<n->j<n->i≠j->K (.cm []) (eR bT id s n row (sw f i j)++τ)->iZ P c (.fn gs cs) [.int .i64 i,.int .i64 j] (eR bT id s n row f++τ) K fx
section
variable {gl gs:FuncId} {cl cs:List V} {bT:St} {id s n:Nat} {row:Nat->List V} {lt:Nat->Nat->Bool}
theorem SC.gP (S:SC prog gl gs cl cs bT id s n row lt) (f:Nat->Nat):(eR bT id s n row f).all (bP bT.length)=true:=by
 unfold eR
 rw[Ad]
 intro o ho
 rcases Dj ho with h|rfl
 .exact Ad.1 S.Hf o h
 .simp only[bP,Ad]
  intro r hr x hx
  obtain⟨k,_,rfl⟩:=Ac.1 hr
  exact Ad.1 (S.CH (f k)) x hx
def fe (gl gs:FuncId) (cl cs:List V):Ob:= .box [.fn gl cl,.fn gs cs]
theorem yN9 (S:SC prog gl gs cl cs bT id s n row lt) (f:Nat->Nat) (a b m:Nat) (h1:a+m<=b) (h2:b+m<=n):
  bK prog 359 [.agg [.fn gl cl,.fn gs cs],.int .i64 a,.int .i64 b,.int .i64 m] (eR bT id s n row f) (λr t=>r= .cm []/\t=eR bT id s n row (mV f a b m)):=by
 have hn:=S.nn
 refine bK.jk (eR bT id s n row f).length func359 ntmps359 results359 rfl rfl (Cb rfl) λc hc hb=> ?_
 have hl: ∀g,(eR bT id s n row g).length=bT.length:=λg=>y4 ..
 refine zA ?_
 simp[go_sem,hl]
 refine zH (S:=Nat) [1,2,3,4,8] (λi=> [.int .i64 a,.int .i64 b,.int .i64 m,.ptr bT.length 0,.int .i64 i]) (λi=>eR bT id s n row (mV f a b i)++ [fe gl gs cl cs]) (λi=>m - i) (λi=>i<=m) (hc.trans (hl f)) hb 0 (A5 _) ?_ ?_
 .rw[wg6]
  exact zW (by simp[hl]) sg
 rintro i hi
 have hd: ∀g,(eR bT id s n row g++ [fe gl gs cl cs])[bT.length]? =some (.box [.fn gl cl,.fn gs cs]):=λg=>by
  rw[Ay (by rw[hl];exact A3 _),hl];simp[fe]
 by_cases q:i<m
 rotate_left
 .have ab:i=m:=om
  subst ab
  refine zA ?_
  simp[go_sem]
  exact xM bT.length (C6 (hl _)) (hl _) (S.gP _) (D3 (hl f)) (zC rfl) ⟨rfl,rfl⟩
 have ea:IntKind.i64.wrap ((a:Int)+i)=((a+i:Nat):Int):=by rw[bR om om];omega
 have eb:IntKind.i64.wrap ((b:Int)+i)=((b+i:Nat):Int):=by rw[bR om om];omega
 have ei:=zR q om
 have aa:=λK=>S.swap c [fe gl gs cl cs] (mV f a b i) (a+i) (b+i) K om om om
 rw[xG4 f om]at aa
 refine zA ?_
 simp[go_sem,q,hd,ea,eb]
 refine aa _ ?_
 simp[go_sem,ei]
 exact zG (i+1) ⟨om,om,zW (by simp[hl]) sg⟩
end
section
variable {gl gs:FuncId} {cl cs:List V} {bT:St} {id s n:Nat} {row:Nat->List V} {lt:Nat->Nat->Bool}
theorem JW (f:Nat->Nat):(eR bT id s n row f++ [fe gl gs cl cs])[bT.length]? =some (.box [.fn gl cl,.fn gs cs]):=by
 rw[Ay (by rw[y4];exact A3 _),y4];simp[fe]
theorem xz5 (o:Ord lt) {f g:Nat->Nat} {a b i j:Nat} (hi:i<b) (aa: ∀x y,a<=x->x<y->y<b->f x<f y) (hm:Mv f g a i) (hs:iA lt g a i) (ab:a<=j) (ad:j<=i)
  (hl: ∀x,j<=x->x<i->lt (g i) (g x)) (he:j=a\/lt (g i) (g (j - 1))=false):Mv f (cU g j i (i+1)) a (i+1)/\iA lt (cU g j i (i+1)) a (i+1):=by
 refine⟨(hm.mono (A3 _) (Du _)).trans ((Mv.JV g ad (Du _)).mono ab (A3 _)), ?_⟩
 refine Tz hs ab ad (λx h1 h2=> ?_) (λx h1 h2=> .inl (hl x h1 h2))
 rcases he with he|he
 .omega
 have ae:g i=f i:=hm.out (.inr (A3 _))
 obtain⟨y,y1,y2,y3⟩:=hm.at (k:=j - 1) om om
 have af:g (j - 1)<g i:=by rw[y3,ae];exact aa y i y1 y2 hi
 have h3:TO lt (g (j - 1)) (g i):=(TO.vq o af).2 he
 by_cases q:x=j - 1
 .rw[q];exact h3
 .exact(hs x (j - 1) h1 om om).trans o h3
theorem TB (S:SC prog gl gs cl cs bT id s n row lt) (o:Ord lt) (f:Nat->Nat) (a b:Nat) (ae:a<=b) (af:b<=n) (aa: ∀x y,a<=x->x<y->y<b->f x<f y):
  bK prog 301 [.agg [.fn gl cl,.fn gs cs],.int .i64 a,.int .i64 b] (eR bT id s n row f) (λr t=>r= .cm []/\ ∃g,t=eR bT id s n row g/\jO lt f g a b):=by
 have hn:=S.nn
 refine bK.jk (eR bT id s n row f).length func301 ntmps301 results301 rfl rfl (Cb rfl) λc hc hb=> ?_
 have hl: ∀g,(eR bT id s n row g).length=bT.length:=λg=>y4 ..
 have ad:IntKind.i64.wrap ((a:Int)+1)=((a+1:Nat):Int):=by rw[bR om om];omega
 refine zA ?_
 simp[go_sem,hl,ad]
 refine zH (S:=Nat×(Nat->Nat)) [1,2,3,6] (λu=> [.int .i64 a,.int .i64 b,.ptr bT.length 0,.int .i64 u.1]) (λu=>eR bT id s n row u.2++ [fe gl gs cl cs]) (λu=>b - u.1)
  (λu=>a+1<=u.1/\Mv f u.2 a (min u.1 b)/\iA lt u.2 a (min u.1 b)) (hc.trans (hl f)) hb (a+1,f) ⟨A3 _,Mv.refl _ _ _,λx y h1 h2 h3=>om⟩ ?_ ?_
 .exact zW (by simp[hl]) sg
 rintro⟨i,g⟩ ⟨hi,hm,hs⟩
 simp only at hi hm hs
 by_cases q:i<b
 rotate_left
 .rw[Nat.min_eq_right om]at hm hs
  refine zA ?_
  simp[go_sem,q]
  exact xM bT.length (C6 (hl _)) (hl _) (S.gP _) (D3 (hl f)) (zC rfl) ⟨rfl,g,rfl,hm,hs⟩
 rw[Dd om]at hm hs
 have ei:=zR q om
 have hd:=JW (bT:=bT) (id:=id) (s:=s) (n:=n) (row:=row) (gl:=gl) (gs:=gs) (cl:=cl) (cs:=cs)
 refine zA ?_
 simp[go_sem,q]
 refine zH (S:=Nat) [1,2,3,6,7] (λj=> [.int .i64 a,.int .i64 b,.ptr bT.length 0,.int .i64 i,.int .i64 j]) (λj=>eR bT id s n row (cU g j i (i+1))++ [fe gl gs cl cs]) (λj=>j)
  (λj=>a<=j/\j<=i/\ ∀x,j<=x->x<i->lt (g i) (g x)=true) (hc.trans (hl f)) hb i ⟨om,A3 _,λx h1 h2=>om⟩ ?_ ?_
 .rw[Nv]
  exact zW (by simp[hl]) sg
 rintro j ⟨h1,h2,h3⟩
 have fin: ∀(he:j=a\/lt (g i) (g (j - 1))=false),Mv f (cU g j i (i+1)) a (min (i+1) b)/\iA lt (cU g j i (i+1)) a (min (i+1) b):=λhe=>by
  rw[Dd om]
  exact xz5 o q aa hm hs h1 h2 h3 he
 by_cases p:a<j
 rotate_left
 .have p': ¬((a:Int)<j):=om
  obtain⟨f1,f2⟩:=fin (.inl om)
  refine zA ?_
  simp[go_sem,p,ei]
  exact zG (i+1,cU g j i (i+1)) ⟨by show b - (i+1)<b - i;omega,⟨by show a+1<=i+1;omega,f1,f2⟩,zW (by simp[hl]) sg⟩
 have ej:IntKind.i64.wrap ((j:Int) - 1)=((j - 1:Nat):Int):=by rw[bR om om];omega
 have hle:=λK=>S.less c [fe gl gs cl cs] (cU g j i (i+1)) j (j - 1) K om om om
 have ab:=λK=>S.swap c [fe gl gs cl cs] (cU g j i (i+1)) j (j - 1) K om om om
 rw[Ty g h2 om]at ab
 have e1:cU g j i (i+1) j=g i:=by rw[sG g om];congr 1;omega
 have e2:cU g j i (i+1) (j - 1)=g (j - 1):=oV g om h2 om
 rw[e1,e2]at hle
 refine zA ?_
 simp[go_sem,p,hd,ej]
 refine hle _ ?_
 cases hL:lt (g i) (g (j - 1))with
 |false=>
  obtain⟨f1,f2⟩:=fin (.inr hL)
  simp[go_sem,ei]
  exact zG (i+1,cU g j i (i+1)) ⟨by show b - (i+1)<b - i;omega,⟨by show a+1<=i+1;omega,f1,f2⟩,zW (by simp[hl]) sg⟩
 |true=>
  simp[go_sem,hd,ej]
  refine ab _ ?_
  simp[go_sem,ej]
  exact zG (j - 1) ⟨om,⟨om,om,λx x1 x2=>by
   by_cases c1:x=j - 1
   .rw[c1];exact hL
   .exact h3 x om x2⟩,zW (by simp[hl]) sg⟩
end
section
variable {gl gs:FuncId} {cl cs:List V} {bT:St} {id s n:Nat} {row:Nat->List V} {lt:Nat->Nat->Bool}
theorem SC.call (S:SC prog gl gs cl cs bT id s n row lt) {F:FuncId} {ints:List V} {g:Nat->Nat} {Q:(Nat->Nat)->Prop} {c:Ctx} {τ:St} {K:V->St->Prop}
  (hc:bK prog F (.agg [.fn gl cl,.fn gs cs]::ints) (eR bT id s n row g) (λr t=>r= .cm []/\ ∃g',t=eR bT id s n row g'/\Q g')) (hb:wE prog F) (hi:ints.all gR)
  (hK: ∀g',Q g'->K (.cm []) (eR bT id s n row g'++τ)):iZ prog c (.fn F []) (.agg [.fn gl cl,.fn gs cs]::ints) (eR bT id s n row g++τ) K fx:=by
 have hl: ∀g,(eR bT id s n row g).length=bT.length:=λg=>y4 ..
 refine rK bT.length hc hb (C6 (hl _)) (hl _) (S.gP _) ?_ ?_ ?_
 .rw[B6]
  exact⟨s8 (by simp[fW,j6,cK,S.He,S.y5]),zZ hi⟩
 .rintro r t ⟨rfl,g',rfl,_⟩
  exact⟨hl _,S.gP _,rfl⟩
 .rintro r t ⟨rfl,g',rfl,hq⟩
  rw[List.drop_left' (hl _)]
  exact hK g' hq
theorem xE7 (S:SC prog gl gs cl cs bT id s n row lt) (f:Nat->Nat) (a m b:Nat) (h1:a<m) (h2:m<b) (h3:b<=n):
  bK prog 345 [.agg [.fn gl cl,.fn gs cs],.int .i64 a,.int .i64 m,.int .i64 b] (eR bT id s n row f) (λr t=>r= .cm []/\ ∃g,t=eR bT id s n row g/\g=cU f a m b):=by
 have hn:=S.nn
 have ab: ∀g x y k,x+k<=y->y+k<=n->bK prog 359 [.agg [.fn gl cl,.fn gs cs],.int .i64 (x:Nat),.int .i64 (y:Nat),.int .i64 (k:Nat)] (eR bT id s n row g) (λr t=>r= .cm []/\ ∃g',t=eR bT id s n row g'/\g'=mV g x y k):=λg x y k q1 q2=>
  (yN9 S g x y k q1 q2).mono λr t h=>⟨h.1,_,h.2,rfl⟩
 refine bK.jk (eR bT id s n row f).length func345 ntmps345 results345 rfl rfl (Cb rfl) λc hc hb=> ?_
 have hl: ∀g,(eR bT id s n row g).length=bT.length:=λg=>y4 ..
 have hd:=JW (bT:=bT) (id:=id) (s:=s) (n:=n) (row:=row) (gl:=gl) (gs:=gs) (cl:=cl) (cs:=cs)
 have e1:IntKind.i64.wrap ((m:Int) - a)=((m - a:Nat):Int):=by rw[bR om om];omega
 have e2:IntKind.i64.wrap ((b:Int) - m)=((b - m:Nat):Int):=by rw[bR om om];omega
 refine zA ?_
 simp[go_sem,hl,e1,e2]
 refine zH (S:=Nat×Nat×(Nat->Nat)) [1,2,3,4,8,9] (λu=> [.int .i64 a,.int .i64 m,.int .i64 b,.ptr bT.length 0,.int .i64 u.1,.int .i64 u.2.1]) (λu=>eR bT id s n row u.2.2++ [fe gl gs cl cs]) (λu=>u.1+u.2.1)
  (λu=>0<u.1/\0<u.2.1/\u.1<=m/\m+u.2.1<=n/\cU u.2.2 (m - u.1) m (m+u.2.1)=cU f a m b) (hc.trans (hl f)) hb (m - a,b - m,f) ⟨by show 0<m - a;omega,by show 0<b - m;omega,by show m - a<=m;omega,by show m+(b - m)<=n;omega,by show cU f (m - (m - a)) m (m+(b - m))=_;rw[show m - (m - a)=a by omega,show m+(b - m)=b by omega]⟩ ?_ ?_
 .exact zW (by simp[hl]) sg
 rintro⟨i,j,g⟩ ⟨hi,hj,aa,ae,hg⟩
 simp only at hi hj aa ae hg
 have ad:IntKind.i64.wrap ((m:Int) - i)=((m - i:Nat):Int):=by rw[bR om om];omega
 rcases Aw i j with q|q|q
 .have p1:((i:Int) !=j)=true:=by simp;omega
  have p2: ¬((j:Int)<i):=om
  have p3: ¬(j<i):=om
  have p4: ¬i=j:=om
  have ea:IntKind.i64.wrap ((m:Int)+j)=(m:Int)+j:=bR om om
  have eb:IntKind.i64.wrap ((m:Int)+j - i)=((m+j - i:Nat):Int):=by rw[bR om om];omega
  have ej:IntKind.i64.wrap ((j:Int) - i)=((j - i:Nat):Int):=by rw[bR om om];omega
  refine zA ?_
  simp[go_sem,p1,p2,hd,ad,ea,eb]
  refine S.call (ab g (m - i) (m+j - i) i om om) cB rfl ?_
  rintro g' rfl
  simp[go_sem,ej]
  exact zG (i,j - i,mV g (m - i) (m+j - i) i) ⟨by show i+(j - i)<i+j;omega,⟨hi,by show 0<j - i;omega,aa,by show m+(j - i)<=n;omega,by show cU _ (m - i) m (m+(j - i))=_;rw[wb8 g q aa];exact hg⟩,zW (by simp[hl]) sg⟩
 .subst q
  refine zA ?_
  simp[go_sem,hd,ad]
  refine S.call (ab g (m - i) m i om om) cB rfl ?_
  rintro g' rfl
  rw[wb6 g aa,hg]
  simp[go_sem]
  exact xM bT.length (C6 (hl _)) (hl _) (S.gP _) (D3 (hl f)) (zC rfl) ⟨rfl,rfl⟩
 .have p1:((i:Int) !=j)=true:=by simp;omega
  have p2:(j:Int)<i:=om
  have p4: ¬i=j:=om
  have ei:IntKind.i64.wrap ((i:Int) - j)=((i - j:Nat):Int):=by rw[bR om om];omega
  refine zA ?_
  simp[go_sem,p1,p2,hd,ad]
  refine S.call (ab g (m - i) m j om om) cB rfl ?_
  rintro g' rfl
  simp[go_sem,ei]
  exact zG (i - j,j,mV g (m - i) m j) ⟨by show i - j+j<i+j;omega,⟨by show 0<i - j;omega,hj,by show i - j<=m;omega,ae,by show cU _ (m - (i - j)) m (m+j)=_;rw[wb7 g q aa];exact hg⟩,zW (by simp[hl]) sg⟩
end
section
variable {lt:Nat->Nat->Bool}
variable {x:Nat}{h:Nat}{a:Nat}
theorem we9 (o:Ord lt) (t:TO lt x h) (g:lt h a):lt x a=true:=by
 rcases t with t|⟨t,_⟩
 .exact o.tr _ _ _ t g
 .cases q:lt x a with
  |true=>rfl
  |false=>have:=o.nt _ _ _ t q;grind
theorem xZ9 (o:Ord lt) (t:TO lt h x) (g:lt h a=false):lt x a=false:=by
 cases q:lt x a with
 |false=>rfl
 |true=>
  rcases t with t|⟨t,_⟩
  .have:=o.tr _ _ _ t q;grind
  .have:=o.nt _ _ _ t g;grind
theorem wh0 (o:Ord lt) (t:TO lt h x) (g:lt a h):lt a x=true:=by
 rcases t with t|⟨t,_⟩
 .exact o.tr _ _ _ g t
 .cases q:lt a x with
  |true=>rfl
  |false=>have:=o.nt _ _ _ q t;grind
theorem wc3 (o:Ord lt) (t:TO lt x h) (g:lt a h=false):lt a x=false:=by
 cases q:lt a x with
 |false=>rfl
 |true=>
  rcases t with t|⟨t,_⟩
  .have:=o.tr _ _ _ q t;grind
  .have:=o.nt _ _ _ g t;grind
end
theorem JX {i j:Nat} (h:i+j<4000000000):IntKind.i64.wrap ((IntKind.u64.wrap (IntKind.i64.wrap ((i:Int)+j))).fdiv 2)=(((i+j)/2:Nat):Int):=by
 grind[bR,dt]
section
variable {gl gs:FuncId} {cl cs:List V} {bT:St} {id s n:Nat} {row:Nat->List V} {lt:Nat->Nat->Bool}
theorem ym5 (S:SC prog gl gs cl cs bT id s n row lt) (o:Ord lt) (f:Nat->Nat) (a m b:Nat) (h1:a<m) (h2:m<b) (h3:b<=n) (ag:iA lt f a m) (af:iA lt f m b) (ae:sI f a m b)
  (ih: ∀f a' m b',b' - a'<b - a->a'<m->m<b'->b'<=n->iA lt f a' m->iA lt f m b'->sI f a' m b'->bK prog 302 [.agg [.fn gl cl,.fn gs cs],.int .i64 (a':Nat),.int .i64 (m:Nat),.int .i64 (b':Nat)] (eR bT id s n row f) (λr t=>r= .cm []/\ ∃g,t=eR bT id s n row g/\jO lt f g a' b')):
  bK prog 302 [.agg [.fn gl cl,.fn gs cs],.int .i64 a,.int .i64 m,.int .i64 b] (eR bT id s n row f) (λr t=>r= .cm []/\ ∃g,t=eR bT id s n row g/\jO lt f g a b):=by
 have hn:=S.nn
 refine bK.jk (eR bT id s n row f).length func302 ntmps302 results302 rfl rfl (Cb rfl) λc hc hb=> ?_
 have hl: ∀g,(eR bT id s n row g).length=bT.length:=λg=>y4 ..
 have hd:=JW (bT:=bT) (id:=id) (s:=s) (n:=n) (row:=row) (gl:=gl) (gs:=gs) (cl:=cl) (cs:=cs)
 have e1:IntKind.i64.wrap ((m:Int) - a)=((m - a:Nat):Int):=by rw[bR om om];omega
 have e2:IntKind.i64.wrap ((b:Int) - m)=((b - m:Nat):Int):=by rw[bR om om];omega
 by_cases c1:m - a=1
 .have ar:(((m - a:Nat):Int)==1)=true:=by simp;omega
  refine zA ?_
  simp[go_sem,hl,e1,ar]
  refine zH (S:=Nat×Nat) [1,2,3,4,8,9] (λu=> [.int .i64 a,.int .i64 m,.int .i64 b,.ptr bT.length 0,.int .i64 u.1,.int .i64 u.2]) (λ_=>eR bT id s n row f++ [fe gl gs cl cs]) (λu=>u.2 - u.1)
   (λu=>m<=u.1/\u.1<=u.2/\u.2<=b/\(∀x,m<=x->x<u.1->lt (f x) (f a)=true)/\ ∀x,u.2<=x->x<b->lt (f x) (f a)=false) (hc.trans (hl f)) hb (m,b) ⟨A3 _,by show m<=b;omega,A3 _,λx q1 q2=>om,λx q1 q2=>om⟩ ?_ ?_
  .exact zW (by simp[hl]) sg
  rintro⟨i,j⟩ ⟨hi,ai,hj,hL,hR⟩
  simp only at hi ai hj hL hR
  by_cases q:i<j
  .obtain⟨h,hh⟩:=eX ((i+j)/2)
   have eh:=JX (i:=i) (j:=j) om
   rw[hh]at eh
   have ei:=zR (show h<j by omega) om
   have hle:=λK=>S.less c [fe gl gs cl cs] f h a K om om om
   refine zA ?_
   simp[go_sem,q,hd,eh]
   refine hle _ ?_
   cases aa:lt (f h) (f a)with
   |true=>
    simp[go_sem,ei]
    exact zG (h+1,j) ⟨by show j - (h+1)<j - i;omega,⟨by show m<=h+1;omega,by show h+1<=j;omega,hj,λx q1 q2=>by
     by_cases c2:x=h
     .rw[c2];exact aa
     .exact we9 o (af x h q1 (by have:x<h+1:=q2;omega) om) aa,hR⟩,zW (by simp[hl]) sg⟩
   |false=>
    simp[go_sem]
    exact zG (i,h) ⟨by show h - i<j - i;omega,⟨hi,by show i<=h;omega,by show h<=b;omega,hL,λx q1 q2=>by
     by_cases c2:x=h
     .rw[c2];exact aa
     .exact xZ9 o (af h x om (by have:h<=x:=q1;omega) q2) aa⟩,zW (by simp[hl]) sg⟩
  .have e3:IntKind.i64.wrap ((i:Int) - 1)=((i - 1:Nat):Int):=by rw[bR om om];omega
   have aj:i=j:=om
   have a6:m=a+1:=om
   refine zA ?_
   simp[go_sem,q]
   refine zH (S:=Nat) [1,2,3,4,8,11] (λk=> [.int .i64 a,.int .i64 m,.int .i64 b,.ptr bT.length 0,.int .i64 i,.int .i64 k]) (λk=>eR bT id s n row (cU f a (a+1) (k+1))++ [fe gl gs cl cs]) (λk=>i - k)
    (λk=>a<=k/\k+1<=i) (hc.trans (hl f)) hb a ⟨A3 _,om⟩ ?_ ?_
   .rw[Tx]
    exact zW (by simp[hl]) sg
   rintro k ⟨k1,k2⟩
   by_cases q2:k<i - 1
   .have a7:(k:Int)<((i - 1:Nat):Int):=om
    have ek:IntKind.i64.wrap ((k:Int)+1)=((k+1:Nat):Int):=by rw[bR om om];omega
    have ak:=λK=>S.swap c [fe gl gs cl cs] (cU f a (a+1) (k+1)) k (k+1) K om om om
    rw[wg7 f k1]at ak
    refine zA ?_
    simp[go_sem,e3,q2,hd,ek]
    refine ak _ ?_
    simp[go_sem,ek]
    exact zG (k+1) ⟨om,⟨om,om⟩,zW (by simp[hl]) sg⟩
   .have a7: ¬(k:Int)<((i - 1:Nat):Int):=om
    have hk:k+1=i:=om
    refine zA ?_
    simp[go_sem,e3,q2]
    refine xM bT.length (C6 (hl _)) (hl _) (S.gP _) (D3 (hl f)) (zC rfl) ⟨rfl,_,rfl, ?_, ?_⟩
    .rw[hk]
     exact(Mv.JV f om om).mono (A3 _) om
    .rw[hk]
     rw[a6]at af hL
     refine xO5 af om om (λx x1 x2=> .inl (hL x x1 x2)) (λx x1 x2=> ?_)
     exact(TO.vq o (ae a x (A3 _) h1 om x2)).2 (hR x om x2)
 .have ar:(((m - a:Nat):Int)==1)=false:=by simp;omega
  refine zO (zA ?_)
  simp[go_sem,hl]
  refine zO (zA ?_)
  simp[go_sem,e1,ar]
  by_cases c2:b - m=1
  .have au:(((b - m:Nat):Int)==1)=true:=by simp;omega
   have a8:b=m+1:=om
   refine zA ?_
   simp[go_sem,e2,au]
   refine zH (S:=Nat×Nat) [1,2,3,4,12,13] (λu=> [.int .i64 a,.int .i64 m,.int .i64 b,.ptr bT.length 0,.int .i64 u.1,.int .i64 u.2]) (λ_=>eR bT id s n row f++ [fe gl gs cl cs]) (λu=>u.2 - u.1)
    (λu=>a<=u.1/\u.1<=u.2/\u.2<=m/\(∀x,a<=x->x<u.1->lt (f m) (f x)=false)/\ ∀x,u.2<=x->x<m->lt (f m) (f x)=true) (hc.trans (hl f)) hb (a,m) ⟨A3 _,by show a<=m;omega,A3 _,λx q1 q2=>om,λx q1 q2=>om⟩ ?_ ?_
   .exact zW (by simp[hl]) sg
   rintro⟨i,j⟩ ⟨hi,ai,hj,hL,hR⟩
   simp only at hi ai hj hL hR
   by_cases q:i<j
   .obtain⟨h,hh⟩:=eX ((i+j)/2)
    have eh:=JX (i:=i) (j:=j) om
    rw[hh]at eh
    have ei:=zR (show h<j by omega) om
    have hle:=λK=>S.less c [fe gl gs cl cs] f m h K om om om
    refine zA ?_
    simp[go_sem,q,hd,eh]
    refine hle _ ?_
    cases aa:lt (f m) (f h)with
    |false=>
     simp[go_sem,ei]
     exact zG (h+1,j) ⟨by show j - (h+1)<j - i;omega,⟨by show a<=h+1;omega,by show h+1<=j;omega,hj,λx q1 q2=>by
      by_cases c2:x=h
      .rw[c2];exact aa
      .exact wc3 o (ag x h q1 (by have:x<h+1:=q2;omega) om) aa,hR⟩,zW (by simp[hl]) sg⟩
    |true=>
     simp[go_sem]
     exact zG (i,h) ⟨by show h - i<j - i;omega,⟨hi,by show i<=h;omega,by show h<=m;omega,hL,λx q1 q2=>by
      by_cases c2:x=h
      .rw[c2];exact aa
      .exact wh0 o (ag h x om (by have:h<=x:=q1;omega) q2) aa⟩,zW (by simp[hl]) sg⟩
   .have aj:i=j:=om
    refine zA ?_
    simp[go_sem,q]
    refine zH (S:=Nat) [1,2,3,4,12,15] (λk=> [.int .i64 a,.int .i64 m,.int .i64 b,.ptr bT.length 0,.int .i64 i,.int .i64 k]) (λk=>eR bT id s n row (cU f k m (m+1))++ [fe gl gs cl cs]) (λk=>k)
     (λk=>i<=k/\k<=m) (hc.trans (hl f)) hb m ⟨om,A3 _⟩ ?_ ?_
    .rw[Nv]
     exact zW (by simp[hl]) sg
    rintro k ⟨k1,k2⟩
    by_cases q2:i<k
    .have ek:IntKind.i64.wrap ((k:Int) - 1)=((k - 1:Nat):Int):=by rw[bR om om];omega
     have ak:=λK=>S.swap c [fe gl gs cl cs] (cU f k m (m+1)) k (k - 1) K om om om
     rw[Ty f k2 om]at ak
     refine zA ?_
     simp[go_sem,q2,hd,ek]
     refine ak _ ?_
     simp[go_sem,ek]
     exact zG (k - 1) ⟨om,⟨om,om⟩,zW (by simp[hl]) sg⟩
    .have hk:k=i:=om
     refine zA ?_
     simp[go_sem,q2]
     refine xM bT.length (C6 (hl _)) (hl _) (S.gP _) (D3 (hl f)) (zC rfl) ⟨rfl,_,rfl, ?_, ?_⟩
     .rw[hk]
      exact(Mv.JV f om om).mono hi om
     .rw[hk,a8]
      refine Tz ag hi om (λx x1 x2=> ?_) (λx x1 x2=> .inl (hR x om x2))
      exact(TO.vq o (ae x m x1 om (A3 _) h2)).2 (hL x x1 x2)
  .have au:(((b - m:Nat):Int)==1)=false:=by simp;omega
   refine zO (zA ?_)
   simp[go_sem,e2,au]
   obtain⟨dV,aq⟩:=eX ((a+b)/2)
   have eh:=JX (i:=a) (j:=b) om
   rw[aq]at eh
   have en:IntKind.i64.wrap ((dV:Int)+m)=(dV:Int)+m:=bR om om
   refine zO (zA ?_)
   simp[go_sem,eh]
   refine zO (zA ?_)
   simp[go_sem,en]
   refine zO (zA ?_)
   simp[go_sem]
   obtain⟨lo,al⟩:=eX ((if dV<m then dV+m - b else a))
   obtain⟨hi,ah⟩:=eX ((if dV<m then dV else m))
   have aE:dV*2<=a+b/\a+b<=dV*2+1:=om
   have aA:a<=lo/\lo<=hi/\hi<=m/\hi<=dV/\dV+m<=lo+b:=by
    split at al<;>split at ah<;>omega
   obtain⟨l1,l2,l3,l4,l5⟩:=aA
   refine nM (S:=Unit) [1,2,3,4,16,17,18,19] (λ_=> [.int .i64 a,.int .i64 m,.int .i64 b,.ptr bT.length 0,.int .i64 dV,.int .i64 ((dV:Int)+m),.int .i64 lo,.int .i64 hi]) (λ_=>eR bT id s n row f++ [fe gl gs cl cs]) (λ_=>True) (hc.trans (hl f)) hb ?_ ?_
   .by_cases c3:dV<m
    .rw[afb c3]at al ah
     have e4:IntKind.i64.wrap ((dV:Int)+m - b)=(lo:Int):=by rw[bR om om];omega
     refine zA ?_
     simp[go_sem,c3,e4]
     exact zG () ⟨tV,zW (by simp[hl]) (by simp[go_sem,ah])⟩
    .rw[afa c3]at al ah
     refine zA ?_
     simp[go_sem,c3]
     exact zG () ⟨tV,zW (by simp[hl]) (by simp[go_sem,al,ah])⟩
   rintro _ _
   obtain⟨p,hp⟩:=eX (dV+m - 1)
   have e5:IntKind.i64.wrap ((dV:Int)+m - 1)=(p:Int):=by rw[bR om om];omega
   refine zO (zA ?_)
   simp[go_sem,e5]
   refine zO (zA ?_)
   simp[go_sem]
   refine zH (S:=Nat×Nat) [1,2,3,4,16,17,18,19,20] (λu=> [.int .i64 a,.int .i64 m,.int .i64 b,.ptr bT.length 0,.int .i64 dV,.int .i64 ((dV:Int)+m),.int .i64 u.1,.int .i64 u.2,.int .i64 p]) (λ_=>eR bT id s n row f++ [fe gl gs cl cs]) (λu=>u.2 - u.1)
    (λu=>lo<=u.1/\u.1<=u.2/\u.2<=hi/\(∀x,lo<=x->x<u.1->TO lt (f x) (f (p - x)))/\ ∀x,u.2<=x->x<hi->TO lt (f (p - x)) (f x)) (hc.trans (hl f)) hb (lo,hi) ⟨A3 _,l2,A3 _,λx q1 q2=>om,λx q1 q2=>om⟩ ?_ ?_
   .exact zW (by simp[hl]) sg
   rintro⟨i,j⟩ ⟨av,ai,hj,hL,hR⟩
   simp only at av ai hj hL hR
   by_cases q:i<j
   .obtain⟨h,hh⟩:=eX ((i+j)/2)
    have eh:=JX (i:=i) (j:=j) om
    rw[hh]at eh
    have ei:=zR (show h<j by omega) om
    have e6:IntKind.i64.wrap ((p:Int) - h)=((p - h:Nat):Int):=by rw[bR om om];omega
    have hle:=λK=>S.less c [fe gl gs cl cs] f (p - h) h K om om om
    refine zA ?_
    simp[go_sem,q,hd,eh,e6]
    refine hle _ ?_
    cases aa:lt (f (p - h)) (f h)with
    |false=>
     simp[go_sem,ei]
     exact zG (h+1,j) ⟨by show j - (h+1)<j - i;omega,⟨by show lo<=h+1;omega,by show h+1<=j;omega,hj,λx q1 q2=>by
      have q2:x<h+1:=q2
      have t1:TO lt (f h) (f (p - h)):=(TO.vq o (ae h (p - h) om om om om)).2 aa
      by_cases c2:x=h
      .rw[c2];exact t1
      .exact((ag x h om om om).trans o t1).trans o (af (p - h) (p - x) om om om),hR⟩,zW (by simp[hl]) sg⟩
    |true=>
     simp[go_sem]
     exact zG (i,h) ⟨by show h - i<j - i;omega,⟨av,by show i<=h;omega,by show h<=hi;omega,hL,λx q1 q2=>by
      have q1:h<=x:=q1
      by_cases c2:x=h
      .rw[c2];exact .inl aa
      .exact((af (p - x) (p - h) om om om).trans o (.inl aa)).trans o (ag h x om om om)⟩,zW (by simp[hl]) sg⟩
   .have aj:i=j:=om
    subst aj
    obtain⟨e,he⟩:=eX (dV+m - i)
    have e7:IntKind.i64.wrap ((dV:Int)+m - i)=(e:Int):=by rw[bR om om];omega
    obtain⟨⟨r1,r2,r3,r4,r5,r6,r7⟩,ao,t1,t2,t3,t4⟩:=xn9 o (f:=f) (lo:=lo) (hi:=hi) (s:=i) (e:=e) h1 h2 aq.symm ag af al.symm ah.symm av hj he.symm (λx q1 q2=>by rw[hp];exact hL x q1 q2) (λx q1 q2=>by rw[hp];exact hR x q1 q2)
    have aB:=ae.Ha r3 r4 r6 r7
    have aC:=ae.Hb r1 r3 r4 r7
    have aD:Mv f (cU f i m e) a b:=(Mv.JV f r3 r4).mono r1 r6
    have an: ¬(i<m/\m<e)->cU f i m e=f:=λhn=>by
     rcases Bo i m with c|c
     .have:e=m:=om
      rw[this];exact Tx f i m
     .have:i=m:=om
      rw[this];exact Nv f m e
    have ax:=λc1 c2=>xE7 S f i m e c1 c2 om
    generalize cU f i m e=g0 at*
    refine zA ?_
    simp[go_sem]
    refine zO (zA ?_)
    simp[go_sem,e7]
    refine nM (S:=Unit) [1,2,3,4,16,18,22] (λ_=> [.int .i64 a,.int .i64 m,.int .i64 b,.ptr bT.length 0,.int .i64 dV,.int .i64 i,.int .i64 e]) (λ_=>eR bT id s n row g0++ [fe gl gs cl cs]) (λ_=>True) (hc.trans (hl f)) hb ?_ ?_
    .by_cases k1:i<m
     .by_cases k2:m<e
      .have ab:=ax k1 k2
       refine zA ?_
       simp[go_sem,k1,k2,hd]
       refine S.call ab cB rfl ?_
       rintro g' rfl
       simp[go_sem]
       exact zG () ⟨tV,zW (by simp[hl]) sg⟩
      .rw[an λh=>k2 h.2]
       refine zA ?_
       simp[go_sem,k1,k2]
       exact zG () ⟨tV,zW (by simp[hl]) sg⟩
     .rw[an λh=>k1 h.1]
      refine zA ?_
      simp[go_sem,k1]
      exact zG () ⟨tV,zW (by simp[hl]) sg⟩
    rintro _ _
    clear ax an hL hR
    refine nM (S:=Nat->Nat) [1,2,3,4,16,22] (λ_=> [.int .i64 a,.int .i64 m,.int .i64 b,.ptr bT.length 0,.int .i64 dV,.int .i64 e]) (λg=>eR bT id s n row g++ [fe gl gs cl cs]) (λg=>jO lt g0 g a dV) (hc.trans (hl f)) hb ?_ ?_
    .by_cases k1:a<i
     .by_cases k2:i<dV
      .have ab:=ih g0 a i dV om k1 k2 om t1 t2 aB
       refine zA ?_
       simp[go_sem,k1,k2,hd]
       refine S.call ab cB rfl ?_
       rintro g' aw
       simp[go_sem]
       exact zG g' ⟨aw,zW (by simp[hl]) sg⟩
      .have hq:iA lt g0 a dV:=by rw[show dV=i by omega];exact t1
       refine zA ?_
       simp[go_sem,k1,k2]
       exact zG g0 ⟨jO.id hq,zW (by simp[hl]) sg⟩
     .have hq:iA lt g0 a dV:=by rw[show a=i by omega];exact t2
      refine zA ?_
      simp[go_sem,k1]
      exact zG g0 ⟨jO.id hq,zW (by simp[hl]) sg⟩
    rintro ad q1
    have same: ∀k,dV<=k->ad k=g0 k:=λk hk=>q1.1.out (.inr hk)
    have ay:iA lt ad dV e:=λx y x1 x2 x3=>by rw[same x x1,same y om];exact t3 x y x1 x2 x3
    have az:iA lt ad e b:=λx y x1 x2 x3=>by rw[same x om,same y om];exact t4 x y x1 x2 x3
    have a1:sI ad dV e b:=λx y x1 x2 x3 x4=>by rw[same x x1,same y om];exact aC x y x1 x2 x3 x4
    have fin: ∀g2,jO lt ad g2 dV b->jO lt f g2 a b:=λg2 q2=>jO.both aD ao ⟨om,om⟩ q1 q2
    by_cases k1:dV<e
    .by_cases k2:e<b
     .have ab:=ih ad dV e b om k1 k2 om ay az a1
      refine zA ?_
      simp[go_sem,k1,k2,hd]
      refine S.call ab cB rfl ?_
      rintro g' aw
      simp[go_sem]
      exact xM bT.length (C6 (hl _)) (hl _) (S.gP _) (D3 (hl f)) (zC rfl) ⟨rfl,_,rfl,fin g' aw⟩
     .have hq:iA lt ad dV b:=by rw[show b=e by omega];exact ay
      refine zA ?_
      simp[go_sem,k1,k2]
      exact xM bT.length (C6 (hl _)) (hl _) (S.gP _) (D3 (hl f)) (zC rfl) ⟨rfl,_,rfl,fin ad (jO.id hq)⟩
    .have hq:iA lt ad dV b:=by rw[show dV=e by omega];exact az
     refine zA ?_
     simp[go_sem,k1]
     exact xM bT.length (C6 (hl _)) (hl _) (S.gP _) (D3 (hl f)) (zC rfl) ⟨rfl,_,rfl,fin ad (jO.id hq)⟩
theorem Nw (S:SC prog gl gs cl cs bT id s n row lt) (o:Ord lt): ∀(d:Nat) (f:Nat->Nat) (a m b:Nat),b - a<d->a<m->m<b->b<=n->iA lt f a m->iA lt f m b->sI f a m b->
  bK prog 302 [.agg [.fn gl cl,.fn gs cs],.int .i64 a,.int .i64 m,.int .i64 b] (eR bT id s n row f) (λr t=>r= .cm []/\ ∃g,t=eR bT id s n row g/\jO lt f g a b)
 |0,_,_,_,_,h,_,_,_,_,_,_=>absurd h om
 |d+1,f,a,m,b,h,h1,h2,h3,aa,ab,hg=>ym5 S o f a m b h1 h2 h3 aa ab hg λf' a' m' b' h' q1 q2 q3 q4 q5 q6=>Nw S o d f' a' m' b' om q1 q2 q3 q4 q5 q6
end
section
variable {gl gs:FuncId} {cl cs:List V} {bT:St} {id s n:Nat} {row:Nat->List V} {lt:Nat->Nat->Bool}
theorem xG0 (S:SC prog gl gs cl cs bT id s n row lt) (o:Ord lt):
  bK prog 234 [.agg [.fn gl cl,.fn gs cs],.int .i64 n] (eR bT id s n row λk=>k) (λr t=>r= .cm []/\ ∃g,t=eR bT id s n row g/\jO lt (λk=>k) g 0 n):=by
 have hn:=S.nn
 refine bK.jk (eR bT id s n row λk=>k).length func234 ntmps234 results234 rfl rfl (Cb rfl) λc hc hb=> ?_
 have hl: ∀g,(eR bT id s n row g).length=bT.length:=λg=>y4 ..
 have hd:=JW (bT:=bT) (id:=id) (s:=s) (n:=n) (row:=row) (gl:=gl) (gs:=gs) (cl:=cl) (cs:=cs)
 refine zO (zA ?_)
 simp[go_sem,hl]
 refine zO (zA ?_)
 simp[go_sem]
 refine zO (zA ?_)
 simp[go_sem]
 refine zO (zA ?_)
 simp[go_sem]
 refine zH (S:=Nat×Nat×(Nat->Nat)) [1,2,4,5,6] (λu=> [.int .i64 n,.ptr bT.length 0,.int .i64 20,.int .i64 u.2.1,.int .i64 ((u.2.1+20:Nat):Int)]) (λu=>eR bT id s n row u.2.2++ [fe gl gs cl cs]) (λu=>n - u.2.1)
  (λu=>u.2.1=u.1*20/\u.2.1<=n/\(∀q,q<u.1->jV lt u.2.2 (q*20) (q*20+20))/\(∀k,u.2.1<=k->u.2.2 k=k)/\Mv (λk=>k) u.2.2 0 n) (hc.trans (hl _)) hb (0,0,λk=>k) ⟨rfl,A5 _,λq hq=>absurd hq (Nat.not_lt_zero _),λ_ _=>rfl,Mv.refl _ _ _⟩ ?_ ?_
 .exact zW (by simp[hl]) sg
 rintro⟨t,A,g⟩ ⟨hA,af,ah,hid,ab⟩
 simp only at hA af ah hid ab
 have ag: ∀b,∀x y,A<=x->x<y->y<b->g x<g y:=λb x y x1 x2 x3=>by rw[hid x x1,hid y om];exact x2
 by_cases q:A+20<=n
 .have q':(A:Int)+20<=n:=om
  have e1:IntKind.i64.wrap ((A:Int)+20+20)=(A:Int)+20+20:=bR om om
  have aa:=TB S o g A (A+20) om q (ag _)
  refine zA ?_
  simp[go_sem,q',hd]
  refine S.call aa cB rfl ?_
  rintro g' ad
  rw[hA]at ad
  rw[hA]at hid
  obtain⟨f1,f2⟩:=xk1 ah hid ad
  simp[go_sem,e1]
  exact zG (t+1,A+20,g') ⟨by show n - (A+20)<n - A;omega,⟨by show A+20=(t+1)*20;omega,q,f1,λk hk=>f2 k (by have:A+20<=k:=hk;omega),ab.trans (ad.1.mono (A5 _) om)⟩,zW (by simp[hl]) sg⟩
 .have q': ¬(A:Int)+20<=n:=om
  have aa:=TB S o g A n af (A3 _) (ag _)
  refine zA ?_
  simp[go_sem,q']
  refine zO (zA ?_)
  simp[go_sem,hd]
  refine S.call aa cB rfl ?_
  rintro g' ad
  rw[hA]at ad hid
  have hB:=yQ6 ah hid om om ad
  have ai:=ab.trans (ad.1.mono (A5 _) (A3 _))
  clear aa ad ag hid ah ab
  simp[go_sem]
  refine zA ?_
  simp[go_sem]
  refine zH (S:=Nat×(Nat->Nat)) [1,2,4] (λu=> [.int .i64 n,.ptr bT.length 0,.int .i64 u.1]) (λu=>eR bT id s n row u.2++ [fe gl gs cl cs]) (λu=>n - u.1)
   (λu=>20<=u.1/\u.1<=2000020/\lW lt u.2 u.1 n/\Mv (λk=>k) u.2 0 n) (hc.trans (hl _)) hb (20,g') ⟨A3 _,by show 20<=2000020;omega,hB,ai⟩ ?_ ?_
  .exact zW (by simp[hl]) sg
  clear hB ai q q' hA af g' g t A
  rintro⟨w,g⟩ ⟨hw,ak,hB,ab⟩
  simp only at hw ak hB ab
  by_cases q:w<n
  rotate_left
  .refine zA ?_
   simp[go_sem,q]
   exact xM bT.length (C6 (hl _)) (hl _) (S.gP _) (D3 (hl _)) (zC rfl) ⟨rfl,g,rfl,ab,(hB.all om).2⟩
  have e2:IntKind.i64.wrap (2*(w:Int))=2*(w:Int):=bR om om
  have e3:IntKind.i64.wrap ((w:Int)*2)=(w:Int)*2:=bR om om
  refine zA ?_
  simp[go_sem,q,e2]
  refine zH (S:=Nat×Nat×(Nat->Nat)) [1,2,4,5,6] (λu=> [.int .i64 n,.ptr bT.length 0,.int .i64 w,.int .i64 u.2.1,.int .i64 ((u.2.1+2*w:Nat):Int)]) (λu=>eR bT id s n row u.2.2++ [fe gl gs cl cs]) (λu=>n - u.2.1)
   (λu=>u.2.1=u.1*(2*w)/\u.2.1<=n/\js lt u.2.2 w n u.1/\Mv (λk=>k) u.2.2 0 n) (hc.trans (hl _)) hb (0,0,g) ⟨sm,A5 _,js.start hB,ab⟩ ?_ ?_
  .exact zW (by simp[hl]) sg
  clear hB ab g
  rintro⟨t,A,g⟩ ⟨hA,af,hM,ab⟩
  simp only at hA af hM ab
  have e4:IntKind.i64.wrap ((A:Int)+w)=(A:Int)+w:=bR om om
  by_cases p:A+2*w<=n
  .have p':(A:Int)+2*w<=n:=om
   have e5:IntKind.i64.wrap ((A:Int)+2*w+2*w)=(A:Int)+2*w+2*w:=bR om om
   have ae:=hM.pair om (by rw[<-hA];omega)
   rw[<-hA,Dd p]at ae
   have aa:=Nw S o (2*w+1) g A (A+w) (A+2*w) om om om p ae.1.2 ae.2.2 (ae.1.TA ae.2)
   refine zA ?_
   simp[go_sem,p',hd,e4]
   refine S.call aa cB rfl ?_
   rintro g' ad
   have hN:=hM.next om (by rw[<-hA];exact p) (hA▸ad)
   have em:(t+1)*(2*w)=t*(2*w)+2*w:=by rw[B0,D0]
   simp[go_sem,e2,e5]
   exact zG (t+1,A+2*w,g') ⟨by show n - (A+2*w)<n - A;omega,⟨by show A+2*w=(t+1)*(2*w);rw[em,hA],p,hN,ab.trans (ad.1.mono (A5 _) p)⟩,zW (by simp[hl]) sg⟩
  .have p': ¬(A:Int)+2*w<=n:=om
   by_cases p2:A+w<n
   .have aj:(A:Int)+w<n:=om
    have ae:=hM.pair om (by rw[<-hA];exact p2)
    rw[<-hA,Nat.min_eq_right om]at ae
    have aa:=Nw S o (2*w+1) g A (A+w) n om om p2 (A3 _) ae.1.2 ae.2.2 (ae.1.TA ae.2)
    refine zA ?_
    simp[go_sem,p',aj,hd,e4]
    refine S.call aa cB rfl ?_
    rintro g' ad
    have hN:=hM.last om (by rw[<-hA];exact p2) (by rw[<-hA];omega) (hA▸ad)
    simp[go_sem,e3]
    exact zG (w*2,g') ⟨by show n - w*2<n - w;omega,⟨by show 20<=w*2;omega,by show w*2<=2000020;omega,by show lW lt g' (w*2) n;rw[Dl];exact hN,ab.trans (ad.1.mono (A5 _) (A3 _))⟩,zW (by simp[hl]) sg⟩
   .have aj: ¬(A:Int)+w<n:=om
    have hN:=hM.none (by rw[<-hA];exact af) (by rw[<-hA];omega)
    refine zA ?_
    simp[go_sem,p',aj,e4,e3]
    exact zG (w*2,g) ⟨by show n - w*2<n - w;omega,⟨by show 20<=w*2;omega,by show w*2<=2000020;omega,by show lW lt g (w*2) n;rw[Dl];exact hN,ab⟩,zW (by simp[hl]) sg⟩
end
end Go.Proofs.YtefbicjgbaaieaaGreat
namespace Go.Proofs.YtefbicjgbaaieaaGreat
open Go Go.Vx R Go.Proofs.Tryz
set_option maxRecDepth 100000
variable {J:Type}{l:List Ln}{b:Mp afE}{n:Nat}
def jP (gt:J->Bool) (out:List J) (x:J):List J:=(out.reverse.dropWhile gt).reverse++x::(out.reverse.takeWhile gt).reverse
theorem TC (gt:J->Bool) (out:List J) (x:J):(jP gt out x).Perm (x::out):=by
 unfold jP
 refine Da.trans (List.Perm.cons _ ?_)
 rw[<-List.reverse_append,Cg,List.reverse_reverse]
theorem xz3 {I:Type} (h:J->I) (gt:I->Bool) (out:List J) (x:J):(jP (λy=>gt (h y)) out x).map h=jP gt (out.map h) (h x):=by
 unfold jP
 rw[Cr,Ai,List.map_reverse,List.map_reverse,<-List.map_reverse (l:=out),List.dropWhile_map,List.takeWhile_map]
 rfl
theorem yH9 {lt:Nat->Nat->Bool} (o:Ord lt) {out:afF} {x:Nat} (hs:out.Pairwise (TO lt)) (hx: ∀y∈out,y<x):(jP (λy=>lt x y) out x).Pairwise (TO lt):=by
 have hl:out=(out.reverse.dropWhile (λy=>lt x y)).reverse++(out.reverse.takeWhile (λy=>lt x y)).reverse:=by
  grind[Cg]
 have ab: ∀y∈out.reverse.takeWhile (λy=>lt x y),lt x y:=by
  intro y hy
  exact Ad.1 List.all_takeWhile y hy
 have ad: ∀y∈out.reverse.dropWhile (λy=>lt x y),lt x y=false:=by
  cases hd:out.reverse.dropWhile (λy=>lt x y)with
  |nil=>simp
  |cons z d=>
   have hz:lt x z=false:=by
    have:=List.head?_dropWhile_not (λy=>lt x y) out.reverse
    grind
   intro y hy
   rcases Ae.1 hy with rfl|hy
   .exact hz
   .have hp:(out.reverse).Pairwise (λa b=>TO lt b a):=(by grind)
    have aa:(z::d).Pairwise (λa b=>TO lt b a):=(by grind)
    have h3:=(By.1 aa).1 y hy
    cases q:lt x y with
    |false=>rfl
    |true=>
     rcases h3 with h3|⟨h3,_⟩
     .rw[o.tr _ _ _ q h3]at hz;cases hz
     .have:=o.nt _ _ _ hz h3;grind
 unfold jP
 rw[hl,Co]at hs
 have ae: ∀y∈out.reverse.dropWhile (λy=>lt x y),y∈out:=(by grind)
 rw[Co,By]
 refine⟨hs.1,⟨λy hy=> .inl (by grind),hs.2.1⟩,λy hy z hz=> ?_⟩
 rcases Ae.1 hz with rfl|hz
 .exact .inr (by grind)
 grind
def p0 (lt:Nat->Nat->Bool) (n:Nat):afF:=(List.range n).foldl (λout x=>jP (λy=>lt x y) out x) []
theorem TD {lt:Nat->Nat->Bool} (o:Ord lt): ∀n,(p0 lt n).Perm (List.range n)/\(p0 lt n).Pairwise (TO lt)
 |0=>⟨List.Perm.nil,List.Pairwise.nil⟩
 |n+1=>by
  obtain⟨h1,h2⟩:=TD o n
  have e:p0 lt (n+1)=jP (λy=>lt n y) (p0 lt n) n:=by
   unfold p0;rw[List.range_succ,D8];rfl
  rw[e]
  refine⟨(TC _ _ _).trans ?_,yH9 o h2 λy hy=>Bz.1 (h1.mem_iff.1 hy)⟩
  grind
theorem xq9 {lt:Nat->Nat->Bool} (o:Ord lt) {f:Nat->Nat} (hm:Mv id f 0 n) (hs:iA lt f 0 n):(List.range n).map f=p0 lt n:=by
 obtain⟨hp,hq⟩:=TD o n
 obtain⟨π,p1,p2,p3,p4⟩:=hm
 have hf: ∀k,f k=π k:=p4
 have ad:((List.range n).map f).Nodup:=by
  grind[Bm]
 have aa:((List.range n).map f).Perm (List.range n):=by
  rw[Dg ad Bm]
  have ab: ∀y∈(List.range n).map f,y∈List.range n:=(by grind)
  intro y
  refine⟨ab y,λhy=>Cz λhn=> ?_⟩
  have h1:(y::(List.range n).map f).Nodup:=(by grind)
  have:=h1.length_le_of_subset (l₂:=List.range n) (by grind)
  grind
 have ae:((List.range n).map f).Pairwise (TO lt):=by
  rw[C3]
  have:=List.pairwise_lt_range (n:=n)
  refine List.Pairwise.imp_of_mem (fun{a b} ha hb af=> ?_) this
  exact hs a b om af (by grind)
 exact(aa.trans hp.symm).eq_of_pairwise (λa b _ _ h1 h2=>absurd (h1.trans o h2) (λh=>h.E6 o)) ae hq
theorem yT2 (gt:J->J->Bool) (l:List J) (d:J):l.foldl (λout x=>jP (λy=>gt x y) out x) []=(p0 (λi j=>gt (l.getD i d) (l.getD j d)) l.length).map λi=>l.getD i d:=by
 have key: ∀n,n<=l.length->(l.take n).foldl (λout x=>jP (λy=>gt x y) out x) []=(p0 (λi j=>gt (l.getD i d) (l.getD j d)) n).map λi=>l.getD i d:=by
  intro n
  induction n with
  |zero=>grind[p0]
  |succ n ih=>
   intro h
   have hn:n<l.length:=h
   rw[Ce hn,D8,ih om]
   have e:p0 (λi j=>gt (l.getD i d) (l.getD j d)) (n+1)=jP (λy=>gt (l.getD n d) (l.getD y d)) (p0 (λi j=>gt (l.getD i d) (l.getD j d)) n) n:=by
    unfold p0;rw[List.range_succ,D8];rfl
   rw[e,xz3 (λi=>l.getD i d) (λy=>gt (l.getD n d) y)]
   grind
 grind
def nA (a b:bG):Prop:=a.kind<b.kind\/a.kind=b.kind/\(a.n<b.n\/a.n=b.n/\Op.bytesLess a.s b.s=true)
theorem we2 {a b:afE} (h:Op.bytesLess a b):Op.bytesLess b a=false:=by
 cases q:Op.bytesLess b a
 .rfl
 grind[yw,tO]
theorem Ny (a b:bG):(iS a b<0↔nA a b)/\(0<iS a b↔nA b a):=by
 grind[iS,nA,su,gN,iw,we2]
theorem nA.E6 (a:bG): ¬nA a a:=by
 intro h
 rcases h with h|⟨_,h|⟨_,h⟩⟩
 all_goals grind[tO]
theorem nA.trans {a b c:bG} (h:nA a b) (g:nA b c):nA a c:=by
 rcases h with h|⟨h,h|⟨h',h⟩⟩<;>rcases g with g|⟨g,g|⟨g',g⟩⟩
 .exact .inl om
 .exact .inl om
 .exact .inl om
 .exact .inl om
 .exact .inr om
 .exact .inr om
 .exact .inl om
 .exact .inr om
 .exact .inr (by grind[yw])
theorem nA.some {a c:bG} (b:bG) (h:nA a c):nA a b\/nA b c:=by
 rcases afB a.kind b.kind with k|k|k
 .exact .inl (.inl k)
 .rcases h with h|⟨h,h⟩
  .exact .inr (.inl om)
  .rcases afB a.n b.n with m|m|m
   .exact .inl (.inr om)
   .rcases h with h|⟨h',h⟩
    .exact .inr (.inr om)
    .rcases GZ a.s b.s with f|f|f
     .exact .inl (.inr (by grind))
     .exact .inr (.inr (by grind))
     .exact .inr (.inr (by grind[yw]))
   .rcases h with h|⟨h',h⟩
    .exact .inr (.inr om)
    .exact .inr (.inr om)
 .rcases h with h|⟨h,_⟩
  .exact .inr (.inl om)
  .exact .inr (.inl om)
def mW (d:Ln) (c:Nat) (down:Bool) (l:List Ln) (i j:Nat):Bool:=decide (0<pW c down (l.getD j d) (l.getD i d))
theorem Nz (d:Ln) (c:Nat) (down:Bool) (l:List Ln) (i j:Nat):mW d c down l i j=true↔if down=true then nA ((l.getD j d).v.getD c zeroV) ((l.getD i d).v.getD c zeroV)else nA ((l.getD i d).v.getD c zeroV) ((l.getD j d).v.getD c zeroV):=by
 unfold mW pW
 rw[afe]
 cases down<;>simp[Ny]
theorem TE (d:Ln) (c:Nat) (down:Bool) (l:List Ln):Ord (mW d c down l):=by
 refine⟨λi=> ?_,λi j k h g=> ?_,λi j k h g=> ?_⟩
 .cases q:mW d c down l i i with
  |false=>rfl
  |true=>
   grind[Nz,nA.E6]
 .rw[Nz]at h g⊢
  split at h
  .rename_i e0
   rw[afb e0]at g⊢
   exact g.trans h
  .rename_i e0
   rw[afa e0]at g⊢
   exact h.trans g
 .cases q:mW d c down l i k with
  |false=>rfl
  |true=>
   exfalso
   have h': ¬mW d c down l i j:=by grind
   have g': ¬mW d c down l j k:=by grind
   rw[Nz]at h' g' q
   split at q
   .rename_i e0
    rw[afb e0]at h' g'
    exact(q.some ((l.getD j d).v.getD c zeroV)).elim g' h'
   .rename_i e0
    rw[afa e0]at h' g'
    exact(q.some ((l.getD j d).v.getD c zeroV)).elim h' g'
theorem xF9 (d:Ln) (c:Nat) (down:Bool) (l:List Ln):ov c down l=(p0 (mW d c down l) l.length).map λi=>l.getD i d:=yT2 (λx y=>decide (0<pW c down y x)) l d
theorem yY1 {d:Ln} {c:Nat} {down:Bool} {f:Nat->Nat} (hm:Mv id f 0 l.length) (hs:iA (mW d c down l) f 0 l.length):((List.range l.length).map λk=>l.getD (f k) d)=ov c down l:=by
 rw[xF9 d,<-xq9 (by grind[TE]) hm hs,Be]
 rfl
def jb (T:bI) (st:bQ) (c:Int) (rows:List (List V)) (n:Nat):St:= [.cc rows 3,.box T.row,.box st.row,.box [.cJ 0 3 n 0 n],.box dE,.box [.int .i64 c]]
theorem y6 (T:bI) (st:bQ) (c:Int) (l:List Ln) (n:Nat):(jb T st c (l.map Ln.row) n).all (bP 6)=true:=by simp[jb,dE,bP,cK,cG,Ln.row,bI.row,bQ.row]
theorem CI {l:List J} {i:Nat} (h:i<l.length) (d:J):l.getD i d=l[i]:=by rw[A9,A0 h];rfl
theorem xZ3 (d:Ln) (T:bI) (st:bQ) (aa:Nat) (_hc0:aa<=10000) (l:List Ln) (ad: ∀x∈l,aa<x.v.length) (i j:Nat) (hi:i<l.length) (hj:j<l.length):
  bK prog 158 [.int .i64 i,.int .i64 j,.ptr 3 0,.ptr 5 0,.ptr 2 0] (jb T st aa (l.map Ln.row) l.length) (λr s=>r= .bool (mW d aa st.down l i j)/\s=jb T st aa (l.map Ln.row) l.length):=by
 obtain⟨x,hx⟩:=eX (l[i])
 obtain⟨y,hy⟩:=eX (l[j])
 have ae:=ad x (hx▸Aa hi)
 have af:=ad y (hy▸Aa hj)
 obtain⟨v,hv⟩:=eX (x.v[aa])
 obtain⟨u,hu⟩:=eX (y.v[aa])
 have ab:=Sk v u
 obtain⟨a1,a2,a3,a4,a5,a6,a7,a8,dn,a9⟩:=st
 have hM:mW d aa dn l i j=(if dn=true then decide (0<iS v u)else decide (iS v u<0)):=by
  unfold mW pW
  rw[CI hi,CI hj,hx,hy,CI ae,CI af,hv,hu]
  obtain⟨h1,h2⟩:=Ny v u
  obtain⟨h3,h4⟩:=Ny u v
  split
  .rw[decide_eq_decide]
   exact⟨λh=>h2.2 (h3.1 om),λh=>by have:=h3.2 (h2.1 h);omega⟩
  .rw[decide_eq_decide]
   exact⟨λh=>h1.2 (h4.1 h),λh=>h4.2 (h1.1 h)⟩
 show bK _ _ _ _ (λr s=>r= .bool (mW d aa dn l i j)/\_)
 rw[hM]
 clear hM
 generalize iS v u=k at ab
 have cH:=y6 T ⟨a1,a2,a3,a4,a5,a6,a7,a8,dn,a9⟩ aa l l.length
 generalize hB:(if dn=true then decide (0<k)else decide (k<0))=B
 have ret: ∀(r:Bool) (Ul:St),r=B->cj (some (.bool r)) 6 (λr s=>r= .bool B/\s=jb T ⟨a1,a2,a3,a4,a5,a6,a7,a8,dn,a9⟩ aa (l.map Ln.row) l.length) (jb T ⟨a1,a2,a3,a4,a5,a6,a7,a8,dn,a9⟩ aa (l.map Ln.row) l.length++Ul):=λr Ul h=>by
  subst h
  exact xM 6 (C6 rfl) rfl cH (A3 _) (zC rfl) ⟨rfl,rfl⟩
 clear cH ad
 have hk:=afB k 0
 cases dn<;>(
  refine iV 6 func158 ntmps158 results158 λc hc hb=> ?_
  refine zA ?_
  simp[go_sem,jb]
  refine yV [(16,0)] 6 rfl kR kR ?_
  simp[go_sem,hi,hj,hx,hy,ae,af,hv,hu]
  refine pD ab ?_
  simp[go_sem]
  rcases hk with q|q|q
  .have q2: ¬0<k:=om
   simp[go_sem,q,q2]
   exact ret _ _ (by rw[<-hB];simp[q,q2])
  .subst q
   simp[go_sem]
   exact ret _ _ (by rw[<-hB];simp)
  .have q2: ¬k<0:=om
   simp[go_sem,q,q2]
   exact ret _ _ (by rw[<-hB];simp[q,q2]))
theorem TF:(Tryz.prog.info? 200).map (λi=>(i.size,i.hasPointers,i.bytes))=some (3,true,48):=kR
theorem xo2:(Tryz.prog.info? 195).map (λi=>i.desc)=some (.slice 200):=kR
theorem xB0 (w:World):(Extern.Rtype.kind 200).run prog w= .ok 25 w:=kR
theorem xR7 {ie:TypeInfo} (hn:2<=n) (h1:ie.hasPointers) (h2:ie.bytes=48):Lib.swapperK n ie 25=9:=by
 unfold Lib.swapperK
 have e1:(n==0)=false:=by simp;omega
 have e2:(n==1)=false:=by simp;omega
 rw[e1,e2,h1,h2]
 rfl
theorem wg8 (args:afI) (w:World):(callFunc 300 args).run prog w=((Extern.ReflectliteSwapper.swap false args).run prog w).andThen λv w'=> .ok (.value v) w':=
 run_callFunc_extern func300 kR kR kR (e:=Extern.ReflectliteSwapper.swap false) kR args w
def lq (iB:Nat):Ln:=⟨0,[],List.replicate (iB+1) zeroV⟩
noncomputable def ml (T:bI) (st:bQ) (iB:Int) (rows:List (List V)) (n:Nat):St:=jb T st iB rows n++ [.box [.cJ 0 3 n 0 n],.box [.raw (typeHandle prog 195),.ptr 6 0,.int .u64 151]]
noncomputable def CJ (n:Nat):List V:=if n<=1 then []else [.cJ 0 3 n 0 n,.raw (typeHandle prog 200)]
theorem TG {T:bI} {st:bQ} {aa:Nat} (f:Nat->Nat):eR (ml T st aa (l.map Ln.row) l.length) 0 3 l.length (λk=>(l.getD k (lq aa)).row) f=ml T st aa (((List.range l.length).map λk=>l.getD (f k) (lq aa)).map Ln.row) l.length:=by
 unfold eR ml jb
 rw[Be]
 rfl
theorem xR0 {d:Ln} (f:Nat->Nat):((List.range l.length).map λk=>l.getD (f k) d).length=l.length:=sm
theorem wd7 (G:FuncId) (T:bI) (st:bQ) (aa:Nat) (ag:aa<=10000) (l:List Ln) (hl:l.length<=10000) (ah: ∀x∈l,aa<x.v.length) (hG:2<=l.length->G=300):
  SC prog 158 G [.ptr 3 0,.ptr 5 0,.ptr 2 0] (CJ l.length) (ml T st aa (l.map Ln.row) l.length) 0 3 l.length (λk=>(l.getD k (lq aa)).row) (mW (lq aa) aa st.down l):=by
 have ae: ∀k,aa<(l.getD k (lq aa)).v.length:=λk=>by
  by_cases q:k<l.length
  .rw[CI q];exact ah _ (Aa q)
  .rw[A9,Dc om];simp[lq]
 have ao: ∀rows n,(jb T st aa rows n).length=6:=λ_ _=>rfl
 refine⟨by simp[ml,jb],om,rfl, ?_, ?_,λk=> ?_,λc τ f i j K hi hj ai hk=> ?_,λc τ f i j K hi hj ai hk=> ?_⟩
 .unfold CJ
  split
  .rfl
  .simp[ml,jb,cG]
 .have h:=y6 T st aa l l.length
  unfold ml
  rw[E4,A6]
  refine⟨?_,by simp[jb,bP,cK,cG]⟩
  rw[Ad]at h⊢
  exact λo ho=>IC (by simp[jb]) (h o ho)
 .simp[Ln.row,cK,cG]
 .rw[TG]at hk⊢
  obtain⟨l',ab⟩: ∃l',((List.range l.length).map λk=>l.getD (f k) (lq aa))=l':=⟨_,rfl⟩
  have aj:l'.length=l.length:=by rw[<-ab,xR0]
  have hg: ∀k,k<l.length->l'.getD k (lq aa)=l.getD (f k) (lq aa):=λk hk=>by
   rw[<-ab,CI (sU hk)];simp
  have af:=xZ3 (lq aa) T st aa ag l' (λx hx=>by
   rw[<-ab]at hx
   obtain⟨k,_,rfl⟩:=Ac.1 hx
   exact ae _) i j om om
  have ak:mW (lq aa) aa st.down l' i j=mW (lq aa) aa st.down l (f i) (f j):=by
   unfold mW
   rw[hg i hi,hg j hj]
  rw[ak,aj]at af
  rw[ab]at hk⊢
  refine rK 6 af cB ?_ rfl (by have:=y6 T st aa l' l.length;exact this) ?_ ?_ ?_
  .show(jb _ _ _ _ _++_++τ).take 6=_
   rw[Bu]
   exact C6 rfl
  .exact oJ rfl
  .rintro r s ⟨rfl,rfl⟩
   exact⟨rfl,y6 T st aa l' l.length,rfl⟩
  .rintro r s ⟨rfl,rfl⟩
   have e:jb T st aa (l'.map Ln.row) l.length++(ml T st aa (l'.map Ln.row) l.length++τ).drop 6=ml T st aa (l'.map Ln.row) l.length++τ:=rfl
   rw[e]
   exact hk
 .have h2:2<=l.length:=om
  rw[hG h2]
  obtain⟨ie,al,ad⟩:=Al.1 TF
  simp only[afl]at ad
  obtain⟨an,_,_⟩:=ad
  have e0:CJ l.length= [.cJ 0 3 l.length 0 l.length,.raw (typeHandle prog 200)]:=by unfold CJ;rw[afa om]
  rw[e0]
  refine X5 wg8 al isAgg200 an sm (rows:=(List.range l.length).map λk=>(l.getD (f k) (lq aa)).row) (R:=(List.range l.length).map λk=>(l.getD (sw f i j k) (lq aa)).row) rfl hi hj ?_ hk
  have gd: ∀q,q<l.length->((List.range l.length).map λk=>(l.getD (f k) (lq aa)).row).getD q []=(l.getD (f q) (lq aa)).row:=λq hq=>by
   rw[CI (sU hq)];simp
  rw[gd i hi,gd j hj]
  refine List.ext_getElem sm λk h1 h2=> ?_
  rw[List.getElem_set,List.getElem_set]
  simp only[Dn,List.getElem_range,sw]
  split
  .rename_i q;subst q
   rw[afa om,afb rfl]
  .split
   .rename_i q;subst q
    rw[afb rfl]
   .rename_i q1 q2
    rw[afa om,afa om]
theorem NA (args:afI) (w:World):(callFunc 232 args).run prog w=((Extern.ReflectliteValue.unpack (args.getD 0 (.tuple #[]))).run prog w).andThen λv w'=> .ok (.value v) w':=
 run_callFunc_extern func232 kR kR kR (e:=λargs=>Extern.ReflectliteValue.unpack (args.getD 0 (.tuple #[]))) kR args w
theorem wg9 (args:afI) (w:World):(callFunc 233 args).run prog w=((Extern.ReflectliteSwapper.swapper "internal/reflectlite" (Extern.ReflectliteValue.valueError "Swapper") args).run prog w).andThen λv w'=> .ok (.value v) w':=
 run_callFunc_extern func233 kR kR kR (e:=Extern.ReflectliteSwapper.swapper "internal/reflectlite" (Extern.ReflectliteValue.valueError "Swapper")) kR args w
theorem wh3 (args:afI) (w:World):(callFunc 235 args).run prog w=((Extern.ReflectliteValue.method (Extern.ReflectliteValue.valueError "reflectlite.Value.Len" 0) Extern.ReflectliteValue.len args).run prog w).andThen λv w'=> .ok (.value v) w':=
 run_callFunc_extern func235 kR kR kR (e:=Extern.ReflectliteValue.method (Extern.ReflectliteValue.valueError "reflectlite.Value.Len" 0) Extern.ReflectliteValue.len) kR args w
theorem xM4:(Tryz.prog.funcs.findIdx? (·.name== "internal/reflectlite" ++ ".Swapper$" ++toString 1),Tryz.prog.funcs.findIdx? (·.name== "internal/reflectlite" ++ ".Swapper$" ++toString 2),Tryz.prog.funcs.findIdx? (·.name== "internal/reflectlite" ++ ".Swapper$" ++toString 9))=(some 292,some 293,some 300):=kR
@[go_sem] theorem E9:wW prog 304=some [.fq,.fq,.int .u64 0]:=kR
@[go_sem] theorem JY:ez prog 304=some 3:=kR
@[go_sem] theorem Hg:cL prog 304=some true:=kR
theorem ym4 (T:bI) (st:bQ) (iB:Nat) (Gg:iB<=10000) (l:List Ln) (hl:l.length<=10000) (hcl: ∀x∈l,iB<x.v.length):
  bK prog 157 [.gy 195 [.cJ 0 3 l.length 0 l.length],.fn 158 [.ptr 3 0,.ptr 5 0,.ptr 2 0]] (jb T st iB (l.map Ln.row) l.length) (λr s=>r= .cm []/\s=jb T st iB ((ov iB st.down l).map Ln.row) l.length):=by
 obtain⟨ti,NB,NC⟩:=Al.1 xo2
 obtain⟨ie,Ma,Hh⟩:=Al.1 TF
 simp only[afl]at Hh
 obtain⟨hs3,hp,hby⟩:=Hh
 obtain⟨G,hG,hG2,Hi⟩: ∃G,Tryz.prog.funcs.findIdx? (·.name== "internal/reflectlite" ++ ".Swapper$" ++toString (Lib.swapperK l.length ie 25))=some G/\(2<=l.length->G=300)/\(Lib.swapperK l.length ie 25<=2↔l.length<=1):=by
  have h:=xM4
  simp only[afl]at h
  obtain⟨f1,f2,f3⟩:=h
  by_cases q:2<=l.length
  .rw[xR7 q hp hby]
   exact⟨_,f3,λ_=>rfl,om⟩
  .rcases(by omega:l.length=0\/l.length=1)with e|e
   .rw[e];exact⟨_,f1,λh=>om,⟨λ_=>dc,λ_=>(by show 1<=2;decide)⟩⟩
   .rw[e];exact⟨_,f2,λh=>om,⟨λ_=>dc,λ_=>(by show 2<=2;decide)⟩⟩
 have S:=wd7 G T st iB Gg l hl hcl hG2
 have TH:=xG0 S (TE (lq iB) iB st.down l)
 have TI: ∀f,eR (ml T st iB (l.map Ln.row) l.length) 0 3 l.length (λk=>(l.getD k (lq iB)).row) f=ml T st iB (((List.range l.length).map λk=>l.getD (f k) (lq iB)).map Ln.row) l.length:=λf=>TG f
 have ND:((List.range l.length).map λk=>l.getD k (lq iB))=l:=by
  refine List.ext_getElem sm λk h1 h2=> ?_
  simp[h2]
 have NF:bK prog 234 [.agg [.fn 158 [.ptr 3 0,.ptr 5 0,.ptr 2 0],.fn G (CJ l.length)],.int .i64 l.length] (ml T st iB (l.map Ln.row) l.length) (λr t=>r= .cm []/\t=ml T st iB ((ov iB st.down l).map Ln.row) l.length):=by
  rw[TI,ND]at TH
  refine TH.mono λr t h=> ?_
  obtain⟨h1,g,h2,h3⟩:=h
  refine⟨h1, ?_⟩
  rw[h2,TI]
  congr 2
  exact yY1 h3.1 h3.2
 have cH: ∀m:List Ln,(ml T st iB (m.map Ln.row) l.length).all (bP 8)=true:=λm=>by
  have h:=y6 T st iB m l.length
  unfold ml
  rw[E4,A6]
  refine⟨?_,by simp[bP,cK,cG]⟩
  rw[Ad]at h⊢
  exact λo ho=>IC dc (h o ho)
 have hsc:CJ l.length=(if Lib.swapperK l.length ie 25<=2 then []else [.cJ 0 3 l.length 0 l.length,.raw (typeHandle prog 200)]):=by
  unfold CJ
  by_cases q:l.length<=1
  .rw[afb q,afb (Hi.2 q)]
  .rw[afa q,afa λh=>q (Hi.1 h)]
 refine iV 6 func157 ntmps157 results157 λc hc hb=> ?_
 refine zO (zA ?_)
 simp[go_sem]
 refine X6 NA NB NC ?_
 simp[go_sem]
 have e6:(jb T st iB (l.map Ln.row) l.length).length=6:=rfl
 rw[e6]
 refine zO (zA ?_)
 simp[go_sem]
 refine X7 wg9 NB NC Ma xB0 hG ?_
 rw[<-hsc]
 simp[go_sem]
 have h7:(jb T st iB (l.map Ln.row) l.length++ [.box [.cJ 0 3 l.length 0 l.length],.box [.raw (typeHandle prog 195),.ptr 6 0,.int .u64 151]])[7]? =some (.box [.raw (typeHandle prog 195),.ptr 6 0,.int .u64 151]):=rfl
 refine zA ?_
 simp[go_sem,h7]
 refine Ya wh3 NB NC kR (id:=0) (s:=3) (n:=l.length) (m:=l.length) (k:=6) rfl ?_
 simp[go_sem]
 have cv:jb T st iB (l.map Ln.row) l.length++ [.box [.cJ 0 3 l.length 0 l.length],.box [.raw (typeHandle prog 195),.ptr 6 0,.int .u64 151]]=ml T st iB (l.map Ln.row) l.length:=rfl
 rw[cv]
 refine rK 8 NF cB (Aj (A3 8)) rfl (cH l) ?_ ?_ ?_
 .rw[B6]
  refine oJ ?_
  have:=S.y5
  have e8:(ml T st (iB:Int) (l.map Ln.row) l.length).length=8:=rfl
  rw[e8]at this
  simp[fW,j6,cK,this,cG]
 .rintro r s ⟨rfl,rfl⟩
  exact⟨rfl,cH _,rfl⟩
 .rintro r s ⟨rfl,rfl⟩
  have hd8:(ml T st (iB:Int) (l.map Ln.row) l.length).drop 8= []:=rfl
  rw[hd8]
  simp[go_sem]
  exact xM 6 (s:=jb T st iB ((ov iB st.down l).map Ln.row) l.length) rfl rfl (y6 T st iB _ _) (A3 _) (zC rfl) ⟨rfl,rfl⟩
theorem cw.get (h:cw b l) {p:Pl} {d:afE}:b.get p=some d↔ ∃x∈l,x.at=p/\yP x.v=d:=by
 rw[Mp.get_mem h.ok,h.perm.mem_iff,Ac]
 constructor
 .rintro⟨x,hx,he⟩
  simp only[afl]at he
  exact⟨x,hx,he⟩
 .rintro⟨x,hx,h1,h2⟩
  exact⟨x,hx,by rw[h1,h2]⟩
theorem cw.get_none (h:cw b l) {p:Pl}:b.get p=none↔ib l p=false:=ku.trans h.gu
def Hj (a:Mp afE) (e:Pl×afE):Bool:=a.get e.1 !=some e.2
def Fa (b:Mp afE) (e:Pl×afE):Bool:=(b.get e.1).isNone
def gZ (a:Mp afE) (D:List (Pl×afE)):List Pl:=(D.filter (Hj a)).map (·.1)
def gQ (b:Mp afE) (D:List (Pl×afE)):List Pl:=(D.filter (Fa b)).map (·.1)
def oW (b:Mp afE) (p:Pl):Wr:=⟨p,(b.get p).isNone,(b.get p).getD []⟩
theorem xu5 {a:Mp afE} {ah now:List Ln} (ha:cw a ah) (hb:cw b now) {L:List Pl} (hp:L.Perm (gZ a b.W++gQ b a.W)) (hs:L.Pairwise λp q=> ¬kq q p<0):L.map (oW b)=gb ah now:=by
 have nN:(gZ a b.W).Nodup:=afm ((C1).map _) hb.keys
 have nO:(gQ b a.W).Nodup:=afm ((C1).map _) ha.keys
 have nL:L.Nodup:=by
  rw[hp.nodup_iff,Dv]
  refine⟨nN,nO,λp h1 q h2 e=> ?_⟩
  subst e
  obtain⟨e1,ad,rfl⟩:=Ac.1 h1
  obtain⟨e2,ae,h3⟩:=Ac.1 h2
  have h4:=(Mp.get_mem hb.ok).2 (C5.1 ad).1
  have h5:=(C5.1 ae).2
  unfold Fa at h5
  rw[h3,h4]at h5
  cases h5
 have hr:fI L:=by
  have:=xQ3 (kx:=λp:Pl=>p) (l:=L) hs (by rw[Dx];exact nL)
  rwa [Dx]at this
 obtain⟨c1,c2⟩:=JU ha.eK hb.eK
 refine yW9 ?_ c1 λw=> ?_
 .unfold ox
  rw[C3]
  exact hr
 rw[c2 w,Ac]
 have hm: ∀p,p∈L↔p∈gZ a b.W\/p∈gQ b a.W:=λp=>by rw[hp.mem_iff,Ar]
 constructor
 .rintro⟨p,ai,rfl⟩
  rcases(hm p).1 ai with h|h
  .obtain⟨⟨p',d⟩,he,rfl⟩:=Ac.1 h
   obtain⟨ad,ae⟩:=C5.1 he
   have hg:=(Mp.get_mem hb.ok).2 ad
   obtain⟨x,hx,aa,ab⟩:=hb.get.1 hg
   refine .inr ⟨by simp[oW,hg],x,hx,aa,by simp[oW,hg,ab],λy hy af ag=> ?_⟩
   have:=ha.get.2 ⟨y,hy,af.trans aa,ag.trans ab⟩
   simp[Hj,this]at ae
  .obtain⟨⟨p',d⟩,he,rfl⟩:=Ac.1 h
   obtain⟨ad,ae⟩:=C5.1 he
   have hg:=(Mp.get_mem ha.ok).2 ad
   have hn:b.get p'=none:=by simpa[Fa]using ae
   obtain⟨x,hx,aa,ab⟩:=ha.get.1 hg
   exact .inl ⟨by simp[oW,hn],by simp[oW,hn],⟨x,hx,aa⟩,hb.get_none.1 hn⟩
 .rintro(⟨h1,h2,⟨x,hx,aa⟩,h3⟩|⟨h1,x,hx,aa,ab,h3⟩)
  .have hn:=hb.get_none.2 h3
   have hg:=ha.get.2 ⟨x,hx,aa,rfl⟩
   refine⟨w.p,(hm _).2 (.inr (Ac.2 ⟨(w.p,yP x.v),C5.2 ⟨(Mp.get_mem ha.ok).1 hg,by simp[Fa,hn]⟩,rfl⟩)), ?_⟩
   obtain⟨p,dr,da⟩:=w
   simp only at h1 h2 hn
   simp[oW,hn,h1,h2]
  .have hg:=hb.get.2 ⟨x,hx,aa,ab⟩
   refine⟨w.p,(hm _).2 (.inl (Ac.2 ⟨(w.p,w.data),C5.2 ⟨(Mp.get_mem hb.ok).1 hg, ?_⟩,rfl⟩)), ?_⟩
   .simp only[Hj,bne_iff_ne,ne_eq]
    intro h
    obtain⟨y,hy,af,ag⟩:=ha.get.1 h
    exact h3 y hy (af.trans aa.symm) (ag.trans ab.symm)
   .obtain⟨p,dr,da⟩:=w
    simp only at h1 hg
    simp[oW,hg,h1]
theorem xS7 {P:Program} {c:Ctx} {U:St} {f:FuncId} {bU args bZ:List V} {KV:V->St->Prop} {rows:List (List V)} {w:Nat} (hc:bK P f bZ [] λr s=>r= .cJ 0 w n 0 n/\s= [.cc rows w]) (hb:wE P f) (ab:bP 0 (.cc rows w))
  (aa:bL (cF (cz [] U.length)) bZ (args++bU)) (hK:KV (.cJ U.length w n 0 n) (U++ [.cc rows w])):iZ P c (.fn f bU) args U KV fx:=by
 refine VC.of hc hb [] Ca rfl sm aa λr s h _=> ?_
 obtain⟨rfl,rfl⟩:=h
 have e:xQ [] U [.cc rows w]=U++ [.cc rows w]:=by
  simp only[xQ,fQ,Az,D4,Ai,Bk]
  rw[xH (n:=0) om ab]
 grind[dy,cz,dL,dv,du]
def CK (a:Mp afE) (sn:Mp Int) (m:List Ln) (B:Mp afE) (M:List Ln×Int) (r:V) (s:St):Prop:=
 s=cM a B sn++ [.cc (m.map Ln.row) 3]/\((M.2≠0/\r= .cm [.agg (Ot.row ⟨0,[]⟩),.int .i64 M.2])\/(M.2=0/\r= .cm [.agg (Ot.row ⟨m.length,[]⟩),.int .i64 0]/\cw B M.1))
def lZ (T:bI) (cu:List bY):List Ln->Mp afE->Mp afE
 | [],b=>b
 |x::m,b=>
  if(fM T x.v cu x.v).2≠0 then b
  else if eD T.bW (fM T x.v cu x.v).1≠0 then b
  else lZ T cu m (b.put x.at (yP (fM T x.v cu x.v).1))
theorem xp8 {r:Int} {k d:afE} {w:Nat×afE} (h:b.at (r,k)=some w):Ob.mp (((fL V.str b.W).set (2*w.1) (.agg [.int .i64 r,.str k])).set (2*w.1+1) (.str d)) b.bs b.cD=(b.put (r,k) d).ob V.str:=by
 unfold Mp.put Mp.ob
 rw[h]
 show _=Ob.mp (fL V.str (b.W.set w.1 ((r,k),d))) _ _
 rw[<-SN]
 rfl
theorem NG {x:Ln} (h:eQ x):1<=x.v.length/\x.v.length<=20:=by
 obtain⟨tn,T,_,hT,hm⟩:=h.iY
 have h1:=vj hm
 have h2:=(by decide: ∀T∈bM,1<=T.bW.length/\T.bW.length<=20) T (by grind)
 omega
theorem TJ (T:bI) (name:afE):cy T name<T.bW.length:=by
 grind[BZ,cy]
theorem xH4 (tn:Nat) (T:bI) (hT:bM[tn]? =some T) (st:bQ) (aC:kg st) (ar: ∀x∈st.cu,0<=cy T x.name) (a b:Mp afE) (sn:Mp Int) (l m:List Ln) (aK:cw b l) (hm: ∀x∈m,ib l x.at=true/\eQ x/\(fp x.r).1=(tn:Int)) (hl:m.length<=10000):
  bK prog 92 [.ptr 3 0,.agg T.row,.agg st.row,.cJ 4 3 m.length 0 m.length] (cM a b sn++ [.cc (m.map Ln.row) 3]) (CK a sn m (lZ T st.cu m b) (ga T st.cu m l)):=by
 generalize hM:ga T st.cu m l=M
 generalize hB:lZ T st.cu m b=B
 have au: ∀(b':Mp afE),(cM a b' sn++([.cc (m.map Ln.row) 3]:St)).all (bP 5)=true:=(by simp[xY,bP,cK,cG,Ln.row])
 have dD: ∀(b':Mp afE) (Ul:St) (l':List Ln),b'=B->M=(l',0)->cw b' l'->cj (some (.cm [.agg [.sl .full [],.int .i64 m.length],.int .i64 0])) 5 (CK a sn m B M) (a.ob .str::b'.ob .str::sn.ob (V.int .i64):: .box [.sl .ro xZ,.sl .ro (bM.map bI.row),.mp 0,.mp 1,.mp 2]:: .cc (m.map Ln.row) 3::Ul):=λb' Ul l' h0 h1 h2=>
  xM 5 (s:=cM a b' sn++ [.cc (m.map Ln.row) 3]) (r:= .cm [.agg (Ot.row ⟨m.length,[]⟩),.int .i64 0]) rfl rfl (au b') (A3 _) (wK ⟨oK ⟨yX,zU rfl,tV⟩,mf rfl,tV⟩) ⟨by rw[h0],(by grind)⟩
 have bad: ∀(b':Mp afE) (e:Int) (Ul:St),b'=B->M.2=e->e≠0->cj (some (.cm [.agg [.sl .full [],.int .i64 0],.int .i64 e])) 5 (CK a sn m B M) (a.ob .str::b'.ob .str::sn.ob (V.int .i64):: .box [.sl .ro xZ,.sl .ro (bM.map bI.row),.mp 0,.mp 1,.mp 2]:: .cc (m.map Ln.row) 3::Ul):=λb' e Ul h0 h1 h2=>
  xM 5 (s:=cM a b' sn++ [.cc (m.map Ln.row) 3]) (r:= .cm [.agg (Ot.row ⟨0,[]⟩),.int .i64 e]) rfl rfl (au b') (A3 _) (wK ⟨oK ⟨yX,zU rfl,tV⟩,mf rfl,tV⟩) ⟨by rw[h0],(by grind)⟩
 refine iV 5 func92 ntmps92 results92 λc hc hb=> ?_
 refine zA ?_
 simp[go_sem,cM,fm]
 have av: ∀(b':Mp afE),([a.ob .str,b'.ob .str,sn.ob (V.int .i64),.box [.sl .ro xZ,.sl .ro (bM.map bI.row),.mp 0,.mp 1,.mp 2],.cc (m.map Ln.row) 3,.box T.row,.box st.row,.box dE]:St).all (bP 8)=true:=λb'=>by
  have h:=xY 8 om a b' sn
  simp only[cM,fm,Aq,D6,Dq]at h⊢
  simp_all[bP,cK,cG,bQ.row,bI.row,Ln.row,dE]
 have af: ∀(b':Mp afE) (x:Ln) (row:List bG),([a.ob .str,b'.ob .str,sn.ob (V.int .i64),.box [.sl .ro xZ,.sl .ro (bM.map bI.row),.mp 0,.mp 1,.mp 2],.cc (m.map Ln.row) 3,.box T.row,.box st.row,.box dE,.box x.row,.cc (row.map bG.row) 3]:St).all (bP 10)=true:=λb' x row=>by
  have h:=xY 10 om a b' sn
  simp only[cM,fm,Aq,D6,Dq]at h⊢
  simp_all[bP,cK,cG,bQ.row,bI.row,Ln.row,bG.row,dE]
 have aw:T.bW.length<=maxLen:=(by decide: ∀T∈bM,T.bW.length<=maxLen) T (Bh hT)
 have hlen: ∀x,eQ x->(fp x.r).1=(tn:Int)->x.v.length=T.bW.length:=λx hx al=>by
  obtain⟨aD,T',h1,h2,h3⟩:=hx.iY
  have:aD=tn:=by omega
  grind[vj]
 refine zH (S:=Nat×Mp afE×List Ln) [0,3,5,6,8,9,18,19,20] (λu=> [.ptr 3 0,.cJ 4 3 m.length 0 m.length,.ptr 5 0,.ptr 6 0,.ptr 7 0,.int .i64 0,.cJ 4 3 m.length 0 m.length,.int .i64 m.length,.int .i64 u.1])
  (λu=> [a.ob .str,u.2.1.ob .str,sn.ob (V.int .i64),.box [.sl .ro xZ,.sl .ro (bM.map bI.row),.mp 0,.mp 1,.mp 2],.cc (m.map Ln.row) 3,.box T.row,.box st.row,.box dE]) (λu=>m.length - u.1)
  (λu=>u.1<=m.length/\cw u.2.1 u.2.2/\(∀p,ib u.2.2 p=ib l p)/\ga T st.cu (m.drop u.1) u.2.2=M/\lZ T st.cu (m.drop u.1) u.2.1=B) hc hb (0,b,l) (by grind) ?_ ?_
 .exact ca 8 (by simp[go_sem,dE]) rfl (av b) dc (zD sg rfl)
 rintro⟨i,b1,l1⟩ ⟨hi,ai,ag,aa,ab⟩
 simp only at hi ai ag aa ab
 by_cases q:i<m.length
 rotate_left
 .rw[A8 om,ga]at aa
  rw[A8 om,lZ]at ab
  refine zA ?_
  simp[go_sem,q,dE]
  exact dD b1 _ l1 ab aa.symm ai
 have ei:=zR q om
 obtain⟨x,hx⟩:=eX (m[i])
 obtain⟨ax,ae,al⟩:=hm x (hx▸Aa q)
 refine zA ?_
 simp[go_sem,q,hx]
 have aL:=NG ae
 have aE:=S9 x.v om (by grind)
 refine xS7 aE cB (by simp[bP,cK,cG,bG.row]) ⟨zK,tV⟩ ?_
 simp[go_sem,dE]
 obtain⟨E,hE⟩:=eX (fM T x.v st.cu x.v)
 rw[A2 q,hx,ga,hE]at aa
 rw[A2 q,hx,lZ,hE]at ab
 have ay:=aC.cu
 refine zH (S:=Nat×List bG) [0,3,5,6,8,9,11,12,18,19,20,28,29,30] (λu=> [.ptr 3 0,.cJ 4 3 m.length 0 m.length,.ptr 5 0,.ptr 6 0,.ptr 7 0,.int .i64 0,.ptr 8 0,.cJ 9 3 x.v.length 0 x.v.length,.cJ 4 3 m.length 0 m.length,.int .i64 m.length,.int .i64 i,.sl .ro (st.cu.map bY.row),.int .i64 st.cu.length,.int .i64 u.1])
  (λu=> [a.ob .str,b1.ob .str,sn.ob (V.int .i64),.box [.sl .ro xZ,.sl .ro (bM.map bI.row),.mp 0,.mp 1,.mp 2],.cc (m.map Ln.row) 3,.box T.row,.box st.row,.box dE,.box x.row,.cc (u.2.map bG.row) 3]) (λu=>st.cu.length - u.1)
  (λu=>u.1<=st.cu.length/\u.2.length=x.v.length/\fM T x.v (st.cu.drop u.1) u.2=E) hc hb (0,x.v) ⟨A5 _,rfl,hE⟩ ?_ ?_
 .exact ca 10 (by simp[go_sem,dE]) rfl (af b1 x x.v) dc (zD sg rfl)
 rintro⟨j,row⟩ ⟨hj,aj,ad⟩
 simp only at hj aj ad
 by_cases qj:j<st.cu.length
 .have ej:=zR qj om
  obtain⟨y,hy⟩:=eX (st.cu[j])
  have aF:=(ay.2 y (hy▸Aa qj)).2
  have aP:=ar y (hy▸Aa qj)
  rw[A2 qj,hy,fM]at ad
  have ah:=JO T aw x.v ae.ok y.e aF
  have az:Pure prog 156 [.agg T.row,.str y.name] (.int .i64 (cy T y.name)):=EN T y.name aw
  obtain⟨k,hk⟩: ∃k:Nat,cy T y.name=k:=⟨(cy T y.name).toNat,om⟩
  have aQ:k<row.length:=by
   have h1:=TJ T y.name
   grind
  have aG:k<x.v.length:=om
  rw[hk]at az ad
  simp only[Ax]at ad
  obtain⟨⟨v,er⟩,hv⟩: ∃kv,fX T x.v y.e=kv:=⟨_,rfl⟩
  rw[hv]at ad ah
  simp only at ad
  refine zA ?_
  simp[go_sem,qj,hy]
  refine zM ah cB ⟨zC rfl,zK,ve y.e,tV⟩ rfl ?_
  simp[go_sem,eV]
  by_cases q2:er=0
  rotate_left
  .have an:(er !=0)=true:=sU q2
   rw[afb q2]at ad
   subst ad
   simp only at aa ab
   rw[afb q2]at aa ab
   simp[go_sem,an,dE]
   exact bad b1 er _ ab (by rw[<-aa]) q2
  have an:(er !=0)=false:=sU q2
  rw[afa (λh=>h q2)]at ad
  simp[go_sem,an]
  refine yV [(4,0)] 12 rfl kR kR ?_
  simp[go_sem]
  refine pD az ?_
  simp[go_sem]
  refine zI om ?_
  simp[go_sem,aj,aG,ej]
  exact zG (j+1,row.set k v) ⟨om,(by grind),ca 10 (by simp[go_sem,dE]) rfl (af b1 x _) dc (zD sg rfl)⟩
 rw[A8 om,fM]at ad
 subst ad
 simp only at aa ab
 rw[afa (λh=>h rfl)]at aa ab
 have aR:=hlen x ae al
 have aH: ∀v∈row,v.ok:=by
  have h1:=JP (T:=T) ae.ok (cu:=st.cu) (row:=x.v) (λy hy=>(ay.2 y hy).2) ae.ok
  grind
 have ak:=SA T row (by unfold maxLen;omega)
 have a1:wF (row.map bG.row):=by simp[wF,o8,bG.row]
 obtain⟨mr,a6⟩:=eX (eD T.bW row)
 rw[a6]at aa ak ab
 have aI:mr=0->iv row:=(by grind[EZ])
 have ao:=λh0=>Rv row (aI h0)
 obtain⟨w0,a7⟩: ∃w0,b1.at x.at=some w0:=by
  cases h:b1.at x.at with
  |none=>have:=ag x.at;rw[ax,ai.gu.1 h]at this;grind
  |some w=>exact⟨w,rfl⟩
 have eB:b1.ob .str= .mp (fL .str b1.W) b1.bs b1.cD:=rfl
 have a8:dw (x.r,x.k) b1.W=some w0:=a7
 have aA:=xp8 (d:=yP row) (r:=x.r) (k:=x.k) a7
 have aB:mr=0->cw (b1.put x.at (yP row)) (iT l1 x.at row):=λh0=>ai.G6 x.at row (by rw[ag];exact ax) ⟨⟨tn,T,al,hT,a6.trans h0⟩,ae.err,aH⟩
 have aJ:ij (row.map bG.row) 0 x.v.length=row.map bG.row:=by
  rw[<-aj]
  unfold ij
  rw[Az,Aj sm,Be]
  rfl
 refine zA ?_
 simp[go_sem,qj]
 refine WM ak cB (.step 9 3 (row.map bG.row) rfl a1 (.refl _ _)) (zN (by simp[fB,jh,jg,iI,aJ,aj,go_sem]) rfl) rfl ?_
 simp[go_sem]
 by_cases m0:mr=0
 rotate_left
 .have aq:(mr !=0)=true:=sU m0
  rw[afb m0]at aa ab
  simp[go_sem,aq,dE]
  exact bad b1 mr _ ab (by rw[<-aa]) m0
 have aq:(mr !=0)=false:=sU m0
 rw[afa (λh=>h m0)]at aa ab
 simp[go_sem,aq]
 refine yV [(7,1)] 10 rfl kR kR ?_
 simp[go_sem]
 refine WK (ao m0) cB (λs hs=>⟨_,_,.step 9 3 (row.map bG.row) ((Kp.get (k:=Kp.pre 10) rfl hs).trans rfl) a1 (.refl _ _),zN (by grind[fB,jh,jg,iI]) rfl⟩) rfl ?_
 simp[go_sem,eB,ot,a8,kL,lh,aA,ei]
 exact zG (i+1,b1.put x.at (yP row),iT l1 x.at row) ⟨om,⟨q,aB m0,λp=>by show ib (iT l1 x.at row) p=_;rw[Tf];grind,aa,ab⟩,ca 8 (by simp[go_sem,dE];rfl) rfl (av _) dc (zD sg rfl)⟩
theorem yC6 (l:List bG) (hl:l.length<=10000) (hz:l≠ []):Pure prog 160 [.sl .ro (l.map bG.row)] (.sl .ro (l.map bG.row)):=by
 refine(S9 l hl hz).HO λr s h=> ?_
 obtain⟨rfl,rfl⟩:=h
 have aa:ij (l.map bG.row) 0 l.length=l.map bG.row:=by
  unfold ij
  rw[Az,Aj sm,Be]
  rfl
 refine⟨_,_,.step 0 3 (l.map bG.row) rfl (by grind[wF,o8,bG.row]) (.refl _ _), ?_⟩
 simp_all[fB,jh,jg,iI,zK]
def oB (r:Ot×Int):V:= .cm [.agg r.1.row,.int .i64 r.2]
theorem xL6 (T:bI) (name:afE) (h:0<=cy T name): ∃k:Nat,cy T name=k/\k<T.bW.length:=by
 have:=TJ T name
 exact⟨(cy T name).toNat,om,om⟩
theorem xQ6 (T:bI) (st:bQ) (l:List Ln) (h:yx st.items=false):k5 T st l=(if(ow T st.items (kZ st.dg (if 0<=cy T st.order then ov (cy T st.order).toNat st.down l else l)) []).2≠0 then(⟨0,[]⟩,(ow T st.items (kZ st.dg (if 0<=cy T st.order then ov (cy T st.order).toNat st.down l else l)) []).2)else(⟨0,(ow T st.items (kZ st.dg (if 0<=cy T st.order then ov (cy T st.order).toNat st.down l else l)) []).1⟩,0)):=by
 simp_all[k5]
theorem NH (c:Nat) (down:Bool) (l:List Ln):(ov c down l).Perm l:=by
 unfold ov
 have h: ∀(m out:List Ln),(m.foldl (λout x=>G4 (λy=>decide (0<pW c down y x)) out x) out).Perm (out++m):=by
  intro m
  induction m with
  |nil=>simp
  |cons x m ih=>
   intro out
   refine(ih _).trans ?_
   refine((TC _ out x).append_right m).trans ?_
   exact Da.symm
 grind
def Hk (T:bI) (st:bQ) (l:List Ln):List Ln:=if yx st.items=true then l else if 0<=cy T st.order then ov (cy T st.order).toNat st.down l else l
theorem yu4 (tn:Nat) (T:bI) (hT:bM[tn]? =some T) (st:bQ) (al:kg st) (hit:st.items≠ []) (l:List Ln) (hl:l.length<=10000) (cH: ∀x∈l,eQ x/\x.v.length=T.bW.length):
  bK prog 91 [.agg T.row,.agg st.row,.cJ 0 3 l.length 0 l.length] [.cc (l.map Ln.row) 3] (λr s=>r=oB (k5 T st l)/\s= [.cc ((Hk T st l).map Ln.row) 3]):=by
 have an:T.bW.length<=maxLen:=(by decide: ∀T∈bM,T.bW.length<=maxLen) T (by grind)
 have aQ:T.bW.length<=20:=(by decide: ∀T∈bM,T.bW.length<=20) T (by grind)
 have aw:=xT4 st al
 have ae:=wf4 T an st al l hl (λx hx=>(cH x hx).1.ok)
 obtain⟨wb,ax⟩:=eX (yx st.items)
 rw[ax]at aw
 have ag:Pure prog 156 [.agg T.row,.str st.order] (.int .i64 (cy T st.order)):=EN T st.order an
 obtain⟨M,hM⟩:=eX (k5 T st l)
 rw[hM]
 obtain⟨C,hC⟩:=eX (Hk T st l)
 rw[hC]
 have aR:wb=true->C=l:=λh=>by simp_all[Hk]
 have aS:wb=false->C=if 0<=cy T st.order then ov (cy T st.order).toNat st.down l else l:=λh=>by simp_all[Hk]
 have ay:wb=true->pY (pV T l st.items [])=oB M:=λh=>by
  rw[<-hM]
  unfold pY oB k5
  grind
 have az:=λh:wb=false=>(xQ6 T st l (ax.trans h)).symm.trans hM
 clear hM
 refine iV 1 func91 ntmps91 results91 λc hc hb=> ?_
 refine zO (zA ?_)
 simp[go_sem]
 refine zO (zA ?_)
 simp[go_sem]
 refine pC aw ?_
 refine(A4 wb).elim (λw=> ?_) (λw=> ?_)
 .rw[ay w]at ae
  simp[go_sem,w]
  refine lF 0 ae cB rfl (by grind[bP,cK,cG,Ln.row]) ⟨zC rfl,zC rfl,.inl rfl,tV⟩ (by rintro r s ⟨rfl,rfl⟩;exact⟨_,rfl,by grind[bP,cK,cG,Ln.row]⟩) ?_
  rintro r o ⟨rfl,ho⟩
  cases ho
  simp[go_sem,oB,Ot.row]
  exact xM 1 (s:= [.cc (l.map Ln.row) 3]) (r:= .cm [.agg (Ot.row M.1),.int .i64 M.2]) rfl rfl (by simp[bP,cK,cG,Ln.row]) om (wK ⟨oK ⟨yX,zU rfl,tV⟩,mf rfl,tV⟩) ⟨rfl,by grind⟩
 .have hM:=az w
  clear ay az ae
  obtain⟨m,hm⟩:=eX ((if 0<=cy T st.order then ov (cy T st.order).toNat st.down l else l))
  rw[hm]at hM
  have a1:C=m:=(by grind)
  have aE:m.Perm l:=by
   grind[NH,List.Perm.refl]
  have ao:=aE.length_eq
  have a6:0<=cy T st.order-> ∃k:Nat,cy T st.order=k/\bK prog 157 [.gy 195 [.cJ 0 3 l.length 0 l.length],.fn 158 [.ptr 3 0,.ptr 5 0,.ptr 2 0]] (jb T st k (l.map Ln.row) l.length) (λr s=>r= .cm []/\s=jb T st k (m.map Ln.row) l.length):=λh0=>by
   obtain⟨k,hk,ah⟩:=xL6 T st.order h0
   have hs:=ym4 T st k om l hl (by grind)
   rw[afb h0,hk,Ax]at hm
   rw[hm]at hs
   exact⟨k,hk,hs⟩
  have aj: ¬0<=cy T st.order->m=l:=(by grind)
  clear hm
  simp[go_sem,w]
  refine nM (S:=Unit) [3,4,5,6] (λ_=> [.ptr 1 0,.ptr 2 0,.ptr 3 0,.ptr 4 0]) (λ_=>jb T st (cy T st.order) (m.map Ln.row) l.length) (λ_=>True) hc hb ?_ ?_
  .by_cases h0:0<=cy T st.order
   .obtain⟨k,hk,hs⟩:=a6 h0
    rw[hk]at ag⊢
    refine zA ?_
    simp[go_sem]
    refine pC ag ?_
    simp[go_sem,vX]
    refine F1 (bU:= []) (args:= [.gy 195 [.cJ 0 3 l.length 0 l.length],.fn 158 [.ptr 3 0,.ptr 5 0,.ptr 2 0]]) hs cB ?_
    rintro r s ⟨rfl,rfl⟩ _
    simp[go_sem]
    exact zG () ⟨tV,ca 6 (by rfl) rfl (by grind[y6]) dc (zD (by rfl) rfl)⟩
   .rw[aj h0]
    refine zA ?_
    simp[go_sem]
    refine pC ag ?_
    simp[go_sem,h0]
    exact zG () ⟨tV,ca 6 (by rfl) rfl (by grind[y6]) dc (zD (by rfl) rfl)⟩
  rintro _ _
  clear a6 aj ag
  generalize cy T st.order=ad at*
  obtain⟨k,a7,ah⟩: ∃k,kZ st.dg m=m.take k/\k<=m.length/\(k=if 0<=st.dg/\st.dg<m.length then st.dg.toNat else m.length):=by
   unfold kZ
   grind
  obtain⟨ah,ab⟩:=ah
  rw[a7]at hM
  rw[ao]at ah ab
  refine nM (S:=Unit) [3,4,5,6] (λ_=> [.ptr 1 0,.ptr 2 0,.ptr 3 0,.ptr 4 0]) (λ_=> [.cc (m.map Ln.row) 3,.box T.row,.box st.row,.box [.cJ 0 3 l.length 0 k],.box dE,.box [.int .i64 ad]]) (λ_=>True) hc hb ?_ ?_
  .have aq:([.cc (m.map Ln.row) 3,.box T.row,.box st.row,.box [.cJ 0 3 l.length 0 k],.box dE,.box [.int .i64 ad]]:St).all (bP 6)=true:=by simp[bP,cK,cG,Ln.row,bI.row,bQ.row,dE]
   by_cases h0:0<=st.dg
   .by_cases h1:st.dg<l.length
    .rw[afb ⟨h0,h1⟩]at ab
     refine zA ?_
     simp[go_sem,jb,h0,h1]
     refine zI om ?_
     simp[go_sem,<-ab]
     exact zG () ⟨tV,ca 6 (by rfl) rfl aq dc (zD (by rfl) rfl)⟩
    .rw[afa om]at ab
     subst ab
     refine zA ?_
     simp[go_sem,jb,h0,h1]
     exact zG () ⟨tV,ca 6 (by rfl) rfl aq dc (zD (by rfl) rfl)⟩
   .rw[afa om]at ab
    subst ab
    refine zA ?_
    simp[go_sem,jb,h0]
    exact zG () ⟨tV,ca 6 (by rfl) rfl aq dc (zD (by rfl) rfl)⟩
  rintro _ _
  clear ab a7
  refine zO (zA ?_)
  simp[go_sem]
  refine F0 6 0 1 _ dc rfl rfl ?_
  obtain⟨y0,ys,aT⟩: ∃y0 ys,st.items=y0::ys:=by
   cases h:st.items<;>grind
  obtain⟨uJ,hJ⟩:=eX st.items
  obtain⟨aF,a8⟩:=al.items
  rw[hJ]at aF a8 hM
  have aG:uJ.head?.map (·.kind)=some y0.kind:=by grind
  have ai: ∃h:0<uJ.length,uJ[0]=y0:=by grind
  obtain⟨aA,ai⟩:=ai
  obtain⟨P,hP⟩:=eX (ow T uJ (m.take k) [])
  rw[hP]at hM
  have aH: ∀x∈m,eQ x:=(by grind)
  have fin: ∀(rows:List (List bG)) (Ul:St),P=(rows,0)->cj (some (.cm [.agg [.sl (.app 7) (rows.map λr=> [V.sl .ro (r.map bG.row)]),.int .i64 0],.int .i64 0])) 1 (λr s=>r=oB M/\s= [.cc (C.map Ln.row) 3]) (.cc (m.map Ln.row) 3::Ul):=λrows Ul h=>by
   rw[h,afa om]at hM
   exact xM 1 (s:= [.cc (m.map Ln.row) 3]) (r:= .cm [.agg (Ot.row ⟨0,rows⟩),.int .i64 0]) rfl rfl (by simp[bP,cK,cG,Ln.row]) om (wK ⟨oK ⟨yX,zU rfl,tV⟩,mf rfl,tV⟩) ⟨by rw[<-hM];rfl,by rw[a1]⟩
  have bad: ∀(er:Int) (Ul:St),P.2=er->er≠0->cj (some (.cm [.agg [.sl .full [],.int .i64 0],.int .i64 er])) 1 (λr s=>r=oB M/\s= [.cc (C.map Ln.row) 3]) (.cc (m.map Ln.row) 3::Ul):=λer Ul h h0=>by
   rw[h,afb h0]at hM
   exact xM 1 (s:= [.cc (m.map Ln.row) 3]) (r:= .cm [.agg (Ot.row ⟨0,[]⟩),.int .i64 er]) rfl rfl (by simp[bP,cK,cG,Ln.row]) om (wK ⟨oK ⟨yX,zU rfl,tV⟩,mf rfl,tV⟩) ⟨by rw[<-hM];rfl,by rw[a1]⟩
  clear hM
  have ar: ∀n:Nat,∀out:List (List bG),([.cc (m.map Ln.row) 3,.box T.row,.box st.row,.box [.cJ 0 3 l.length 0 k],.box dE,.box [.int .i64 ad],.box [.sl (.app 7) (out.map λr=> [V.sl .ro (r.map bG.row)]),.int .i64 0],.app n 1]:St).all (bP 8)=true:=λn out=>by simp[bP,cK,cG,Ln.row,bI.row,bQ.row,dE]
  refine zO (zA ?_)
  simp[go_sem]
  refine zH (S:=Nat×List (List bG)) [3,4,6,9,49,50,51] (λu=> [.ptr 1 0,.ptr 2 0,.ptr 4 0,.ptr 6 0,.cJ 0 3 l.length 0 k,.int .i64 k,.int .i64 u.1])
   (λu=> [.cc (m.map Ln.row) 3,.box T.row,.box st.row,.box [.cJ 0 3 l.length 0 k],.box dE,.box [.int .i64 ad],.box [.sl (.app 7) (u.2.map λr=> [V.sl .ro (r.map bG.row)]),.int .i64 0],.app u.2.length 1]) (λu=>k - u.1)
   (λu=>u.1<=k/\u.2.length<=u.1/\ow T uJ ((m.take k).drop u.1) u.2=P) hc hb (0,[]) (by grind) ?_ ?_
  .exact ca 8 (by rfl) rfl (ar 0 []) dc (zD (by rfl) rfl)
  rintro⟨i,out⟩ ⟨hi,aI,hinv⟩
  simp only at hi aI hinv
  by_cases q:i<k
  rotate_left
  .rw[A8 (by grind),ow]at hinv
   refine zA ?_
   simp[go_sem,q]
   refine zA ?_
   simp[go_sem,dE]
   exact fin out _ hinv.symm
  have ei:=zR q om
  have aJ:i<m.length:=om
  have aB:i<l.length:=om
  obtain⟨x,hx⟩:=eX (m[i])
  have aU:m[i]? =some x:=by grind
  have aC:=aH x (hx▸Aa aJ)
  have aD:=NG aC
  rw[A2 (by grind),List.getElem_take,hx,ow,aG]at hinv
  by_cases k1:y0.kind=1
  .have au:(y0.kind==1)=true:=by grind
   rw[afb (by rw[k1])]at hinv
   have aK:=yC6 x.v om (λh=>by rw[h]at aD;simp at aD)
   refine zA ?_
   simp[go_sem,q,aB,ao,hx,hJ,aA,ai,au]
   refine nR [(3,2),(4,0),(6,3)] 7 sm (by rfl) kR ?_
   simp[go_sem]
   refine pD aK ?_
   simp[go_sem]
   refine zI ⟨om,zX rfl⟩ ?_
   simp[go_sem,ei]
   exact zG (i+1,out++ [x.v]) ⟨om,(by grind),ca 8 (by simp_all) rfl (ar _ _) dc (zD (by rfl) rfl)⟩
  .have au:(y0.kind==1)=false:=by grind
   rw[afa (by grind)]at hinv
   obtain⟨E,hE⟩:=eX (dP T x.v (uJ.map (·.e)) [])
   rw[hE]at hinv
   have ak: ∀n:Nat,∀out:List (List bG),([.cc (m.map Ln.row) 3,.box T.row,.box st.row,.box [.cJ 0 3 l.length 0 k],.box dE,.box [.int .i64 ad],.box [.sl (.app 7) (out.map λr=> [V.sl .ro (r.map bG.row)]),.int .i64 0],.app out.length 1,.box x.row,.app n 3]:St).all (bP 10)=true:=λn out=>by simp[bP,cK,cG,Ln.row,bI.row,bQ.row,dE]
   refine zA ?_
   simp[go_sem,q,aB,ao,hx,hJ,aA,ai,au]
   refine rL 12 3 dc (by rfl) ?_
   refine zH (S:=Nat×List bG) [3,4,6,9,11,12,49,50,51,70,71,72] (λu=> [.ptr 1 0,.ptr 2 0,.ptr 4 0,.ptr 6 0,.ptr 8 0,.sl (.app 9) (u.2.map bG.row),.cJ 0 3 l.length 0 k,.int .i64 k,.int .i64 i,.sl .ro (uJ.map cx.row),.int .i64 uJ.length,.int .i64 u.1])
    (λu=> [.cc (m.map Ln.row) 3,.box T.row,.box st.row,.box [.cJ 0 3 l.length 0 k],.box dE,.box [.int .i64 ad],.box [.sl (.app 7) (out.map λr=> [V.sl .ro (r.map bG.row)]),.int .i64 0],.app out.length 1,.box x.row,.app u.2.length 3]) (λu=>uJ.length - u.1)
    (λu=>u.1<=uJ.length/\u.2.length<=u.1/\dP T x.v ((uJ.drop u.1).map (·.e)) u.2=E) hc hb (0,[]) (by grind) ?_ ?_
   .exact ca 10 (by simp[go_sem,hJ]) rfl (ak _ _) dc (zD (by rfl) rfl)
   rintro⟨j,acc⟩ ⟨hj,aL,aa⟩
   simp only at hj aL aa
   by_cases p:j<uJ.length
   .have ej:=zR p om
    obtain⟨y,hy⟩:=eX (uJ[j])
    have aP:=(a8 y (hy▸Aa p)).2
    rw[A2 p,hy,Ai,dP]at aa
    have af:=JO T an x.v aC.ok y.e aP
    obtain⟨⟨v,er⟩,hv⟩: ∃kv,fX T x.v y.e=kv:=⟨_,rfl⟩
    rw[hv]at aa af
    simp only at aa
    refine zA ?_
    simp[go_sem,p,hy]
    refine zM af cB ⟨zC rfl,zK,ve y.e,tV⟩ rfl ?_
    simp[go_sem,eV]
    by_cases q2:er=0
    rotate_left
    .have av:(er !=0)=true:=by grind
     rw[afb q2]at aa
     subst aa
     simp only at hinv
     rw[afb q2]at hinv
     simp[go_sem,av,dE]
     exact bad er _ (by grind) q2
    have av:(er !=0)=false:=by grind
    rw[afa om]at aa
    simp[go_sem,av]
    refine zI ⟨om,zX rfl⟩ ?_
    simp[go_sem,ej]
    exact zG (j+1,acc++ [v]) ⟨om,(by grind),ca 10 sm rfl (ak _ _) dc (zD sg rfl)⟩
   .rw[A8 om,Bk,dP]at aa
    subst aa
    simp only at hinv
    rw[afa om]at hinv
    refine zA ?_
    simp[go_sem,p]
    refine zI ⟨om,zX rfl⟩ ?_
    simp[go_sem,ei]
    exact zG (i+1,out++ [acc]) ⟨om,(by grind),ca 8 sm rfl (ar _ _) dc (zD (by rfl) rfl)⟩
end Go.Proofs.YtefbicjgbaaieaaGreat
