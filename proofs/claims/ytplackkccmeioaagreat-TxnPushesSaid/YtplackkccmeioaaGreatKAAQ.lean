/-
  exec.choose: what a SELECT tells of the rows that it meets; used by the walk of exec.Run.
  Conditions: as the theorem states them.
-/
import Derived.Test.YtplackkccmeioaaGreatKAAO
import Derived.Test.YtplackkccmeioaaGreatKAAP
import Derived.Test.YtplackkccmeioaaGreatKAAE
import Derived.Test.YtplackkccmeioaaGreatKAAF
import Derived.Test.YtplackkccmeioaaGreatKAAN
import Derived.Test.YtplackkccmeioaaGreatKAAG
set_option maxHeartbeats 8000000
namespace Go.Proofs.YtplackkccmeioaaGreat
open Go Go.Vx R Go.Proofs.Tryz
set_option maxRecDepth 100000
def Iv (a b:Mp aiA) (sn:Mp Int) (M:List Ln×Int) (r:V) (s:St):Prop:=
 (M.2≠0/\s=dm a b sn/\r= .cz [.sl .ro [],.int .i64 M.2])\/(M.2=0/\s=dm a b sn++ [.cd (M.1.map Ln.row) 3]/\r= .cz [.cL 4 3 M.1.length 0 M.1.length,.int .i64 0])
theorem fM.Iw {x:Ln} (h:fM x):iY x.v:=by
 obtain⟨tn,T,_,hT,hm⟩:=h.jA
 exact Gr ((by decide: ∀T∈bO,T.cm.length<=20) T (by grind)) h.ok hm
theorem O6 {nt:Nat} {d:Option Tmp} {K:KT} {e:Env} {I:St} {i id cV:Nat} {seen:aiB} {b:Mp aiA} {R0:Vx.R} (hR:R0=ni true I (.ptr i 0)) (hi:I[i]? =some (.it (some id) cV seen cV)) (hid:I[id]? =some (.mp (gA V.str b.W) b.bs cV)) (hb: ∀x∈b.bs,x<cV)
  (h0:jX seen b.W b.bs= []->iJ nt d (.cz [.bool false]) K fx e I) (h1: ∀p∈jX seen b.W b.bs,iJ nt d (.cz [.bool true,ia p.1.1,.str p.1.2]) K fx e (I.set i (.it (some id) cV (seen++ [p.2]) cV))):dU nt d R0 K fx e I:=by
 subst hR
 have aa:(b.bs.all λx=>decide (x<cV))=true:=(by grind)
 unfold ni
 simp only[hi,hid,aa,A7,and_self,aib,Ve]
 match hL:jX seen b.W b.bs with
 | []=>exact h0 hL
 | [p]=>exact h1 p (by grind)
 |p::q::r=>
  simp only[Ah]
  rw[YO]
  refine YP λx hx=> ?_
  have ab:x∈(p::q::r).map λp:(Pl×aiA)×Nat=>((.cz [.bool true,ia p.1.1,.str p.1.2]:V),I.set i (.it (some id) cV (seen++ [p.2]) cV)):=by
   grind
  obtain⟨y,hy,rfl⟩:=Ab.1 ab
  exact h1 y (by grind)
theorem Vu {a b:Mp aiA} {sn:Mp Int} {m:List Ln} {k:Nat} {I:St} (hk:4<=k) (h4:I.take 4=dm a b sn) (cJ:I[k]? =some (.cd (m.map Ln.row) 3)):cw (some (.cz [.cL k 3 m.length 0 m.length,.int .i64 0])) 4 (Iv a b sn (m,0)) I:=by
 refine M9 [0,1,2,3,k] (s:=dm a b sn++ [.cd (m.map Ln.row) 3]) (r:= .cz [.cL 4 3 m.length 0 m.length,.int .i64 0]) ?_ (λi hi=> ?_) rfl (λi j o ab ho=> ?_) (.inl (by rfl)) (.inr sm)
 .grind
 .match i,hi with
  |0,_=>rfl
  |1,_=>rfl
  |2,_=>rfl
  |3,_=>rfl
 .by_cases q:i<4
  .have e:j=i:=by
    grind
   subst e
   have h1:(dm a b sn)[j]? =some o:=by grind
   have aa:bT 4 o:=Am.1 (by grind[wC]) o (Bk h1)
   rw[yY (n:=4) (λx hx=> ?_) aa]
   .grind
   .rw[wV (by grind)]
    match x,hx with
    |0,_=>rfl
    |1,_=>rfl
    |2,_=>rfl
    |3,_=>rfl
  .have e:i=4:=by
    grind
   subst e
   have e1:o= .cd (m.map Ln.row) 3:=by grind
   have e2:j=k:=by grind
   subst e1;subst e2
   rw[yY (n:=0) om (by grind[bT,cS,cN,Ln.row])]
   omega
theorem xA4 (T:bL) (st:bW) (acc:List Ln) (x:Ln) (l:List Ln):uh T st acc (x::l)=if(gN T x.v st.cE).2≠0 then([],(gN T x.v st.cE).2)else uh T st (if Eu (gN T x.v st.cE).1=true then acc++ [x]else acc) l:=rfl
theorem wr0 (tn:Nat) (T:bL) (hT:bO[tn]? =some T) (st:bW) (aI:k6 st) (hv:K8 st) (a b:Mp aiA) (sn:Mp Int) (l:List Ln) (aa:cM b l) (hl:l.length<=10000):
  bN prog 106 [.ptr 3 0,.int .i64 tn,.agg st.row] (dm a b sn) (Iv a b sn (gh tn T st l)):=by
 obtain⟨ax,aJ⟩:=A4.1 hT
 have h3:tn<3:=ax
 have ay:=Ti xJ bO tn st dC dC (by grind[K6,maxLen]) hv
 have az:=To tn st (by have:=K6 st;unfold maxLen;omega)
 obtain⟨⟨lo,hi⟩,a1⟩: ∃bd,nP bO tn st=bd:=⟨_,rfl⟩
 rw[a1]at ay
 obtain⟨G,hG⟩:=eX (wA tn st)
 have aK:=T6 tn st
 have a6:=λg (hg:g∈wA (tn:Int) st)=>Vl tn h3 hg
 rw[hG]at az aK a6
 refine iV 4 func106 ntmps106 results106 λc hc hb=> ?_
 refine zO (zA ?_)
 simp[go_sem,dm,fR]
 refine zO (zA ?_)
 simp[go_sem]
 refine yI [(6,0)] 5 rfl kR kR ?_
 simp[go_sem]
 refine pD ay ?_
 simp[go_sem,KS]
 refine zO (zA ?_)
 simp[go_sem]
 refine FM 10 3 dC sg ?_
 refine zO (zA ?_)
 simp[go_sem]
 refine yI [(6,0)] 6 rfl kR kR ?_
 simp[go_sem]
 refine pD az ?_
 simp[go_sem]
 have a7: ∀(m:List Ln),([a.ob .str,b.ob .str,sn.ob (V.int .i64),.box [.sl .ro xJ,.sl .ro (bO.map bL.row),.mp 0,.mp 1,.mp 2],.box st.row,.cd (m.map Ln.row) 3]:St).all (bT 6)=true:=λm=>by
  have h:=wC 6 om a b sn
  simp_all[dm,bT,cS,cN,bW.row,Ln.row]
 have eB:b.ob .str= .mp (gA .str b.W) b.bs b.cV:=rfl
 have aL: ∀x∈b.bs,x<b.cV:=aa.ok.lt
 have ad: ∀(m:List Ln) (se:aiB),([a.ob .str,b.ob .str,sn.ob (V.int .i64),.box [.sl .ro xJ,.sl .ro (bO.map bL.row),.mp 0,.mp 1,.mp 2],.box st.row,.cd (m.map Ln.row) 3,.it (some 1) b.cV se b.cV]:St).all (bT 7)=true:=λm se=>by
  have h:=wC 7 om a b sn
  simp_all[dm,bT,cS,cN,bW.row,Ln.row]
 refine zI (S:=Nat×List Ln) [0,1,5,8,9,10,40,41,42] (λu=> [.ptr 3 0,.int .i64 tn,.ptr 4 0,.str lo,.str hi,.cL 5 3 u.2.length 0 u.2.length,.sl .ro (G.map yS),.int .i64 G.length,.int .i64 u.1])
  (λu=> [a.ob .str,b.ob .str,sn.ob (V.int .i64),.box [.sl .ro xJ,.sl .ro (bO.map bL.row),.mp 0,.mp 1,.mp 2],.box st.row,.cd (u.2.map Ln.row) 3]) (λu=>G.length - u.1)
  (λu=>u.1<=G.length/\u.2.Perm ((G.take u.1).flatMap λg=>l.filter (Iu (xF tn g).1 lo hi))/\u.2.length<=u.1*10000) hc hb (0,[]) sm ?_ ?_
 .exact aN 6 (a7 [])
 rintro⟨i,acc⟩ ⟨aP,ak,aQ⟩
 simp only at aP ak aQ
 by_cases q:i<G.length
 .have ei:=zU q om
  obtain⟨g,hg⟩:=eX (G[i])
  obtain⟨bc,aR,a8⟩:=a6 g (hg▸A8 q)
  have aA:=H0 tn g om om
  obtain⟨dw,aB⟩:=eX ((xF tn g).1)
  have aS:xF tn g=(dw,0):=Prod.ext aB aR
  rw[aS]at aA a8
  refine zA ?_
  simp[go_sem,q,hg,yS]
  refine pC aA ?_
  simp[go_sem,En,eB]
  refine zI (S:=aiB×List (Pl×aiA)) [0,1,5,8,9,10,13,40,41,42,60] (λu=> [.ptr 3 0,.int .i64 tn,.ptr 4 0,.str lo,.str hi,.cL 5 3 (acc++(u.2.filter (p6 dw lo hi)).map (vu tn)).length 0 (acc++(u.2.filter (p6 dw lo hi)).map (vu tn)).length,.int .i64 dw,.sl .ro (G.map yS),.int .i64 G.length,.int .i64 i,.ptr 6 0])
   (λu=> [a.ob .str,b.ob .str,sn.ob (V.int .i64),.box [.sl .ro xJ,.sl .ro (bO.map bL.row),.mp 0,.mp 1,.mp 2],.box st.row,.cd ((acc++(u.2.filter (p6 dw lo hi)).map (vu tn)).map Ln.row) 3,.it (some 1) b.cV u.1 b.cV]) (λu=>(jX u.1 b.W b.bs).length)
   (λu=>ib u.1 b.W b.bs u.2) hc hb ([],[]) (ib.start aa.ok.len) ?_ ?_
  .exact cc 7 (by simp[go_sem];rfl) rfl (ad _ _) dC (zD sg rfl)
  rintro⟨se,D⟩ hD
  simp only at hD
  refine uO 61 dC ?_
  refine zA ?_
  simp[go_sem,eB]
  have aC: ∀p∈jX se b.W b.bs,p.1.2.length<=cH:=λp hp=>by
   obtain⟨x,hx,aT⟩:=Ab.1 (aa.perm.mem_iff.1 (List.of_mem_zip (Lv hp)).1)
   rw[<-aT]
   have:=Of (fM.Iw (aa.rows x hx)) x.v.length
   exact Ax this dC
  have bf:D.length<=10000:=by
   have h1:=hD.length_eq
   rw[aa.perm.length_eq]at h1
   grind
  have bg:((D.filter (p6 dw lo hi)).map (vu tn)).length<=D.length:=by grind
  refine O6 (b:=b) (i:=6) (id:=1) (seen:=se) (cV:=b.cV) (by simp[go_sem,ni]) rfl rfl aL (λhL=> ?_) (λp hp=> ?_)
  .have aU:=yU1 aa (hD.done hL) (t:=tn) (dw:=dw) (by rw[a8]) lo hi
   simp[go_sem,ei]
   exact zJ (i+1,acc++(D.filter (p6 dw lo hi)).map (vu tn)) ⟨om,⟨q,by
    show(acc++_).Perm _
    rw[Ag q,aio,hg]
    grind,by grind⟩,cc 6 (by simp[go_sem];rfl) rfl (a7 _) dC (zD sg rfl)⟩
  .have ae:=Lt (g:=V.str) aa.ok.nd (Lv hp)
   have af:=hD.next aa.ok.nd hp
   have aD:=(Lu aa.ok.nd hp).length_eq
   have ao:=aC p hp
   clear aC
   obtain⟨⟨⟨pr,pk⟩,data⟩,ef⟩:=p
   simp only[ia]at ae af aD ao
   have ab:(jX (se++ [ef]) b.W b.bs).length<(jX se b.W b.bs).length:=by grind
   have an:=S4 xJ bO tn data ao dC
   have aE:vu tn ((pr,pk),data)=⟨pr,pk,(ee bO tn data).1⟩:=rfl
   obtain⟨rf,aV⟩:=eX (ee bO tn data)
   rw[aV]at an aE
   have al:p6 dw lo hi ((pr,pk),data)=((pr==dw)&&(!Op.bytesLess pk lo&&Op.bytesLess pk hi)):=rfl
   clear aD hp ao
   refine(A6 (pr==dw)).elim (λr1=> ?_) (λr1=> ?_)
   rotate_left
   .have hE:p6 dw lo hi ((pr,pk),data)=false:=by rw[al,r1];rfl
    simp[go_sem,ia,qp,ae,r1]
    exact zJ (se++ [ef],D++ [((pr,pk),data)]) ⟨ab,af,cc 7 (by simp[go_sem,hE];rfl) rfl (ad _ _) dC (zD (by simp[go_sem,hE]) rfl)⟩
   refine(A6 (Op.bytesLess pk lo)).elim (λr2=> ?_) (λr2=> ?_)
   .have hE:p6 dw lo hi ((pr,pk),data)=false:=by rw[al,r1,r2];rfl
    simp[go_sem,ia,qp,ae,r1,r2]
    exact zJ (se++ [ef],D++ [((pr,pk),data)]) ⟨ab,af,cc 7 (by simp[go_sem,hE];rfl) rfl (ad _ _) dC (zD (by simp[go_sem,hE]) rfl)⟩
   refine(A6 (Op.bytesLess pk hi)).elim (λr3=> ?_) (λr3=> ?_)
   rotate_left
   .have hE:p6 dw lo hi ((pr,pk),data)=false:=by rw[al,r1,r2,r3];rfl
    simp[go_sem,ia,qp,ae,r1,r2,r3]
    exact zJ (se++ [ef],D++ [((pr,pk),data)]) ⟨ab,af,cc 7 (by simp[go_sem,hE];rfl) rfl (ad _ _) dC (zD (by simp[go_sem,hE]) rfl)⟩
   have hE:p6 dw lo hi ((pr,pk),data)=true:=by rw[al,r1,r2,r3];rfl
   simp[go_sem,ia,qp,ae,r1,r2,r3]
   refine pC an ?_
   simp[go_sem,eH,Cj]
   have bh:(D.filter (p6 dw lo hi)).length<=D.length:=Dj _ _
   refine zH ⟨zY rfl,om⟩ ?_
   simp[go_sem]
   exact zJ (se++ [ef],D++ [((pr,pk),data)]) ⟨ab,af,cc 7 (by simp[go_sem,hE,aE];rfl) rfl (ad _ _) dC (zD (by simp[go_sem,hE,Dx]) rfl)⟩
 .have aW:i=G.length:=om
  have bj: ∀x:Ln,pq tn st x=((G.any λg=>(xF tn g).1==x.r)&&(!Op.bytesLess x.k lo&&Op.bytesLess x.k hi)):=(by grind[pq])
  have ah:acc.Perm (l.filter (pq tn st)):=by
   have h:=yF7 tn h3 st l
   rw[hG,a1]at h
   rw[aW,List.take_length]at ak
   exact ak.trans h
  have hlen:acc.length<=l.length:=by rw[ah.length_eq];grind
  obtain⟨M,hM⟩:=eX (gh tn T st l)
  have aq:st.dP=false->M=(l.filter (pq tn st),0):=λh=>by simp_all[gh]
  have ar:st.dP=true->M=uh T st [] (l.filter (pq tn st)):=λh=>by simp_all[gh]
  rw[hM]
  clear hM
  refine zA ?_
  simp[go_sem,q]
  refine zO (zA ?_)
  simp[go_sem]
  refine RU Tryz.xu rfl cB dC Tryz.nY Tryz.px cB Vc xL8 (f:=Ln.row) (kx:=Ln.at) (λx=>⟨_,rfl,rfl⟩) acc rfl om (λl' au aF=> ?_)
  have aG:=xb8 aa.je (au.symm.trans ah) aF
  have av:acc.length=l'.length:=au.length_eq
  rw[<-aG]at aq ar
  simp[go_sem,av]
  refine zO (zA ?_)
  simp[go_sem]
  refine zV (λh=> ?_) (λh=> ?_)
  .have hf:st.dP=false:=sU h
   rw[aq hf]
   simp[go_sem]
   exact Vu dC rfl rfl
  .have hf:st.dP:=sU h
   have hM:=ar hf
   have bk:l'.length<=10000:=om
   have aX: ∀x∈l',fM x:=λx hx=>aa.rows x (by grind)
   have aY:T.cm.length<=maxLen:=(by decide: ∀T∈bO,T.cm.length<=maxLen) T (Bk hT)
   clear aq ar aG au aF ak ah
   have ai: ∀(m:List Ln),([a.ob .str,b.ob .str,sn.ob (V.int .i64),.box [.sl .ro xJ,.sl .ro (bO.map bL.row),.mp 0,.mp 1,.mp 2],.box st.row,.cd (l'.map Ln.row) 3,.cd (m.map Ln.row) 3]:St).all (bT 7)=true:=(by simp_all[bT,cS,cN,Ln.row])
   refine zO (zA ?_)
   simp[go_sem]
   refine FM 19 3 dC sg ?_
   refine zO (zA ?_)
   simp[go_sem]
   refine zI (S:=Nat×List Ln) [0,1,5,19,105,106,107] (λu=> [.ptr 3 0,.int .i64 tn,.ptr 4 0,.cL 6 3 u.2.length 0 u.2.length,.cL 5 3 l'.length 0 l'.length,.int .i64 l'.length,.int .i64 u.1])
    (λu=> [a.ob .str,b.ob .str,sn.ob (V.int .i64),.box [.sl .ro xJ,.sl .ro (bO.map bL.row),.mp 0,.mp 1,.mp 2],.box st.row,.cd (l'.map Ln.row) 3,.cd (u.2.map Ln.row) 3]) (λu=>l'.length - u.1)
    (λu=>u.1<=l'.length/\u.2.length<=u.1/\uh T st u.2 (l'.drop u.1)=M) hc hb (0,[]) (by grind) ?_ ?_
   .exact aN 7 (ai [])
   rintro⟨j,out⟩ ⟨hj,aZ,hinv⟩
   simp only at hj aZ hinv
   by_cases p:j<l'.length
   rotate_left
   .rw[A9 om,uh]at hinv
    subst hinv
    refine zA ?_
    simp[go_sem,p]
    refine zA ?_
    simp[go_sem]
    exact Vu dC rfl rfl
   have ej:=zU p om
   obtain⟨x,hx⟩:=eX (l'[j])
   have ba:=aX x (hx▸A8 p)
   rw[A5 p,hx,xA4]at hinv
   have aj:=Lq T aY x.v ba.ok st.cE aI.cE
   obtain⟨⟨v,er⟩,hv⟩: ∃kv,gN T x.v st.cE=kv:=⟨_,rfl⟩
   rw[hv]at hinv aj
   simp only at hinv
   have aH:=Uh v
   obtain⟨tv,bb⟩:=eX (Eu v)
   rw[bb]at hinv aH
   refine zA ?_
   simp[go_sem,p,hx]
   refine yI [(12,0)] 8 rfl kR kR ?_
   simp[go_sem,ax,aJ]
   refine wP aj cB (λ_=>⟨zC rfl,zK,xi st.cE,tV⟩) rfl ?_
   simp[go_sem,fm]
   by_cases q2:er=0
   rotate_left
   .have aw:(er !=0)=true:=sU q2
    rw[ai2 q2]at hinv
    subst hinv
    simp[go_sem,aw]
    exact yZ 4 (s:=dm a b sn) (r:= .cz [.sl .ro [],.int .i64 er]) rfl rfl (wC 4 dC a b sn) (A7 _) (yW ⟨uQ,xV rfl,tV⟩) (.inl ⟨q2,rfl,rfl⟩)
   have aw:(er !=0)=false:=sU q2
   rw[ai1 (λh=>h q2)]at hinv
   simp[go_sem,aw]
   refine pC aH ?_
   refine(A6 tv).elim (λt=> ?_) (λt=> ?_)
   .rw[ai2 t]at hinv
    simp[go_sem,t,Cj]
    refine zH ⟨zY rfl,om⟩ ?_
    simp[go_sem,ej]
    exact zJ (j+1,out++ [x]) ⟨om,(by grind),aN 7 (ai (out++ [x]))⟩
   .rw[ai1 (by rw[t];decide)]at hinv
    simp[go_sem,t,ej]
    exact zJ (j+1,out) ⟨om,(by grind),aN 7 (ai out)⟩
end Go.Proofs.YtplackkccmeioaaGreat
namespace Go.Proofs.YtplackkccmeioaaGreat
open Go Go.Vx Go.Proofs.Tryz
structure Ord (lt:Nat->Nat->Bool):Prop where
 Gs: ∀i,lt i i=false
 tr: ∀i j k,lt i j=true->lt j k=true->lt i k=true
 nt: ∀i j k,lt i j=false->lt j k=false->lt i k=false
variable {a:Nat}{b:Nat}{i:Nat}{k:Nat}{m:Nat}{j:Nat}{lt:Nat->Nat->Bool}{f:Nat->Nat}{g:Nat->Nat}
def TO (lt:Nat->Nat->Bool) (i j:Nat):Prop:=lt i j=true\/lt j i=false/\i<j
theorem Ord.asym (o:Ord lt) (h:lt i j):lt j i=false:=by
 cases q:lt j i
 .rfl
 .have:=o.tr _ _ _ h q;rw[o.Gs]at this;grind
theorem TO.trans (o:Ord lt) (h:TO lt i j) (g:TO lt j k):TO lt i k:=by
 cases q:lt i k with
 |true=>exact .inl q
 |false=>
  rcases h with h|⟨h,h'⟩
  .rcases g with g|⟨g,g'⟩
   .rw[o.tr _ _ _ h g]at q;cases q
   .have:=o.nt _ _ _ q g;grind
  .rcases g with g|⟨g,g'⟩
   .have:=o.nt _ _ _ h q;grind
   .exact .inr ⟨o.nt _ _ _ g h,om⟩
theorem TO.Gs (o:Ord lt) (h:TO lt i i):False:=by
 rcases h with h|⟨_,h⟩
 .rw[o.Gs]at h;cases h
 .omega
theorem TO.xv (o:Ord lt) (h:j<i):TO lt j i↔lt i j=false:=
 ⟨λq=>q.elim o.asym λq=>q.1,λq=> .inr ⟨q,h⟩⟩
def jg (lt:Nat->Nat->Bool) (f:Nat->Nat) (a b:Nat):Prop:= ∀i j,a<=i->i<j->j<b->TO lt (f i) (f j)
def Mv (f f':Nat->Nat) (a b:Nat):Prop:=
 ∃π:Nat->Nat,(∀k,a<=k->k<b->a<=π k/\π k<b)/\(∀k,k<a\/b<=k->π k=k)/\(∀i j,π i=π j->i=j)/\ ∀k,f' k=f (π k)
theorem Mv.refl (f:Nat->Nat) (a b:Nat):Mv f f a b:=⟨id,(by grind),sm,sm,λ_=>rfl⟩
theorem Mv.mono {f':Nat->Nat} {c d:Nat} (h:Mv f f' a b) (h1:c<=a) (h2:b<=d):Mv f f' c d:=by
 obtain⟨π,p1,p2,p3,p4⟩:=h
 refine⟨π,λk k1 k2=> ?_,(by grind),p3,p4⟩
 grind
theorem Mv.trans {h:Nat->Nat} (p:Mv f g a b) (q:Mv g h a b):Mv f h a b:=by
 obtain⟨π,p1,p2,p3,p4⟩:=p
 obtain⟨ρ,q1,q2,q3,q4⟩:=q
 refine⟨λk=>π (ρ k),(by grind),(by grind),(by grind),(by grind)⟩
 all_goals grind
theorem Mv.out (p:Mv f g a b) (h:k<a\/b<=k):g k=f k:=by
 obtain⟨π,p1,p2,p3,p4⟩:=p
 grind
theorem Mv.at (p:Mv f g a b) (h1:a<=k) (h2:k<b): ∃j,a<=j/\j<b/\g k=f j:=by
 obtain⟨π,p1,p2,p3,p4⟩:=p
 grind
def sw (f:Nat->Nat) (i j:Nat):Nat->Nat:=λk=>if k=i then f j else if k=j then f i else f k
def nZ (f:Nat->Nat) (a b n:Nat):Nat->Nat:=λk=>if a<=k/\k<a+n then f (k - a+b)else if b<=k/\k<b+n then f (k - b+a)else f k
theorem ws0 (f:Nat->Nat) (a b:Nat):nZ f a b 0=f:=by
 funext x
 unfold nZ
 grind
theorem xP6 (f:Nat->Nat) (h:a+i<b):sw (nZ f a b i) (a+i) (b+i)=nZ f a b (i+1):=by
 funext x
 unfold sw nZ
 grind
def dy (f:Nat->Nat) (a m b:Nat):Nat->Nat:=λk=>if a<=k/\k<a+(b - m)then f (k+(m - a))else if a+(b - m)<=k/\k<b then f (k - (b - m))else f k
theorem Mv.Ly (f:Nat->Nat) (h1:a<=m) (h2:m<=b):Mv f (dy f a m b) a b:=by
 refine⟨λk=>if a<=k/\k<a+(b - m)then k+(m - a)else if a+(b - m)<=k/\k<b then k - (b - m)else k,λk k1 k2=> ?_,λk hk=> ?_,λx y e=> ?_,λk=> ?_⟩
 .grind
 .grind
 .grind
 .unfold dy
  grind
theorem wm7 (g:Nat->Nat) (h:j<i) (hi:i<=m):dy (nZ g (m - i) m j) (m - (i - j)) m (m+j)=dy g (m - i) m (m+j):=by
 funext x
 unfold dy nZ
 grind
theorem wm8 (g:Nat->Nat) (h:i<j) (hi:i<=m):dy (nZ g (m - i) (m+j - i) i) (m - i) m (m+(j - i))=dy g (m - i) m (m+j):=by
 funext x
 unfold dy nZ
 grind
theorem wm6 (g:Nat->Nat) (hi:i<=m):nZ g (m - i) m i=dy g (m - i) m (m+i):=by
 funext x
 unfold dy nZ
 grind
theorem ws1 (f:Nat->Nat) (h:a<=k):sw (dy f a (a+1) (k+1)) k (k+1)=dy f a (a+1) (k+2):=by
 funext x
 unfold sw dy
 grind
theorem Vv (f:Nat->Nat) (a m:Nat):dy f a m m=f:=by
 funext x
 unfold dy
 grind
theorem Vy (f:Nat->Nat) (h:k<=m) (hk:0<k):sw (dy f k m (m+1)) k (k - 1)=dy f (k - 1) m (m+1):=by
 funext x
 unfold sw dy
 grind
theorem O7 (f:Nat->Nat) (m b:Nat):dy f m m b=f:=by
 funext x
 unfold dy
 grind
theorem uj (f:Nat->Nat) (h:a<=k/\k<a+(b - m)):dy f a m b k=f (k+(m - a)):=by simp_all[dy]
theorem uk (f:Nat->Nat) (h:a+(b - m)<=k/\k<b):dy f a m b k=f (k - (b - m)):=by simp_all[dy,ai1]
theorem p7 (f:Nat->Nat) (hm:m<=b) (h0:a<=m) (h:k<a\/b<=k):dy f a m b k=f k:=by unfold dy;grind
section
variable {lt:Nat->Nat->Bool} {f:Nat->Nat}
theorem xY3 {a b i:Nat} (hs:jg lt f (a+1) b) (h1:a+1<=i) (h2:i<=b) (hl: ∀x,a+1<=x->x<i->TO lt (f x) (f a)) (hr: ∀x,i<=x->x<b->TO lt (f a) (f x)):jg lt (dy f a (a+1) i) a b:=by
 intro x y hx aa hy
 rcases Be y (i - 1)with q|q|q
 .rw[uj f om,uj f om]
  exact hs _ _ om om om
 .grind[uj,uk]
 .rw[p7 f om om (k:=y) om]
  rcases Be x (i - 1)with p|p|p
  .rw[uj f om]
   exact hs _ _ om om om
  .grind[uk]
  .rw[p7 f om om (k:=x) om]
   exact hs _ _ om om om
theorem Vz {a m i:Nat} (hs:jg lt f a m) (h1:a<=i) (h2:i<=m) (hl: ∀x,a<=x->x<i->TO lt (f x) (f m)) (hr: ∀x,i<=x->x<m->TO lt (f m) (f x)):jg lt (dy f i m (m+1)) a (m+1):=by
 intro x y hx aa hy
 rcases Be x i with q|q|q
 .rw[p7 f om om (k:=x) om]
  rcases Be y i with p|p|p
  .rw[p7 f om om (k:=y) om]
   exact hs _ _ om om om
  .grind[uj]
  .rw[uk f om]
   exact hs _ _ om om om
 .rw[uj f om,show x+(m - i)=m by omega,uk f om]
  grind
 .rw[uk f om,uk f om]
  exact hs _ _ om om om
theorem xv9 (o:Ord lt) {a m b eM s e lo hi:Nat} (ha:a<m) (hb:m<b) (an:eM=(a+b)/2) (ad:jg lt f a m) (ae:jg lt f m b)
  (aj:lo=if eM<m then eM+m - b else a) (ak:hi=if eM<m then eM else m) (h1:lo<=s) (h2:s<=hi) (he:e=eM+m - s)
  (hl: ∀c,lo<=c->c<s->TO lt (f c) (f (eM+m - 1 - c))) (hr: ∀c,s<=c->c<hi->TO lt (f (eM+m - 1 - c)) (f c)):
  (a<=s/\s<=eM/\s<=m/\m<=e/\eM<=e/\e<=b/\s+(e - m)=eM)/\(∀x y,a<=x->x<eM->eM<=y->y<b->TO lt (dy f s m e x) (dy f s m e y))/\
  jg lt (dy f s m e) a s/\jg lt (dy f s m e) s eM/\jg lt (dy f s m e) eM e/\jg lt (dy f s m e) e b:=by
 have hm:eM*2<=a+b/\a+b<=eM*2+1:=om
 have al:a<=s/\s<=eM/\s<=m/\m<=e/\eM<=e/\e<=b/\s+(e - m)=eM/\a<eM/\eM<b:=by
  split at aj<;>split at ak<;>omega
 obtain⟨r1,r2,r3,r4,r5,r6,r7,r8,r9⟩:=al
 have k1: ∀x,a<=x->x<s-> ∀y,s<=y->y<m->TO lt (f x) (f y):=λx aa ah y ai ab=>ad _ _ aa om ab
 have k2: ∀x,m<=x->x<e-> ∀y,e<=y->y<b->TO lt (f x) (f y):=λx aa ah y ai ab=>ae _ _ aa om ab
 have k3: ∀x,a<=x->x<s-> ∀y,e<=y->y<b->TO lt (f x) (f y):=λx aa ah y ai ab=>by
  have q:lo<=s - 1:=by split at aj<;>omega
  have h:=hl (s - 1) q om
  rw[show eM+m - 1 - (s - 1)=e by omega]at h
  have h3:TO lt (f x) (f e):=by
   by_cases hx:x=s - 1
   .rw[hx];exact h
   .exact(ad x (s - 1) aa om om).trans o h
  by_cases hy:y=e
  .rw[hy];exact h3
  .exact h3.trans o (ae _ _ om om ab)
 have k4: ∀x,m<=x->x<e-> ∀y,s<=y->y<m->TO lt (f x) (f y):=λx aa ah y ai ab=>by
  have q:s<hi:=by split at ak<;>omega
  have h:=hr s (A7 _) q
  have h3:TO lt (f x) (f s):=by
   by_cases hx:x=eM+m - 1 - s
   .rw[hx];exact h
   .exact(ae x (eM+m - 1 - s) aa om om).trans o h
  by_cases hy:y=s
  .rw[hy];exact h3
  .exact h3.trans o (ad _ _ om om ab)
 refine⟨⟨r1,r2,r3,r4,r5,r6,r7⟩,λx y aa ah ai ab=> ?_,λx y hx af hy=> ?_,λx y hx af hy=> ?_,λx y hx af hy=> ?_,λx y hx af hy=> ?_⟩
 .by_cases c1:x<s
  .rw[p7 f r4 r3 (k:=x) om]
   by_cases c2:y<e
   .rw[uk f om];exact k1 _ aa c1 _ om om
   .rw[p7 f r4 r3 (k:=y) om];exact k3 _ aa c1 _ om ab
  .rw[uj f om]
   by_cases c2:y<e
   .rw[uk f om];exact k4 _ om om _ om om
   .rw[p7 f r4 r3 (k:=y) om];exact k2 _ om om _ om ab
 .rw[p7 f r4 r3 om,p7 f r4 r3 om];exact ad _ _ hx af om
 .rw[uj f om,uj f om];exact ae _ _ om om om
 .rw[uk f om,uk f om];exact ad _ _ om om om
 .rw[p7 f r4 r3 om,p7 f r4 r3 om];exact ae _ _ om af hy
end
variable {f:Nat->Nat}{lt:Nat->Nat->Bool}{a:Nat}{b:Nat}{w:Nat}{f':Nat->Nat}{n:Nat}{t:Nat}{m:Nat}{eM:Nat}
def um (f:Nat->Nat) (a m b:Nat):Prop:= ∀x y,a<=x->x<m->m<=y->y<b->f x<f y
theorem um.Ix {s e:Nat} (h:um f a m b) (h2:s<=m) (h3:m<=e) (h4:e<=b) (h5:s+(e - m)=eM):um (dy f s m e) a s eM:=by
 intro x y aa ab ad ae
 rw[p7 f h3 h2 om,uj f om]
 exact h _ _ aa om om om
theorem um.Iy {s e:Nat} (h:um f a m b) (h1:a<=s) (h2:s<=m) (h3:m<=e) (h5:s+(e - m)=eM):um (dy f s m e) eM e b:=by
 intro x y aa ab ad ae
 rw[uk f om,p7 f h3 h2 (k:=y) om]
 exact h _ _ om om om om
def kj (lt:Nat->Nat->Bool) (f g:Nat->Nat) (a b:Nat):Prop:=Mv f g a b/\jg lt g a b
theorem kj.both {g h1 h2:Nat->Nat} (h0:Mv f g a b) (hp: ∀x y,a<=x->x<eM->eM<=y->y<b->TO lt (g x) (g y)) (hm:a<=eM/\eM<=b) (q1:kj lt g h1 a eM) (q2:kj lt h1 h2 eM b):kj lt f h2 a b:=by
 refine⟨(h0.trans (q1.1.mono om hm.2)).trans (q2.1.mono hm.1 om),λx y hx aa hy=> ?_⟩
 by_cases c1:y<eM
 .rw[q2.1.out om,q2.1.out om]
  exact q1.2 _ _ hx aa c1
 .by_cases c2:eM<=x
  .exact q2.2 _ _ c2 aa hy
  .rw[q2.1.out (k:=x) om]
   obtain⟨i,i1,i2,i3⟩:=q1.1.at hx om
   obtain⟨j,j1,j2,j3⟩:=q2.1.at (k:=y) om hy
   rw[i3,j3,q1.1.out (k:=j) om]
   grind
theorem kj.id (h:jg lt f a b):kj lt f f a b:=⟨.refl f a b,h⟩
def kB (lt:Nat->Nat->Bool) (f:Nat->Nat) (a b:Nat):Prop:=(∀k,a<=k->k<b->a<=f k/\f k<b)/\jg lt f a b
theorem kB.VA (h:kB lt f a m) (g:kB lt f m b):um f a m b:=λx y aa ab ad ae=>by
 have:=h.1 x aa ab;have:=g.1 y ad ae;omega
theorem kB.merged (h:kB lt f a m) (g:kB lt f m b) (hm:a<=m/\m<=b) (q:kj lt f f' a b):kB lt f' a b:=by
 refine⟨λk h1 h2=> ?_,q.2⟩
 obtain⟨j,j1,j2,j3⟩:=q.1.at h1 h2
 rw[j3]
 by_cases c:j<m
 .have:=h.1 j j1 c;omega
 .have:=g.1 j om j2;omega
theorem kB.uo {c d:Nat} (h:kB lt f c d) (q:Mv f f' a b) (hd:d<=a\/b<=c):kB lt f' c d:=by
 refine⟨λk h1 h2=> ?_,λx y hx aa hy=> ?_⟩
 .rw[q.out om];exact h.1 k h1 h2
 .rw[q.out om,q.out om];exact h.2 x y hx aa hy
theorem kB.sorted (h: ∀k,a<=k->f k=k) (q:kj lt f f' a b):kB lt f' a b:=by
 refine⟨λk h1 h2=> ?_,q.2⟩
 obtain⟨j,j1,j2,j3⟩:=q.1.at h1 h2
 grind
def mO (lt:Nat->Nat->Bool) (f:Nat->Nat) (w n:Nat):Prop:= ∀q,q*w<n->kB lt f (q*w) (min (q*w+w) n)
def jT (lt:Nat->Nat->Bool) (f:Nat->Nat) (w n t:Nat):Prop:=(∀q,q<t->kB lt f (q*(2*w)) (q*(2*w)+2*w))/\ ∀q,2*t<=q->q*w<n->kB lt f (q*w) (min (q*w+w) n)
theorem jT.start (h:mO lt f w n):jT lt f w n 0:=⟨om,(by simpa)⟩
theorem jT.pair (h:jT lt f w n t) (hw:0<w) (hm:t*(2*w)+w<n):kB lt f (t*(2*w)) (t*(2*w)+w)/\kB lt f (t*(2*w)+w) (min (t*(2*w)+2*w) n):=by
 have e1:2*t*w=t*(2*w):=by grind
 have e2:(2*t+1)*w=t*(2*w)+w:=by grind
 have h1:=h.2 (2*t) om om
 have h2:=h.2 (2*t+1) om om
 grind
theorem jT.next (h:jT lt f w n t) (hw:0<w) (hb:t*(2*w)+2*w<=n) (q:kj lt f f' (t*(2*w)) (t*(2*w)+2*w)):jT lt f' w n (t+1):=by
 have e1:2*t*w=t*(2*w):=by grind
 have hp:=h.pair hw om
 refine⟨λp aa=> ?_,λp aa h1=> ?_⟩
 .by_cases c:p=t
  .subst c
   rw[show min (p*(2*w)+2*w) n=p*(2*w)+2*w by omega]at hp
   exact hp.1.merged hp.2 om q
  .have:=Aj (2*w) (show p+1<=t by omega)
   rw[B3,D7]at this
   exact(h.1 p om).uo q.1 (.inl this)
 .have:=Aj w (show 2*t+2<=p by omega)
  rw[B3,e1]at this
  exact(h.2 p om h1).uo q.1 (.inr this)
theorem jT.last (h:jT lt f w n t) (hw:0<w) (hm:t*(2*w)+w<n) (hb:n<t*(2*w)+2*w) (q:kj lt f f' (t*(2*w)) n):mO lt f' (2*w) n:=by
 have hp:=h.pair hw hm
 rw[show min (t*(2*w)+2*w) n=n by omega]at hp
 intro p h1
 rcases Be p t with c|c|c
 .have:=Aj (2*w) (show p+1<=t by omega)
  rw[B3,D7]at this
  rw[show min (p*(2*w)+2*w) n=p*(2*w)+2*w by omega]
  exact(h.1 p c).uo q.1 (.inl this)
 .subst c
  rw[show min (p*(2*w)+2*w) n=n by omega]
  exact hp.1.merged hp.2 om q
 .have:=Aj (2*w) (show t+1<=p by omega)
  grind
theorem jT.none (h:jT lt f w n t) (h0:t*(2*w)<=n) (hm:n<=t*(2*w)+w):mO lt f (2*w) n:=by
 have e1:2*t*w=t*(2*w):=by grind
 intro p h1
 rcases Be p t with c|c|c
 .have:=Aj (2*w) (show p+1<=t by omega)
  rw[B3,D7]at this
  rw[show min (p*(2*w)+2*w) n=p*(2*w)+2*w by omega]
  exact h.1 p c
 .subst c
  have:=h.2 (2*p) om om
  grind
 .have:=Aj (2*w) (show t+1<=p by omega)
  grind
theorem mO.all (h:mO lt f w n) (hw:n<=w):kB lt f 0 n:=by
 by_cases c:n=0
 .subst c;exact⟨om,λx y _ _ h=>om⟩
 .have:=h 0 om
  grind
theorem yY6 (h1: ∀q,q<t->kB lt f (q*w) (q*w+w)) (h2: ∀k,t*w<=k->f k=k) (ht:t*w<=n) (hn:n<t*w+w) (q:kj lt f f' (t*w) n):mO lt f' w n:=by
 intro p hp
 rcases Be p t with c|c|c
 .have:=Aj w (show p+1<=t by omega)
  rw[B3,D7]at this
  rw[show min (p*w+w) n=p*w+w by omega]
  exact(h1 p c).uo q.1 (.inl this)
 .grind[kB.sorted]
 .have:=Aj w (show t+1<=p by omega)
  grind
theorem xs3 (h1: ∀q,q<t->kB lt f (q*w) (q*w+w)) (h2: ∀k,t*w<=k->f k=k) (q:kj lt f f' (t*w) (t*w+w)):
  (∀q,q<t+1->kB lt f' (q*w) (q*w+w))/\ ∀k,(t+1)*w<=k->f' k=k:=by
 refine⟨λp hp=> ?_,λk hk=> ?_⟩
 .by_cases c:p=t
  .grind[kB.sorted]
  .have:=Aj w (show p+1<=t by omega)
   rw[B3,D7]at this
   exact(h1 p om).uo q.1 (.inl this)
 .rw[B3,D7]at hk
  rw[q.1.out om]
  grind
end Go.Proofs.YtplackkccmeioaaGreat
namespace Go.Proofs.YtplackkccmeioaaGreat
open Go Go.Vx Go.Proofs.Tryz
set_option maxRecDepth 100000
@[go_sem] theorem Iz:eG prog 288=some 1:=kR
@[go_sem] theorem Gt:cQ prog 288=some false:=kR
@[go_sem] theorem IA:eG prog 337=some 1:=kR
@[go_sem] theorem Gu:cQ prog 337=some false:=kR
def ft (cv:St) (id s n:Nat) (row:Nat->List V) (f:Nat->Nat):St:=cv.set id (.cd ((List.range n).map λk=>row (f k)) s)
theorem AZ (cv:St) (id s n:Nat) (row:Nat->List V) (f:Nat->Nat):(ft cv id s n row f).length=cv.length:=by simp[ft]
structure SC (P:Program) (gl gs:FuncId) (cl cs:List V) (cv:St) (id s n:Nat) (row:Nat->List V) (lt:Nat->Nat->Bool):Prop where
 here:id<cv.length
 nn:n<=1000000
 IB:cl.all (cN cv.length)=true
 BB:cs.all (cN cv.length)=true
 IC:cv.all (bT cv.length)=true
 Ey: ∀k,(row k).all (cS cv.length)=true
 less: ∀(c:Ctx) (τ:St) (f:Nat->Nat) (i j:Nat) (K:V->St->Prop),i<n->j<n->i≠j->K (.bool (lt (f i) (f j))) (ft cv id s n row f++τ)->jk P c (.fn gl cl) [.int .i64 i,.int .i64 j] (ft cv id s n row f++τ) K fx
 swap: ∀(c:Ctx) (τ:St) (f:Nat->Nat) (i j:Nat) (K:V->St->Prop),i<n->j<n->i≠j->K (.cz []) (ft cv id s n row (sw f i j)++τ)->jk P c (.fn gs cs) [.int .i64 i,.int .i64 j] (ft cv id s n row f++τ) K fx
section
variable {gl gs:FuncId} {cl cs:List V} {cv:St} {id s n:Nat} {row:Nat->List V} {lt:Nat->Nat->Bool}
theorem SC.iD (S:SC prog gl gs cl cs cv id s n row lt) (f:Nat->Nat):(ft cv id s n row f).all (bT cv.length)=true:=by
 unfold ft
 rw[Am]
 intro o ho
 rcases List.mem_or_eq_of_mem_set ho with h|rfl
 .exact Am.1 S.IC o h
 .simp only[bT,Am]
  intro r hr x hx
  obtain⟨k,_,rfl⟩:=Ab.1 hr
  exact Am.1 (S.Ey (f k)) x hx
def fN (gl gs:FuncId) (cl cs:List V):Ob:= .box [.fn gl cl,.fn gs cs]
theorem yW2 (S:SC prog gl gs cl cs cv id s n row lt) (f:Nat->Nat) (a b m:Nat) (h1:a+m<=b) (h2:b+m<=n):
  bN prog 328 [.agg [.fn gl cl,.fn gs cs],.int .i64 a,.int .i64 b,.int .i64 m] (ft cv id s n row f) (λr t=>r= .cz []/\t=ft cv id s n row (nZ f a b m)):=by
 have hn:=S.nn
 refine bN.iv (ft cv id s n row f).length func328 ntmps328 results328 rfl rfl (C4 rfl) λc hc hb=> ?_
 have hl: ∀g,(ft cv id s n row g).length=cv.length:=λg=>AZ ..
 refine zA ?_
 simp[go_sem,hl]
 refine zI (S:=Nat) [1,2,3,4,8] (λi=> [.int .i64 a,.int .i64 b,.int .i64 m,.ptr cv.length 0,.int .i64 i]) (λi=>ft cv id s n row (nZ f a b i)++ [fN gl gs cl cs]) (λi=>m - i) (λi=>i<=m) (hc.trans (hl f)) hb 0 (A3 _) ?_ ?_
 .rw[ws0]
  exact yG (by simp[hl]) sg
 rintro i hi
 have hd: ∀g,(ft cv id s n row g++ [fN gl gs cl cs])[cv.length]? =some (.box [.fn gl cl,.fn gs cs]):=λg=>by
  rw[Au (by rw[hl];exact A7 _),hl];simp[fN]
 by_cases q:i<m
 rotate_left
 .have ab:i=m:=om
  subst ab
  refine zA ?_
  simp[go_sem]
  exact yZ cv.length (Cb (hl _)) (hl _) (S.iD _) (Cd (hl f)) (zC rfl) ⟨rfl,rfl⟩
 have ea:IntKind.i64.wrap ((a:Int)+i)=((a+i:Nat):Int):=by rw[bX om om];omega
 have eb:IntKind.i64.wrap ((b:Int)+i)=((b+i:Nat):Int):=by rw[bX om om];omega
 have ei:=zU q om
 have aa:=λK=>S.swap c [fN gl gs cl cs] (nZ f a b i) (a+i) (b+i) K om om om
 rw[xP6 f om]at aa
 refine zA ?_
 simp[go_sem,q,hd,ea,eb]
 refine aa _ ?_
 simp[go_sem,ei]
 exact zJ (i+1) ⟨om,om,yG (by simp[hl]) sg⟩
end
section
variable {gl gs:FuncId} {cl cs:List V} {cv:St} {id s n:Nat} {row:Nat->List V} {lt:Nat->Nat->Bool}
theorem Lz (f:Nat->Nat):(ft cv id s n row f++ [fN gl gs cl cs])[cv.length]? =some (.box [.fn gl cl,.fn gs cs]):=by
 rw[Au (by rw[AZ];exact A7 _),AZ];simp[fN]
theorem xI0 (o:Ord lt) {f g:Nat->Nat} {a b i j:Nat} (hi:i<b) (aa: ∀x y,a<=x->x<y->y<b->f x<f y) (hm:Mv f g a i) (hs:jg lt g a i) (ab:a<=j) (ad:j<=i)
  (hl: ∀x,j<=x->x<i->lt (g i) (g x)) (he:j=a\/lt (g i) (g (j - 1))=false):Mv f (dy g j i (i+1)) a (i+1)/\jg lt (dy g j i (i+1)) a (i+1):=by
 refine⟨(hm.mono (A7 _) (Nat.le_succ _)).trans ((Mv.Ly g ad (Nat.le_succ _)).mono ab (A7 _)), ?_⟩
 refine Vz hs ab ad (λx h1 h2=> ?_) (λx h1 h2=> .inl (hl x h1 h2))
 rcases he with he|he
 .omega
 have ae:g i=f i:=hm.out (.inr (A7 _))
 obtain⟨y,y1,y2,y3⟩:=hm.at (k:=j - 1) om om
 have af:g (j - 1)<g i:=by rw[y3,ae];exact aa y i y1 y2 hi
 have h3:TO lt (g (j - 1)) (g i):=(TO.xv o af).2 he
 by_cases q:x=j - 1
 .rw[q];exact h3
 .exact(hs x (j - 1) h1 om om).trans o h3
theorem VB (S:SC prog gl gs cl cs cv id s n row lt) (o:Ord lt) (f:Nat->Nat) (a b:Nat) (ae:a<=b) (af:b<=n) (aa: ∀x y,a<=x->x<y->y<b->f x<f y):
  bN prog 280 [.agg [.fn gl cl,.fn gs cs],.int .i64 a,.int .i64 b] (ft cv id s n row f) (λr t=>r= .cz []/\ ∃g,t=ft cv id s n row g/\kj lt f g a b):=by
 have hn:=S.nn
 refine bN.iv (ft cv id s n row f).length func280 ntmps280 results280 rfl rfl (C4 rfl) λc hc hb=> ?_
 have hl: ∀g,(ft cv id s n row g).length=cv.length:=λg=>AZ ..
 have ad:IntKind.i64.wrap ((a:Int)+1)=((a+1:Nat):Int):=by rw[bX om om];omega
 refine zA ?_
 simp[go_sem,hl,ad]
 refine zI (S:=Nat×(Nat->Nat)) [1,2,3,6] (λu=> [.int .i64 a,.int .i64 b,.ptr cv.length 0,.int .i64 u.1]) (λu=>ft cv id s n row u.2++ [fN gl gs cl cs]) (λu=>b - u.1)
  (λu=>a+1<=u.1/\Mv f u.2 a (min u.1 b)/\jg lt u.2 a (min u.1 b)) (hc.trans (hl f)) hb (a+1,f) ⟨A7 _,Mv.refl _ _ _,λx y h1 h2 h3=>om⟩ ?_ ?_
 .exact yG (by simp[hl]) sg
 rintro⟨i,g⟩ ⟨hi,hm,hs⟩
 simp only at hi hm hs
 by_cases q:i<b
 rotate_left
 .rw[Nat.min_eq_right om]at hm hs
  refine zA ?_
  simp[go_sem,q]
  exact yZ cv.length (Cb (hl _)) (hl _) (S.iD _) (Cd (hl f)) (zC rfl) ⟨rfl,g,rfl,hm,hs⟩
 rw[C8 om]at hm hs
 have ei:=zU q om
 have hd:=Lz (cv:=cv) (id:=id) (s:=s) (n:=n) (row:=row) (gl:=gl) (gs:=gs) (cl:=cl) (cs:=cs)
 refine zA ?_
 simp[go_sem,q]
 refine zI (S:=Nat) [1,2,3,6,7] (λj=> [.int .i64 a,.int .i64 b,.ptr cv.length 0,.int .i64 i,.int .i64 j]) (λj=>ft cv id s n row (dy g j i (i+1))++ [fN gl gs cl cs]) (λj=>j)
  (λj=>a<=j/\j<=i/\ ∀x,j<=x->x<i->lt (g i) (g x)=true) (hc.trans (hl f)) hb i ⟨om,A7 _,λx h1 h2=>om⟩ ?_ ?_
 .rw[O7]
  exact yG (by simp[hl]) sg
 rintro j ⟨h1,h2,h3⟩
 have fin: ∀(he:j=a\/lt (g i) (g (j - 1))=false),Mv f (dy g j i (i+1)) a (min (i+1) b)/\jg lt (dy g j i (i+1)) a (min (i+1) b):=λhe=>by
  rw[C8 om]
  exact xI0 o q aa hm hs h1 h2 h3 he
 by_cases p:a<j
 rotate_left
 .have p': ¬((a:Int)<j):=om
  obtain⟨f1,f2⟩:=fin (.inl om)
  refine zA ?_
  simp[go_sem,p,ei]
  exact zJ (i+1,dy g j i (i+1)) ⟨by show b - (i+1)<b - i;omega,⟨by show a+1<=i+1;omega,f1,f2⟩,yG (by simp[hl]) sg⟩
 have ej:IntKind.i64.wrap ((j:Int) - 1)=((j - 1:Nat):Int):=by rw[bX om om];omega
 have hle:=λK=>S.less c [fN gl gs cl cs] (dy g j i (i+1)) j (j - 1) K om om om
 have ab:=λK=>S.swap c [fN gl gs cl cs] (dy g j i (i+1)) j (j - 1) K om om om
 rw[Vy g h2 om]at ab
 have e1:dy g j i (i+1) j=g i:=by rw[uj g om];congr 1;omega
 have e2:dy g j i (i+1) (j - 1)=g (j - 1):=p7 g om h2 om
 rw[e1,e2]at hle
 refine zA ?_
 simp[go_sem,p,hd,ej]
 refine hle _ ?_
 cases hL:lt (g i) (g (j - 1))with
 |false=>
  obtain⟨f1,f2⟩:=fin (.inr hL)
  simp[go_sem,ei]
  exact zJ (i+1,dy g j i (i+1)) ⟨by show b - (i+1)<b - i;omega,⟨by show a+1<=i+1;omega,f1,f2⟩,yG (by simp[hl]) sg⟩
 |true=>
  simp[go_sem,hd,ej]
  refine ab _ ?_
  simp[go_sem,ej]
  exact zJ (j - 1) ⟨om,⟨om,om,λx x1 x2=>by
   by_cases c1:x=j - 1
   .rw[c1];exact hL
   .exact h3 x om x2⟩,yG (by simp[hl]) sg⟩
end
section
variable {gl gs:FuncId} {cl cs:List V} {cv:St} {id s n:Nat} {row:Nat->List V} {lt:Nat->Nat->Bool}
theorem SC.call (S:SC prog gl gs cl cs cv id s n row lt) {F:FuncId} {ints:List V} {g:Nat->Nat} {Q:(Nat->Nat)->Prop} {c:Ctx} {τ:St} {K:V->St->Prop}
  (hc:bN prog F (.agg [.fn gl cl,.fn gs cs]::ints) (ft cv id s n row g) (λr t=>r= .cz []/\ ∃g',t=ft cv id s n row g'/\Q g')) (hb:xE prog F) (hi:ints.all gM)
  (hK: ∀g',Q g'->K (.cz []) (ft cv id s n row g'++τ)):jk prog c (.fn F []) (.agg [.fn gl cl,.fn gs cs]::ints) (ft cv id s n row g++τ) K fx:=by
 have hl: ∀g,(ft cv id s n row g).length=cv.length:=λg=>AZ ..
 refine uR cv.length hc hb (Cb (hl _)) (hl _) (S.iD _) ?_ ?_ ?_
 .rw[Az]
  exact⟨xQ (by simp[iS,jC,cS,S.IB,S.BB]),yE hi⟩
 .rintro r t ⟨rfl,g',rfl,_⟩
  exact⟨hl _,S.iD _,rfl⟩
 .rintro r t ⟨rfl,g',rfl,hq⟩
  rw[List.drop_left' (hl _)]
  exact hK g' hq
theorem xN9 (S:SC prog gl gs cl cs cv id s n row lt) (f:Nat->Nat) (a m b:Nat) (h1:a<m) (h2:m<b) (h3:b<=n):
  bN prog 314 [.agg [.fn gl cl,.fn gs cs],.int .i64 a,.int .i64 m,.int .i64 b] (ft cv id s n row f) (λr t=>r= .cz []/\ ∃g,t=ft cv id s n row g/\g=dy f a m b):=by
 have hn:=S.nn
 have ab: ∀g x y k,x+k<=y->y+k<=n->bN prog 328 [.agg [.fn gl cl,.fn gs cs],.int .i64 (x:Nat),.int .i64 (y:Nat),.int .i64 (k:Nat)] (ft cv id s n row g) (λr t=>r= .cz []/\ ∃g',t=ft cv id s n row g'/\g'=nZ g x y k):=λg x y k q1 q2=>
  (yW2 S g x y k q1 q2).mono λr t h=>⟨h.1,_,h.2,rfl⟩
 refine bN.iv (ft cv id s n row f).length func314 ntmps314 results314 rfl rfl (C4 rfl) λc hc hb=> ?_
 have hl: ∀g,(ft cv id s n row g).length=cv.length:=λg=>AZ ..
 have hd:=Lz (cv:=cv) (id:=id) (s:=s) (n:=n) (row:=row) (gl:=gl) (gs:=gs) (cl:=cl) (cs:=cs)
 have e1:IntKind.i64.wrap ((m:Int) - a)=((m - a:Nat):Int):=by rw[bX om om];omega
 have e2:IntKind.i64.wrap ((b:Int) - m)=((b - m:Nat):Int):=by rw[bX om om];omega
 refine zA ?_
 simp[go_sem,hl,e1,e2]
 refine zI (S:=Nat×Nat×(Nat->Nat)) [1,2,3,4,8,9] (λu=> [.int .i64 a,.int .i64 m,.int .i64 b,.ptr cv.length 0,.int .i64 u.1,.int .i64 u.2.1]) (λu=>ft cv id s n row u.2.2++ [fN gl gs cl cs]) (λu=>u.1+u.2.1)
  (λu=>0<u.1/\0<u.2.1/\u.1<=m/\m+u.2.1<=n/\dy u.2.2 (m - u.1) m (m+u.2.1)=dy f a m b) (hc.trans (hl f)) hb (m - a,b - m,f) ⟨by show 0<m - a;omega,by show 0<b - m;omega,by show m - a<=m;omega,by show m+(b - m)<=n;omega,by show dy f (m - (m - a)) m (m+(b - m))=_;rw[show m - (m - a)=a by omega,show m+(b - m)=b by omega]⟩ ?_ ?_
 .exact yG (by simp[hl]) sg
 rintro⟨i,j,g⟩ ⟨hi,hj,aa,ae,hg⟩
 simp only at hi hj aa ae hg
 have ad:IntKind.i64.wrap ((m:Int) - i)=((m - i:Nat):Int):=by rw[bX om om];omega
 rcases Be i j with q|q|q
 .have p1:((i:Int) !=j)=true:=by simp;omega
  have p2: ¬((j:Int)<i):=om
  have p3: ¬(j<i):=om
  have p4: ¬i=j:=om
  have ea:IntKind.i64.wrap ((m:Int)+j)=(m:Int)+j:=bX om om
  have eb:IntKind.i64.wrap ((m:Int)+j - i)=((m+j - i:Nat):Int):=by rw[bX om om];omega
  have ej:IntKind.i64.wrap ((j:Int) - i)=((j - i:Nat):Int):=by rw[bX om om];omega
  refine zA ?_
  simp[go_sem,p1,p2,hd,ad,ea,eb]
  refine S.call (ab g (m - i) (m+j - i) i om om) cB rfl ?_
  rintro g' rfl
  simp[go_sem,ej]
  exact zJ (i,j - i,nZ g (m - i) (m+j - i) i) ⟨by show i+(j - i)<i+j;omega,⟨hi,by show 0<j - i;omega,aa,by show m+(j - i)<=n;omega,by show dy _ (m - i) m (m+(j - i))=_;rw[wm8 g q aa];exact hg⟩,yG (by simp[hl]) sg⟩
 .subst q
  refine zA ?_
  simp[go_sem,hd,ad]
  refine S.call (ab g (m - i) m i om om) cB rfl ?_
  rintro g' rfl
  rw[wm6 g aa,hg]
  simp[go_sem]
  exact yZ cv.length (Cb (hl _)) (hl _) (S.iD _) (Cd (hl f)) (zC rfl) ⟨rfl,rfl⟩
 .have p1:((i:Int) !=j)=true:=by simp;omega
  have p2:(j:Int)<i:=om
  have p4: ¬i=j:=om
  have ei:IntKind.i64.wrap ((i:Int) - j)=((i - j:Nat):Int):=by rw[bX om om];omega
  refine zA ?_
  simp[go_sem,p1,p2,hd,ad]
  refine S.call (ab g (m - i) m j om om) cB rfl ?_
  rintro g' rfl
  simp[go_sem,ei]
  exact zJ (i - j,j,nZ g (m - i) m j) ⟨by show i - j+j<i+j;omega,⟨by show 0<i - j;omega,hj,by show i - j<=m;omega,ae,by show dy _ (m - (i - j)) m (m+j)=_;rw[wm7 g q aa];exact hg⟩,yG (by simp[hl]) sg⟩
end
section
variable {lt:Nat->Nat->Bool}
variable {x:Nat}{h:Nat}{a:Nat}
theorem wq7 (o:Ord lt) (t:TO lt x h) (g:lt h a):lt x a=true:=by
 rcases t with t|⟨t,_⟩
 .exact o.tr _ _ _ t g
 .cases q:lt x a with
  |true=>rfl
  |false=>have:=o.nt _ _ _ t q;grind
theorem wl1 (o:Ord lt) (t:TO lt h x) (g:lt h a=false):lt x a=false:=by
 cases q:lt x a with
 |false=>rfl
 |true=>
  rcases t with t|⟨t,_⟩
  .have:=o.tr _ _ _ t q;grind
  .have:=o.nt _ _ _ t g;grind
theorem ws4 (o:Ord lt) (t:TO lt h x) (g:lt a h):lt a x=true:=by
 rcases t with t|⟨t,_⟩
 .exact o.tr _ _ _ g t
 .cases q:lt a x with
  |true=>rfl
  |false=>have:=o.nt _ _ _ q t;grind
theorem wn6 (o:Ord lt) (t:TO lt x h) (g:lt a h=false):lt a x=false:=by
 cases q:lt a x with
 |false=>rfl
 |true=>
  rcases t with t|⟨t,_⟩
  .have:=o.tr _ _ _ q t;grind
  .have:=o.nt _ _ _ g t;grind
end
theorem LA {i j:Nat} (h:i+j<4000000000):IntKind.i64.wrap ((IntKind.u64.wrap (IntKind.i64.wrap ((i:Int)+j))).fdiv 2)=(((i+j)/2:Nat):Int):=by
 grind[bX,cW]
section
variable {gl gs:FuncId} {cl cs:List V} {cv:St} {id s n:Nat} {row:Nat->List V} {lt:Nat->Nat->Bool}
theorem yq5 (S:SC prog gl gs cl cs cv id s n row lt) (o:Ord lt) (f:Nat->Nat) (a m b:Nat) (h1:a<m) (h2:m<b) (h3:b<=n) (ah:jg lt f a m) (af:jg lt f m b) (ae:um f a m b)
  (ih: ∀f a' m b',b' - a'<b - a->a'<m->m<b'->b'<=n->jg lt f a' m->jg lt f m b'->um f a' m b'->bN prog 281 [.agg [.fn gl cl,.fn gs cs],.int .i64 (a':Nat),.int .i64 (m:Nat),.int .i64 (b':Nat)] (ft cv id s n row f) (λr t=>r= .cz []/\ ∃g,t=ft cv id s n row g/\kj lt f g a' b')):
  bN prog 281 [.agg [.fn gl cl,.fn gs cs],.int .i64 a,.int .i64 m,.int .i64 b] (ft cv id s n row f) (λr t=>r= .cz []/\ ∃g,t=ft cv id s n row g/\kj lt f g a b):=by
 have hn:=S.nn
 refine bN.iv (ft cv id s n row f).length func281 ntmps281 results281 rfl rfl (C4 rfl) λc hc hb=> ?_
 have hl: ∀g,(ft cv id s n row g).length=cv.length:=λg=>AZ ..
 have hd:=Lz (cv:=cv) (id:=id) (s:=s) (n:=n) (row:=row) (gl:=gl) (gs:=gs) (cl:=cl) (cs:=cs)
 have e1:IntKind.i64.wrap ((m:Int) - a)=((m - a:Nat):Int):=by rw[bX om om];omega
 have e2:IntKind.i64.wrap ((b:Int) - m)=((b - m:Nat):Int):=by rw[bX om om];omega
 by_cases c1:m - a=1
 .have au:(((m - a:Nat):Int)==1)=true:=by simp;omega
  refine zA ?_
  simp[go_sem,hl,e1,au]
  refine zI (S:=Nat×Nat) [1,2,3,4,8,9] (λu=> [.int .i64 a,.int .i64 m,.int .i64 b,.ptr cv.length 0,.int .i64 u.1,.int .i64 u.2]) (λ_=>ft cv id s n row f++ [fN gl gs cl cs]) (λu=>u.2 - u.1)
   (λu=>m<=u.1/\u.1<=u.2/\u.2<=b/\(∀x,m<=x->x<u.1->lt (f x) (f a)=true)/\ ∀x,u.2<=x->x<b->lt (f x) (f a)=false) (hc.trans (hl f)) hb (m,b) ⟨A7 _,by show m<=b;omega,A7 _,λx q1 q2=>om,λx q1 q2=>om⟩ ?_ ?_
  .exact yG (by simp[hl]) sg
  rintro⟨i,j⟩ ⟨hi,aj,hj,hL,hR⟩
  simp only at hi aj hj hL hR
  by_cases q:i<j
  .obtain⟨h,hh⟩:=eX ((i+j)/2)
   have eh:=LA (i:=i) (j:=j) om
   rw[hh]at eh
   have ei:=zU (show h<j by omega) om
   have hle:=λK=>S.less c [fN gl gs cl cs] f h a K om om om
   refine zA ?_
   simp[go_sem,q,hd,eh]
   refine hle _ ?_
   cases aa:lt (f h) (f a)with
   |true=>
    simp[go_sem,ei]
    exact zJ (h+1,j) ⟨by show j - (h+1)<j - i;omega,⟨by show m<=h+1;omega,by show h+1<=j;omega,hj,λx q1 q2=>by
     by_cases c2:x=h
     .rw[c2];exact aa
     .exact wq7 o (af x h q1 (by have:x<h+1:=q2;omega) om) aa,hR⟩,yG (by simp[hl]) sg⟩
   |false=>
    simp[go_sem]
    exact zJ (i,h) ⟨by show h - i<j - i;omega,⟨hi,by show i<=h;omega,by show h<=b;omega,hL,λx q1 q2=>by
     by_cases c2:x=h
     .rw[c2];exact aa
     .exact wl1 o (af h x om (by have:h<=x:=q1;omega) q2) aa⟩,yG (by simp[hl]) sg⟩
  .have e3:IntKind.i64.wrap ((i:Int) - 1)=((i - 1:Nat):Int):=by rw[bX om om];omega
   have ak:i=j:=om
   have a7:m=a+1:=om
   refine zA ?_
   simp[go_sem,q]
   refine zI (S:=Nat) [1,2,3,4,8,11] (λk=> [.int .i64 a,.int .i64 m,.int .i64 b,.ptr cv.length 0,.int .i64 i,.int .i64 k]) (λk=>ft cv id s n row (dy f a (a+1) (k+1))++ [fN gl gs cl cs]) (λk=>i - k)
    (λk=>a<=k/\k+1<=i) (hc.trans (hl f)) hb a ⟨A7 _,om⟩ ?_ ?_
   .rw[Vv]
    exact yG (by simp[hl]) sg
   rintro k ⟨k1,k2⟩
   by_cases q2:k<i - 1
   .have a8:(k:Int)<((i - 1:Nat):Int):=om
    have ek:IntKind.i64.wrap ((k:Int)+1)=((k+1:Nat):Int):=by rw[bX om om];omega
    have al:=λK=>S.swap c [fN gl gs cl cs] (dy f a (a+1) (k+1)) k (k+1) K om om om
    rw[ws1 f k1]at al
    refine zA ?_
    simp[go_sem,e3,q2,hd,ek]
    refine al _ ?_
    simp[go_sem,ek]
    exact zJ (k+1) ⟨om,⟨om,om⟩,yG (by simp[hl]) sg⟩
   .have a8: ¬(k:Int)<((i - 1:Nat):Int):=om
    have hk:k+1=i:=om
    refine zA ?_
    simp[go_sem,e3,q2]
    refine yZ cv.length (Cb (hl _)) (hl _) (S.iD _) (Cd (hl f)) (zC rfl) ⟨rfl,_,rfl, ?_, ?_⟩
    .rw[hk]
     exact(Mv.Ly f om om).mono (A7 _) om
    .rw[hk]
     rw[a7]at af hL
     refine xY3 af om om (λx x1 x2=> .inl (hL x x1 x2)) (λx x1 x2=> ?_)
     exact(TO.xv o (ae a x (A7 _) h1 om x2)).2 (hR x om x2)
 .have au:(((m - a:Nat):Int)==1)=false:=by simp;omega
  refine zO (zA ?_)
  simp[go_sem,hl]
  refine zO (zA ?_)
  simp[go_sem,e1,au]
  by_cases c2:b - m=1
  .have av:(((b - m:Nat):Int)==1)=true:=by simp;omega
   have aA:b=m+1:=om
   refine zA ?_
   simp[go_sem,e2,av]
   refine zI (S:=Nat×Nat) [1,2,3,4,12,13] (λu=> [.int .i64 a,.int .i64 m,.int .i64 b,.ptr cv.length 0,.int .i64 u.1,.int .i64 u.2]) (λ_=>ft cv id s n row f++ [fN gl gs cl cs]) (λu=>u.2 - u.1)
    (λu=>a<=u.1/\u.1<=u.2/\u.2<=m/\(∀x,a<=x->x<u.1->lt (f m) (f x)=false)/\ ∀x,u.2<=x->x<m->lt (f m) (f x)=true) (hc.trans (hl f)) hb (a,m) ⟨A7 _,by show a<=m;omega,A7 _,λx q1 q2=>om,λx q1 q2=>om⟩ ?_ ?_
   .exact yG (by simp[hl]) sg
   rintro⟨i,j⟩ ⟨hi,aj,hj,hL,hR⟩
   simp only at hi aj hj hL hR
   by_cases q:i<j
   .obtain⟨h,hh⟩:=eX ((i+j)/2)
    have eh:=LA (i:=i) (j:=j) om
    rw[hh]at eh
    have ei:=zU (show h<j by omega) om
    have hle:=λK=>S.less c [fN gl gs cl cs] f m h K om om om
    refine zA ?_
    simp[go_sem,q,hd,eh]
    refine hle _ ?_
    cases aa:lt (f m) (f h)with
    |false=>
     simp[go_sem,ei]
     exact zJ (h+1,j) ⟨by show j - (h+1)<j - i;omega,⟨by show a<=h+1;omega,by show h+1<=j;omega,hj,λx q1 q2=>by
      by_cases c2:x=h
      .rw[c2];exact aa
      .exact wn6 o (ah x h q1 (by have:x<h+1:=q2;omega) om) aa,hR⟩,yG (by simp[hl]) sg⟩
    |true=>
     simp[go_sem]
     exact zJ (i,h) ⟨by show h - i<j - i;omega,⟨hi,by show i<=h;omega,by show h<=m;omega,hL,λx q1 q2=>by
      by_cases c2:x=h
      .rw[c2];exact aa
      .exact ws4 o (ah h x om (by have:h<=x:=q1;omega) q2) aa⟩,yG (by simp[hl]) sg⟩
   .have ak:i=j:=om
    refine zA ?_
    simp[go_sem,q]
    refine zI (S:=Nat) [1,2,3,4,12,15] (λk=> [.int .i64 a,.int .i64 m,.int .i64 b,.ptr cv.length 0,.int .i64 i,.int .i64 k]) (λk=>ft cv id s n row (dy f k m (m+1))++ [fN gl gs cl cs]) (λk=>k)
     (λk=>i<=k/\k<=m) (hc.trans (hl f)) hb m ⟨om,A7 _⟩ ?_ ?_
    .rw[O7]
     exact yG (by simp[hl]) sg
    rintro k ⟨k1,k2⟩
    by_cases q2:i<k
    .have ek:IntKind.i64.wrap ((k:Int) - 1)=((k - 1:Nat):Int):=by rw[bX om om];omega
     have al:=λK=>S.swap c [fN gl gs cl cs] (dy f k m (m+1)) k (k - 1) K om om om
     rw[Vy f k2 om]at al
     refine zA ?_
     simp[go_sem,q2,hd,ek]
     refine al _ ?_
     simp[go_sem,ek]
     exact zJ (k - 1) ⟨om,⟨om,om⟩,yG (by simp[hl]) sg⟩
    .have hk:k=i:=om
     refine zA ?_
     simp[go_sem,q2]
     refine yZ cv.length (Cb (hl _)) (hl _) (S.iD _) (Cd (hl f)) (zC rfl) ⟨rfl,_,rfl, ?_, ?_⟩
     .rw[hk]
      exact(Mv.Ly f om om).mono hi om
     .rw[hk,aA]
      refine Vz ah hi om (λx x1 x2=> ?_) (λx x1 x2=> .inl (hR x om x2))
      exact(TO.xv o (ae x m x1 om (A7 _) h2)).2 (hL x x1 x2)
  .have av:(((b - m:Nat):Int)==1)=false:=by simp;omega
   refine zO (zA ?_)
   simp[go_sem,e2,av]
   obtain⟨eM,ar⟩:=eX ((a+b)/2)
   have eh:=LA (i:=a) (j:=b) om
   rw[ar]at eh
   have en:IntKind.i64.wrap ((eM:Int)+m)=(eM:Int)+m:=bX om om
   refine zO (zA ?_)
   simp[go_sem,eh]
   refine zO (zA ?_)
   simp[go_sem,en]
   refine zO (zA ?_)
   simp[go_sem]
   obtain⟨lo,an⟩:=eX ((if eM<m then eM+m - b else a))
   obtain⟨hi,ai⟩:=eX ((if eM<m then eM else m))
   have aF:eM*2<=a+b/\a+b<=eM*2+1:=om
   have aB:a<=lo/\lo<=hi/\hi<=m/\hi<=eM/\eM+m<=lo+b:=by
    split at an<;>split at ai<;>omega
   obtain⟨l1,l2,l3,l4,l5⟩:=aB
   refine ou (S:=Unit) [1,2,3,4,16,17,18,19] (λ_=> [.int .i64 a,.int .i64 m,.int .i64 b,.ptr cv.length 0,.int .i64 eM,.int .i64 ((eM:Int)+m),.int .i64 lo,.int .i64 hi]) (λ_=>ft cv id s n row f++ [fN gl gs cl cs]) (λ_=>True) (hc.trans (hl f)) hb ?_ ?_
   .by_cases c3:eM<m
    .rw[ai2 c3]at an ai
     have e4:IntKind.i64.wrap ((eM:Int)+m - b)=(lo:Int):=by rw[bX om om];omega
     refine zA ?_
     simp[go_sem,c3,e4]
     exact zJ () ⟨tV,yG (by simp[hl]) (by simp[go_sem,ai])⟩
    .rw[ai1 c3]at an ai
     refine zA ?_
     simp[go_sem,c3]
     exact zJ () ⟨tV,yG (by simp[hl]) (by simp[go_sem,an,ai])⟩
   rintro _ _
   obtain⟨p,hp⟩:=eX (eM+m - 1)
   have e5:IntKind.i64.wrap ((eM:Int)+m - 1)=(p:Int):=by rw[bX om om];omega
   refine zO (zA ?_)
   simp[go_sem,e5]
   refine zO (zA ?_)
   simp[go_sem]
   refine zI (S:=Nat×Nat) [1,2,3,4,16,17,18,19,20] (λu=> [.int .i64 a,.int .i64 m,.int .i64 b,.ptr cv.length 0,.int .i64 eM,.int .i64 ((eM:Int)+m),.int .i64 u.1,.int .i64 u.2,.int .i64 p]) (λ_=>ft cv id s n row f++ [fN gl gs cl cs]) (λu=>u.2 - u.1)
    (λu=>lo<=u.1/\u.1<=u.2/\u.2<=hi/\(∀x,lo<=x->x<u.1->TO lt (f x) (f (p - x)))/\ ∀x,u.2<=x->x<hi->TO lt (f (p - x)) (f x)) (hc.trans (hl f)) hb (lo,hi) ⟨A7 _,l2,A7 _,λx q1 q2=>om,λx q1 q2=>om⟩ ?_ ?_
   .exact yG (by simp[hl]) sg
   rintro⟨i,j⟩ ⟨aw,aj,hj,hL,hR⟩
   simp only at aw aj hj hL hR
   by_cases q:i<j
   .obtain⟨h,hh⟩:=eX ((i+j)/2)
    have eh:=LA (i:=i) (j:=j) om
    rw[hh]at eh
    have ei:=zU (show h<j by omega) om
    have e6:IntKind.i64.wrap ((p:Int) - h)=((p - h:Nat):Int):=by rw[bX om om];omega
    have hle:=λK=>S.less c [fN gl gs cl cs] f (p - h) h K om om om
    refine zA ?_
    simp[go_sem,q,hd,eh,e6]
    refine hle _ ?_
    cases aa:lt (f (p - h)) (f h)with
    |false=>
     simp[go_sem,ei]
     exact zJ (h+1,j) ⟨by show j - (h+1)<j - i;omega,⟨by show lo<=h+1;omega,by show h+1<=j;omega,hj,λx q1 q2=>by
      have q2:x<h+1:=q2
      have t1:TO lt (f h) (f (p - h)):=(TO.xv o (ae h (p - h) om om om om)).2 aa
      by_cases c2:x=h
      .rw[c2];exact t1
      .exact((ah x h om om om).trans o t1).trans o (af (p - h) (p - x) om om om),hR⟩,yG (by simp[hl]) sg⟩
    |true=>
     simp[go_sem]
     exact zJ (i,h) ⟨by show h - i<j - i;omega,⟨aw,by show i<=h;omega,by show h<=hi;omega,hL,λx q1 q2=>by
      have q1:h<=x:=q1
      by_cases c2:x=h
      .rw[c2];exact .inl aa
      .exact((af (p - x) (p - h) om om om).trans o (.inl aa)).trans o (ah h x om om om)⟩,yG (by simp[hl]) sg⟩
   .have ak:i=j:=om
    subst ak
    obtain⟨e,he⟩:=eX (eM+m - i)
    have e7:IntKind.i64.wrap ((eM:Int)+m - i)=(e:Int):=by rw[bX om om];omega
    obtain⟨⟨r1,r2,r3,r4,r5,r6,r7⟩,aq,t1,t2,t3,t4⟩:=xv9 o (f:=f) (lo:=lo) (hi:=hi) (s:=i) (e:=e) h1 h2 ar.symm ah af an.symm ai.symm aw hj he.symm (λx q1 q2=>by rw[hp];exact hL x q1 q2) (λx q1 q2=>by rw[hp];exact hR x q1 q2)
    have aC:=ae.Ix r3 r4 r6 r7
    have aD:=ae.Iy r1 r3 r4 r7
    have aE:Mv f (dy f i m e) a b:=(Mv.Ly f r3 r4).mono r1 r6
    have ao: ¬(i<m/\m<e)->dy f i m e=f:=λhn=>by
     rcases Bv i m with c|c
     .have:e=m:=om
      rw[this];exact Vv f i m
     .have:i=m:=om
      rw[this];exact O7 f m e
    have ay:=λc1 c2=>xN9 S f i m e c1 c2 om
    generalize dy f i m e=g0 at*
    refine zA ?_
    simp[go_sem]
    refine zO (zA ?_)
    simp[go_sem,e7]
    refine ou (S:=Unit) [1,2,3,4,16,18,22] (λ_=> [.int .i64 a,.int .i64 m,.int .i64 b,.ptr cv.length 0,.int .i64 eM,.int .i64 i,.int .i64 e]) (λ_=>ft cv id s n row g0++ [fN gl gs cl cs]) (λ_=>True) (hc.trans (hl f)) hb ?_ ?_
    .by_cases k1:i<m
     .by_cases k2:m<e
      .have ab:=ay k1 k2
       refine zA ?_
       simp[go_sem,k1,k2,hd]
       refine S.call ab cB rfl ?_
       rintro g' rfl
       simp[go_sem]
       exact zJ () ⟨tV,yG (by simp[hl]) sg⟩
      .rw[ao λh=>k2 h.2]
       refine zA ?_
       simp[go_sem,k1,k2]
       exact zJ () ⟨tV,yG (by simp[hl]) sg⟩
     .rw[ao λh=>k1 h.1]
      refine zA ?_
      simp[go_sem,k1]
      exact zJ () ⟨tV,yG (by simp[hl]) sg⟩
    rintro _ _
    clear ay ao hL hR
    refine ou (S:=Nat->Nat) [1,2,3,4,16,22] (λ_=> [.int .i64 a,.int .i64 m,.int .i64 b,.ptr cv.length 0,.int .i64 eM,.int .i64 e]) (λg=>ft cv id s n row g++ [fN gl gs cl cs]) (λg=>kj lt g0 g a eM) (hc.trans (hl f)) hb ?_ ?_
    .by_cases k1:a<i
     .by_cases k2:i<eM
      .have ab:=ih g0 a i eM om k1 k2 om t1 t2 aC
       refine zA ?_
       simp[go_sem,k1,k2,hd]
       refine S.call ab cB rfl ?_
       rintro g' ax
       simp[go_sem]
       exact zJ g' ⟨ax,yG (by simp[hl]) sg⟩
      .have hq:jg lt g0 a eM:=by rw[show eM=i by omega];exact t1
       refine zA ?_
       simp[go_sem,k1,k2]
       exact zJ g0 ⟨kj.id hq,yG (by simp[hl]) sg⟩
     .have hq:jg lt g0 a eM:=by rw[show a=i by omega];exact t2
      refine zA ?_
      simp[go_sem,k1]
      exact zJ g0 ⟨kj.id hq,yG (by simp[hl]) sg⟩
    rintro ad q1
    have same: ∀k,eM<=k->ad k=g0 k:=λk hk=>q1.1.out (.inr hk)
    have az:jg lt ad eM e:=λx y x1 x2 x3=>by rw[same x x1,same y om];exact t3 x y x1 x2 x3
    have a1:jg lt ad e b:=λx y x1 x2 x3=>by rw[same x om,same y om];exact t4 x y x1 x2 x3
    have a6:um ad eM e b:=λx y x1 x2 x3 x4=>by rw[same x x1,same y om];exact aD x y x1 x2 x3 x4
    have fin: ∀g2,kj lt ad g2 eM b->kj lt f g2 a b:=λg2 q2=>kj.both aE aq ⟨om,om⟩ q1 q2
    by_cases k1:eM<e
    .by_cases k2:e<b
     .have ab:=ih ad eM e b om k1 k2 om az a1 a6
      refine zA ?_
      simp[go_sem,k1,k2,hd]
      refine S.call ab cB rfl ?_
      rintro g' ax
      simp[go_sem]
      exact yZ cv.length (Cb (hl _)) (hl _) (S.iD _) (Cd (hl f)) (zC rfl) ⟨rfl,_,rfl,fin g' ax⟩
     .have hq:jg lt ad eM b:=by rw[show b=e by omega];exact az
      refine zA ?_
      simp[go_sem,k1,k2]
      exact yZ cv.length (Cb (hl _)) (hl _) (S.iD _) (Cd (hl f)) (zC rfl) ⟨rfl,_,rfl,fin ad (kj.id hq)⟩
    .have hq:jg lt ad eM b:=by rw[show eM=e by omega];exact a1
     refine zA ?_
     simp[go_sem,k1]
     exact yZ cv.length (Cb (hl _)) (hl _) (S.iD _) (Cd (hl f)) (zC rfl) ⟨rfl,_,rfl,fin ad (kj.id hq)⟩
theorem O8 (S:SC prog gl gs cl cs cv id s n row lt) (o:Ord lt): ∀(d:Nat) (f:Nat->Nat) (a m b:Nat),b - a<d->a<m->m<b->b<=n->jg lt f a m->jg lt f m b->um f a m b->
  bN prog 281 [.agg [.fn gl cl,.fn gs cs],.int .i64 a,.int .i64 m,.int .i64 b] (ft cv id s n row f) (λr t=>r= .cz []/\ ∃g,t=ft cv id s n row g/\kj lt f g a b)
 |0,_,_,_,_,h,_,_,_,_,_,_=>absurd h om
 |d+1,f,a,m,b,h,h1,h2,h3,aa,ab,hg=>yq5 S o f a m b h1 h2 h3 aa ab hg λf' a' m' b' h' q1 q2 q3 q4 q5 q6=>O8 S o d f' a' m' b' om q1 q2 q3 q4 q5 q6
end
section
variable {gl gs:FuncId} {cl cs:List V} {cv:St} {id s n:Nat} {row:Nat->List V} {lt:Nat->Nat->Bool}
theorem xP3 (S:SC prog gl gs cl cs cv id s n row lt) (o:Ord lt):
  bN prog 223 [.agg [.fn gl cl,.fn gs cs],.int .i64 n] (ft cv id s n row λk=>k) (λr t=>r= .cz []/\ ∃g,t=ft cv id s n row g/\kj lt (λk=>k) g 0 n):=by
 have hn:=S.nn
 refine bN.iv (ft cv id s n row λk=>k).length func223 ntmps223 results223 rfl rfl (C4 rfl) λc hc hb=> ?_
 have hl: ∀g,(ft cv id s n row g).length=cv.length:=λg=>AZ ..
 have hd:=Lz (cv:=cv) (id:=id) (s:=s) (n:=n) (row:=row) (gl:=gl) (gs:=gs) (cl:=cl) (cs:=cs)
 refine zO (zA ?_)
 simp[go_sem,hl]
 refine zO (zA ?_)
 simp[go_sem]
 refine zO (zA ?_)
 simp[go_sem]
 refine zO (zA ?_)
 simp[go_sem]
 refine zI (S:=Nat×Nat×(Nat->Nat)) [1,2,4,5,6] (λu=> [.int .i64 n,.ptr cv.length 0,.int .i64 20,.int .i64 u.2.1,.int .i64 ((u.2.1+20:Nat):Int)]) (λu=>ft cv id s n row u.2.2++ [fN gl gs cl cs]) (λu=>n - u.2.1)
  (λu=>u.2.1=u.1*20/\u.2.1<=n/\(∀q,q<u.1->kB lt u.2.2 (q*20) (q*20+20))/\(∀k,u.2.1<=k->u.2.2 k=k)/\Mv (λk=>k) u.2.2 0 n) (hc.trans (hl _)) hb (0,0,λk=>k) ⟨rfl,A3 _,λq hq=>absurd hq (Nat.not_lt_zero _),λ_ _=>rfl,Mv.refl _ _ _⟩ ?_ ?_
 .exact yG (by simp[hl]) sg
 rintro⟨t,A,g⟩ ⟨hA,af,ai,hid,ab⟩
 simp only at hA af ai hid ab
 have ah: ∀b,∀x y,A<=x->x<y->y<b->g x<g y:=λb x y x1 x2 x3=>by rw[hid x x1,hid y om];exact x2
 by_cases q:A+20<=n
 .have q':(A:Int)+20<=n:=om
  have e1:IntKind.i64.wrap ((A:Int)+20+20)=(A:Int)+20+20:=bX om om
  have aa:=VB S o g A (A+20) om q (ah _)
  refine zA ?_
  simp[go_sem,q',hd]
  refine S.call aa cB rfl ?_
  rintro g' ad
  rw[hA]at ad
  rw[hA]at hid
  obtain⟨f1,f2⟩:=xs3 ai hid ad
  simp[go_sem,e1]
  exact zJ (t+1,A+20,g') ⟨by show n - (A+20)<n - A;omega,⟨by show A+20=(t+1)*20;omega,q,f1,λk hk=>f2 k (by have:A+20<=k:=hk;omega),ab.trans (ad.1.mono (A3 _) om)⟩,yG (by simp[hl]) sg⟩
 .have q': ¬(A:Int)+20<=n:=om
  have aa:=VB S o g A n af (A7 _) (ah _)
  refine zA ?_
  simp[go_sem,q']
  refine zO (zA ?_)
  simp[go_sem,hd]
  refine S.call aa cB rfl ?_
  rintro g' ad
  rw[hA]at ad hid
  have hB:=yY6 ai hid om om ad
  have aj:=ab.trans (ad.1.mono (A3 _) (A7 _))
  clear aa ad ah hid ai ab
  simp[go_sem]
  refine zA ?_
  simp[go_sem]
  refine zI (S:=Nat×(Nat->Nat)) [1,2,4] (λu=> [.int .i64 n,.ptr cv.length 0,.int .i64 u.1]) (λu=>ft cv id s n row u.2++ [fN gl gs cl cs]) (λu=>n - u.1)
   (λu=>20<=u.1/\u.1<=2000020/\mO lt u.2 u.1 n/\Mv (λk=>k) u.2 0 n) (hc.trans (hl _)) hb (20,g') ⟨A7 _,by show 20<=2000020;omega,hB,aj⟩ ?_ ?_
  .exact yG (by simp[hl]) sg
  clear hB aj q q' hA af g' g t A
  rintro⟨w,g⟩ ⟨hw,al,hB,ab⟩
  simp only at hw al hB ab
  by_cases q:w<n
  rotate_left
  .refine zA ?_
   simp[go_sem,q]
   exact yZ cv.length (Cb (hl _)) (hl _) (S.iD _) (Cd (hl _)) (zC rfl) ⟨rfl,g,rfl,ab,(hB.all om).2⟩
  have e2:IntKind.i64.wrap (2*(w:Int))=2*(w:Int):=bX om om
  have e3:IntKind.i64.wrap ((w:Int)*2)=(w:Int)*2:=bX om om
  refine zA ?_
  simp[go_sem,q,e2]
  refine zI (S:=Nat×Nat×(Nat->Nat)) [1,2,4,5,6] (λu=> [.int .i64 n,.ptr cv.length 0,.int .i64 w,.int .i64 u.2.1,.int .i64 ((u.2.1+2*w:Nat):Int)]) (λu=>ft cv id s n row u.2.2++ [fN gl gs cl cs]) (λu=>n - u.2.1)
   (λu=>u.2.1=u.1*(2*w)/\u.2.1<=n/\jT lt u.2.2 w n u.1/\Mv (λk=>k) u.2.2 0 n) (hc.trans (hl _)) hb (0,0,g) ⟨sm,A3 _,jT.start hB,ab⟩ ?_ ?_
  .exact yG (by simp[hl]) sg
  clear hB ab g
  rintro⟨t,A,g⟩ ⟨hA,af,hM,ab⟩
  simp only at hA af hM ab
  have e4:IntKind.i64.wrap ((A:Int)+w)=(A:Int)+w:=bX om om
  by_cases p:A+2*w<=n
  .have p':(A:Int)+2*w<=n:=om
   have e5:IntKind.i64.wrap ((A:Int)+2*w+2*w)=(A:Int)+2*w+2*w:=bX om om
   have ae:=hM.pair om (by rw[<-hA];omega)
   rw[<-hA,C8 p]at ae
   have aa:=O8 S o (2*w+1) g A (A+w) (A+2*w) om om om p ae.1.2 ae.2.2 (ae.1.VA ae.2)
   refine zA ?_
   simp[go_sem,p',hd,e4]
   refine S.call aa cB rfl ?_
   rintro g' ad
   have hN:=hM.next om (by rw[<-hA];exact p) (hA▸ad)
   have em:(t+1)*(2*w)=t*(2*w)+2*w:=by rw[B3,D7]
   simp[go_sem,e2,e5]
   exact zJ (t+1,A+2*w,g') ⟨by show n - (A+2*w)<n - A;omega,⟨by show A+2*w=(t+1)*(2*w);rw[em,hA],p,hN,ab.trans (ad.1.mono (A3 _) p)⟩,yG (by simp[hl]) sg⟩
  .have p': ¬(A:Int)+2*w<=n:=om
   by_cases p2:A+w<n
   .have ak:(A:Int)+w<n:=om
    have ae:=hM.pair om (by rw[<-hA];exact p2)
    rw[<-hA,Nat.min_eq_right om]at ae
    have aa:=O8 S o (2*w+1) g A (A+w) n om om p2 (A7 _) ae.1.2 ae.2.2 (ae.1.VA ae.2)
    refine zA ?_
    simp[go_sem,p',ak,hd,e4]
    refine S.call aa cB rfl ?_
    rintro g' ad
    have hN:=hM.last om (by rw[<-hA];exact p2) (by rw[<-hA];omega) (hA▸ad)
    simp[go_sem,e3]
    exact zJ (w*2,g') ⟨by show n - w*2<n - w;omega,⟨by show 20<=w*2;omega,by show w*2<=2000020;omega,by show mO lt g' (w*2) n;rw[Dr];exact hN,ab.trans (ad.1.mono (A3 _) (A7 _))⟩,yG (by simp[hl]) sg⟩
   .have ak: ¬(A:Int)+w<n:=om
    have hN:=hM.none (by rw[<-hA];exact af) (by rw[<-hA];omega)
    refine zA ?_
    simp[go_sem,p',ak,e4,e3]
    exact zJ (w*2,g) ⟨by show n - w*2<n - w;omega,⟨by show 20<=w*2;omega,by show w*2<=2000020;omega,by show mO lt g (w*2) n;rw[Dr];exact hN,ab⟩,yG (by simp[hl]) sg⟩
end
end Go.Proofs.YtplackkccmeioaaGreat
namespace Go.Proofs.YtplackkccmeioaaGreat
open Go Go.Vx R Go.Proofs.Tryz
set_option maxRecDepth 100000
variable {U:Type}{l:List Ln}{b:Mp aiA}{n:Nat}
def km (gt:U->Bool) (out:List U) (x:U):List U:=(out.reverse.dropWhile gt).reverse++x::(out.reverse.takeWhile gt).reverse
theorem VD (gt:U->Bool) (out:List U) (x:U):(km gt out x).Perm (x::out):=by
 unfold km
 refine De.trans (List.Perm.cons _ ?_)
 rw[<-List.reverse_append,Cl,List.reverse_reverse]
theorem xH8 {J:Type} (h:U->J) (gt:J->Bool) (out:List U) (x:U):(km (λy=>gt (h y)) out x).map h=km gt (out.map h) (h x):=by
 unfold km
 rw[Ca,Ah,List.map_reverse,List.map_reverse,<-List.map_reverse (l:=out),List.dropWhile_map,List.takeWhile_map]
 rfl
theorem yP4 {lt:Nat->Nat->Bool} (o:Ord lt) {out:aiB} {x:Nat} (hs:out.Pairwise (TO lt)) (hx: ∀y∈out,y<x):(km (λy=>lt x y) out x).Pairwise (TO lt):=by
 have hl:out=(out.reverse.dropWhile (λy=>lt x y)).reverse++(out.reverse.takeWhile (λy=>lt x y)).reverse:=by
  grind[Cl]
 have ab: ∀y∈out.reverse.takeWhile (λy=>lt x y),lt x y:=by
  intro y hy
  exact Am.1 List.all_takeWhile y hy
 have ad: ∀y∈out.reverse.dropWhile (λy=>lt x y),lt x y=false:=by
  cases hd:out.reverse.dropWhile (λy=>lt x y)with
  |nil=>simp
  |cons z d=>
   have hz:lt x z=false:=by
    have:=List.head?_dropWhile_not (λy=>lt x y) out.reverse
    grind
   intro y hy
   rcases Ae.1 hy with rfl|hy
   .exact hz
   .have hp:(out.reverse).Pairwise (λa b=>TO lt b a):=(by grind)
    have aa:(z::d).Pairwise (λa b=>TO lt b a):=(by grind)
    have h3:=(C9.1 aa).1 y hy
    cases q:lt x y with
    |false=>rfl
    |true=>
     rcases h3 with h3|⟨h3,_⟩
     .rw[o.tr _ _ _ q h3]at hz;cases hz
     .have:=o.nt _ _ _ hz h3;grind
 unfold km
 rw[hl,Br]at hs
 have ae: ∀y∈out.reverse.dropWhile (λy=>lt x y),y∈out:=(by grind)
 rw[Br,C9]
 refine⟨hs.1,⟨λy hy=> .inl (by grind),hs.2.1⟩,λy hy z hz=> ?_⟩
 rcases Ae.1 hz with rfl|hz
 .exact .inr (by grind)
 grind
def rD (lt:Nat->Nat->Bool) (n:Nat):aiB:=(List.range n).foldl (λout x=>km (λy=>lt x y) out x) []
theorem VE {lt:Nat->Nat->Bool} (o:Ord lt): ∀n,(rD lt n).Perm (List.range n)/\(rD lt n).Pairwise (TO lt)
 |0=>⟨List.Perm.nil,List.Pairwise.nil⟩
 |n+1=>by
  obtain⟨h1,h2⟩:=VE o n
  have e:rD lt (n+1)=km (λy=>lt n y) (rD lt n) n:=by
   unfold rD;rw[List.range_succ,Cc];rfl
  rw[e]
  refine⟨(VD _ _ _).trans ?_,yP4 o h2 λy hy=>Cm.1 (h1.mem_iff.1 hy)⟩
  grind
theorem xz1 {lt:Nat->Nat->Bool} (o:Ord lt) {f:Nat->Nat} (hm:Mv id f 0 n) (hs:jg lt f 0 n):(List.range n).map f=rD lt n:=by
 obtain⟨hp,hq⟩:=VE o n
 obtain⟨π,p1,p2,p3,p4⟩:=hm
 have hf: ∀k,f k=π k:=p4
 have ad:((List.range n).map f).Nodup:=by
  grind[Bf]
 have aa:((List.range n).map f).Perm (List.range n):=by
  rw[List.perm_ext_iff_of_nodup ad Bf]
  have ab: ∀y∈(List.range n).map f,y∈List.range n:=(by grind)
  intro y
  refine⟨ab y,λhy=>Classical.byContradiction λhn=> ?_⟩
  have h1:(y::(List.range n).map f).Nodup:=(by grind)
  have:=h1.length_le_of_subset (l₂:=List.range n) (by grind)
  grind
 have ae:((List.range n).map f).Pairwise (TO lt):=by
  rw[D1]
  have:=List.pairwise_lt_range (n:=n)
  refine List.Pairwise.imp_of_mem (fun{a b} ha hb af=> ?_) this
  exact hs a b om af (by grind)
 exact(aa.trans hp.symm).eq_of_pairwise (λa b _ _ h1 h2=>absurd (h1.trans o h2) (λh=>h.Gs o)) ae hq
theorem xa4 (gt:U->U->Bool) (l:List U) (d:U):l.foldl (λout x=>km (λy=>gt x y) out x) []=(rD (λi j=>gt (l.getD i d) (l.getD j d)) l.length).map λi=>l.getD i d:=by
 have key: ∀n,n<=l.length->(l.take n).foldl (λout x=>km (λy=>gt x y) out x) []=(rD (λi j=>gt (l.getD i d) (l.getD j d)) n).map λi=>l.getD i d:=by
  intro n
  induction n with
  |zero=>grind[rD]
  |succ n ih=>
   intro h
   have hn:n<l.length:=h
   rw[Ag hn,Cc,ih om]
   have e:rD (λi j=>gt (l.getD i d) (l.getD j d)) (n+1)=km (λy=>gt (l.getD n d) (l.getD y d)) (rD (λi j=>gt (l.getD i d) (l.getD j d)) n) n:=by
    unfold rD;rw[List.range_succ,Cc];rfl
   rw[e,xH8 (λi=>l.getD i d) (λy=>gt (l.getD n d) y)]
   grind
 grind
def oC (a b:bK):Prop:=a.kind<b.kind\/a.kind=b.kind/\(a.n<b.n\/a.n=b.n/\Op.bytesLess a.s b.s=true)
theorem wp7 {a b:aiA} (h:Op.bytesLess a b):Op.bytesLess b a=false:=by
 cases q:Op.bytesLess b a
 .rfl
 grind[Ik,Lf]
theorem O9 (a b:bK):(jx a b<0↔oC a b)/\(0<jx a b↔oC b a):=by
 grind[jx,oC,tZ,gx,jb,wp7]
theorem oC.Gs (a:bK): ¬oC a a:=by
 intro h
 rcases h with h|⟨_,h|⟨_,h⟩⟩
 all_goals grind[Lf]
theorem oC.trans {a b c:bK} (h:oC a b) (g:oC b c):oC a c:=by
 rcases h with h|⟨h,h|⟨h',h⟩⟩<;>rcases g with g|⟨g,g|⟨g',g⟩⟩
 .exact .inl om
 .exact .inl om
 .exact .inl om
 .exact .inl om
 .exact .inr om
 .exact .inr om
 .exact .inl om
 .exact .inr om
 .exact .inr (by grind[Ik])
theorem oC.some {a c:bK} (b:bK) (h:oC a c):oC a b\/oC b c:=by
 rcases aiw a.kind b.kind with k|k|k
 .exact .inl (.inl k)
 .rcases h with h|⟨h,h⟩
  .exact .inr (.inl om)
  .rcases aiw a.n b.n with m|m|m
   .exact .inl (.inr om)
   .rcases h with h|⟨h',h⟩
    .exact .inr (.inr om)
    .rcases ON a.s b.s with f|f|f
     .exact .inl (.inr (by grind))
     .exact .inr (.inr (by grind))
     .exact .inr (.inr (by grind[Ik]))
   .rcases h with h|⟨h',h⟩
    .exact .inr (.inr om)
    .exact .inr (.inr om)
 .rcases h with h|⟨h,_⟩
  .exact .inr (.inl om)
  .exact .inr (.inl om)
def n5 (d:Ln) (c:Nat) (down:Bool) (l:List Ln) (i j:Nat):Bool:=decide (0<rl c down (l.getD j d) (l.getD i d))
theorem Pa (d:Ln) (c:Nat) (down:Bool) (l:List Ln) (i j:Nat):n5 d c down l i j=true↔if down=true then oC ((l.getD j d).v.getD c zeroV) ((l.getD i d).v.getD c zeroV)else oC ((l.getD i d).v.getD c zeroV) ((l.getD j d).v.getD c zeroV):=by
 unfold n5 rl
 rw[ai7]
 cases down<;>simp[O9]
theorem VF (d:Ln) (c:Nat) (down:Bool) (l:List Ln):Ord (n5 d c down l):=by
 refine⟨λi=> ?_,λi j k h g=> ?_,λi j k h g=> ?_⟩
 .cases q:n5 d c down l i i with
  |false=>rfl
  |true=>
   grind[Pa,oC.Gs]
 .rw[Pa]at h g⊢
  split at h
  .rename_i e0
   rw[ai2 e0]at g⊢
   exact g.trans h
  .rename_i e0
   rw[ai1 e0]at g⊢
   exact h.trans g
 .cases q:n5 d c down l i k with
  |false=>rfl
  |true=>
   exfalso
   have h': ¬n5 d c down l i j:=by grind
   have g': ¬n5 d c down l j k:=by grind
   rw[Pa]at h' g' q
   split at q
   .rename_i e0
    rw[ai2 e0]at h' g'
    exact(q.some ((l.getD j d).v.getD c zeroV)).elim g' h'
   .rename_i e0
    rw[ai1 e0]at h' g'
    exact(q.some ((l.getD j d).v.getD c zeroV)).elim h' g'
theorem xP2 (d:Ln) (c:Nat) (down:Bool) (l:List Ln):pt c down l=(rD (n5 d c down l) l.length).map λi=>l.getD i d:=xa4 (λx y=>decide (0<rl c down y x)) l d
theorem xf3 {d:Ln} {c:Nat} {down:Bool} {f:Nat->Nat} (hm:Mv id f 0 l.length) (hs:jg (n5 d c down l) f 0 l.length):((List.range l.length).map λk=>l.getD (f k) d)=pt c down l:=by
 rw[xP2 d,<-xz1 (by grind[VF]) hm hs,Bb]
 rfl
def jE (T:bL) (st:bW) (c:Int) (rows:List (List V)) (n:Nat):St:= [.cd rows 3,.box T.row,.box st.row,.box [.cL 0 3 n 0 n],.box dW,.box [.int .i64 c]]
theorem BC (T:bL) (st:bW) (c:Int) (l:List Ln) (n:Nat):(jE T st c (l.map Ln.row) n).all (bT 6)=true:=by simp[jE,dW,bT,cS,cN,Ln.row,bL.row,bW.row]
theorem Ez {l:List U} {i:Nat} (h:i<l.length) (d:U):l.getD i d=l[i]:=by rw[Al,A0 h];rfl
theorem wk7 (d:Ln) (T:bL) (st:bW) (aa:Nat) (_hc0:aa<=10000) (l:List Ln) (ad: ∀x∈l,aa<x.v.length) (i j:Nat) (hi:i<l.length) (hj:j<l.length):
  bN prog 160 [.int .i64 i,.int .i64 j,.ptr 3 0,.ptr 5 0,.ptr 2 0] (jE T st aa (l.map Ln.row) l.length) (λr s=>r= .bool (n5 d aa st.down l i j)/\s=jE T st aa (l.map Ln.row) l.length):=by
 obtain⟨x,hx⟩:=eX (l[i])
 obtain⟨y,hy⟩:=eX (l[j])
 have ae:=ad x (hx▸A8 hi)
 have af:=ad y (hy▸A8 hj)
 obtain⟨v,hv⟩:=eX (x.v[aa])
 obtain⟨u,hu⟩:=eX (y.v[aa])
 have ab:=Ue v u
 obtain⟨a1,a2,a3,a4,a5,a6,a7,a8,dn,a9⟩:=st
 have hM:n5 d aa dn l i j=(if dn=true then decide (0<jx v u)else decide (jx v u<0)):=by
  unfold n5 rl
  rw[Ez hi,Ez hj,hx,hy,Ez ae,Ez af,hv,hu]
  obtain⟨h1,h2⟩:=O9 v u
  obtain⟨h3,h4⟩:=O9 u v
  split
  .rw[decide_eq_decide]
   exact⟨λh=>h2.2 (h3.1 om),λh=>by have:=h3.2 (h2.1 h);omega⟩
  .rw[decide_eq_decide]
   exact⟨λh=>h1.2 (h4.1 h),λh=>h4.2 (h1.1 h)⟩
 show bN _ _ _ _ (λr s=>r= .bool (n5 d aa dn l i j)/\_)
 rw[hM]
 clear hM
 generalize jx v u=k at ab
 have db:=BC T ⟨a1,a2,a3,a4,a5,a6,a7,a8,dn,a9⟩ aa l l.length
 generalize hB:(if dn=true then decide (0<k)else decide (k<0))=B
 have ret: ∀(r:Bool) (Il:St),r=B->cw (some (.bool r)) 6 (λr s=>r= .bool B/\s=jE T ⟨a1,a2,a3,a4,a5,a6,a7,a8,dn,a9⟩ aa (l.map Ln.row) l.length) (jE T ⟨a1,a2,a3,a4,a5,a6,a7,a8,dn,a9⟩ aa (l.map Ln.row) l.length++Il):=λr Il h=>by
  subst h
  exact yZ 6 (Cb rfl) rfl db (A7 _) (zC rfl) ⟨rfl,rfl⟩
 clear db ad
 have hk:=aiw k 0
 cases dn<;>(
  refine iV 6 func160 ntmps160 results160 λc hc hb=> ?_
  refine zA ?_
  simp[go_sem,jE]
  refine yI [(16,0)] 6 rfl kR kR ?_
  simp[go_sem,hi,hj,hx,hy,ae,af,hv,hu]
  refine pD ab ?_
  simp[go_sem]
  rcases hk with q|q|q
  .have q2: ¬0<k:=om
   simp[go_sem,q,q2]
   exact ret _ _ (by rw[<-hB];simp[q,q2])
  .subst q
   simp[go_sem]
   exact ret _ _ (by rw[<-hB];simp)
  .have q2: ¬k<0:=om
   simp[go_sem,q,q2]
   exact ret _ _ (by rw[<-hB];simp[q,q2]))
theorem VG:(Tryz.prog.info? 228).map (λi=>(i.size,i.hasPointers,i.bytes))=some (3,true,48):=kR
theorem xw2:(Tryz.prog.info? 223).map (λi=>i.desc)=some (.slice 228):=kR
theorem xJ3 (w:World):(Extern.Rtype.kind 228).run prog w= .ok 25 w:=kR
theorem wb7 {ie:TypeInfo} (hn:2<=n) (h1:ie.hasPointers) (h2:ie.bytes=48):Lib.swapperK n ie 25=9:=by
 unfold Lib.swapperK
 have e1:(n==0)=false:=by simp;omega
 have e2:(n==1)=false:=by simp;omega
 rw[e1,e2,h1,h2]
 rfl
theorem ws2 (args:aiE) (w:World):(callFunc 279 args).run prog w=((Extern.ReflectliteSwapper.swap false args).run prog w).andThen λv w'=> .ok (.value v) w':=
 run_callFunc_extern func279 kR kR kR (e:=Extern.ReflectliteSwapper.swap false) kR args w
def mb (jh:Nat):Ln:=⟨0,[],List.replicate (jh+1) zeroV⟩
noncomputable def mZ (T:bL) (st:bW) (jh:Int) (rows:List (List V)) (n:Nat):St:=jE T st jh rows n++ [.box [.cL 0 3 n 0 n],.box [.raw (typeHandle prog 223),.ptr 6 0,.int .u64 151]]
noncomputable def EA (n:Nat):List V:=if n<=1 then []else [.cL 0 3 n 0 n,.raw (typeHandle prog 228)]
theorem VH {T:bL} {st:bW} {aa:Nat} (f:Nat->Nat):ft (mZ T st aa (l.map Ln.row) l.length) 0 3 l.length (λk=>(l.getD k (mb aa)).row) f=mZ T st aa (((List.range l.length).map λk=>l.getD (f k) (mb aa)).map Ln.row) l.length:=by
 unfold ft mZ jE
 rw[Bb]
 rfl
theorem wb0 {d:Ln} (f:Nat->Nat):((List.range l.length).map λk=>l.getD (f k) d).length=l.length:=sm
theorem wp1 (G:FuncId) (T:bL) (st:bW) (aa:Nat) (ah:aa<=10000) (l:List Ln) (hl:l.length<=10000) (ai: ∀x∈l,aa<x.v.length) (hG:2<=l.length->G=279):
  SC prog 160 G [.ptr 3 0,.ptr 5 0,.ptr 2 0] (EA l.length) (mZ T st aa (l.map Ln.row) l.length) 0 3 l.length (λk=>(l.getD k (mb aa)).row) (n5 (mb aa) aa st.down l):=by
 have ae: ∀k,aa<(l.getD k (mb aa)).v.length:=λk=>by
  by_cases q:k<l.length
  .rw[Ez q];exact ai _ (A8 q)
  .rw[Al,Di om];simp[mb]
 have aq: ∀rows n,(jE T st aa rows n).length=6:=λ_ _=>rfl
 refine⟨by simp[mZ,jE],om,rfl, ?_, ?_,λk=> ?_,λc τ f i j K hi hj aj hk=> ?_,λc τ f i j K hi hj aj hk=> ?_⟩
 .unfold EA
  split
  .rfl
  .simp[mZ,jE,cN]
 .have h:=BC T st aa l l.length
  unfold mZ
  rw[E6,Ac]
  refine⟨?_,by simp[jE,bT,cS,cN]⟩
  rw[Am]at h⊢
  exact λo ho=>JY (by simp[jE]) (h o ho)
 .simp[Ln.row,cS,cN]
 .rw[VH]at hk⊢
  obtain⟨l',ab⟩: ∃l',((List.range l.length).map λk=>l.getD (f k) (mb aa))=l':=⟨_,rfl⟩
  have ak:l'.length=l.length:=by rw[<-ab,wb0]
  have hg: ∀k,k<l.length->l'.getD k (mb aa)=l.getD (f k) (mb aa):=λk hk=>by
   rw[<-ab,Ez (sU hk)];simp
  have af:=wk7 (mb aa) T st aa ah l' (λx hx=>by
   rw[<-ab]at hx
   obtain⟨k,_,rfl⟩:=Ab.1 hx
   exact ae _) i j om om
  have al:n5 (mb aa) aa st.down l' i j=n5 (mb aa) aa st.down l (f i) (f j):=by
   unfold n5
   rw[hg i hi,hg j hj]
  rw[al,ak]at af
  rw[ab]at hk⊢
  refine uR 6 af cB ?_ rfl (by have:=BC T st aa l' l.length;exact this) ?_ ?_ ?_
  .show(jE _ _ _ _ _++_++τ).take 6=_
   rw[Cn]
   exact Cb rfl
  .exact rU rfl
  .rintro r s ⟨rfl,rfl⟩
   exact⟨rfl,BC T st aa l' l.length,rfl⟩
  .rintro r s ⟨rfl,rfl⟩
   have e:jE T st aa (l'.map Ln.row) l.length++(mZ T st aa (l'.map Ln.row) l.length++τ).drop 6=mZ T st aa (l'.map Ln.row) l.length++τ:=rfl
   rw[e]
   exact hk
 .have h2:2<=l.length:=om
  rw[hG h2]
  obtain⟨ie,an,ad⟩:=Aw.1 VG
  simp only[aic]at ad
  obtain⟨ao,_,_⟩:=ad
  have e0:EA l.length= [.cL 0 3 l.length 0 l.length,.raw (typeHandle prog 228)]:=by unfold EA;rw[ai1 om]
  rw[e0]
  refine xA3 ws2 an isAgg228 ao sm (rows:=(List.range l.length).map λk=>(l.getD (f k) (mb aa)).row) (R:=(List.range l.length).map λk=>(l.getD (sw f i j k) (mb aa)).row) rfl hi hj ?_ hk
  have gd: ∀q,q<l.length->((List.range l.length).map λk=>(l.getD (f k) (mb aa)).row).getD q []=(l.getD (f q) (mb aa)).row:=λq hq=>by
   rw[Ez (sU hq)];simp
  rw[gd i hi,gd j hj]
  refine List.ext_getElem sm λk h1 h2=> ?_
  rw[List.getElem_set,List.getElem_set]
  simp only[Cz,List.getElem_range,sw]
  split
  .rename_i q;subst q
   rw[ai1 om,ai2 rfl]
  .split
   .rename_i q;subst q
    rw[ai2 rfl]
   .rename_i q1 q2
    rw[ai1 om,ai1 om]
theorem Pb (args:aiE) (w:World):(callFunc 221 args).run prog w=((Extern.ReflectliteValue.unpack (args.getD 0 (.tuple #[]))).run prog w).andThen λv w'=> .ok (.value v) w':=
 run_callFunc_extern func221 kR kR kR (e:=λargs=>Extern.ReflectliteValue.unpack (args.getD 0 (.tuple #[]))) kR args w
theorem ws3 (args:aiE) (w:World):(callFunc 222 args).run prog w=((Extern.ReflectliteSwapper.swapper "internal/reflectlite" (Extern.ReflectliteValue.valueError "Swapper") args).run prog w).andThen λv w'=> .ok (.value v) w':=
 run_callFunc_extern func222 kR kR kR (e:=Extern.ReflectliteSwapper.swapper "internal/reflectlite" (Extern.ReflectliteValue.valueError "Swapper")) kR args w
theorem ws7 (args:aiE) (w:World):(callFunc 224 args).run prog w=((Extern.ReflectliteValue.method (Extern.ReflectliteValue.valueError "reflectlite.Value.Len" 0) Extern.ReflectliteValue.len args).run prog w).andThen λv w'=> .ok (.value v) w':=
 run_callFunc_extern func224 kR kR kR (e:=Extern.ReflectliteValue.method (Extern.ReflectliteValue.valueError "reflectlite.Value.Len" 0) Extern.ReflectliteValue.len) kR args w
theorem xV8:(Tryz.prog.funcs.findIdx? (·.name== "internal/reflectlite" ++ ".Swapper$" ++toString 1),Tryz.prog.funcs.findIdx? (·.name== "internal/reflectlite" ++ ".Swapper$" ++toString 2),Tryz.prog.funcs.findIdx? (·.name== "internal/reflectlite" ++ ".Swapper$" ++toString 9))=(some 271,some 272,some 279):=kR
@[go_sem] theorem Gv:wB prog 335=some [.fV,.fV,.int .u64 0]:=kR
@[go_sem] theorem LB:eG prog 335=some 3:=kR
@[go_sem] theorem ID:cQ prog 335=some true:=kR
theorem yq4 (T:bL) (st:bW) (jh:Nat) (HB:jh<=10000) (l:List Ln) (hl:l.length<=10000) (hcl: ∀x∈l,jh<x.v.length):
  bN prog 159 [.gW 223 [.cL 0 3 l.length 0 l.length],.fn 160 [.ptr 3 0,.ptr 5 0,.ptr 2 0]] (jE T st jh (l.map Ln.row) l.length) (λr s=>r= .cz []/\s=jE T st jh ((pt jh st.down l).map Ln.row) l.length):=by
 obtain⟨ti,Pc,Pd⟩:=Aw.1 xw2
 obtain⟨ie,NG,IE⟩:=Aw.1 VG
 simp only[aic]at IE
 obtain⟨hs3,hp,hby⟩:=IE
 obtain⟨G,hG,hG2,IF⟩: ∃G,Tryz.prog.funcs.findIdx? (·.name== "internal/reflectlite" ++ ".Swapper$" ++toString (Lib.swapperK l.length ie 25))=some G/\(2<=l.length->G=279)/\(Lib.swapperK l.length ie 25<=2↔l.length<=1):=by
  have h:=xV8
  simp only[aic]at h
  obtain⟨f1,f2,f3⟩:=h
  by_cases q:2<=l.length
  .rw[wb7 q hp hby]
   exact⟨_,f3,λ_=>rfl,om⟩
  .rcases(by omega:l.length=0\/l.length=1)with e|e
   .rw[e];exact⟨_,f1,λh=>om,⟨λ_=>dC,λ_=>(by show 1<=2;decide)⟩⟩
   .rw[e];exact⟨_,f2,λh=>om,⟨λ_=>dC,λ_=>(by show 2<=2;decide)⟩⟩
 have S:=wp1 G T st jh HB l hl hcl hG2
 have VI:=xP3 S (VF (mb jh) jh st.down l)
 have VJ: ∀f,ft (mZ T st jh (l.map Ln.row) l.length) 0 3 l.length (λk=>(l.getD k (mb jh)).row) f=mZ T st jh (((List.range l.length).map λk=>l.getD (f k) (mb jh)).map Ln.row) l.length:=λf=>VH f
 have Pe:((List.range l.length).map λk=>l.getD k (mb jh))=l:=by
  refine List.ext_getElem sm λk h1 h2=> ?_
  simp[h2]
 have Pf:bN prog 223 [.agg [.fn 160 [.ptr 3 0,.ptr 5 0,.ptr 2 0],.fn G (EA l.length)],.int .i64 l.length] (mZ T st jh (l.map Ln.row) l.length) (λr t=>r= .cz []/\t=mZ T st jh ((pt jh st.down l).map Ln.row) l.length):=by
  rw[VJ,Pe]at VI
  refine VI.mono λr t h=> ?_
  obtain⟨h1,g,h2,h3⟩:=h
  refine⟨h1, ?_⟩
  rw[h2,VJ]
  congr 2
  exact xf3 h3.1 h3.2
 have db: ∀m:List Ln,(mZ T st jh (m.map Ln.row) l.length).all (bT 8)=true:=λm=>by
  have h:=BC T st jh m l.length
  unfold mZ
  rw[E6,Ac]
  refine⟨?_,by simp[bT,cS,cN]⟩
  rw[Am]at h⊢
  exact λo ho=>JY dC (h o ho)
 have hsc:EA l.length=(if Lib.swapperK l.length ie 25<=2 then []else [.cL 0 3 l.length 0 l.length,.raw (typeHandle prog 228)]):=by
  unfold EA
  by_cases q:l.length<=1
  .rw[ai2 q,ai2 (IF.2 q)]
  .rw[ai1 q,ai1 λh=>q (IF.1 h)]
 refine iV 6 func159 ntmps159 results159 λc hc hb=> ?_
 refine zO (zA ?_)
 simp[go_sem]
 refine yX5 Pb Pc Pd ?_
 simp[go_sem]
 have e6:(jE T st jh (l.map Ln.row) l.length).length=6:=rfl
 rw[e6]
 refine zO (zA ?_)
 simp[go_sem]
 refine yX4 ws3 Pc Pd NG xJ3 hG ?_
 rw[<-hsc]
 simp[go_sem]
 have h7:(jE T st jh (l.map Ln.row) l.length++ [.box [.cL 0 3 l.length 0 l.length],.box [.raw (typeHandle prog 223),.ptr 6 0,.int .u64 151]])[7]? =some (.box [.raw (typeHandle prog 223),.ptr 6 0,.int .u64 151]):=rfl
 refine zA ?_
 simp[go_sem,h7]
 refine yI7 ws7 Pc Pd kR (id:=0) (s:=3) (n:=l.length) (m:=l.length) (k:=6) rfl ?_
 simp[go_sem]
 have cJ:jE T st jh (l.map Ln.row) l.length++ [.box [.cL 0 3 l.length 0 l.length],.box [.raw (typeHandle prog 223),.ptr 6 0,.int .u64 151]]=mZ T st jh (l.map Ln.row) l.length:=rfl
 rw[cJ]
 refine uR 8 Pf cB (Aa (A7 8)) rfl (db l) ?_ ?_ ?_
 .rw[Az]
  refine rU ?_
  have:=S.BB
  have e8:(mZ T st (jh:Int) (l.map Ln.row) l.length).length=8:=rfl
  rw[e8]at this
  simp[iS,jC,cS,this,cN]
 .rintro r s ⟨rfl,rfl⟩
  exact⟨rfl,db _,rfl⟩
 .rintro r s ⟨rfl,rfl⟩
  have hd8:(mZ T st (jh:Int) (l.map Ln.row) l.length).drop 8= []:=rfl
  rw[hd8]
  simp[go_sem]
  exact yZ 6 (s:=jE T st jh ((pt jh st.down l).map Ln.row) l.length) rfl rfl (BC T st jh _ _) (A7 _) (zC rfl) ⟨rfl,rfl⟩
theorem cM.get (h:cM b l) {p:Pl} {d:aiA}:b.get p=some d↔ ∃x∈l,x.at=p/\xL x.v=d:=by
 rw[Mp.get_mem h.ok,h.perm.mem_iff,Ab]
 constructor
 .rintro⟨x,hx,he⟩
  simp only[aic]at he
  exact⟨x,hx,he⟩
 .rintro⟨x,hx,h1,h2⟩
  exact⟨x,hx,by rw[h1,h2]⟩
theorem cM.get_none (h:cM b l) {p:Pl}:b.get p=none↔jD l p=false:=kX.trans h.gT
def IG (a:Mp aiA) (e:Pl×aiA):Bool:=a.get e.1 !=some e.2
def Gw (b:Mp aiA) (e:Pl×aiA):Bool:=(b.get e.1).isNone
def iN (a:Mp aiA) (D:List (Pl×aiA)):List Pl:=(D.filter (IG a)).map (·.1)
def iE (b:Mp aiA) (D:List (Pl×aiA)):List Pl:=(D.filter (Gw b)).map (·.1)
def p8 (b:Mp aiA) (p:Pl):Wr:=⟨p,(b.get p).isNone,(b.get p).getD []⟩
theorem xD2 {a:Mp aiA} {ai now:List Ln} (ha:cM a ai) (hb:cM b now) {L:List Pl} (hp:L.Perm (iN a b.W++iE b a.W)) (hs:L.Pairwise λp q=> ¬kW q p<0):L.map (p8 b)=jd ai now:=by
 have nN:(iN a b.W).Nodup:=aie ((C2).map _) hb.keys
 have nO:(iE b a.W).Nodup:=aie ((C2).map _) ha.keys
 have nL:L.Nodup:=by
  rw[hp.nodup_iff,Co]
  refine⟨nN,nO,λp h1 q h2 e=> ?_⟩
  subst e
  obtain⟨e1,ad,rfl⟩:=Ab.1 h1
  obtain⟨e2,ae,h3⟩:=Ab.1 h2
  have h4:=(Mp.get_mem hb.ok).2 (Bn.1 ad).1
  have h5:=(Bn.1 ae).2
  unfold Gw at h5
  rw[h3,h4]at h5
  cases h5
 have hr:iB L:=by
  have:=wa1 (kx:=λp:Pl=>p) (l:=L) hs (by rw[E3];exact nL)
  rwa [E3]at this
 obtain⟨c1,c2⟩:=Lw ha.je hb.je
 refine Vn ?_ c1 λw=> ?_
 .unfold oA
  rw[D1]
  exact hr
 rw[c2 w,Ab]
 have hm: ∀p,p∈L↔p∈iN a b.W\/p∈iE b a.W:=λp=>by rw[hp.mem_iff,Ak]
 constructor
 .rintro⟨p,aj,rfl⟩
  rcases(hm p).1 aj with h|h
  .obtain⟨⟨p',d⟩,he,rfl⟩:=Ab.1 h
   obtain⟨ad,ae⟩:=Bn.1 he
   have hg:=(Mp.get_mem hb.ok).2 ad
   obtain⟨x,hx,aa,ab⟩:=hb.get.1 hg
   refine .inr ⟨by simp[p8,hg],x,hx,aa,by simp[p8,hg,ab],λy hy af ah=> ?_⟩
   have:=ha.get.2 ⟨y,hy,af.trans aa,ah.trans ab⟩
   simp[IG,this]at ae
  .obtain⟨⟨p',d⟩,he,rfl⟩:=Ab.1 h
   obtain⟨ad,ae⟩:=Bn.1 he
   have hg:=(Mp.get_mem ha.ok).2 ad
   have hn:b.get p'=none:=by simpa[Gw]using ae
   obtain⟨x,hx,aa,ab⟩:=ha.get.1 hg
   exact .inl ⟨by simp[p8,hn],by simp[p8,hn],⟨x,hx,aa⟩,hb.get_none.1 hn⟩
 .rintro(⟨h1,h2,⟨x,hx,aa⟩,h3⟩|⟨h1,x,hx,aa,ab,h3⟩)
  .have hn:=hb.get_none.2 h3
   have hg:=ha.get.2 ⟨x,hx,aa,rfl⟩
   refine⟨w.p,(hm _).2 (.inr (Ab.2 ⟨(w.p,xL x.v),Bn.2 ⟨(Mp.get_mem ha.ok).1 hg,by simp[Gw,hn]⟩,rfl⟩)), ?_⟩
   obtain⟨p,dr,da⟩:=w
   simp only at h1 h2 hn
   simp[p8,hn,h1,h2]
  .have hg:=hb.get.2 ⟨x,hx,aa,ab⟩
   refine⟨w.p,(hm _).2 (.inl (Ab.2 ⟨(w.p,w.data),Bn.2 ⟨(Mp.get_mem hb.ok).1 hg, ?_⟩,rfl⟩)), ?_⟩
   .simp only[IG,bne_iff_ne,ne_eq]
    intro h
    obtain⟨y,hy,af,ah⟩:=ha.get.1 h
    exact h3 y hy (af.trans aa.symm) (ah.trans ab.symm)
   .obtain⟨p,dr,da⟩:=w
    simp only at h1 hg
    simp[p8,hg,h1]
theorem wd2 {P:Program} {c:Ctx} {I:St} {f:FuncId} {bY args cj:List V} {KV:V->St->Prop} {rows:List (List V)} {w:Nat} (hc:bN P f cj [] λr s=>r= .cL 0 w n 0 n/\s= [.cd rows w]) (hb:xE P f) (ab:bT 0 (.cd rows w))
  (aa:bP (cP (cK [] I.length)) cj (args++bY)) (hK:KV (.cL I.length w n 0 n) (I++ [.cd rows w])):jk P c (.fn f bY) args I KV fx:=by
 refine VC.of hc hb [] C0 rfl sm aa λr s h _=> ?_
 obtain⟨rfl,rfl⟩:=h
 have e:yX [] I [.cd rows w]=I++ [.cd rows w]:=by
  simp only[yX,fI,Bj,Ct,Ah,Bp]
  rw[yY (n:=0) om ab]
 grind[dH,cK,dM,dj,dt]
def EB (a:Mp aiA) (sn:Mp Int) (m:List Ln) (B:Mp aiA) (M:List Ln×Int) (r:V) (s:St):Prop:=
 s=dm a B sn++ [.cd (m.map Ln.row) 3]/\((M.2≠0/\r= .cz [.agg (Ot.row ⟨0,[]⟩),.int .i64 M.2])\/(M.2=0/\r= .cz [.agg (Ot.row ⟨m.length,[]⟩),.int .i64 0]/\cM B M.1))
def mP (T:bL) (cG:List ct):List Ln->Mp aiA->Mp aiA
 | [],b=>b
 |x::m,b=>
  if(gB T x.v cG x.v).2≠0 then b
  else if ff T.cm (gB T x.v cG x.v).1≠0 then b
  else mP T cG m (b.put x.at (xL (gB T x.v cG x.v).1))
theorem xx6 {r:Int} {k d:aiA} {w:Nat×aiA} (h:b.at (r,k)=some w):Ob.mp (((gA V.str b.W).set (2*w.1) (.agg [.int .i64 r,.str k])).set (2*w.1+1) (.str d)) b.bs b.cV=(b.put (r,k) d).ob V.str:=by
 unfold Mp.put Mp.ob
 rw[h]
 show _=Ob.mp (gA V.str (b.W.set w.1 ((r,k),d))) _ _
 rw[<-UK]
 rfl
theorem Pg {x:Ln} (h:fM x):1<=x.v.length/\x.v.length<=20:=by
 obtain⟨tn,T,_,hT,hm⟩:=h.jA
 have h1:=xo hm
 have h2:=(by decide: ∀T∈bO,1<=T.cm.length/\T.cm.length<=20) T (by grind)
 omega
theorem VL (T:bL) (name:aiA):cU T name<T.cm.length:=by
 grind[Eo,cU]
theorem xQ7 (tn:Nat) (T:bL) (hT:bO[tn]? =some T) (st:bW) (aD:k6 st) (au: ∀x∈st.cG,0<=cU T x.name) (a b:Mp aiA) (sn:Mp Int) (l m:List Ln) (aL:cM b l) (hm: ∀x∈m,jD l x.at=true/\fM x/\(fC x.r).1=(tn:Int)) (hl:m.length<=10000):
  bN prog 108 [.ptr 3 0,.agg T.row,.agg st.row,.cL 4 3 m.length 0 m.length] (dm a b sn++ [.cd (m.map Ln.row) 3]) (EB a sn m (mP T st.cG m b) (gP T st.cG m l)):=by
 generalize hM:gP T st.cG m l=M
 generalize hB:mP T st.cG m b=B
 have av: ∀(b':Mp aiA),(dm a b' sn++([.cd (m.map Ln.row) 3]:St)).all (bT 5)=true:=(by simp[wC,bT,cS,cN,Ln.row])
 have dV: ∀(b':Mp aiA) (Il:St) (l':List Ln),b'=B->M=(l',0)->cM b' l'->cw (some (.cz [.agg [.sl .full [],.int .i64 m.length],.int .i64 0])) 5 (EB a sn m B M) (a.ob .str::b'.ob .str::sn.ob (V.int .i64):: .box [.sl .ro xJ,.sl .ro (bO.map bL.row),.mp 0,.mp 1,.mp 2]:: .cd (m.map Ln.row) 3::Il):=λb' Il l' h0 h1 h2=>
  yZ 5 (s:=dm a b' sn++ [.cd (m.map Ln.row) 3]) (r:= .cz [.agg (Ot.row ⟨m.length,[]⟩),.int .i64 0]) rfl rfl (av b') (A7 _) (yW ⟨wX ⟨zX,zF rfl,tV⟩,xV rfl,tV⟩) ⟨by rw[h0],(by grind)⟩
 have bad: ∀(b':Mp aiA) (e:Int) (Il:St),b'=B->M.2=e->e≠0->cw (some (.cz [.agg [.sl .full [],.int .i64 0],.int .i64 e])) 5 (EB a sn m B M) (a.ob .str::b'.ob .str::sn.ob (V.int .i64):: .box [.sl .ro xJ,.sl .ro (bO.map bL.row),.mp 0,.mp 1,.mp 2]:: .cd (m.map Ln.row) 3::Il):=λb' e Il h0 h1 h2=>
  yZ 5 (s:=dm a b' sn++ [.cd (m.map Ln.row) 3]) (r:= .cz [.agg (Ot.row ⟨0,[]⟩),.int .i64 e]) rfl rfl (av b') (A7 _) (yW ⟨wX ⟨zX,zF rfl,tV⟩,xV rfl,tV⟩) ⟨by rw[h0],(by grind)⟩
 refine iV 5 func108 ntmps108 results108 λc hc hb=> ?_
 refine zA ?_
 simp[go_sem,dm,fR]
 have aw: ∀(b':Mp aiA),([a.ob .str,b'.ob .str,sn.ob (V.int .i64),.box [.sl .ro xJ,.sl .ro (bO.map bL.row),.mp 0,.mp 1,.mp 2],.cd (m.map Ln.row) 3,.box T.row,.box st.row,.box dW]:St).all (bT 8)=true:=λb'=>by
  have h:=wC 8 om a b' sn
  simp only[dm,fR,Bt,D9,Db]at h⊢
  simp_all[bT,cS,cN,bW.row,bL.row,Ln.row,dW]
 have af: ∀(b':Mp aiA) (x:Ln) (row:List bK),([a.ob .str,b'.ob .str,sn.ob (V.int .i64),.box [.sl .ro xJ,.sl .ro (bO.map bL.row),.mp 0,.mp 1,.mp 2],.cd (m.map Ln.row) 3,.box T.row,.box st.row,.box dW,.box x.row,.cd (row.map bK.row) 3]:St).all (bT 10)=true:=λb' x row=>by
  have h:=wC 10 om a b' sn
  simp only[dm,fR,Bt,D9,Db]at h⊢
  simp_all[bT,cS,cN,bW.row,bL.row,Ln.row,bK.row,dW]
 have ax:T.cm.length<=maxLen:=(by decide: ∀T∈bO,T.cm.length<=maxLen) T (Bk hT)
 have hlen: ∀x,fM x->(fC x.r).1=(tn:Int)->x.v.length=T.cm.length:=λx hx an=>by
  obtain⟨aE,T',h1,h2,h3⟩:=hx.jA
  have:aE=tn:=by omega
  grind[xo]
 refine zI (S:=Nat×Mp aiA×List Ln) [0,3,5,6,8,9,18,19,20] (λu=> [.ptr 3 0,.cL 4 3 m.length 0 m.length,.ptr 5 0,.ptr 6 0,.ptr 7 0,.int .i64 0,.cL 4 3 m.length 0 m.length,.int .i64 m.length,.int .i64 u.1])
  (λu=> [a.ob .str,u.2.1.ob .str,sn.ob (V.int .i64),.box [.sl .ro xJ,.sl .ro (bO.map bL.row),.mp 0,.mp 1,.mp 2],.cd (m.map Ln.row) 3,.box T.row,.box st.row,.box dW]) (λu=>m.length - u.1)
  (λu=>u.1<=m.length/\cM u.2.1 u.2.2/\(∀p,jD u.2.2 p=jD l p)/\gP T st.cG (m.drop u.1) u.2.2=M/\mP T st.cG (m.drop u.1) u.2.1=B) hc hb (0,b,l) (by grind) ?_ ?_
 .exact cc 8 (by simp[go_sem,dW]) rfl (aw b) dC (zD sg rfl)
 rintro⟨i,b1,l1⟩ ⟨hi,aj,ah,aa,ab⟩
 simp only at hi aj ah aa ab
 by_cases q:i<m.length
 rotate_left
 .rw[A9 om,gP]at aa
  rw[A9 om,mP]at ab
  refine zA ?_
  simp[go_sem,q,dW]
  exact dV b1 _ l1 ab aa.symm aj
 have ei:=zU q om
 obtain⟨x,hx⟩:=eX (m[i])
 obtain⟨ay,ae,an⟩:=hm x (hx▸A8 q)
 refine zA ?_
 simp[go_sem,q,hx]
 have aP:=Pg ae
 have aF:=U5 x.v om (by grind)
 refine wd2 aF cB (by simp[bT,cS,cN,bK.row]) ⟨zK,tV⟩ ?_
 simp[go_sem,dW]
 obtain⟨E,hE⟩:=eX (gB T x.v st.cG x.v)
 rw[A5 q,hx,gP,hE]at aa
 rw[A5 q,hx,mP,hE]at ab
 have az:=aD.cG
 refine zI (S:=Nat×List bK) [0,3,5,6,8,9,11,12,18,19,20,28,29,30] (λu=> [.ptr 3 0,.cL 4 3 m.length 0 m.length,.ptr 5 0,.ptr 6 0,.ptr 7 0,.int .i64 0,.ptr 8 0,.cL 9 3 x.v.length 0 x.v.length,.cL 4 3 m.length 0 m.length,.int .i64 m.length,.int .i64 i,.sl .ro (st.cG.map ct.row),.int .i64 st.cG.length,.int .i64 u.1])
  (λu=> [a.ob .str,b1.ob .str,sn.ob (V.int .i64),.box [.sl .ro xJ,.sl .ro (bO.map bL.row),.mp 0,.mp 1,.mp 2],.cd (m.map Ln.row) 3,.box T.row,.box st.row,.box dW,.box x.row,.cd (u.2.map bK.row) 3]) (λu=>st.cG.length - u.1)
  (λu=>u.1<=st.cG.length/\u.2.length=x.v.length/\gB T x.v (st.cG.drop u.1) u.2=E) hc hb (0,x.v) ⟨A3 _,rfl,hE⟩ ?_ ?_
 .exact cc 10 (by simp[go_sem,dW]) rfl (af b1 x x.v) dC (zD sg rfl)
 rintro⟨j,row⟩ ⟨hj,ak,ad⟩
 simp only at hj ak ad
 by_cases qj:j<st.cG.length
 .have ej:=zU qj om
  obtain⟨y,hy⟩:=eX (st.cG[j])
  have aG:=(az.2 y (hy▸A8 qj)).2
  have aQ:=au y (hy▸A8 qj)
  rw[A5 qj,hy,gB]at ad
  have ai:=Lq T ax x.v ae.ok y.e aG
  have a1:Pure prog 142 [.agg T.row,.str y.name] (.int .i64 (cU T y.name)):=Gd T y.name ax
  obtain⟨k,hk⟩: ∃k:Nat,cU T y.name=k:=⟨(cU T y.name).toNat,om⟩
  have aR:k<row.length:=by
   have h1:=VL T y.name
   grind
  have aH:k<x.v.length:=om
  rw[hk]at a1 ad
  simp only[B1]at ad
  obtain⟨⟨v,er⟩,hv⟩: ∃kv,gN T x.v y.e=kv:=⟨_,rfl⟩
  rw[hv]at ad ai
  simp only at ad
  refine zA ?_
  simp[go_sem,qj,hy]
  refine zL ai cB ⟨zC rfl,zK,xi y.e,tV⟩ rfl ?_
  simp[go_sem,fm]
  by_cases q2:er=0
  rotate_left
  .have ao:(er !=0)=true:=sU q2
   rw[ai2 q2]at ad
   subst ad
   simp only at aa ab
   rw[ai2 q2]at aa ab
   simp[go_sem,ao,dW]
   exact bad b1 er _ ab (by rw[<-aa]) q2
  have ao:(er !=0)=false:=sU q2
  rw[ai1 (λh=>h q2)]at ad
  simp[go_sem,ao]
  refine yI [(4,0)] 12 rfl kR kR ?_
  simp[go_sem]
  refine pD a1 ?_
  simp[go_sem]
  refine zH om ?_
  simp[go_sem,ak,aH,ej]
  exact zJ (j+1,row.set k v) ⟨om,(by grind),cc 10 (by simp[go_sem,dW]) rfl (af b1 x _) dC (zD sg rfl)⟩
 rw[A9 om,gB]at ad
 subst ad
 simp only at aa ab
 rw[ai1 (λh=>h rfl)]at aa ab
 have aS:=hlen x ae an
 have aI: ∀v∈row,v.ok:=by
  have h1:=Lr (T:=T) ae.ok (cG:=st.cG) (row:=x.v) (λy hy=>(az.2 y hy).2) ae.ok
  grind
 have al:=Us T row (by unfold maxLen;omega)
 have a6:xI (row.map bK.row):=by simp[xI,pP,bK.row]
 obtain⟨mr,a7⟩:=eX (ff T.cm row)
 rw[a7]at aa al ab
 have aJ:mr=0->iY row:=(by grind[Gr])
 have aq:=λh0=>SZ row (aJ h0)
 obtain⟨w0,a8⟩: ∃w0,b1.at x.at=some w0:=by
  cases h:b1.at x.at with
  |none=>have:=ah x.at;rw[ay,aj.gT.1 h]at this;grind
  |some w=>exact⟨w,rfl⟩
 have eB:b1.ob .str= .mp (gA .str b1.W) b1.bs b1.cV:=rfl
 have aA:dQ (x.r,x.k) b1.W=some w0:=a8
 have aB:=xx6 (d:=xL row) (r:=x.r) (k:=x.k) a8
 have aC:mr=0->cM (b1.put x.at (xL row)) (jy l1 x.at row):=λh0=>aj.It x.at row (by rw[ah];exact ay) ⟨⟨tn,T,an,hT,a7.trans h0⟩,ae.err,aI⟩
 have aK:wY (row.map bK.row) 0 x.v.length=row.map bK.row:=by
  rw[<-ak]
  unfold wY
  rw[Bj,Aa sm,Bb]
  rfl
 refine zA ?_
 simp[go_sem,qj]
 refine QS al cB (.step 9 3 (row.map bK.row) rfl a6 (.refl _ _)) (zP (by simp[gp,gn,gu,fZ,aK,ak,go_sem]) rfl) rfl ?_
 simp[go_sem]
 by_cases m0:mr=0
 rotate_left
 .have ar:(mr !=0)=true:=sU m0
  rw[ai2 m0]at aa ab
  simp[go_sem,ar,dW]
  exact bad b1 mr _ ab (by rw[<-aa]) m0
 have ar:(mr !=0)=false:=sU m0
 rw[ai1 (λh=>h m0)]at aa ab
 simp[go_sem,ar]
 refine yI [(7,1)] 10 rfl kR kR ?_
 simp[go_sem]
 refine Y1 (aq m0) cB (λs hs=>⟨_,_,.step 9 3 (row.map bK.row) ((Kp.get (k:=Kp.pre 10) rfl hs).trans rfl) a6 (.refl _ _),zP (by grind[gp,gn,gu,fZ]) rfl⟩) rfl ?_
 simp[go_sem,eB,po,aA,lv,lU,aB,ei]
 exact zJ (i+1,b1.put x.at (xL row),jy l1 x.at row) ⟨om,⟨q,aC m0,λp=>by show jD (jy l1 x.at row) p=_;rw[Vb];grind,aa,ab⟩,cc 8 (by simp[go_sem,dW];rfl) rfl (aw _) dC (zD sg rfl)⟩
theorem yM1 (l:List bK) (hl:l.length<=10000) (hz:l≠ []):Pure prog 95 [.sl .ro (l.map bK.row)] (.sl .ro (l.map bK.row)):=by
 refine(U5 l hl hz).Je λr s h=> ?_
 obtain⟨rfl,rfl⟩:=h
 have aa:wY (l.map bK.row) 0 l.length=l.map bK.row:=by
  unfold wY
  rw[Bj,Aa sm,Bb]
  rfl
 refine⟨_,_,.step 0 3 (l.map bK.row) rfl (by grind[xI,pP,bK.row]) (.refl _ _), ?_⟩
 simp_all[gp,gn,gu,fZ,zK]
def pz (r:Ot×Int):V:= .cz [.agg r.1.row,.int .i64 r.2]
theorem xV1 (T:bL) (name:aiA) (h:0<=cU T name): ∃k:Nat,cU T name=k/\k<T.cm.length:=by
 have:=VL T name
 exact⟨(cU T name).toNat,om,om⟩
theorem wa6 (T:bL) (st:bW) (l:List Ln) (h:AW st.items=false):lL T st l=(if(pv T st.items (lK st.bS (if 0<=cU T st.order then pt (cU T st.order).toNat st.down l else l)) []).2≠0 then(⟨0,[]⟩,(pv T st.items (lK st.bS (if 0<=cU T st.order then pt (cU T st.order).toNat st.down l else l)) []).2)else(⟨0,(pv T st.items (lK st.bS (if 0<=cU T st.order then pt (cU T st.order).toNat st.down l else l)) []).1⟩,0)):=by
 simp_all[lL]
theorem Ph (c:Nat) (down:Bool) (l:List Ln):(pt c down l).Perm l:=by
 unfold pt
 have h: ∀(m out:List Ln),(m.foldl (λout x=>Ir (λy=>decide (0<rl c down y x)) out x) out).Perm (out++m):=by
  intro m
  induction m with
  |nil=>simp
  |cons x m ih=>
   intro out
   refine(ih _).trans ?_
   refine((VD _ out x).append_right m).trans ?_
   exact De.symm
 grind
def IH (T:bL) (st:bW) (l:List Ln):List Ln:=if AW st.items=true then l else if 0<=cU T st.order then pt (cU T st.order).toNat st.down l else l
theorem yC3 (tn:Nat) (T:bL) (hT:bO[tn]? =some T) (st:bW) (an:k6 st) (hit:st.items≠ []) (l:List Ln) (hl:l.length<=10000) (db: ∀x∈l,fM x/\x.v.length=T.cm.length):
  bN prog 107 [.agg T.row,.agg st.row,.cL 0 3 l.length 0 l.length] [.cd (l.map Ln.row) 3] (λr s=>r=pz (lL T st l)/\s= [.cd ((IH T st l).map Ln.row) 3]):=by
 have ao:T.cm.length<=maxLen:=(by decide: ∀T∈bO,T.cm.length<=maxLen) T (by grind)
 have aR:T.cm.length<=20:=(by decide: ∀T∈bO,T.cm.length<=20) T (by grind)
 have ax:=we0 st an
 have ae:=wr3 T ao st an l hl (λx hx=>(db x hx).1.ok)
 obtain⟨wb,ay⟩:=eX (AW st.items)
 rw[ay]at ax
 have ah:Pure prog 142 [.agg T.row,.str st.order] (.int .i64 (cU T st.order)):=Gd T st.order ao
 obtain⟨M,hM⟩:=eX (lL T st l)
 rw[hM]
 obtain⟨C,hC⟩:=eX (IH T st l)
 rw[hC]
 have aS:wb=true->C=l:=λh=>by simp_all[IH]
 have aT:wb=false->C=if 0<=cU T st.order then pt (cU T st.order).toNat st.down l else l:=λh=>by simp_all[IH]
 have az:wb=true->rA (rk T l st.items [])=pz M:=λh=>by
  rw[<-hM]
  unfold rA pz lL
  grind
 have a1:=λh:wb=false=>(wa6 T st l (ay.trans h)).symm.trans hM
 clear hM
 refine iV 1 func107 ntmps107 results107 λc hc hb=> ?_
 refine zO (zA ?_)
 simp[go_sem]
 refine zO (zA ?_)
 simp[go_sem]
 refine pC ax ?_
 refine(A6 wb).elim (λw=> ?_) (λw=> ?_)
 .rw[az w]at ae
  simp[go_sem,w]
  refine mz 0 ae cB rfl (by grind[bT,cS,cN,Ln.row]) ⟨zC rfl,zC rfl,.inl rfl,tV⟩ (by rintro r s ⟨rfl,rfl⟩;exact⟨_,rfl,by grind[bT,cS,cN,Ln.row]⟩) ?_
  rintro r o ⟨rfl,ho⟩
  cases ho
  simp[go_sem,pz,Ot.row]
  exact yZ 1 (s:= [.cd (l.map Ln.row) 3]) (r:= .cz [.agg (Ot.row M.1),.int .i64 M.2]) rfl rfl (by simp[bT,cS,cN,Ln.row]) om (yW ⟨wX ⟨zX,zF rfl,tV⟩,xV rfl,tV⟩) ⟨rfl,by grind⟩
 .have hM:=a1 w
  clear az a1 ae
  obtain⟨m,hm⟩:=eX ((if 0<=cU T st.order then pt (cU T st.order).toNat st.down l else l))
  rw[hm]at hM
  have a6:C=m:=(by grind)
  have aF:m.Perm l:=by
   grind[Ph,List.Perm.refl]
  have aq:=aF.length_eq
  have a7:0<=cU T st.order-> ∃k:Nat,cU T st.order=k/\bN prog 159 [.gW 223 [.cL 0 3 l.length 0 l.length],.fn 160 [.ptr 3 0,.ptr 5 0,.ptr 2 0]] (jE T st k (l.map Ln.row) l.length) (λr s=>r= .cz []/\s=jE T st k (m.map Ln.row) l.length):=λh0=>by
   obtain⟨k,hk,ai⟩:=xV1 T st.order h0
   have hs:=yq4 T st k om l hl (by grind)
   rw[ai2 h0,hk,B1]at hm
   rw[hm]at hs
   exact⟨k,hk,hs⟩
  have ak: ¬0<=cU T st.order->m=l:=(by grind)
  clear hm
  simp[go_sem,w]
  refine ou (S:=Unit) [3,4,5,6] (λ_=> [.ptr 1 0,.ptr 2 0,.ptr 3 0,.ptr 4 0]) (λ_=>jE T st (cU T st.order) (m.map Ln.row) l.length) (λ_=>True) hc hb ?_ ?_
  .by_cases h0:0<=cU T st.order
   .obtain⟨k,hk,hs⟩:=a7 h0
    rw[hk]at ah⊢
    refine zA ?_
    simp[go_sem]
    refine pC ah ?_
    simp[go_sem,yv]
    refine FN (bY:= []) (args:= [.gW 223 [.cL 0 3 l.length 0 l.length],.fn 160 [.ptr 3 0,.ptr 5 0,.ptr 2 0]]) hs cB ?_
    rintro r s ⟨rfl,rfl⟩ _
    simp[go_sem]
    exact zJ () ⟨tV,cc 6 (by rfl) rfl (by grind[BC]) dC (zD (by rfl) rfl)⟩
   .rw[ak h0]
    refine zA ?_
    simp[go_sem]
    refine pC ah ?_
    simp[go_sem,h0]
    exact zJ () ⟨tV,cc 6 (by rfl) rfl (by grind[BC]) dC (zD (by rfl) rfl)⟩
  rintro _ _
  clear a7 ak ah
  generalize cU T st.order=ad at*
  obtain⟨k,a8,ai⟩: ∃k,lK st.bS m=m.take k/\k<=m.length/\(k=if 0<=st.bS/\st.bS<m.length then st.bS.toNat else m.length):=by
   unfold lK
   grind
  obtain⟨ai,ab⟩:=ai
  rw[a8]at hM
  rw[aq]at ai ab
  refine ou (S:=Unit) [3,4,5,6] (λ_=> [.ptr 1 0,.ptr 2 0,.ptr 3 0,.ptr 4 0]) (λ_=> [.cd (m.map Ln.row) 3,.box T.row,.box st.row,.box [.cL 0 3 l.length 0 k],.box dW,.box [.int .i64 ad]]) (λ_=>True) hc hb ?_ ?_
  .have ar:([.cd (m.map Ln.row) 3,.box T.row,.box st.row,.box [.cL 0 3 l.length 0 k],.box dW,.box [.int .i64 ad]]:St).all (bT 6)=true:=by simp[bT,cS,cN,Ln.row,bL.row,bW.row,dW]
   by_cases h0:0<=st.bS
   .by_cases h1:st.bS<l.length
    .rw[ai2 ⟨h0,h1⟩]at ab
     refine zA ?_
     simp[go_sem,jE,h0,h1]
     refine zH om ?_
     simp[go_sem,<-ab]
     exact zJ () ⟨tV,cc 6 (by rfl) rfl ar dC (zD (by rfl) rfl)⟩
    .rw[ai1 om]at ab
     subst ab
     refine zA ?_
     simp[go_sem,jE,h0,h1]
     exact zJ () ⟨tV,cc 6 (by rfl) rfl ar dC (zD (by rfl) rfl)⟩
   .rw[ai1 om]at ab
    subst ab
    refine zA ?_
    simp[go_sem,jE,h0]
    exact zJ () ⟨tV,cc 6 (by rfl) rfl ar dC (zD (by rfl) rfl)⟩
  rintro _ _
  clear ab a8
  refine zO (zA ?_)
  simp[go_sem]
  refine DE 6 0 1 _ dC rfl rfl ?_
  obtain⟨y0,ys,aU⟩: ∃y0 ys,st.items=y0::ys:=by
   cases h:st.items<;>grind
  obtain⟨uI,hJ⟩:=eX st.items
  obtain⟨aG,aA⟩:=an.items
  rw[hJ]at aG aA hM
  have aH:uI.head?.map (·.kind)=some y0.kind:=by grind
  have aj: ∃h:0<uI.length,uI[0]=y0:=by grind
  obtain⟨aB,aj⟩:=aj
  obtain⟨P,hP⟩:=eX (pv T uI (m.take k) [])
  rw[hP]at hM
  have aI: ∀x∈m,fM x:=(by grind)
  have fin: ∀(rows:List (List bK)) (Il:St),P=(rows,0)->cw (some (.cz [.agg [.sl (.app 7) (rows.map λr=> [V.sl .ro (r.map bK.row)]),.int .i64 0],.int .i64 0])) 1 (λr s=>r=pz M/\s= [.cd (C.map Ln.row) 3]) (.cd (m.map Ln.row) 3::Il):=λrows Il h=>by
   rw[h,ai1 om]at hM
   exact yZ 1 (s:= [.cd (m.map Ln.row) 3]) (r:= .cz [.agg (Ot.row ⟨0,rows⟩),.int .i64 0]) rfl rfl (by simp[bT,cS,cN,Ln.row]) om (yW ⟨wX ⟨zX,zF rfl,tV⟩,xV rfl,tV⟩) ⟨by rw[<-hM];rfl,by rw[a6]⟩
  have bad: ∀(er:Int) (Il:St),P.2=er->er≠0->cw (some (.cz [.agg [.sl .full [],.int .i64 0],.int .i64 er])) 1 (λr s=>r=pz M/\s= [.cd (C.map Ln.row) 3]) (.cd (m.map Ln.row) 3::Il):=λer Il h h0=>by
   rw[h,ai2 h0]at hM
   exact yZ 1 (s:= [.cd (m.map Ln.row) 3]) (r:= .cz [.agg (Ot.row ⟨0,[]⟩),.int .i64 er]) rfl rfl (by simp[bT,cS,cN,Ln.row]) om (yW ⟨wX ⟨zX,zF rfl,tV⟩,xV rfl,tV⟩) ⟨by rw[<-hM];rfl,by rw[a6]⟩
  clear hM
  have au: ∀n:Nat,∀out:List (List bK),([.cd (m.map Ln.row) 3,.box T.row,.box st.row,.box [.cL 0 3 l.length 0 k],.box dW,.box [.int .i64 ad],.box [.sl (.app 7) (out.map λr=> [V.sl .ro (r.map bK.row)]),.int .i64 0],.app n 1]:St).all (bT 8)=true:=λn out=>by simp[bT,cS,cN,Ln.row,bL.row,bW.row,dW]
  refine zO (zA ?_)
  simp[go_sem]
  refine zI (S:=Nat×List (List bK)) [3,4,6,9,49,50,51] (λu=> [.ptr 1 0,.ptr 2 0,.ptr 4 0,.ptr 6 0,.cL 0 3 l.length 0 k,.int .i64 k,.int .i64 u.1])
   (λu=> [.cd (m.map Ln.row) 3,.box T.row,.box st.row,.box [.cL 0 3 l.length 0 k],.box dW,.box [.int .i64 ad],.box [.sl (.app 7) (u.2.map λr=> [V.sl .ro (r.map bK.row)]),.int .i64 0],.app u.2.length 1]) (λu=>k - u.1)
   (λu=>u.1<=k/\u.2.length<=u.1/\pv T uI ((m.take k).drop u.1) u.2=P) hc hb (0,[]) (by grind) ?_ ?_
  .exact cc 8 (by rfl) rfl (au 0 []) dC (zD (by rfl) rfl)
  rintro⟨i,out⟩ ⟨hi,aJ,hinv⟩
  simp only at hi aJ hinv
  by_cases q:i<k
  rotate_left
  .rw[A9 (by grind),pv]at hinv
   refine zA ?_
   simp[go_sem,q]
   refine zA ?_
   simp[go_sem,dW]
   exact fin out _ hinv.symm
  have ei:=zU q om
  have aK:i<m.length:=om
  have aC:i<l.length:=om
  obtain⟨x,hx⟩:=eX (m[i])
  have aV:m[i]? =some x:=by grind
  have aD:=aI x (hx▸A8 aK)
  have aE:=Pg aD
  rw[A5 (by grind),aiv,hx,pv,aH]at hinv
  by_cases k1:y0.kind=1
  .have av:(y0.kind==1)=true:=by grind
   rw[ai2 (by rw[k1])]at hinv
   have aL:=yM1 x.v om (λh=>by rw[h]at aE;simp at aE)
   refine zA ?_
   simp[go_sem,q,aC,aq,hx,hJ,aB,aj,av]
   refine nv [(3,2),(4,0),(6,3)] 7 sm (by rfl) kR ?_
   simp[go_sem]
   refine pD aL ?_
   simp[go_sem]
   refine zH ⟨om,zY rfl⟩ ?_
   simp[go_sem,ei]
   exact zJ (i+1,out++ [x.v]) ⟨om,(by grind),cc 8 (by simp_all) rfl (au _ _) dC (zD (by rfl) rfl)⟩
  .have av:(y0.kind==1)=false:=by grind
   rw[ai1 (by grind)]at hinv
   obtain⟨E,hE⟩:=eX (eE T x.v (uI.map (·.e)) [])
   rw[hE]at hinv
   have al: ∀n:Nat,∀out:List (List bK),([.cd (m.map Ln.row) 3,.box T.row,.box st.row,.box [.cL 0 3 l.length 0 k],.box dW,.box [.int .i64 ad],.box [.sl (.app 7) (out.map λr=> [V.sl .ro (r.map bK.row)]),.int .i64 0],.app out.length 1,.box x.row,.app n 3]:St).all (bT 10)=true:=λn out=>by simp[bT,cS,cN,Ln.row,bL.row,bW.row,dW]
   refine zA ?_
   simp[go_sem,q,aC,aq,hx,hJ,aB,aj,av]
   refine l7 12 3 dC (by rfl) ?_
   refine zI (S:=Nat×List bK) [3,4,6,9,11,12,49,50,51,70,71,72] (λu=> [.ptr 1 0,.ptr 2 0,.ptr 4 0,.ptr 6 0,.ptr 8 0,.sl (.app 9) (u.2.map bK.row),.cL 0 3 l.length 0 k,.int .i64 k,.int .i64 i,.sl .ro (uI.map cO.row),.int .i64 uI.length,.int .i64 u.1])
    (λu=> [.cd (m.map Ln.row) 3,.box T.row,.box st.row,.box [.cL 0 3 l.length 0 k],.box dW,.box [.int .i64 ad],.box [.sl (.app 7) (out.map λr=> [V.sl .ro (r.map bK.row)]),.int .i64 0],.app out.length 1,.box x.row,.app u.2.length 3]) (λu=>uI.length - u.1)
    (λu=>u.1<=uI.length/\u.2.length<=u.1/\eE T x.v ((uI.drop u.1).map (·.e)) u.2=E) hc hb (0,[]) (by grind) ?_ ?_
   .exact cc 10 (by simp[go_sem,hJ]) rfl (al _ _) dC (zD (by rfl) rfl)
   rintro⟨j,acc⟩ ⟨hj,aP,aa⟩
   simp only at hj aP aa
   by_cases p:j<uI.length
   .have ej:=zU p om
    obtain⟨y,hy⟩:=eX (uI[j])
    have aQ:=(aA y (hy▸A8 p)).2
    rw[A5 p,hy,Ah,eE]at aa
    have af:=Lq T ao x.v aD.ok y.e aQ
    obtain⟨⟨v,er⟩,hv⟩: ∃kv,gN T x.v y.e=kv:=⟨_,rfl⟩
    rw[hv]at aa af
    simp only at aa
    refine zA ?_
    simp[go_sem,p,hy]
    refine zL af cB ⟨zC rfl,zK,xi y.e,tV⟩ rfl ?_
    simp[go_sem,fm]
    by_cases q2:er=0
    rotate_left
    .have aw:(er !=0)=true:=by grind
     rw[ai2 q2]at aa
     subst aa
     simp only at hinv
     rw[ai2 q2]at hinv
     simp[go_sem,aw,dW]
     exact bad er _ (by grind) q2
    have aw:(er !=0)=false:=by grind
    rw[ai1 om]at aa
    simp[go_sem,aw]
    refine zH ⟨om,zY rfl⟩ ?_
    simp[go_sem,ej]
    exact zJ (j+1,acc++ [v]) ⟨om,(by grind),cc 10 sm rfl (al _ _) dC (zD sg rfl)⟩
   .rw[A9 om,Bp,eE]at aa
    subst aa
    simp only at hinv
    rw[ai1 om]at hinv
    refine zA ?_
    simp[go_sem,p]
    refine zH ⟨om,zY rfl⟩ ?_
    simp[go_sem,ei]
    exact zJ (i+1,out++ [acc]) ⟨om,(by grind),cc 8 sm rfl (au _ _) dC (zD (by rfl) rfl)⟩
end Go.Proofs.YtplackkccmeioaaGreat
