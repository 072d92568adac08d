/-
  exec.choose: what a SELECT tells of the rows that it meets; used by the walk of exec.Run.
  Conditions: as the theorem states them.
-/
import Derived.Test.YtplackkccmeioaaGreatKCAO
import Derived.Test.YtplackkccmeioaaGreatKCAP
import Derived.Test.YtplackkccmeioaaGreatKCAE
import Derived.Test.YtplackkccmeioaaGreatKCAF
import Derived.Test.YtplackkccmeioaaGreatKCAN
import Derived.Test.YtplackkccmeioaaGreatKCAG
set_option maxHeartbeats 8000000
namespace Go.Proofs.YtplackkccmeioaaGreat
open Go Go.Vx R Go.Proofs.Tryz
set_option maxRecDepth 100000
def Iz (a b:Mp aiZ) (sn:Mp Int) (M:List Ln×Int) (r:V) (s:St):Prop:=
 (M.2≠0/\s=dp a b sn/\r= .cy [.sl .ro [],.int .i64 M.2])\/(M.2=0/\s=dp a b sn++ [.cj (M.1.map Ln.row) 3]/\r= .cy [.cM 4 3 M.1.length 0 M.1.length,.int .i64 0])
theorem fM.IA {x:Ln} (h:fM x):jb x.v:=by
 obtain⟨tn,T,_,hT,hm⟩:=h.jD
 exact Gu ((by decide: ∀T∈bO,T.cm.length<=20) T (by grind)) h.ok hm
theorem Pb {nt:Nat} {d:Option Tmp} {K:KT} {e:Env} {I:St} {i id cZ:Nat} {seen:aj0} {b:Mp aiZ} {R0:Vx.R} (hR:R0=nj true I (.ptr i 0)) (hi:I[i]? =some (.it (some id) cZ seen cZ)) (hid:I[id]? =some (.mp (gx V.str b.W) b.bs cZ)) (hb: ∀x∈b.bs,x<cZ)
  (h0:j4 seen b.W b.bs= []->iI nt d (.cy [.bool false]) K fx e I) (h1: ∀p∈j4 seen b.W b.bs,iI nt d (.cy [.bool true,ia p.1.1,.str p.1.2]) K fx e (I.set i (.it (some id) cZ (seen++ [p.2]) cZ))):dR nt d R0 K fx e I:=by
 subst hR
 have aa:(b.bs.all λx=>decide (x<cZ))=true:=(by grind)
 unfold nj
 simp only[hi,hid,aa,A7,and_self,aiE,Vr]
 match hL:j4 seen b.W b.bs with
 | []=>exact h0 hL
 | [p]=>exact h1 p (by grind)
 |p::q::r=>
  simp only[Aj]
  rw[Y2]
  refine Y3 λx hx=> ?_
  have ab:x∈(p::q::r).map λp:(Pl×aiZ)×Nat=>((.cy [.bool true,ia p.1.1,.str p.1.2]:V),I.set i (.it (some id) cZ (seen++ [p.2]) cZ)):=by
   grind
  obtain⟨y,hy,rfl⟩:=Ac.1 ab
  exact h1 y (by grind)
theorem VL {a b:Mp aiZ} {sn:Mp Int} {m:List Ln} {k:Nat} {I:St} (hk:4<=k) (h4:I.take 4=dp a b sn) (cJ:I[k]? =some (.cj (m.map Ln.row) 3)):cx (some (.cy [.cM k 3 m.length 0 m.length,.int .i64 0])) 4 (Iz a b sn (m,0)) I:=by
 refine Nf [0,1,2,3,k] (s:=dp a b sn++ [.cj (m.map Ln.row) 3]) (r:= .cy [.cM 4 3 m.length 0 m.length,.int .i64 0]) ?_ (λi hi=> ?_) rfl (λi j o ab ho=> ?_) (.inl (by rfl)) (.inr sm)
 .grind
 .match i,hi with
  |0,_=>rfl
  |1,_=>rfl
  |2,_=>rfl
  |3,_=>rfl
 .by_cases q:i<4
  .have e:j=i:=by
    grind
   subst e
   have h1:(dp a b sn)[j]? =some o:=by grind
   have aa:bS 4 o:=Am.1 (by grind[wC]) o (Bk h1)
   rw[yY (n:=4) (λx hx=> ?_) aa]
   .grind
   .rw[wU (by grind)]
    match x,hx with
    |0,_=>rfl
    |1,_=>rfl
    |2,_=>rfl
    |3,_=>rfl
  .have e:i=4:=by
    grind
   subst e
   have e1:o= .cj (m.map Ln.row) 3:=by grind
   have e2:j=k:=by grind
   subst e1;subst e2
   rw[yY (n:=0) om (by grind[bS,cN,cL,Ln.row])]
   omega
theorem xB3 (T:bL) (st:bW) (acc:List Ln) (x:Ln) (l:List Ln):ud T st acc (x::l)=if(gL T x.v st.cA).2≠0 then([],(gL T x.v st.cA).2)else ud T st (if Ey (gL T x.v st.cA).1=true then acc++ [x]else acc) l:=rfl
theorem wt2 (tn:Nat) (T:bL) (hT:bO[tn]? =some T) (st:bW) (aI:kM st) (hv:Lf st) (a b:Mp aiZ) (sn:Mp Int) (l:List Ln) (aa:cO b l) (hl:l.length<=10000):
  bN prog 106 [.ptr 3 0,.int .i64 tn,.agg st.row] (dp a b sn) (Iz a b sn (ga tn T st l)):=by
 obtain⟨ax,aJ⟩:=A4.1 hT
 have h3:tn<3:=ax
 have ay:=Ty xJ bO tn st dC dC (by grind[Lc,maxLen]) hv
 have az:=TE tn st (by have:=Lc st;unfold maxLen;omega)
 obtain⟨⟨lo,hi⟩,a1⟩: ∃bd,nR bO tn st=bd:=⟨_,rfl⟩
 rw[a1]at ay
 obtain⟨G,hG⟩:=eX (wA tn st)
 have aK:=Uk tn st
 have a6:=λg (hg:g∈wA (tn:Int) st)=>VA tn h3 hg
 rw[hG]at az aK a6
 refine iV 4 func106 ntmps106 results106 λc hc hb=> ?_
 refine zN (zA ?_)
 simp[go_sem,dp,fQ]
 refine zN (zA ?_)
 simp[go_sem]
 refine yE [(6,0)] 5 rfl kR kR ?_
 simp[go_sem]
 refine pD ay ?_
 simp[go_sem,KZ]
 refine zN (zA ?_)
 simp[go_sem]
 refine FQ 10 3 dC sg ?_
 refine zN (zA ?_)
 simp[go_sem]
 refine yE [(6,0)] 6 rfl kR kR ?_
 simp[go_sem]
 refine pD az ?_
 simp[go_sem]
 have a7: ∀(m:List Ln),([a.ob .str,b.ob .str,sn.ob (V.int .i64),.box [.sl .ro xJ,.sl .ro (bO.map bL.row),.mp 0,.mp 1,.mp 2],.box st.row,.cj (m.map Ln.row) 3]:St).all (bS 6)=true:=λm=>by
  have h:=wC 6 om a b sn
  simp_all[dp,bS,cN,cL,bW.row,Ln.row]
 have eB:b.ob .str= .mp (gx .str b.W) b.bs b.cZ:=rfl
 have aL: ∀x∈b.bs,x<b.cZ:=aa.ok.lt
 have ad: ∀(m:List Ln) (se:aj0),([a.ob .str,b.ob .str,sn.ob (V.int .i64),.box [.sl .ro xJ,.sl .ro (bO.map bL.row),.mp 0,.mp 1,.mp 2],.box st.row,.cj (m.map Ln.row) 3,.it (some 1) b.cZ se b.cZ]:St).all (bS 7)=true:=λm se=>by
  have h:=wC 7 om a b sn
  simp_all[dp,bS,cN,cL,bW.row,Ln.row]
 refine zH (S:=Nat×List Ln) [0,1,5,8,9,10,40,41,42] (λu=> [.ptr 3 0,.int .i64 tn,.ptr 4 0,.str lo,.str hi,.cM 5 3 u.2.length 0 u.2.length,.sl .ro (G.map yS),.int .i64 G.length,.int .i64 u.1])
  (λu=> [a.ob .str,b.ob .str,sn.ob (V.int .i64),.box [.sl .ro xJ,.sl .ro (bO.map bL.row),.mp 0,.mp 1,.mp 2],.box st.row,.cj (u.2.map Ln.row) 3]) (λu=>G.length - u.1)
  (λu=>u.1<=G.length/\u.2.Perm ((G.take u.1).flatMap λg=>l.filter (Iy (xF tn g).1 lo hi))/\u.2.length<=u.1*10000) hc hb (0,[]) sm ?_ ?_
 .exact aN 6 (a7 [])
 rintro⟨i,acc⟩ ⟨aP,ak,aQ⟩
 simp only at aP ak aQ
 by_cases q:i<G.length
 .have ei:=zQ q om
  obtain⟨g,hg⟩:=eX (G[i])
  obtain⟨bc,aR,a8⟩:=a6 g (hg▸A8 q)
  have aA:=H5 tn g om om
  obtain⟨dy,aB⟩:=eX ((xF tn g).1)
  have aS:xF tn g=(dy,0):=Prod.ext aB aR
  rw[aS]at aA a8
  refine zA ?_
  simp[go_sem,q,hg,yS]
  refine pC aA ?_
  simp[go_sem,Es,eB]
  refine zH (S:=aj0×List (Pl×aiZ)) [0,1,5,8,9,10,13,40,41,42,60] (λu=> [.ptr 3 0,.int .i64 tn,.ptr 4 0,.str lo,.str hi,.cM 5 3 (acc++(u.2.filter (p0 dy lo hi)).map (vm tn)).length 0 (acc++(u.2.filter (p0 dy lo hi)).map (vm tn)).length,.int .i64 dy,.sl .ro (G.map yS),.int .i64 G.length,.int .i64 i,.ptr 6 0])
   (λu=> [a.ob .str,b.ob .str,sn.ob (V.int .i64),.box [.sl .ro xJ,.sl .ro (bO.map bL.row),.mp 0,.mp 1,.mp 2],.box st.row,.cj ((acc++(u.2.filter (p0 dy lo hi)).map (vm tn)).map Ln.row) 3,.it (some 1) b.cZ u.1 b.cZ]) (λu=>(j4 u.1 b.W b.bs).length)
   (λu=>ib u.1 b.W b.bs u.2) hc hb ([],[]) (ib.start aa.ok.len) ?_ ?_
  .exact cc 7 (by simp[go_sem];rfl) rfl (ad _ _) dC (zD sg rfl)
  rintro⟨se,D⟩ hD
  simp only at hD
  refine uH 61 dC ?_
  refine zA ?_
  simp[go_sem,eB]
  have aC: ∀p∈j4 se b.W b.bs,p.1.2.length<=cG:=λp hp=>by
   obtain⟨x,hx,aT⟩:=Ac.1 (aa.perm.mem_iff.1 (List.of_mem_zip (LA hp)).1)
   rw[<-aT]
   have:=Ol (fM.IA (aa.rows x hx)) x.v.length
   exact Aw this dC
  have bf:D.length<=10000:=by
   have h1:=hD.length_eq
   rw[aa.perm.length_eq]at h1
   grind
  have bg:((D.filter (p0 dy lo hi)).map (vm tn)).length<=D.length:=by grind
  refine Pb (b:=b) (i:=6) (id:=1) (seen:=se) (cZ:=b.cZ) (by simp[go_sem,nj]) rfl rfl aL (λhL=> ?_) (λp hp=> ?_)
  .have aU:=yQ8 aa (hD.done hL) (t:=tn) (dy:=dy) (by rw[a8]) lo hi
   simp[go_sem,ei]
   exact zI (i+1,acc++(D.filter (p0 dy lo hi)).map (vm tn)) ⟨om,⟨q,by
    show(acc++_).Perm _
    rw[Ai q,aiQ,hg]
    grind,by grind⟩,cc 6 (by simp[go_sem];rfl) rfl (a7 _) dC (zD sg rfl)⟩
  .have ae:=Ly (g:=V.str) aa.ok.nd (LA hp)
   have af:=hD.next aa.ok.nd hp
   have aD:=(Lz aa.ok.nd hp).length_eq
   have ao:=aC p hp
   clear aC
   obtain⟨⟨⟨pr,pk⟩,data⟩,ec⟩:=p
   simp only[ia]at ae af aD ao
   have ab:(j4 (se++ [ec]) b.W b.bs).length<(j4 se b.W b.bs).length:=by grind
   have an:=Ti xJ bO tn data ao dC
   have aE:vm tn ((pr,pk),data)=⟨pr,pk,(dZ bO tn data).1⟩:=rfl
   obtain⟨rf,aV⟩:=eX (dZ bO tn data)
   rw[aV]at an aE
   have al:p0 dy lo hi ((pr,pk),data)=((pr==dy)&&(!Op.bytesLess pk lo&&Op.bytesLess pk hi)):=rfl
   clear aD hp ao
   refine(A6 (pr==dy)).elim (λr1=> ?_) (λr1=> ?_)
   rotate_left
   .have hE:p0 dy lo hi ((pr,pk),data)=false:=by rw[al,r1];rfl
    simp[go_sem,ia,qo,ae,r1]
    exact zI (se++ [ec],D++ [((pr,pk),data)]) ⟨ab,af,cc 7 (by simp[go_sem,hE];rfl) rfl (ad _ _) dC (zD (by simp[go_sem,hE]) rfl)⟩
   refine(A6 (Op.bytesLess pk lo)).elim (λr2=> ?_) (λr2=> ?_)
   .have hE:p0 dy lo hi ((pr,pk),data)=false:=by rw[al,r1,r2];rfl
    simp[go_sem,ia,qo,ae,r1,r2]
    exact zI (se++ [ec],D++ [((pr,pk),data)]) ⟨ab,af,cc 7 (by simp[go_sem,hE];rfl) rfl (ad _ _) dC (zD (by simp[go_sem,hE]) rfl)⟩
   refine(A6 (Op.bytesLess pk hi)).elim (λr3=> ?_) (λr3=> ?_)
   rotate_left
   .have hE:p0 dy lo hi ((pr,pk),data)=false:=by rw[al,r1,r2,r3];rfl
    simp[go_sem,ia,qo,ae,r1,r2,r3]
    exact zI (se++ [ec],D++ [((pr,pk),data)]) ⟨ab,af,cc 7 (by simp[go_sem,hE];rfl) rfl (ad _ _) dC (zD (by simp[go_sem,hE]) rfl)⟩
   have hE:p0 dy lo hi ((pr,pk),data)=true:=by rw[al,r1,r2,r3];rfl
   simp[go_sem,ia,qo,ae,r1,r2,r3]
   refine pC an ?_
   simp[go_sem,eH,Ck]
   have bh:(D.filter (p0 dy lo hi)).length<=D.length:=Dl _ _
   refine zJ ⟨zY rfl,om⟩ ?_
   simp[go_sem]
   exact zI (se++ [ec],D++ [((pr,pk),data)]) ⟨ab,af,cc 7 (by simp[go_sem,hE,aE];rfl) rfl (ad _ _) dC (zD (by simp[go_sem,hE,Dy]) rfl)⟩
 .have aW:i=G.length:=om
  have bj: ∀x:Ln,pq tn st x=((G.any λg=>(xF tn g).1==x.r)&&(!Op.bytesLess x.k lo&&Op.bytesLess x.k hi)):=(by grind[pq])
  have ah:acc.Perm (l.filter (pq tn st)):=by
   have h:=yD2 tn h3 st l
   rw[hG,a1]at h
   rw[aW,List.take_length]at ak
   exact ak.trans h
  have hlen:acc.length<=l.length:=by rw[ah.length_eq];grind
  obtain⟨M,hM⟩:=eX (ga tn T st l)
  have aq:st.dO=false->M=(l.filter (pq tn st),0):=λh=>by simp_all[ga]
  have ar:st.dO=true->M=ud T st [] (l.filter (pq tn st)):=λh=>by simp_all[ga]
  rw[hM]
  clear hM
  refine zA ?_
  simp[go_sem,q]
  refine zN (zA ?_)
  simp[go_sem]
  refine Sa Tryz.xq rfl cB dC Tryz.n4 Tryz.px cB Vp xN4 (f:=Ln.row) (kx:=Ln.at) (λx=>⟨_,rfl,rfl⟩) acc rfl om (λl' au aF=> ?_)
  have aG:=xb0 aa.jh (au.symm.trans ah) aF
  have av:acc.length=l'.length:=au.length_eq
  rw[<-aG]at aq ar
  simp[go_sem,av]
  refine zN (zA ?_)
  simp[go_sem]
  refine zV (λh=> ?_) (λh=> ?_)
  .have hf:st.dO=false:=sU h
   rw[aq hf]
   simp[go_sem]
   exact VL dC rfl rfl
  .have hf:st.dO:=sU h
   have hM:=ar hf
   have bk:l'.length<=10000:=om
   have aX: ∀x∈l',fM x:=λx hx=>aa.rows x (by grind)
   have aY:T.cm.length<=maxLen:=(by decide: ∀T∈bO,T.cm.length<=maxLen) T (Bk hT)
   clear aq ar aG au aF ak ah
   have ai: ∀(m:List Ln),([a.ob .str,b.ob .str,sn.ob (V.int .i64),.box [.sl .ro xJ,.sl .ro (bO.map bL.row),.mp 0,.mp 1,.mp 2],.box st.row,.cj (l'.map Ln.row) 3,.cj (m.map Ln.row) 3]:St).all (bS 7)=true:=(by simp_all[bS,cN,cL,Ln.row])
   refine zN (zA ?_)
   simp[go_sem]
   refine FQ 19 3 dC sg ?_
   refine zN (zA ?_)
   simp[go_sem]
   refine zH (S:=Nat×List Ln) [0,1,5,19,105,106,107] (λu=> [.ptr 3 0,.int .i64 tn,.ptr 4 0,.cM 6 3 u.2.length 0 u.2.length,.cM 5 3 l'.length 0 l'.length,.int .i64 l'.length,.int .i64 u.1])
    (λu=> [a.ob .str,b.ob .str,sn.ob (V.int .i64),.box [.sl .ro xJ,.sl .ro (bO.map bL.row),.mp 0,.mp 1,.mp 2],.box st.row,.cj (l'.map Ln.row) 3,.cj (u.2.map Ln.row) 3]) (λu=>l'.length - u.1)
    (λu=>u.1<=l'.length/\u.2.length<=u.1/\ud T st u.2 (l'.drop u.1)=M) hc hb (0,[]) (by grind) ?_ ?_
   .exact aN 7 (ai [])
   rintro⟨j,out⟩ ⟨hj,aZ,hinv⟩
   simp only at hj aZ hinv
   by_cases p:j<l'.length
   rotate_left
   .rw[A9 om,ud]at hinv
    subst hinv
    refine zA ?_
    simp[go_sem,p]
    refine zA ?_
    simp[go_sem]
    exact VL dC rfl rfl
   have ej:=zQ p om
   obtain⟨x,hx⟩:=eX (l'[j])
   have ba:=aX x (hx▸A8 p)
   rw[A5 p,hx,xB3]at hinv
   have aj:=Lv T aY x.v ba.ok st.cA aI.cA
   obtain⟨⟨v,er⟩,hv⟩: ∃kv,gL T x.v st.cA=kv:=⟨_,rfl⟩
   rw[hv]at hinv aj
   simp only at hinv
   have aH:=Uv v
   obtain⟨tv,bb⟩:=eX (Ey v)
   rw[bb]at hinv aH
   refine zA ?_
   simp[go_sem,p,hx]
   refine yE [(12,0)] 8 rfl kR kR ?_
   simp[go_sem,ax,aJ]
   refine wZ aj cB (λ_=>⟨zC rfl,zK,xf st.cA,tV⟩) rfl ?_
   simp[go_sem,fk]
   by_cases q2:er=0
   rotate_left
   .have aw:(er !=0)=true:=sU q2
    rw[aiv q2]at hinv
    subst hinv
    simp[go_sem,aw]
    exact yZ 4 (s:=dp a b sn) (r:= .cy [.sl .ro [],.int .i64 er]) rfl rfl (wC 4 dC a b sn) (A7 _) (yW ⟨uL,xV rfl,tV⟩) (.inl ⟨q2,rfl,rfl⟩)
   have aw:(er !=0)=false:=sU q2
   rw[aiu (λh=>h q2)]at hinv
   simp[go_sem,aw]
   refine pC aH ?_
   refine(A6 tv).elim (λt=> ?_) (λt=> ?_)
   .rw[aiv t]at hinv
    simp[go_sem,t,Ck]
    refine zJ ⟨zY rfl,om⟩ ?_
    simp[go_sem,ej]
    exact zI (j+1,out++ [x]) ⟨om,(by grind),aN 7 (ai (out++ [x]))⟩
   .rw[aiu (by rw[t];decide)]at hinv
    simp[go_sem,t,ej]
    exact zI (j+1,out) ⟨om,(by grind),aN 7 (ai out)⟩
end Go.Proofs.YtplackkccmeioaaGreat
namespace Go.Proofs.YtplackkccmeioaaGreat
open Go Go.Vx Go.Proofs.Tryz
structure Ord (lt:Nat->Nat->Bool):Prop where
 Gv: ∀i,lt i i=false
 tr: ∀i j k,lt i j=true->lt j k=true->lt i k=true
 nt: ∀i j k,lt i j=false->lt j k=false->lt i k=false
variable {a:Nat}{b:Nat}{i:Nat}{k:Nat}{m:Nat}{j:Nat}{lt:Nat->Nat->Bool}{f:Nat->Nat}{g:Nat->Nat}
def TO (lt:Nat->Nat->Bool) (i j:Nat):Prop:=lt i j=true\/lt j i=false/\i<j
theorem Ord.asym (o:Ord lt) (h:lt i j):lt j i=false:=by
 cases q:lt j i
 .rfl
 .have:=o.tr _ _ _ h q;rw[o.Gv]at this;grind
theorem TO.trans (o:Ord lt) (h:TO lt i j) (g:TO lt j k):TO lt i k:=by
 cases q:lt i k with
 |true=>exact .inl q
 |false=>
  rcases h with h|⟨h,h'⟩
  .rcases g with g|⟨g,g'⟩
   .rw[o.tr _ _ _ h g]at q;cases q
   .have:=o.nt _ _ _ q g;grind
  .rcases g with g|⟨g,g'⟩
   .have:=o.nt _ _ _ h q;grind
   .exact .inr ⟨o.nt _ _ _ g h,om⟩
theorem TO.Gv (o:Ord lt) (h:TO lt i i):False:=by
 rcases h with h|⟨_,h⟩
 .rw[o.Gv]at h;cases h
 .omega
theorem TO.xr (o:Ord lt) (h:j<i):TO lt j i↔lt i j=false:=
 ⟨λq=>q.elim o.asym λq=>q.1,λq=> .inr ⟨q,h⟩⟩
def jj (lt:Nat->Nat->Bool) (f:Nat->Nat) (a b:Nat):Prop:= ∀i j,a<=i->i<j->j<b->TO lt (f i) (f j)
def Mv (f f':Nat->Nat) (a b:Nat):Prop:=
 ∃π:Nat->Nat,(∀k,a<=k->k<b->a<=π k/\π k<b)/\(∀k,k<a\/b<=k->π k=k)/\(∀i j,π i=π j->i=j)/\ ∀k,f' k=f (π k)
theorem Mv.refl (f:Nat->Nat) (a b:Nat):Mv f f a b:=⟨id,(by grind),sm,sm,λ_=>rfl⟩
theorem Mv.mono {f':Nat->Nat} {c d:Nat} (h:Mv f f' a b) (h1:c<=a) (h2:b<=d):Mv f f' c d:=by
 obtain⟨π,p1,p2,p3,p4⟩:=h
 refine⟨π,λk k1 k2=> ?_,(by grind),p3,p4⟩
 grind
theorem Mv.trans {h:Nat->Nat} (p:Mv f g a b) (q:Mv g h a b):Mv f h a b:=by
 obtain⟨π,p1,p2,p3,p4⟩:=p
 obtain⟨ρ,q1,q2,q3,q4⟩:=q
 refine⟨λk=>π (ρ k),(by grind),(by grind),(by grind),(by grind)⟩
 all_goals grind
theorem Mv.out (p:Mv f g a b) (h:k<a\/b<=k):g k=f k:=by
 obtain⟨π,p1,p2,p3,p4⟩:=p
 grind
theorem Mv.at (p:Mv f g a b) (h1:a<=k) (h2:k<b): ∃j,a<=j/\j<b/\g k=f j:=by
 obtain⟨π,p1,p2,p3,p4⟩:=p
 grind
def sw (f:Nat->Nat) (i j:Nat):Nat->Nat:=λk=>if k=i then f j else if k=j then f i else f k
def n5 (f:Nat->Nat) (a b n:Nat):Nat->Nat:=λk=>if a<=k/\k<a+n then f (k - a+b)else if b<=k/\k<b+n then f (k - b+a)else f k
theorem wu2 (f:Nat->Nat) (a b:Nat):n5 f a b 0=f:=by
 funext x
 unfold n5
 grind
theorem xR2 (f:Nat->Nat) (h:a+i<b):sw (n5 f a b i) (a+i) (b+i)=n5 f a b (i+1):=by
 funext x
 unfold sw n5
 grind
def dz (f:Nat->Nat) (a m b:Nat):Nat->Nat:=λk=>if a<=k/\k<a+(b - m)then f (k+(m - a))else if a+(b - m)<=k/\k<b then f (k - (b - m))else f k
theorem Mv.LD (f:Nat->Nat) (h1:a<=m) (h2:m<=b):Mv f (dz f a m b) a b:=by
 refine⟨λk=>if a<=k/\k<a+(b - m)then k+(m - a)else if a+(b - m)<=k/\k<b then k - (b - m)else k,λk k1 k2=> ?_,λk hk=> ?_,λx y e=> ?_,λk=> ?_⟩
 .grind
 .grind
 .grind
 .unfold dz
  grind
theorem wp0 (g:Nat->Nat) (h:j<i) (hi:i<=m):dz (n5 g (m - i) m j) (m - (i - j)) m (m+j)=dz g (m - i) m (m+j):=by
 funext x
 unfold dz n5
 grind
theorem wp1 (g:Nat->Nat) (h:i<j) (hi:i<=m):dz (n5 g (m - i) (m+j - i) i) (m - i) m (m+(j - i))=dz g (m - i) m (m+j):=by
 funext x
 unfold dz n5
 grind
theorem wo9 (g:Nat->Nat) (hi:i<=m):n5 g (m - i) m i=dz g (m - i) m (m+i):=by
 funext x
 unfold dz n5
 grind
theorem wu3 (f:Nat->Nat) (h:a<=k):sw (dz f a (a+1) (k+1)) k (k+1)=dz f a (a+1) (k+2):=by
 funext x
 unfold sw dz
 grind
theorem VM (f:Nat->Nat) (a m:Nat):dz f a m m=f:=by
 funext x
 unfold dz
 grind
theorem VN (f:Nat->Nat) (h:k<=m) (hk:0<k):sw (dz f k m (m+1)) k (k - 1)=dz f (k - 1) m (m+1):=by
 funext x
 unfold sw dz
 grind
theorem Pc (f:Nat->Nat) (m b:Nat):dz f m m b=f:=by
 funext x
 unfold dz
 grind
theorem ue (f:Nat->Nat) (h:a<=k/\k<a+(b - m)):dz f a m b k=f (k+(m - a)):=by simp_all[dz]
theorem uf (f:Nat->Nat) (h:a+(b - m)<=k/\k<b):dz f a m b k=f (k - (b - m)):=by simp_all[dz,aiu]
theorem p5 (f:Nat->Nat) (hm:m<=b) (h0:a<=m) (h:k<a\/b<=k):dz f a m b k=f k:=by unfold dz;grind
section
variable {lt:Nat->Nat->Bool} {f:Nat->Nat}
theorem wa2 {a b i:Nat} (hs:jj lt f (a+1) b) (h1:a+1<=i) (h2:i<=b) (hl: ∀x,a+1<=x->x<i->TO lt (f x) (f a)) (hr: ∀x,i<=x->x<b->TO lt (f a) (f x)):jj lt (dz f a (a+1) i) a b:=by
 intro x y hx aa hy
 rcases Bc y (i - 1)with q|q|q
 .rw[ue f om,ue f om]
  exact hs _ _ om om om
 .grind[ue,uf]
 .rw[p5 f om om (k:=y) om]
  rcases Bc x (i - 1)with p|p|p
  .rw[ue f om]
   exact hs _ _ om om om
  .grind[uf]
  .rw[p5 f om om (k:=x) om]
   exact hs _ _ om om om
theorem VO {a m i:Nat} (hs:jj lt f a m) (h1:a<=i) (h2:i<=m) (hl: ∀x,a<=x->x<i->TO lt (f x) (f m)) (hr: ∀x,i<=x->x<m->TO lt (f m) (f x)):jj lt (dz f i m (m+1)) a (m+1):=by
 intro x y hx aa hy
 rcases Bc x i with q|q|q
 .rw[p5 f om om (k:=x) om]
  rcases Bc y i with p|p|p
  .rw[p5 f om om (k:=y) om]
   exact hs _ _ om om om
  .grind[ue]
  .rw[uf f om]
   exact hs _ _ om om om
 .rw[ue f om,show x+(m - i)=m by omega,uf f om]
  grind
 .rw[uf f om,uf f om]
  exact hs _ _ om om om
theorem xw6 (o:Ord lt) {a m b eK s e lo hi:Nat} (ha:a<m) (hb:m<b) (an:eK=(a+b)/2) (ad:jj lt f a m) (ae:jj lt f m b)
  (aj:lo=if eK<m then eK+m - b else a) (ak:hi=if eK<m then eK else m) (h1:lo<=s) (h2:s<=hi) (he:e=eK+m - s)
  (hl: ∀c,lo<=c->c<s->TO lt (f c) (f (eK+m - 1 - c))) (hr: ∀c,s<=c->c<hi->TO lt (f (eK+m - 1 - c)) (f c)):
  (a<=s/\s<=eK/\s<=m/\m<=e/\eK<=e/\e<=b/\s+(e - m)=eK)/\(∀x y,a<=x->x<eK->eK<=y->y<b->TO lt (dz f s m e x) (dz f s m e y))/\
  jj lt (dz f s m e) a s/\jj lt (dz f s m e) s eK/\jj lt (dz f s m e) eK e/\jj lt (dz f s m e) e b:=by
 have hm:eK*2<=a+b/\a+b<=eK*2+1:=om
 have al:a<=s/\s<=eK/\s<=m/\m<=e/\eK<=e/\e<=b/\s+(e - m)=eK/\a<eK/\eK<b:=by
  split at aj<;>split at ak<;>omega
 obtain⟨r1,r2,r3,r4,r5,r6,r7,r8,r9⟩:=al
 have k1: ∀x,a<=x->x<s-> ∀y,s<=y->y<m->TO lt (f x) (f y):=λx aa ah y ai ab=>ad _ _ aa om ab
 have k2: ∀x,m<=x->x<e-> ∀y,e<=y->y<b->TO lt (f x) (f y):=λx aa ah y ai ab=>ae _ _ aa om ab
 have k3: ∀x,a<=x->x<s-> ∀y,e<=y->y<b->TO lt (f x) (f y):=λx aa ah y ai ab=>by
  have q:lo<=s - 1:=by split at aj<;>omega
  have h:=hl (s - 1) q om
  rw[show eK+m - 1 - (s - 1)=e by omega]at h
  have h3:TO lt (f x) (f e):=by
   by_cases hx:x=s - 1
   .rw[hx];exact h
   .exact(ad x (s - 1) aa om om).trans o h
  by_cases hy:y=e
  .rw[hy];exact h3
  .exact h3.trans o (ae _ _ om om ab)
 have k4: ∀x,m<=x->x<e-> ∀y,s<=y->y<m->TO lt (f x) (f y):=λx aa ah y ai ab=>by
  have q:s<hi:=by split at ak<;>omega
  have h:=hr s (A7 _) q
  have h3:TO lt (f x) (f s):=by
   by_cases hx:x=eK+m - 1 - s
   .rw[hx];exact h
   .exact(ae x (eK+m - 1 - s) aa om om).trans o h
  by_cases hy:y=s
  .rw[hy];exact h3
  .exact h3.trans o (ad _ _ om om ab)
 refine⟨⟨r1,r2,r3,r4,r5,r6,r7⟩,λx y aa ah ai ab=> ?_,λx y hx af hy=> ?_,λx y hx af hy=> ?_,λx y hx af hy=> ?_,λx y hx af hy=> ?_⟩
 .by_cases c1:x<s
  .rw[p5 f r4 r3 (k:=x) om]
   by_cases c2:y<e
   .rw[uf f om];exact k1 _ aa c1 _ om om
   .rw[p5 f r4 r3 (k:=y) om];exact k3 _ aa c1 _ om ab
  .rw[ue f om]
   by_cases c2:y<e
   .rw[uf f om];exact k4 _ om om _ om om
   .rw[p5 f r4 r3 (k:=y) om];exact k2 _ om om _ om ab
 .rw[p5 f r4 r3 om,p5 f r4 r3 om];exact ad _ _ hx af om
 .rw[ue f om,ue f om];exact ae _ _ om om om
 .rw[uf f om,uf f om];exact ad _ _ om om om
 .rw[p5 f r4 r3 om,p5 f r4 r3 om];exact ae _ _ om af hy
end
variable {f:Nat->Nat}{lt:Nat->Nat->Bool}{a:Nat}{b:Nat}{w:Nat}{f':Nat->Nat}{n:Nat}{t:Nat}{m:Nat}{eK:Nat}
def ug (f:Nat->Nat) (a m b:Nat):Prop:= ∀x y,a<=x->x<m->m<=y->y<b->f x<f y
theorem ug.IB {s e:Nat} (h:ug f a m b) (h2:s<=m) (h3:m<=e) (h4:e<=b) (h5:s+(e - m)=eK):ug (dz f s m e) a s eK:=by
 intro x y aa ab ad ae
 rw[p5 f h3 h2 om,ue f om]
 exact h _ _ aa om om om
theorem ug.IC {s e:Nat} (h:ug f a m b) (h1:a<=s) (h2:s<=m) (h3:m<=e) (h5:s+(e - m)=eK):ug (dz f s m e) eK e b:=by
 intro x y aa ab ad ae
 rw[uf f om,p5 f h3 h2 (k:=y) om]
 exact h _ _ om om om om
def kp (lt:Nat->Nat->Bool) (f g:Nat->Nat) (a b:Nat):Prop:=Mv f g a b/\jj lt g a b
theorem kp.both {g h1 h2:Nat->Nat} (h0:Mv f g a b) (hp: ∀x y,a<=x->x<eK->eK<=y->y<b->TO lt (g x) (g y)) (hm:a<=eK/\eK<=b) (q1:kp lt g h1 a eK) (q2:kp lt h1 h2 eK b):kp lt f h2 a b:=by
 refine⟨(h0.trans (q1.1.mono om hm.2)).trans (q2.1.mono hm.1 om),λx y hx aa hy=> ?_⟩
 by_cases c1:y<eK
 .rw[q2.1.out om,q2.1.out om]
  exact q1.2 _ _ hx aa c1
 .by_cases c2:eK<=x
  .exact q2.2 _ _ c2 aa hy
  .rw[q2.1.out (k:=x) om]
   obtain⟨i,i1,i2,i3⟩:=q1.1.at hx om
   obtain⟨j,j1,j2,j3⟩:=q2.1.at (k:=y) om hy
   rw[i3,j3,q1.1.out (k:=j) om]
   grind
theorem kp.id (h:jj lt f a b):kp lt f f a b:=⟨.refl f a b,h⟩
def kE (lt:Nat->Nat->Bool) (f:Nat->Nat) (a b:Nat):Prop:=(∀k,a<=k->k<b->a<=f k/\f k<b)/\jj lt f a b
theorem kE.VP (h:kE lt f a m) (g:kE lt f m b):ug f a m b:=λx y aa ab ad ae=>by
 have:=h.1 x aa ab;have:=g.1 y ad ae;omega
theorem kE.merged (h:kE lt f a m) (g:kE lt f m b) (hm:a<=m/\m<=b) (q:kp lt f f' a b):kE lt f' a b:=by
 refine⟨λk h1 h2=> ?_,q.2⟩
 obtain⟨j,j1,j2,j3⟩:=q.1.at h1 h2
 rw[j3]
 by_cases c:j<m
 .have:=h.1 j j1 c;omega
 .have:=g.1 j om j2;omega
theorem kE.uh {c d:Nat} (h:kE lt f c d) (q:Mv f f' a b) (hd:d<=a\/b<=c):kE lt f' c d:=by
 refine⟨λk h1 h2=> ?_,λx y hx aa hy=> ?_⟩
 .rw[q.out om];exact h.1 k h1 h2
 .rw[q.out om,q.out om];exact h.2 x y hx aa hy
theorem kE.sorted (h: ∀k,a<=k->f k=k) (q:kp lt f f' a b):kE lt f' a b:=by
 refine⟨λk h1 h2=> ?_,q.2⟩
 obtain⟨j,j1,j2,j3⟩:=q.1.at h1 h2
 grind
def mL (lt:Nat->Nat->Bool) (f:Nat->Nat) (w n:Nat):Prop:= ∀q,q*w<n->kE lt f (q*w) (min (q*w+w) n)
def jV (lt:Nat->Nat->Bool) (f:Nat->Nat) (w n t:Nat):Prop:=(∀q,q<t->kE lt f (q*(2*w)) (q*(2*w)+2*w))/\ ∀q,2*t<=q->q*w<n->kE lt f (q*w) (min (q*w+w) n)
theorem jV.start (h:mL lt f w n):jV lt f w n 0:=⟨om,(by simpa)⟩
theorem jV.pair (h:jV lt f w n t) (hw:0<w) (hm:t*(2*w)+w<n):kE lt f (t*(2*w)) (t*(2*w)+w)/\kE lt f (t*(2*w)+w) (min (t*(2*w)+2*w) n):=by
 have e1:2*t*w=t*(2*w):=by grind
 have e2:(2*t+1)*w=t*(2*w)+w:=by grind
 have h1:=h.2 (2*t) om om
 have h2:=h.2 (2*t+1) om om
 grind
theorem jV.next (h:jV lt f w n t) (hw:0<w) (hb:t*(2*w)+2*w<=n) (q:kp lt f f' (t*(2*w)) (t*(2*w)+2*w)):jV lt f' w n (t+1):=by
 have e1:2*t*w=t*(2*w):=by grind
 have hp:=h.pair hw om
 refine⟨λp aa=> ?_,λp aa h1=> ?_⟩
 .by_cases c:p=t
  .subst c
   rw[show min (p*(2*w)+2*w) n=p*(2*w)+2*w by omega]at hp
   exact hp.1.merged hp.2 om q
  .have:=Ak (2*w) (show p+1<=t by omega)
   rw[B4,D7]at this
   exact(h.1 p om).uh q.1 (.inl this)
 .have:=Ak w (show 2*t+2<=p by omega)
  rw[B4,e1]at this
  exact(h.2 p om h1).uh q.1 (.inr this)
theorem jV.last (h:jV lt f w n t) (hw:0<w) (hm:t*(2*w)+w<n) (hb:n<t*(2*w)+2*w) (q:kp lt f f' (t*(2*w)) n):mL lt f' (2*w) n:=by
 have hp:=h.pair hw hm
 rw[show min (t*(2*w)+2*w) n=n by omega]at hp
 intro p h1
 rcases Bc p t with c|c|c
 .have:=Ak (2*w) (show p+1<=t by omega)
  rw[B4,D7]at this
  rw[show min (p*(2*w)+2*w) n=p*(2*w)+2*w by omega]
  exact(h.1 p c).uh q.1 (.inl this)
 .subst c
  rw[show min (p*(2*w)+2*w) n=n by omega]
  exact hp.1.merged hp.2 om q
 .have:=Ak (2*w) (show t+1<=p by omega)
  grind
theorem jV.none (h:jV lt f w n t) (h0:t*(2*w)<=n) (hm:n<=t*(2*w)+w):mL lt f (2*w) n:=by
 have e1:2*t*w=t*(2*w):=by grind
 intro p h1
 rcases Bc p t with c|c|c
 .have:=Ak (2*w) (show p+1<=t by omega)
  rw[B4,D7]at this
  rw[show min (p*(2*w)+2*w) n=p*(2*w)+2*w by omega]
  exact h.1 p c
 .subst c
  have:=h.2 (2*p) om om
  grind
 .have:=Ak (2*w) (show t+1<=p by omega)
  grind
theorem mL.all (h:mL lt f w n) (hw:n<=w):kE lt f 0 n:=by
 by_cases c:n=0
 .subst c;exact⟨om,λx y _ _ h=>om⟩
 .have:=h 0 om
  grind
theorem yX8 (h1: ∀q,q<t->kE lt f (q*w) (q*w+w)) (h2: ∀k,t*w<=k->f k=k) (ht:t*w<=n) (hn:n<t*w+w) (q:kp lt f f' (t*w) n):mL lt f' w n:=by
 intro p hp
 rcases Bc p t with c|c|c
 .have:=Ak w (show p+1<=t by omega)
  rw[B4,D7]at this
  rw[show min (p*w+w) n=p*w+w by omega]
  exact(h1 p c).uh q.1 (.inl this)
 .grind[kE.sorted]
 .have:=Ak w (show t+1<=p by omega)
  grind
theorem xs9 (h1: ∀q,q<t->kE lt f (q*w) (q*w+w)) (h2: ∀k,t*w<=k->f k=k) (q:kp lt f f' (t*w) (t*w+w)):
  (∀q,q<t+1->kE lt f' (q*w) (q*w+w))/\ ∀k,(t+1)*w<=k->f' k=k:=by
 refine⟨λp hp=> ?_,λk hk=> ?_⟩
 .by_cases c:p=t
  .grind[kE.sorted]
  .have:=Ak w (show p+1<=t by omega)
   rw[B4,D7]at this
   exact(h1 p om).uh q.1 (.inl this)
 .rw[B4,D7]at hk
  rw[q.1.out om]
  grind
end Go.Proofs.YtplackkccmeioaaGreat
namespace Go.Proofs.YtplackkccmeioaaGreat
open Go Go.Vx Go.Proofs.Tryz
set_option maxRecDepth 100000
@[go_sem] theorem ID:eE prog 288=some 1:=kR
@[go_sem] theorem Gw:cS prog 288=some false:=kR
@[go_sem] theorem IE:eE prog 337=some 1:=kR
@[go_sem] theorem Gx:cS prog 337=some false:=kR
def ft (cv:St) (id s n:Nat) (row:Nat->List V) (f:Nat->Nat):St:=cv.set id (.cj ((List.range n).map λk=>row (f k)) s)
theorem BF (cv:St) (id s n:Nat) (row:Nat->List V) (f:Nat->Nat):(ft cv id s n row f).length=cv.length:=by simp[ft]
structure SC (P:Program) (gl gs:FuncId) (cl cs:List V) (cv:St) (id s n:Nat) (row:Nat->List V) (lt:Nat->Nat->Bool):Prop where
 here:id<cv.length
 nn:n<=1000000
 IF:cl.all (cL cv.length)=true
 BG:cs.all (cL cv.length)=true
 IG:cv.all (bS cv.length)=true
 EC: ∀k,(row k).all (cN cv.length)=true
 less: ∀(c:Ctx) (τ:St) (f:Nat->Nat) (i j:Nat) (K:V->St->Prop),i<n->j<n->i≠j->K (.bool (lt (f i) (f j))) (ft cv id s n row f++τ)->jm P c (.fn gl cl) [.int .i64 i,.int .i64 j] (ft cv id s n row f++τ) K fx
 swap: ∀(c:Ctx) (τ:St) (f:Nat->Nat) (i j:Nat) (K:V->St->Prop),i<n->j<n->i≠j->K (.cy []) (ft cv id s n row (sw f i j)++τ)->jm P c (.fn gs cs) [.int .i64 i,.int .i64 j] (ft cv id s n row f++τ) K fx
section
variable {gl gs:FuncId} {cl cs:List V} {cv:St} {id s n:Nat} {row:Nat->List V} {lt:Nat->Nat->Bool}
theorem SC.iD (S:SC prog gl gs cl cs cv id s n row lt) (f:Nat->Nat):(ft cv id s n row f).all (bS cv.length)=true:=by
 unfold ft
 rw[Am]
 intro o ho
 rcases List.mem_or_eq_of_mem_set ho with h|rfl
 .exact Am.1 S.IG o h
 .simp only[bS,Am]
  intro r hr x hx
  obtain⟨k,_,rfl⟩:=Ac.1 hr
  exact Am.1 (S.EC (f k)) x hx
def fN (gl gs:FuncId) (cl cs:List V):Ob:= .box [.fn gl cl,.fn gs cs]
theorem yS8 (S:SC prog gl gs cl cs cv id s n row lt) (f:Nat->Nat) (a b m:Nat) (h1:a+m<=b) (h2:b+m<=n):
  bN prog 328 [.agg [.fn gl cl,.fn gs cs],.int .i64 a,.int .i64 b,.int .i64 m] (ft cv id s n row f) (λr t=>r= .cy []/\t=ft cv id s n row (n5 f a b m)):=by
 have hn:=S.nn
 refine bN.iv (ft cv id s n row f).length func328 ntmps328 results328 rfl rfl (C4 rfl) λc hc hb=> ?_
 have hl: ∀g,(ft cv id s n row g).length=cv.length:=λg=>BF ..
 refine zA ?_
 simp[go_sem,hl]
 refine zH (S:=Nat) [1,2,3,4,8] (λi=> [.int .i64 a,.int .i64 b,.int .i64 m,.ptr cv.length 0,.int .i64 i]) (λi=>ft cv id s n row (n5 f a b i)++ [fN gl gs cl cs]) (λi=>m - i) (λi=>i<=m) (hc.trans (hl f)) hb 0 (A3 _) ?_ ?_
 .rw[wu2]
  exact yH (by simp[hl]) sg
 rintro i hi
 have hd: ∀g,(ft cv id s n row g++ [fN gl gs cl cs])[cv.length]? =some (.box [.fn gl cl,.fn gs cs]):=λg=>by
  rw[Au (by rw[hl];exact A7 _),hl];simp[fN]
 by_cases q:i<m
 rotate_left
 .have ab:i=m:=om
  subst ab
  refine zA ?_
  simp[go_sem]
  exact yZ cv.length (Ca (hl _)) (hl _) (S.iD _) (Cd (hl f)) (zC rfl) ⟨rfl,rfl⟩
 have ea:IntKind.i64.wrap ((a:Int)+i)=((a+i:Nat):Int):=by rw[bX om om];omega
 have eb:IntKind.i64.wrap ((b:Int)+i)=((b+i:Nat):Int):=by rw[bX om om];omega
 have ei:=zQ q om
 have aa:=λK=>S.swap c [fN gl gs cl cs] (n5 f a b i) (a+i) (b+i) K om om om
 rw[xR2 f om]at aa
 refine zA ?_
 simp[go_sem,q,hd,ea,eb]
 refine aa _ ?_
 simp[go_sem,ei]
 exact zI (i+1) ⟨om,om,yH (by simp[hl]) sg⟩
end
section
variable {gl gs:FuncId} {cl cs:List V} {cv:St} {id s n:Nat} {row:Nat->List V} {lt:Nat->Nat->Bool}
theorem LF (f:Nat->Nat):(ft cv id s n row f++ [fN gl gs cl cs])[cv.length]? =some (.box [.fn gl cl,.fn gs cs]):=by
 rw[Au (by rw[BF];exact A7 _),BF];simp[fN]
theorem xJ3 (o:Ord lt) {f g:Nat->Nat} {a b i j:Nat} (hi:i<b) (aa: ∀x y,a<=x->x<y->y<b->f x<f y) (hm:Mv f g a i) (hs:jj lt g a i) (ab:a<=j) (ad:j<=i)
  (hl: ∀x,j<=x->x<i->lt (g i) (g x)) (he:j=a\/lt (g i) (g (j - 1))=false):Mv f (dz g j i (i+1)) a (i+1)/\jj lt (dz g j i (i+1)) a (i+1):=by
 refine⟨(hm.mono (A7 _) (Nat.le_succ _)).trans ((Mv.LD g ad (Nat.le_succ _)).mono ab (A7 _)), ?_⟩
 refine VO hs ab ad (λx h1 h2=> ?_) (λx h1 h2=> .inl (hl x h1 h2))
 rcases he with he|he
 .omega
 have ae:g i=f i:=hm.out (.inr (A7 _))
 obtain⟨y,y1,y2,y3⟩:=hm.at (k:=j - 1) om om
 have af:g (j - 1)<g i:=by rw[y3,ae];exact aa y i y1 y2 hi
 have h3:TO lt (g (j - 1)) (g i):=(TO.xr o af).2 he
 by_cases q:x=j - 1
 .rw[q];exact h3
 .exact(hs x (j - 1) h1 om om).trans o h3
theorem VQ (S:SC prog gl gs cl cs cv id s n row lt) (o:Ord lt) (f:Nat->Nat) (a b:Nat) (ae:a<=b) (af:b<=n) (aa: ∀x y,a<=x->x<y->y<b->f x<f y):
  bN prog 280 [.agg [.fn gl cl,.fn gs cs],.int .i64 a,.int .i64 b] (ft cv id s n row f) (λr t=>r= .cy []/\ ∃g,t=ft cv id s n row g/\kp lt f g a b):=by
 have hn:=S.nn
 refine bN.iv (ft cv id s n row f).length func280 ntmps280 results280 rfl rfl (C4 rfl) λc hc hb=> ?_
 have hl: ∀g,(ft cv id s n row g).length=cv.length:=λg=>BF ..
 have ad:IntKind.i64.wrap ((a:Int)+1)=((a+1:Nat):Int):=by rw[bX om om];omega
 refine zA ?_
 simp[go_sem,hl,ad]
 refine zH (S:=Nat×(Nat->Nat)) [1,2,3,6] (λu=> [.int .i64 a,.int .i64 b,.ptr cv.length 0,.int .i64 u.1]) (λu=>ft cv id s n row u.2++ [fN gl gs cl cs]) (λu=>b - u.1)
  (λu=>a+1<=u.1/\Mv f u.2 a (min u.1 b)/\jj lt u.2 a (min u.1 b)) (hc.trans (hl f)) hb (a+1,f) ⟨A7 _,Mv.refl _ _ _,λx y h1 h2 h3=>om⟩ ?_ ?_
 .exact yH (by simp[hl]) sg
 rintro⟨i,g⟩ ⟨hi,hm,hs⟩
 simp only at hi hm hs
 by_cases q:i<b
 rotate_left
 .rw[Nat.min_eq_right om]at hm hs
  refine zA ?_
  simp[go_sem,q]
  exact yZ cv.length (Ca (hl _)) (hl _) (S.iD _) (Cd (hl f)) (zC rfl) ⟨rfl,g,rfl,hm,hs⟩
 rw[C8 om]at hm hs
 have ei:=zQ q om
 have hd:=LF (cv:=cv) (id:=id) (s:=s) (n:=n) (row:=row) (gl:=gl) (gs:=gs) (cl:=cl) (cs:=cs)
 refine zA ?_
 simp[go_sem,q]
 refine zH (S:=Nat) [1,2,3,6,7] (λj=> [.int .i64 a,.int .i64 b,.ptr cv.length 0,.int .i64 i,.int .i64 j]) (λj=>ft cv id s n row (dz g j i (i+1))++ [fN gl gs cl cs]) (λj=>j)
  (λj=>a<=j/\j<=i/\ ∀x,j<=x->x<i->lt (g i) (g x)=true) (hc.trans (hl f)) hb i ⟨om,A7 _,λx h1 h2=>om⟩ ?_ ?_
 .rw[Pc]
  exact yH (by simp[hl]) sg
 rintro j ⟨h1,h2,h3⟩
 have fin: ∀(he:j=a\/lt (g i) (g (j - 1))=false),Mv f (dz g j i (i+1)) a (min (i+1) b)/\jj lt (dz g j i (i+1)) a (min (i+1) b):=λhe=>by
  rw[C8 om]
  exact xJ3 o q aa hm hs h1 h2 h3 he
 by_cases p:a<j
 rotate_left
 .have p': ¬((a:Int)<j):=om
  obtain⟨f1,f2⟩:=fin (.inl om)
  refine zA ?_
  simp[go_sem,p,ei]
  exact zI (i+1,dz g j i (i+1)) ⟨by show b - (i+1)<b - i;omega,⟨by show a+1<=i+1;omega,f1,f2⟩,yH (by simp[hl]) sg⟩
 have ej:IntKind.i64.wrap ((j:Int) - 1)=((j - 1:Nat):Int):=by rw[bX om om];omega
 have hle:=λK=>S.less c [fN gl gs cl cs] (dz g j i (i+1)) j (j - 1) K om om om
 have ab:=λK=>S.swap c [fN gl gs cl cs] (dz g j i (i+1)) j (j - 1) K om om om
 rw[VN g h2 om]at ab
 have e1:dz g j i (i+1) j=g i:=by rw[ue g om];congr 1;omega
 have e2:dz g j i (i+1) (j - 1)=g (j - 1):=p5 g om h2 om
 rw[e1,e2]at hle
 refine zA ?_
 simp[go_sem,p,hd,ej]
 refine hle _ ?_
 cases hL:lt (g i) (g (j - 1))with
 |false=>
  obtain⟨f1,f2⟩:=fin (.inr hL)
  simp[go_sem,ei]
  exact zI (i+1,dz g j i (i+1)) ⟨by show b - (i+1)<b - i;omega,⟨by show a+1<=i+1;omega,f1,f2⟩,yH (by simp[hl]) sg⟩
 |true=>
  simp[go_sem,hd,ej]
  refine ab _ ?_
  simp[go_sem,ej]
  exact zI (j - 1) ⟨om,⟨om,om,λx x1 x2=>by
   by_cases c1:x=j - 1
   .rw[c1];exact hL
   .exact h3 x om x2⟩,yH (by simp[hl]) sg⟩
end
section
variable {gl gs:FuncId} {cl cs:List V} {cv:St} {id s n:Nat} {row:Nat->List V} {lt:Nat->Nat->Bool}
theorem SC.call (S:SC prog gl gs cl cs cv id s n row lt) {F:FuncId} {ints:List V} {g:Nat->Nat} {Q:(Nat->Nat)->Prop} {c:Ctx} {τ:St} {K:V->St->Prop}
  (hc:bN prog F (.agg [.fn gl cl,.fn gs cs]::ints) (ft cv id s n row g) (λr t=>r= .cy []/\ ∃g',t=ft cv id s n row g'/\Q g')) (hb:xE prog F) (hi:ints.all gK)
  (hK: ∀g',Q g'->K (.cy []) (ft cv id s n row g'++τ)):jm prog c (.fn F []) (.agg [.fn gl cl,.fn gs cs]::ints) (ft cv id s n row g++τ) K fx:=by
 have hl: ∀g,(ft cv id s n row g).length=cv.length:=λg=>BF ..
 refine uM cv.length hc hb (Ca (hl _)) (hl _) (S.iD _) ?_ ?_ ?_
 .rw[Ay]
  exact⟨xQ (by simp[iJ,jn,cN,S.IF,S.BG]),yG hi⟩
 .rintro r t ⟨rfl,g',rfl,_⟩
  exact⟨hl _,S.iD _,rfl⟩
 .rintro r t ⟨rfl,g',rfl,hq⟩
  rw[List.drop_left' (hl _)]
  exact hK g' hq
theorem xP3 (S:SC prog gl gs cl cs cv id s n row lt) (f:Nat->Nat) (a m b:Nat) (h1:a<m) (h2:m<b) (h3:b<=n):
  bN prog 314 [.agg [.fn gl cl,.fn gs cs],.int .i64 a,.int .i64 m,.int .i64 b] (ft cv id s n row f) (λr t=>r= .cy []/\ ∃g,t=ft cv id s n row g/\g=dz f a m b):=by
 have hn:=S.nn
 have ab: ∀g x y k,x+k<=y->y+k<=n->bN prog 328 [.agg [.fn gl cl,.fn gs cs],.int .i64 (x:Nat),.int .i64 (y:Nat),.int .i64 (k:Nat)] (ft cv id s n row g) (λr t=>r= .cy []/\ ∃g',t=ft cv id s n row g'/\g'=n5 g x y k):=λg x y k q1 q2=>
  (yS8 S g x y k q1 q2).mono λr t h=>⟨h.1,_,h.2,rfl⟩
 refine bN.iv (ft cv id s n row f).length func314 ntmps314 results314 rfl rfl (C4 rfl) λc hc hb=> ?_
 have hl: ∀g,(ft cv id s n row g).length=cv.length:=λg=>BF ..
 have hd:=LF (cv:=cv) (id:=id) (s:=s) (n:=n) (row:=row) (gl:=gl) (gs:=gs) (cl:=cl) (cs:=cs)
 have e1:IntKind.i64.wrap ((m:Int) - a)=((m - a:Nat):Int):=by rw[bX om om];omega
 have e2:IntKind.i64.wrap ((b:Int) - m)=((b - m:Nat):Int):=by rw[bX om om];omega
 refine zA ?_
 simp[go_sem,hl,e1,e2]
 refine zH (S:=Nat×Nat×(Nat->Nat)) [1,2,3,4,8,9] (λu=> [.int .i64 a,.int .i64 m,.int .i64 b,.ptr cv.length 0,.int .i64 u.1,.int .i64 u.2.1]) (λu=>ft cv id s n row u.2.2++ [fN gl gs cl cs]) (λu=>u.1+u.2.1)
  (λu=>0<u.1/\0<u.2.1/\u.1<=m/\m+u.2.1<=n/\dz u.2.2 (m - u.1) m (m+u.2.1)=dz f a m b) (hc.trans (hl f)) hb (m - a,b - m,f) ⟨by show 0<m - a;omega,by show 0<b - m;omega,by show m - a<=m;omega,by show m+(b - m)<=n;omega,by show dz f (m - (m - a)) m (m+(b - m))=_;rw[show m - (m - a)=a by omega,show m+(b - m)=b by omega]⟩ ?_ ?_
 .exact yH (by simp[hl]) sg
 rintro⟨i,j,g⟩ ⟨hi,hj,aa,ae,hg⟩
 simp only at hi hj aa ae hg
 have ad:IntKind.i64.wrap ((m:Int) - i)=((m - i:Nat):Int):=by rw[bX om om];omega
 rcases Bc i j with q|q|q
 .have p1:((i:Int) !=j)=true:=by simp;omega
  have p2: ¬((j:Int)<i):=om
  have p3: ¬(j<i):=om
  have p4: ¬i=j:=om
  have ea:IntKind.i64.wrap ((m:Int)+j)=(m:Int)+j:=bX om om
  have eb:IntKind.i64.wrap ((m:Int)+j - i)=((m+j - i:Nat):Int):=by rw[bX om om];omega
  have ej:IntKind.i64.wrap ((j:Int) - i)=((j - i:Nat):Int):=by rw[bX om om];omega
  refine zA ?_
  simp[go_sem,p1,p2,hd,ad,ea,eb]
  refine S.call (ab g (m - i) (m+j - i) i om om) cB rfl ?_
  rintro g' rfl
  simp[go_sem,ej]
  exact zI (i,j - i,n5 g (m - i) (m+j - i) i) ⟨by show i+(j - i)<i+j;omega,⟨hi,by show 0<j - i;omega,aa,by show m+(j - i)<=n;omega,by show dz _ (m - i) m (m+(j - i))=_;rw[wp1 g q aa];exact hg⟩,yH (by simp[hl]) sg⟩
 .subst q
  refine zA ?_
  simp[go_sem,hd,ad]
  refine S.call (ab g (m - i) m i om om) cB rfl ?_
  rintro g' rfl
  rw[wo9 g aa,hg]
  simp[go_sem]
  exact yZ cv.length (Ca (hl _)) (hl _) (S.iD _) (Cd (hl f)) (zC rfl) ⟨rfl,rfl⟩
 .have p1:((i:Int) !=j)=true:=by simp;omega
  have p2:(j:Int)<i:=om
  have p4: ¬i=j:=om
  have ei:IntKind.i64.wrap ((i:Int) - j)=((i - j:Nat):Int):=by rw[bX om om];omega
  refine zA ?_
  simp[go_sem,p1,p2,hd,ad]
  refine S.call (ab g (m - i) m j om om) cB rfl ?_
  rintro g' rfl
  simp[go_sem,ei]
  exact zI (i - j,j,n5 g (m - i) m j) ⟨by show i - j+j<i+j;omega,⟨by show 0<i - j;omega,hj,by show i - j<=m;omega,ae,by show dz _ (m - (i - j)) m (m+j)=_;rw[wp0 g q aa];exact hg⟩,yH (by simp[hl]) sg⟩
end
section
variable {lt:Nat->Nat->Bool}
variable {x:Nat}{h:Nat}{a:Nat}
theorem ws9 (o:Ord lt) (t:TO lt x h) (g:lt h a):lt x a=true:=by
 rcases t with t|⟨t,_⟩
 .exact o.tr _ _ _ t g
 .cases q:lt x a with
  |true=>rfl
  |false=>have:=o.nt _ _ _ t q;grind
theorem wn3 (o:Ord lt) (t:TO lt h x) (g:lt h a=false):lt x a=false:=by
 cases q:lt x a with
 |false=>rfl
 |true=>
  rcases t with t|⟨t,_⟩
  .have:=o.tr _ _ _ t q;grind
  .have:=o.nt _ _ _ t g;grind
theorem wu6 (o:Ord lt) (t:TO lt h x) (g:lt a h):lt a x=true:=by
 rcases t with t|⟨t,_⟩
 .exact o.tr _ _ _ g t
 .cases q:lt a x with
  |true=>rfl
  |false=>have:=o.nt _ _ _ q t;grind
theorem wp9 (o:Ord lt) (t:TO lt x h) (g:lt a h=false):lt a x=false:=by
 cases q:lt a x with
 |false=>rfl
 |true=>
  rcases t with t|⟨t,_⟩
  .have:=o.tr _ _ _ q t;grind
  .have:=o.nt _ _ _ g t;grind
end
theorem LG {i j:Nat} (h:i+j<4000000000):IntKind.i64.wrap ((IntKind.u64.wrap (IntKind.i64.wrap ((i:Int)+j))).fdiv 2)=(((i+j)/2:Nat):Int):=by
 grind[bX,db]
section
variable {gl gs:FuncId} {cl cs:List V} {cv:St} {id s n:Nat} {row:Nat->List V} {lt:Nat->Nat->Bool}
theorem yq3 (S:SC prog gl gs cl cs cv id s n row lt) (o:Ord lt) (f:Nat->Nat) (a m b:Nat) (h1:a<m) (h2:m<b) (h3:b<=n) (ah:jj lt f a m) (af:jj lt f m b) (ae:ug f a m b)
  (ih: ∀f a' m b',b' - a'<b - a->a'<m->m<b'->b'<=n->jj lt f a' m->jj lt f m b'->ug f a' m b'->bN prog 281 [.agg [.fn gl cl,.fn gs cs],.int .i64 (a':Nat),.int .i64 (m:Nat),.int .i64 (b':Nat)] (ft cv id s n row f) (λr t=>r= .cy []/\ ∃g,t=ft cv id s n row g/\kp lt f g a' b')):
  bN prog 281 [.agg [.fn gl cl,.fn gs cs],.int .i64 a,.int .i64 m,.int .i64 b] (ft cv id s n row f) (λr t=>r= .cy []/\ ∃g,t=ft cv id s n row g/\kp lt f g a b):=by
 have hn:=S.nn
 refine bN.iv (ft cv id s n row f).length func281 ntmps281 results281 rfl rfl (C4 rfl) λc hc hb=> ?_
 have hl: ∀g,(ft cv id s n row g).length=cv.length:=λg=>BF ..
 have hd:=LF (cv:=cv) (id:=id) (s:=s) (n:=n) (row:=row) (gl:=gl) (gs:=gs) (cl:=cl) (cs:=cs)
 have e1:IntKind.i64.wrap ((m:Int) - a)=((m - a:Nat):Int):=by rw[bX om om];omega
 have e2:IntKind.i64.wrap ((b:Int) - m)=((b - m:Nat):Int):=by rw[bX om om];omega
 by_cases c1:m - a=1
 .have au:(((m - a:Nat):Int)==1)=true:=by simp;omega
  refine zA ?_
  simp[go_sem,hl,e1,au]
  refine zH (S:=Nat×Nat) [1,2,3,4,8,9] (λu=> [.int .i64 a,.int .i64 m,.int .i64 b,.ptr cv.length 0,.int .i64 u.1,.int .i64 u.2]) (λ_=>ft cv id s n row f++ [fN gl gs cl cs]) (λu=>u.2 - u.1)
   (λu=>m<=u.1/\u.1<=u.2/\u.2<=b/\(∀x,m<=x->x<u.1->lt (f x) (f a)=true)/\ ∀x,u.2<=x->x<b->lt (f x) (f a)=false) (hc.trans (hl f)) hb (m,b) ⟨A7 _,by show m<=b;omega,A7 _,λx q1 q2=>om,λx q1 q2=>om⟩ ?_ ?_
  .exact yH (by simp[hl]) sg
  rintro⟨i,j⟩ ⟨hi,aj,hj,hL,hR⟩
  simp only at hi aj hj hL hR
  by_cases q:i<j
  .obtain⟨h,hh⟩:=eX ((i+j)/2)
   have eh:=LG (i:=i) (j:=j) om
   rw[hh]at eh
   have ei:=zQ (show h<j by omega) om
   have hle:=λK=>S.less c [fN gl gs cl cs] f h a K om om om
   refine zA ?_
   simp[go_sem,q,hd,eh]
   refine hle _ ?_
   cases aa:lt (f h) (f a)with
   |true=>
    simp[go_sem,ei]
    exact zI (h+1,j) ⟨by show j - (h+1)<j - i;omega,⟨by show m<=h+1;omega,by show h+1<=j;omega,hj,λx q1 q2=>by
     by_cases c2:x=h
     .rw[c2];exact aa
     .exact ws9 o (af x h q1 (by have:x<h+1:=q2;omega) om) aa,hR⟩,yH (by simp[hl]) sg⟩
   |false=>
    simp[go_sem]
    exact zI (i,h) ⟨by show h - i<j - i;omega,⟨hi,by show i<=h;omega,by show h<=b;omega,hL,λx q1 q2=>by
     by_cases c2:x=h
     .rw[c2];exact aa
     .exact wn3 o (af h x om (by have:h<=x:=q1;omega) q2) aa⟩,yH (by simp[hl]) sg⟩
  .have e3:IntKind.i64.wrap ((i:Int) - 1)=((i - 1:Nat):Int):=by rw[bX om om];omega
   have ak:i=j:=om
   have a7:m=a+1:=om
   refine zA ?_
   simp[go_sem,q]
   refine zH (S:=Nat) [1,2,3,4,8,11] (λk=> [.int .i64 a,.int .i64 m,.int .i64 b,.ptr cv.length 0,.int .i64 i,.int .i64 k]) (λk=>ft cv id s n row (dz f a (a+1) (k+1))++ [fN gl gs cl cs]) (λk=>i - k)
    (λk=>a<=k/\k+1<=i) (hc.trans (hl f)) hb a ⟨A7 _,om⟩ ?_ ?_
   .rw[VM]
    exact yH (by simp[hl]) sg
   rintro k ⟨k1,k2⟩
   by_cases q2:k<i - 1
   .have a8:(k:Int)<((i - 1:Nat):Int):=om
    have ek:IntKind.i64.wrap ((k:Int)+1)=((k+1:Nat):Int):=by rw[bX om om];omega
    have al:=λK=>S.swap c [fN gl gs cl cs] (dz f a (a+1) (k+1)) k (k+1) K om om om
    rw[wu3 f k1]at al
    refine zA ?_
    simp[go_sem,e3,q2,hd,ek]
    refine al _ ?_
    simp[go_sem,ek]
    exact zI (k+1) ⟨om,⟨om,om⟩,yH (by simp[hl]) sg⟩
   .have a8: ¬(k:Int)<((i - 1:Nat):Int):=om
    have hk:k+1=i:=om
    refine zA ?_
    simp[go_sem,e3,q2]
    refine yZ cv.length (Ca (hl _)) (hl _) (S.iD _) (Cd (hl f)) (zC rfl) ⟨rfl,_,rfl, ?_, ?_⟩
    .rw[hk]
     exact(Mv.LD f om om).mono (A7 _) om
    .rw[hk]
     rw[a7]at af hL
     refine wa2 af om om (λx x1 x2=> .inl (hL x x1 x2)) (λx x1 x2=> ?_)
     exact(TO.xr o (ae a x (A7 _) h1 om x2)).2 (hR x om x2)
 .have au:(((m - a:Nat):Int)==1)=false:=by simp;omega
  refine zN (zA ?_)
  simp[go_sem,hl]
  refine zN (zA ?_)
  simp[go_sem,e1,au]
  by_cases c2:b - m=1
  .have av:(((b - m:Nat):Int)==1)=true:=by simp;omega
   have aA:b=m+1:=om
   refine zA ?_
   simp[go_sem,e2,av]
   refine zH (S:=Nat×Nat) [1,2,3,4,12,13] (λu=> [.int .i64 a,.int .i64 m,.int .i64 b,.ptr cv.length 0,.int .i64 u.1,.int .i64 u.2]) (λ_=>ft cv id s n row f++ [fN gl gs cl cs]) (λu=>u.2 - u.1)
    (λu=>a<=u.1/\u.1<=u.2/\u.2<=m/\(∀x,a<=x->x<u.1->lt (f m) (f x)=false)/\ ∀x,u.2<=x->x<m->lt (f m) (f x)=true) (hc.trans (hl f)) hb (a,m) ⟨A7 _,by show a<=m;omega,A7 _,λx q1 q2=>om,λx q1 q2=>om⟩ ?_ ?_
   .exact yH (by simp[hl]) sg
   rintro⟨i,j⟩ ⟨hi,aj,hj,hL,hR⟩
   simp only at hi aj hj hL hR
   by_cases q:i<j
   .obtain⟨h,hh⟩:=eX ((i+j)/2)
    have eh:=LG (i:=i) (j:=j) om
    rw[hh]at eh
    have ei:=zQ (show h<j by omega) om
    have hle:=λK=>S.less c [fN gl gs cl cs] f m h K om om om
    refine zA ?_
    simp[go_sem,q,hd,eh]
    refine hle _ ?_
    cases aa:lt (f m) (f h)with
    |false=>
     simp[go_sem,ei]
     exact zI (h+1,j) ⟨by show j - (h+1)<j - i;omega,⟨by show a<=h+1;omega,by show h+1<=j;omega,hj,λx q1 q2=>by
      by_cases c2:x=h
      .rw[c2];exact aa
      .exact wp9 o (ah x h q1 (by have:x<h+1:=q2;omega) om) aa,hR⟩,yH (by simp[hl]) sg⟩
    |true=>
     simp[go_sem]
     exact zI (i,h) ⟨by show h - i<j - i;omega,⟨hi,by show i<=h;omega,by show h<=m;omega,hL,λx q1 q2=>by
      by_cases c2:x=h
      .rw[c2];exact aa
      .exact wu6 o (ah h x om (by have:h<=x:=q1;omega) q2) aa⟩,yH (by simp[hl]) sg⟩
   .have ak:i=j:=om
    refine zA ?_
    simp[go_sem,q]
    refine zH (S:=Nat) [1,2,3,4,12,15] (λk=> [.int .i64 a,.int .i64 m,.int .i64 b,.ptr cv.length 0,.int .i64 i,.int .i64 k]) (λk=>ft cv id s n row (dz f k m (m+1))++ [fN gl gs cl cs]) (λk=>k)
     (λk=>i<=k/\k<=m) (hc.trans (hl f)) hb m ⟨om,A7 _⟩ ?_ ?_
    .rw[Pc]
     exact yH (by simp[hl]) sg
    rintro k ⟨k1,k2⟩
    by_cases q2:i<k
    .have ek:IntKind.i64.wrap ((k:Int) - 1)=((k - 1:Nat):Int):=by rw[bX om om];omega
     have al:=λK=>S.swap c [fN gl gs cl cs] (dz f k m (m+1)) k (k - 1) K om om om
     rw[VN f k2 om]at al
     refine zA ?_
     simp[go_sem,q2,hd,ek]
     refine al _ ?_
     simp[go_sem,ek]
     exact zI (k - 1) ⟨om,⟨om,om⟩,yH (by simp[hl]) sg⟩
    .have hk:k=i:=om
     refine zA ?_
     simp[go_sem,q2]
     refine yZ cv.length (Ca (hl _)) (hl _) (S.iD _) (Cd (hl f)) (zC rfl) ⟨rfl,_,rfl, ?_, ?_⟩
     .rw[hk]
      exact(Mv.LD f om om).mono hi om
     .rw[hk,aA]
      refine VO ah hi om (λx x1 x2=> ?_) (λx x1 x2=> .inl (hR x om x2))
      exact(TO.xr o (ae x m x1 om (A7 _) h2)).2 (hL x x1 x2)
  .have av:(((b - m:Nat):Int)==1)=false:=by simp;omega
   refine zN (zA ?_)
   simp[go_sem,e2,av]
   obtain⟨eK,ar⟩:=eX ((a+b)/2)
   have eh:=LG (i:=a) (j:=b) om
   rw[ar]at eh
   have en:IntKind.i64.wrap ((eK:Int)+m)=(eK:Int)+m:=bX om om
   refine zN (zA ?_)
   simp[go_sem,eh]
   refine zN (zA ?_)
   simp[go_sem,en]
   refine zN (zA ?_)
   simp[go_sem]
   obtain⟨lo,an⟩:=eX ((if eK<m then eK+m - b else a))
   obtain⟨hi,ai⟩:=eX ((if eK<m then eK else m))
   have aF:eK*2<=a+b/\a+b<=eK*2+1:=om
   have aB:a<=lo/\lo<=hi/\hi<=m/\hi<=eK/\eK+m<=lo+b:=by
    split at an<;>split at ai<;>omega
   obtain⟨l1,l2,l3,l4,l5⟩:=aB
   refine ov (S:=Unit) [1,2,3,4,16,17,18,19] (λ_=> [.int .i64 a,.int .i64 m,.int .i64 b,.ptr cv.length 0,.int .i64 eK,.int .i64 ((eK:Int)+m),.int .i64 lo,.int .i64 hi]) (λ_=>ft cv id s n row f++ [fN gl gs cl cs]) (λ_=>True) (hc.trans (hl f)) hb ?_ ?_
   .by_cases c3:eK<m
    .rw[aiv c3]at an ai
     have e4:IntKind.i64.wrap ((eK:Int)+m - b)=(lo:Int):=by rw[bX om om];omega
     refine zA ?_
     simp[go_sem,c3,e4]
     exact zI () ⟨tV,yH (by simp[hl]) (by simp[go_sem,ai])⟩
    .rw[aiu c3]at an ai
     refine zA ?_
     simp[go_sem,c3]
     exact zI () ⟨tV,yH (by simp[hl]) (by simp[go_sem,an,ai])⟩
   rintro _ _
   obtain⟨p,hp⟩:=eX (eK+m - 1)
   have e5:IntKind.i64.wrap ((eK:Int)+m - 1)=(p:Int):=by rw[bX om om];omega
   refine zN (zA ?_)
   simp[go_sem,e5]
   refine zN (zA ?_)
   simp[go_sem]
   refine zH (S:=Nat×Nat) [1,2,3,4,16,17,18,19,20] (λu=> [.int .i64 a,.int .i64 m,.int .i64 b,.ptr cv.length 0,.int .i64 eK,.int .i64 ((eK:Int)+m),.int .i64 u.1,.int .i64 u.2,.int .i64 p]) (λ_=>ft cv id s n row f++ [fN gl gs cl cs]) (λu=>u.2 - u.1)
    (λu=>lo<=u.1/\u.1<=u.2/\u.2<=hi/\(∀x,lo<=x->x<u.1->TO lt (f x) (f (p - x)))/\ ∀x,u.2<=x->x<hi->TO lt (f (p - x)) (f x)) (hc.trans (hl f)) hb (lo,hi) ⟨A7 _,l2,A7 _,λx q1 q2=>om,λx q1 q2=>om⟩ ?_ ?_
   .exact yH (by simp[hl]) sg
   rintro⟨i,j⟩ ⟨aw,aj,hj,hL,hR⟩
   simp only at aw aj hj hL hR
   by_cases q:i<j
   .obtain⟨h,hh⟩:=eX ((i+j)/2)
    have eh:=LG (i:=i) (j:=j) om
    rw[hh]at eh
    have ei:=zQ (show h<j by omega) om
    have e6:IntKind.i64.wrap ((p:Int) - h)=((p - h:Nat):Int):=by rw[bX om om];omega
    have hle:=λK=>S.less c [fN gl gs cl cs] f (p - h) h K om om om
    refine zA ?_
    simp[go_sem,q,hd,eh,e6]
    refine hle _ ?_
    cases aa:lt (f (p - h)) (f h)with
    |false=>
     simp[go_sem,ei]
     exact zI (h+1,j) ⟨by show j - (h+1)<j - i;omega,⟨by show lo<=h+1;omega,by show h+1<=j;omega,hj,λx q1 q2=>by
      have q2:x<h+1:=q2
      have t1:TO lt (f h) (f (p - h)):=(TO.xr o (ae h (p - h) om om om om)).2 aa
      by_cases c2:x=h
      .rw[c2];exact t1
      .exact((ah x h om om om).trans o t1).trans o (af (p - h) (p - x) om om om),hR⟩,yH (by simp[hl]) sg⟩
    |true=>
     simp[go_sem]
     exact zI (i,h) ⟨by show h - i<j - i;omega,⟨aw,by show i<=h;omega,by show h<=hi;omega,hL,λx q1 q2=>by
      have q1:h<=x:=q1
      by_cases c2:x=h
      .rw[c2];exact .inl aa
      .exact((af (p - x) (p - h) om om om).trans o (.inl aa)).trans o (ah h x om om om)⟩,yH (by simp[hl]) sg⟩
   .have ak:i=j:=om
    subst ak
    obtain⟨e,he⟩:=eX (eK+m - i)
    have e7:IntKind.i64.wrap ((eK:Int)+m - i)=(e:Int):=by rw[bX om om];omega
    obtain⟨⟨r1,r2,r3,r4,r5,r6,r7⟩,aq,t1,t2,t3,t4⟩:=xw6 o (f:=f) (lo:=lo) (hi:=hi) (s:=i) (e:=e) h1 h2 ar.symm ah af an.symm ai.symm aw hj he.symm (λx q1 q2=>by rw[hp];exact hL x q1 q2) (λx q1 q2=>by rw[hp];exact hR x q1 q2)
    have aC:=ae.IB r3 r4 r6 r7
    have aD:=ae.IC r1 r3 r4 r7
    have aE:Mv f (dz f i m e) a b:=(Mv.LD f r3 r4).mono r1 r6
    have ao: ¬(i<m/\m<e)->dz f i m e=f:=λhn=>by
     rcases Bv i m with c|c
     .have:e=m:=om
      rw[this];exact VM f i m
     .have:i=m:=om
      rw[this];exact Pc f m e
    have ay:=λc1 c2=>xP3 S f i m e c1 c2 om
    generalize dz f i m e=g0 at*
    refine zA ?_
    simp[go_sem]
    refine zN (zA ?_)
    simp[go_sem,e7]
    refine ov (S:=Unit) [1,2,3,4,16,18,22] (λ_=> [.int .i64 a,.int .i64 m,.int .i64 b,.ptr cv.length 0,.int .i64 eK,.int .i64 i,.int .i64 e]) (λ_=>ft cv id s n row g0++ [fN gl gs cl cs]) (λ_=>True) (hc.trans (hl f)) hb ?_ ?_
    .by_cases k1:i<m
     .by_cases k2:m<e
      .have ab:=ay k1 k2
       refine zA ?_
       simp[go_sem,k1,k2,hd]
       refine S.call ab cB rfl ?_
       rintro g' rfl
       simp[go_sem]
       exact zI () ⟨tV,yH (by simp[hl]) sg⟩
      .rw[ao λh=>k2 h.2]
       refine zA ?_
       simp[go_sem,k1,k2]
       exact zI () ⟨tV,yH (by simp[hl]) sg⟩
     .rw[ao λh=>k1 h.1]
      refine zA ?_
      simp[go_sem,k1]
      exact zI () ⟨tV,yH (by simp[hl]) sg⟩
    rintro _ _
    clear ay ao hL hR
    refine ov (S:=Nat->Nat) [1,2,3,4,16,22] (λ_=> [.int .i64 a,.int .i64 m,.int .i64 b,.ptr cv.length 0,.int .i64 eK,.int .i64 e]) (λg=>ft cv id s n row g++ [fN gl gs cl cs]) (λg=>kp lt g0 g a eK) (hc.trans (hl f)) hb ?_ ?_
    .by_cases k1:a<i
     .by_cases k2:i<eK
      .have ab:=ih g0 a i eK om k1 k2 om t1 t2 aC
       refine zA ?_
       simp[go_sem,k1,k2,hd]
       refine S.call ab cB rfl ?_
       rintro g' ax
       simp[go_sem]
       exact zI g' ⟨ax,yH (by simp[hl]) sg⟩
      .have hq:jj lt g0 a eK:=by rw[show eK=i by omega];exact t1
       refine zA ?_
       simp[go_sem,k1,k2]
       exact zI g0 ⟨kp.id hq,yH (by simp[hl]) sg⟩
     .have hq:jj lt g0 a eK:=by rw[show a=i by omega];exact t2
      refine zA ?_
      simp[go_sem,k1]
      exact zI g0 ⟨kp.id hq,yH (by simp[hl]) sg⟩
    rintro ad q1
    have same: ∀k,eK<=k->ad k=g0 k:=λk hk=>q1.1.out (.inr hk)
    have az:jj lt ad eK e:=λx y x1 x2 x3=>by rw[same x x1,same y om];exact t3 x y x1 x2 x3
    have a1:jj lt ad e b:=λx y x1 x2 x3=>by rw[same x om,same y om];exact t4 x y x1 x2 x3
    have a6:ug ad eK e b:=λx y x1 x2 x3 x4=>by rw[same x x1,same y om];exact aD x y x1 x2 x3 x4
    have fin: ∀g2,kp lt ad g2 eK b->kp lt f g2 a b:=λg2 q2=>kp.both aE aq ⟨om,om⟩ q1 q2
    by_cases k1:eK<e
    .by_cases k2:e<b
     .have ab:=ih ad eK e b om k1 k2 om az a1 a6
      refine zA ?_
      simp[go_sem,k1,k2,hd]
      refine S.call ab cB rfl ?_
      rintro g' ax
      simp[go_sem]
      exact yZ cv.length (Ca (hl _)) (hl _) (S.iD _) (Cd (hl f)) (zC rfl) ⟨rfl,_,rfl,fin g' ax⟩
     .have hq:jj lt ad eK b:=by rw[show b=e by omega];exact az
      refine zA ?_
      simp[go_sem,k1,k2]
      exact yZ cv.length (Ca (hl _)) (hl _) (S.iD _) (Cd (hl f)) (zC rfl) ⟨rfl,_,rfl,fin ad (kp.id hq)⟩
    .have hq:jj lt ad eK b:=by rw[show eK=e by omega];exact a1
     refine zA ?_
     simp[go_sem,k1]
     exact yZ cv.length (Ca (hl _)) (hl _) (S.iD _) (Cd (hl f)) (zC rfl) ⟨rfl,_,rfl,fin ad (kp.id hq)⟩
theorem Pd (S:SC prog gl gs cl cs cv id s n row lt) (o:Ord lt): ∀(d:Nat) (f:Nat->Nat) (a m b:Nat),b - a<d->a<m->m<b->b<=n->jj lt f a m->jj lt f m b->ug f a m b->
  bN prog 281 [.agg [.fn gl cl,.fn gs cs],.int .i64 a,.int .i64 m,.int .i64 b] (ft cv id s n row f) (λr t=>r= .cy []/\ ∃g,t=ft cv id s n row g/\kp lt f g a b)
 |0,_,_,_,_,h,_,_,_,_,_,_=>absurd h om
 |d+1,f,a,m,b,h,h1,h2,h3,aa,ab,hg=>yq3 S o f a m b h1 h2 h3 aa ab hg λf' a' m' b' h' q1 q2 q3 q4 q5 q6=>Pd S o d f' a' m' b' om q1 q2 q3 q4 q5 q6
end
section
variable {gl gs:FuncId} {cl cs:List V} {cv:St} {id s n:Nat} {row:Nat->List V} {lt:Nat->Nat->Bool}
theorem xQ9 (S:SC prog gl gs cl cs cv id s n row lt) (o:Ord lt):
  bN prog 223 [.agg [.fn gl cl,.fn gs cs],.int .i64 n] (ft cv id s n row λk=>k) (λr t=>r= .cy []/\ ∃g,t=ft cv id s n row g/\kp lt (λk=>k) g 0 n):=by
 have hn:=S.nn
 refine bN.iv (ft cv id s n row λk=>k).length func223 ntmps223 results223 rfl rfl (C4 rfl) λc hc hb=> ?_
 have hl: ∀g,(ft cv id s n row g).length=cv.length:=λg=>BF ..
 have hd:=LF (cv:=cv) (id:=id) (s:=s) (n:=n) (row:=row) (gl:=gl) (gs:=gs) (cl:=cl) (cs:=cs)
 refine zN (zA ?_)
 simp[go_sem,hl]
 refine zN (zA ?_)
 simp[go_sem]
 refine zN (zA ?_)
 simp[go_sem]
 refine zN (zA ?_)
 simp[go_sem]
 refine zH (S:=Nat×Nat×(Nat->Nat)) [1,2,4,5,6] (λu=> [.int .i64 n,.ptr cv.length 0,.int .i64 20,.int .i64 u.2.1,.int .i64 ((u.2.1+20:Nat):Int)]) (λu=>ft cv id s n row u.2.2++ [fN gl gs cl cs]) (λu=>n - u.2.1)
  (λu=>u.2.1=u.1*20/\u.2.1<=n/\(∀q,q<u.1->kE lt u.2.2 (q*20) (q*20+20))/\(∀k,u.2.1<=k->u.2.2 k=k)/\Mv (λk=>k) u.2.2 0 n) (hc.trans (hl _)) hb (0,0,λk=>k) ⟨rfl,A3 _,λq hq=>absurd hq (Nat.not_lt_zero _),λ_ _=>rfl,Mv.refl _ _ _⟩ ?_ ?_
 .exact yH (by simp[hl]) sg
 rintro⟨t,A,g⟩ ⟨hA,af,ai,hid,ab⟩
 simp only at hA af ai hid ab
 have ah: ∀b,∀x y,A<=x->x<y->y<b->g x<g y:=λb x y x1 x2 x3=>by rw[hid x x1,hid y om];exact x2
 by_cases q:A+20<=n
 .have q':(A:Int)+20<=n:=om
  have e1:IntKind.i64.wrap ((A:Int)+20+20)=(A:Int)+20+20:=bX om om
  have aa:=VQ S o g A (A+20) om q (ah _)
  refine zA ?_
  simp[go_sem,q',hd]
  refine S.call aa cB rfl ?_
  rintro g' ad
  rw[hA]at ad
  rw[hA]at hid
  obtain⟨f1,f2⟩:=xs9 ai hid ad
  simp[go_sem,e1]
  exact zI (t+1,A+20,g') ⟨by show n - (A+20)<n - A;omega,⟨by show A+20=(t+1)*20;omega,q,f1,λk hk=>f2 k (by have:A+20<=k:=hk;omega),ab.trans (ad.1.mono (A3 _) om)⟩,yH (by simp[hl]) sg⟩
 .have q': ¬(A:Int)+20<=n:=om
  have aa:=VQ S o g A n af (A7 _) (ah _)
  refine zA ?_
  simp[go_sem,q']
  refine zN (zA ?_)
  simp[go_sem,hd]
  refine S.call aa cB rfl ?_
  rintro g' ad
  rw[hA]at ad hid
  have hB:=yX8 ai hid om om ad
  have aj:=ab.trans (ad.1.mono (A3 _) (A7 _))
  clear aa ad ah hid ai ab
  simp[go_sem]
  refine zA ?_
  simp[go_sem]
  refine zH (S:=Nat×(Nat->Nat)) [1,2,4] (λu=> [.int .i64 n,.ptr cv.length 0,.int .i64 u.1]) (λu=>ft cv id s n row u.2++ [fN gl gs cl cs]) (λu=>n - u.1)
   (λu=>20<=u.1/\u.1<=2000020/\mL lt u.2 u.1 n/\Mv (λk=>k) u.2 0 n) (hc.trans (hl _)) hb (20,g') ⟨A7 _,by show 20<=2000020;omega,hB,aj⟩ ?_ ?_
  .exact yH (by simp[hl]) sg
  clear hB aj q q' hA af g' g t A
  rintro⟨w,g⟩ ⟨hw,al,hB,ab⟩
  simp only at hw al hB ab
  by_cases q:w<n
  rotate_left
  .refine zA ?_
   simp[go_sem,q]
   exact yZ cv.length (Ca (hl _)) (hl _) (S.iD _) (Cd (hl _)) (zC rfl) ⟨rfl,g,rfl,ab,(hB.all om).2⟩
  have e2:IntKind.i64.wrap (2*(w:Int))=2*(w:Int):=bX om om
  have e3:IntKind.i64.wrap ((w:Int)*2)=(w:Int)*2:=bX om om
  refine zA ?_
  simp[go_sem,q,e2]
  refine zH (S:=Nat×Nat×(Nat->Nat)) [1,2,4,5,6] (λu=> [.int .i64 n,.ptr cv.length 0,.int .i64 w,.int .i64 u.2.1,.int .i64 ((u.2.1+2*w:Nat):Int)]) (λu=>ft cv id s n row u.2.2++ [fN gl gs cl cs]) (λu=>n - u.2.1)
   (λu=>u.2.1=u.1*(2*w)/\u.2.1<=n/\jV lt u.2.2 w n u.1/\Mv (λk=>k) u.2.2 0 n) (hc.trans (hl _)) hb (0,0,g) ⟨sm,A3 _,jV.start hB,ab⟩ ?_ ?_
  .exact yH (by simp[hl]) sg
  clear hB ab g
  rintro⟨t,A,g⟩ ⟨hA,af,hM,ab⟩
  simp only at hA af hM ab
  have e4:IntKind.i64.wrap ((A:Int)+w)=(A:Int)+w:=bX om om
  by_cases p:A+2*w<=n
  .have p':(A:Int)+2*w<=n:=om
   have e5:IntKind.i64.wrap ((A:Int)+2*w+2*w)=(A:Int)+2*w+2*w:=bX om om
   have ae:=hM.pair om (by rw[<-hA];omega)
   rw[<-hA,C8 p]at ae
   have aa:=Pd S o (2*w+1) g A (A+w) (A+2*w) om om om p ae.1.2 ae.2.2 (ae.1.VP ae.2)
   refine zA ?_
   simp[go_sem,p',hd,e4]
   refine S.call aa cB rfl ?_
   rintro g' ad
   have hN:=hM.next om (by rw[<-hA];exact p) (hA▸ad)
   have em:(t+1)*(2*w)=t*(2*w)+2*w:=by rw[B4,D7]
   simp[go_sem,e2,e5]
   exact zI (t+1,A+2*w,g') ⟨by show n - (A+2*w)<n - A;omega,⟨by show A+2*w=(t+1)*(2*w);rw[em,hA],p,hN,ab.trans (ad.1.mono (A3 _) p)⟩,yH (by simp[hl]) sg⟩
  .have p': ¬(A:Int)+2*w<=n:=om
   by_cases p2:A+w<n
   .have ak:(A:Int)+w<n:=om
    have ae:=hM.pair om (by rw[<-hA];exact p2)
    rw[<-hA,Nat.min_eq_right om]at ae
    have aa:=Pd S o (2*w+1) g A (A+w) n om om p2 (A7 _) ae.1.2 ae.2.2 (ae.1.VP ae.2)
    refine zA ?_
    simp[go_sem,p',ak,hd,e4]
    refine S.call aa cB rfl ?_
    rintro g' ad
    have hN:=hM.last om (by rw[<-hA];exact p2) (by rw[<-hA];omega) (hA▸ad)
    simp[go_sem,e3]
    exact zI (w*2,g') ⟨by show n - w*2<n - w;omega,⟨by show 20<=w*2;omega,by show w*2<=2000020;omega,by show mL lt g' (w*2) n;rw[Dt];exact hN,ab.trans (ad.1.mono (A3 _) (A7 _))⟩,yH (by simp[hl]) sg⟩
   .have ak: ¬(A:Int)+w<n:=om
    have hN:=hM.none (by rw[<-hA];exact af) (by rw[<-hA];omega)
    refine zA ?_
    simp[go_sem,p',ak,e4,e3]
    exact zI (w*2,g) ⟨by show n - w*2<n - w;omega,⟨by show 20<=w*2;omega,by show w*2<=2000020;omega,by show mL lt g (w*2) n;rw[Dt];exact hN,ab⟩,yH (by simp[hl]) sg⟩
end
end Go.Proofs.YtplackkccmeioaaGreat
namespace Go.Proofs.YtplackkccmeioaaGreat
open Go Go.Vx R Go.Proofs.Tryz
set_option maxRecDepth 100000
variable {U:Type}{l:List Ln}{b:Mp aiZ}{n:Nat}
def kq (gt:U->Bool) (out:List U) (x:U):List U:=(out.reverse.dropWhile gt).reverse++x::(out.reverse.takeWhile gt).reverse
theorem VR (gt:U->Bool) (out:List U) (x:U):(kq gt out x).Perm (x::out):=by
 unfold kq
 refine Df.trans (List.Perm.cons _ ?_)
 rw[<-List.reverse_append,Cm,List.reverse_reverse]
theorem xJ1 {J:Type} (h:U->J) (gt:J->Bool) (out:List U) (x:U):(kq (λy=>gt (h y)) out x).map h=kq gt (out.map h) (h x):=by
 unfold kq
 rw[C9,Aj,List.map_reverse,List.map_reverse,<-List.map_reverse (l:=out),List.dropWhile_map,List.takeWhile_map]
 rfl
theorem yM0 {lt:Nat->Nat->Bool} (o:Ord lt) {out:aj0} {x:Nat} (hs:out.Pairwise (TO lt)) (hx: ∀y∈out,y<x):(kq (λy=>lt x y) out x).Pairwise (TO lt):=by
 have hl:out=(out.reverse.dropWhile (λy=>lt x y)).reverse++(out.reverse.takeWhile (λy=>lt x y)).reverse:=by
  grind[Cm]
 have ab: ∀y∈out.reverse.takeWhile (λy=>lt x y),lt x y:=by
  intro y hy
  exact Am.1 List.all_takeWhile y hy
 have ad: ∀y∈out.reverse.dropWhile (λy=>lt x y),lt x y=false:=by
  cases hd:out.reverse.dropWhile (λy=>lt x y)with
  |nil=>simp
  |cons z d=>
   have hz:lt x z=false:=by
    have:=List.head?_dropWhile_not (λy=>lt x y) out.reverse
    grind
   intro y hy
   rcases Ae.1 hy with rfl|hy
   .exact hz
   .have hp:(out.reverse).Pairwise (λa b=>TO lt b a):=(by grind)
    have aa:(z::d).Pairwise (λa b=>TO lt b a):=(by grind)
    have h3:=(Cg.1 aa).1 y hy
    cases q:lt x y with
    |false=>rfl
    |true=>
     rcases h3 with h3|⟨h3,_⟩
     .rw[o.tr _ _ _ q h3]at hz;cases hz
     .have:=o.nt _ _ _ hz h3;grind
 unfold kq
 rw[hl,Bs]at hs
 have ae: ∀y∈out.reverse.dropWhile (λy=>lt x y),y∈out:=(by grind)
 rw[Bs,Cg]
 refine⟨hs.1,⟨λy hy=> .inl (by grind),hs.2.1⟩,λy hy z hz=> ?_⟩
 rcases Ae.1 hz with rfl|hz
 .exact .inr (by grind)
 grind
def rA (lt:Nat->Nat->Bool) (n:Nat):aj0:=(List.range n).foldl (λout x=>kq (λy=>lt x y) out x) []
theorem VS {lt:Nat->Nat->Bool} (o:Ord lt): ∀n,(rA lt n).Perm (List.range n)/\(rA lt n).Pairwise (TO lt)
 |0=>⟨List.Perm.nil,List.Pairwise.nil⟩
 |n+1=>by
  obtain⟨h1,h2⟩:=VS o n
  have e:rA lt (n+1)=kq (λy=>lt n y) (rA lt n) n:=by
   unfold rA;rw[List.range_succ,Cc];rfl
  rw[e]
  refine⟨(VR _ _ _).trans ?_,yM0 o h2 λy hy=>Cn.1 (h1.mem_iff.1 hy)⟩
  grind
theorem xA0 {lt:Nat->Nat->Bool} (o:Ord lt) {f:Nat->Nat} (hm:Mv id f 0 n) (hs:jj lt f 0 n):(List.range n).map f=rA lt n:=by
 obtain⟨hp,hq⟩:=VS o n
 obtain⟨π,p1,p2,p3,p4⟩:=hm
 have hf: ∀k,f k=π k:=p4
 have ad:((List.range n).map f).Nodup:=by
  grind[Be]
 have aa:((List.range n).map f).Perm (List.range n):=by
  rw[List.perm_ext_iff_of_nodup ad Be]
  have ab: ∀y∈(List.range n).map f,y∈List.range n:=(by grind)
  intro y
  refine⟨ab y,λhy=>Classical.byContradiction λhn=> ?_⟩
  have h1:(y::(List.range n).map f).Nodup:=(by grind)
  have:=h1.length_le_of_subset (l₂:=List.range n) (by grind)
  grind
 have ae:((List.range n).map f).Pairwise (TO lt):=by
  rw[Da]
  have:=List.pairwise_lt_range (n:=n)
  refine List.Pairwise.imp_of_mem (fun{a b} ha hb af=> ?_) this
  exact hs a b om af (by grind)
 exact(aa.trans hp.symm).eq_of_pairwise (λa b _ _ h1 h2=>absurd (h1.trans o h2) (λh=>h.Gv o)) ae hq
theorem yZ6 (gt:U->U->Bool) (l:List U) (d:U):l.foldl (λout x=>kq (λy=>gt x y) out x) []=(rA (λi j=>gt (l.getD i d) (l.getD j d)) l.length).map λi=>l.getD i d:=by
 have key: ∀n,n<=l.length->(l.take n).foldl (λout x=>kq (λy=>gt x y) out x) []=(rA (λi j=>gt (l.getD i d) (l.getD j d)) n).map λi=>l.getD i d:=by
  intro n
  induction n with
  |zero=>grind[rA]
  |succ n ih=>
   intro h
   have hn:n<l.length:=h
   rw[Ai hn,Cc,ih om]
   have e:rA (λi j=>gt (l.getD i d) (l.getD j d)) (n+1)=kq (λy=>gt (l.getD n d) (l.getD y d)) (rA (λi j=>gt (l.getD i d) (l.getD j d)) n) n:=by
    unfold rA;rw[List.range_succ,Cc];rfl
   rw[e,xJ1 (λi=>l.getD i d) (λy=>gt (l.getD n d) y)]
   grind
 grind
def oE (a b:bK):Prop:=a.kind<b.kind\/a.kind=b.kind/\(a.n<b.n\/a.n=b.n/\Op.bytesLess a.s b.s=true)
theorem wr9 {a b:aiZ} (h:Op.bytesLess a b):Op.bytesLess b a=false:=by
 cases q:Op.bytesLess b a
 .rfl
 grind[Iq,Lk]
theorem Pe (a b:bK):(jA a b<0↔oE a b)/\(0<jA a b↔oE b a):=by
 grind[jA,oE,tU,gu,je,wr9]
theorem oE.Gv (a:bK): ¬oE a a:=by
 intro h
 rcases h with h|⟨_,h|⟨_,h⟩⟩
 all_goals grind[Lk]
theorem oE.trans {a b c:bK} (h:oE a b) (g:oE b c):oE a c:=by
 rcases h with h|⟨h,h|⟨h',h⟩⟩<;>rcases g with g|⟨g,g|⟨g',g⟩⟩
 .exact .inl om
 .exact .inl om
 .exact .inl om
 .exact .inl om
 .exact .inr om
 .exact .inr om
 .exact .inl om
 .exact .inr om
 .exact .inr (by grind[Iq])
theorem oE.some {a c:bK} (b:bK) (h:oE a c):oE a b\/oE b c:=by
 rcases aiW a.kind b.kind with k|k|k
 .exact .inl (.inl k)
 .rcases h with h|⟨h,h⟩
  .exact .inr (.inl om)
  .rcases aiW a.n b.n with m|m|m
   .exact .inl (.inr om)
   .rcases h with h|⟨h',h⟩
    .exact .inr (.inr om)
    .rcases OS a.s b.s with f|f|f
     .exact .inl (.inr (by grind))
     .exact .inr (.inr (by grind))
     .exact .inr (.inr (by grind[Iq]))
   .rcases h with h|⟨h',h⟩
    .exact .inr (.inr om)
    .exact .inr (.inr om)
 .rcases h with h|⟨h,_⟩
  .exact .inr (.inl om)
  .exact .inr (.inl om)
def n9 (d:Ln) (c:Nat) (down:Bool) (l:List Ln) (i j:Nat):Bool:=decide (0<rj c down (l.getD j d) (l.getD i d))
theorem Pf (d:Ln) (c:Nat) (down:Bool) (l:List Ln) (i j:Nat):n9 d c down l i j=true↔if down=true then oE ((l.getD j d).v.getD c zeroV) ((l.getD i d).v.getD c zeroV)else oE ((l.getD i d).v.getD c zeroV) ((l.getD j d).v.getD c zeroV):=by
 unfold n9 rj
 rw[aiA]
 cases down<;>simp[Pe]
theorem VT (d:Ln) (c:Nat) (down:Bool) (l:List Ln):Ord (n9 d c down l):=by
 refine⟨λi=> ?_,λi j k h g=> ?_,λi j k h g=> ?_⟩
 .cases q:n9 d c down l i i with
  |false=>rfl
  |true=>
   grind[Pf,oE.Gv]
 .rw[Pf]at h g⊢
  split at h
  .rename_i e0
   rw[aiv e0]at g⊢
   exact g.trans h
  .rename_i e0
   rw[aiu e0]at g⊢
   exact h.trans g
 .cases q:n9 d c down l i k with
  |false=>rfl
  |true=>
   exfalso
   have h': ¬n9 d c down l i j:=by grind
   have g': ¬n9 d c down l j k:=by grind
   rw[Pf]at h' g' q
   split at q
   .rename_i e0
    rw[aiv e0]at h' g'
    exact(q.some ((l.getD j d).v.getD c zeroV)).elim g' h'
   .rename_i e0
    rw[aiu e0]at h' g'
    exact(q.some ((l.getD j d).v.getD c zeroV)).elim h' g'
theorem xQ8 (d:Ln) (c:Nat) (down:Bool) (l:List Ln):pt c down l=(rA (n9 d c down l) l.length).map λi=>l.getD i d:=yZ6 (λx y=>decide (0<rj c down y x)) l d
theorem xe8 {d:Ln} {c:Nat} {down:Bool} {f:Nat->Nat} (hm:Mv id f 0 l.length) (hs:jj (n9 d c down l) f 0 l.length):((List.range l.length).map λk=>l.getD (f k) d)=pt c down l:=by
 rw[xQ8 d,<-xA0 (by grind[VT]) hm hs,Bg]
 rfl
def jG (T:bL) (st:bW) (c:Int) (rows:List (List V)) (n:Nat):St:= [.cj rows 3,.box T.row,.box st.row,.box [.cM 0 3 n 0 n],.box dV,.box [.int .i64 c]]
theorem BH (T:bL) (st:bW) (c:Int) (l:List Ln) (n:Nat):(jG T st c (l.map Ln.row) n).all (bS 6)=true:=by simp[jG,dV,bS,cN,cL,Ln.row,bL.row,bW.row]
theorem ED {l:List U} {i:Nat} (h:i<l.length) (d:U):l.getD i d=l[i]:=by rw[Al,A0 h];rfl
theorem wm9 (d:Ln) (T:bL) (st:bW) (aa:Nat) (_hc0:aa<=10000) (l:List Ln) (ad: ∀x∈l,aa<x.v.length) (i j:Nat) (hi:i<l.length) (hj:j<l.length):
  bN prog 160 [.int .i64 i,.int .i64 j,.ptr 3 0,.ptr 5 0,.ptr 2 0] (jG T st aa (l.map Ln.row) l.length) (λr s=>r= .bool (n9 d aa st.down l i j)/\s=jG T st aa (l.map Ln.row) l.length):=by
 obtain⟨x,hx⟩:=eX (l[i])
 obtain⟨y,hy⟩:=eX (l[j])
 have ae:=ad x (hx▸A8 hi)
 have af:=ad y (hy▸A8 hj)
 obtain⟨v,hv⟩:=eX (x.v[aa])
 obtain⟨u,hu⟩:=eX (y.v[aa])
 have ab:=Us v u
 obtain⟨a1,a2,a3,a4,a5,a6,a7,a8,dn,a9⟩:=st
 have hM:n9 d aa dn l i j=(if dn=true then decide (0<jA v u)else decide (jA v u<0)):=by
  unfold n9 rj
  rw[ED hi,ED hj,hx,hy,ED ae,ED af,hv,hu]
  obtain⟨h1,h2⟩:=Pe v u
  obtain⟨h3,h4⟩:=Pe u v
  split
  .rw[decide_eq_decide]
   exact⟨λh=>h2.2 (h3.1 om),λh=>by have:=h3.2 (h2.1 h);omega⟩
  .rw[decide_eq_decide]
   exact⟨λh=>h1.2 (h4.1 h),λh=>h4.2 (h1.1 h)⟩
 show bN _ _ _ _ (λr s=>r= .bool (n9 d aa dn l i j)/\_)
 rw[hM]
 clear hM
 generalize jA v u=k at ab
 have cQ:=BH T ⟨a1,a2,a3,a4,a5,a6,a7,a8,dn,a9⟩ aa l l.length
 generalize hB:(if dn=true then decide (0<k)else decide (k<0))=B
 have ret: ∀(r:Bool) (Il:St),r=B->cx (some (.bool r)) 6 (λr s=>r= .bool B/\s=jG T ⟨a1,a2,a3,a4,a5,a6,a7,a8,dn,a9⟩ aa (l.map Ln.row) l.length) (jG T ⟨a1,a2,a3,a4,a5,a6,a7,a8,dn,a9⟩ aa (l.map Ln.row) l.length++Il):=λr Il h=>by
  subst h
  exact yZ 6 (Ca rfl) rfl cQ (A7 _) (zC rfl) ⟨rfl,rfl⟩
 clear cQ ad
 have hk:=aiW k 0
 cases dn<;>(
  refine iV 6 func160 ntmps160 results160 λc hc hb=> ?_
  refine zA ?_
  simp[go_sem,jG]
  refine yE [(16,0)] 6 rfl kR kR ?_
  simp[go_sem,hi,hj,hx,hy,ae,af,hv,hu]
  refine pD ab ?_
  simp[go_sem]
  rcases hk with q|q|q
  .have q2: ¬0<k:=om
   simp[go_sem,q,q2]
   exact ret _ _ (by rw[<-hB];simp[q,q2])
  .subst q
   simp[go_sem]
   exact ret _ _ (by rw[<-hB];simp)
  .have q2: ¬k<0:=om
   simp[go_sem,q,q2]
   exact ret _ _ (by rw[<-hB];simp[q,q2]))
theorem VU:(Tryz.prog.info? 228).map (λi=>(i.size,i.hasPointers,i.bytes))=some (3,true,48):=kR
theorem xw9:(Tryz.prog.info? 223).map (λi=>i.desc)=some (.slice 228):=kR
theorem xK9 (w:World):(Extern.Rtype.kind 228).run prog w= .ok 25 w:=kR
theorem wd7 {ie:TypeInfo} (hn:2<=n) (h1:ie.hasPointers) (h2:ie.bytes=48):Lib.swapperK n ie 25=9:=by
 unfold Lib.swapperK
 have e1:(n==0)=false:=by simp;omega
 have e2:(n==1)=false:=by simp;omega
 rw[e1,e2,h1,h2]
 rfl
theorem wu4 (args:aj3) (w:World):(callFunc 279 args).run prog w=((Extern.ReflectliteSwapper.swap false args).run prog w).andThen λv w'=> .ok (.value v) w':=
 run_callFunc_extern func279 kR kR kR (e:=Extern.ReflectliteSwapper.swap false) kR args w
def l8 (jk:Nat):Ln:=⟨0,[],List.replicate (jk+1) zeroV⟩
noncomputable def na (T:bL) (st:bW) (jk:Int) (rows:List (List V)) (n:Nat):St:=jG T st jk rows n++ [.box [.cM 0 3 n 0 n],.box [.raw (typeHandle prog 223),.ptr 6 0,.int .u64 151]]
noncomputable def EE (n:Nat):List V:=if n<=1 then []else [.cM 0 3 n 0 n,.raw (typeHandle prog 228)]
theorem VV {T:bL} {st:bW} {aa:Nat} (f:Nat->Nat):ft (na T st aa (l.map Ln.row) l.length) 0 3 l.length (λk=>(l.getD k (l8 aa)).row) f=na T st aa (((List.range l.length).map λk=>l.getD (f k) (l8 aa)).map Ln.row) l.length:=by
 unfold ft na jG
 rw[Bg]
 rfl
theorem wd0 {d:Ln} (f:Nat->Nat):((List.range l.length).map λk=>l.getD (f k) d).length=l.length:=sm
theorem wr3 (G:FuncId) (T:bL) (st:bW) (aa:Nat) (ah:aa<=10000) (l:List Ln) (hl:l.length<=10000) (ai: ∀x∈l,aa<x.v.length) (hG:2<=l.length->G=279):
  SC prog 160 G [.ptr 3 0,.ptr 5 0,.ptr 2 0] (EE l.length) (na T st aa (l.map Ln.row) l.length) 0 3 l.length (λk=>(l.getD k (l8 aa)).row) (n9 (l8 aa) aa st.down l):=by
 have ae: ∀k,aa<(l.getD k (l8 aa)).v.length:=λk=>by
  by_cases q:k<l.length
  .rw[ED q];exact ai _ (A8 q)
  .rw[Al,Dk om];simp[l8]
 have aq: ∀rows n,(jG T st aa rows n).length=6:=λ_ _=>rfl
 refine⟨by simp[na,jG],om,rfl, ?_, ?_,λk=> ?_,λc τ f i j K hi hj aj hk=> ?_,λc τ f i j K hi hj aj hk=> ?_⟩
 .unfold EE
  split
  .rfl
  .simp[na,jG,cL]
 .have h:=BH T st aa l l.length
  unfold na
  rw[E7,Ab]
  refine⟨?_,by simp[jG,bS,cN,cL]⟩
  rw[Am]at h⊢
  exact λo ho=>J5 (by simp[jG]) (h o ho)
 .simp[Ln.row,cN,cL]
 .rw[VV]at hk⊢
  obtain⟨l',ab⟩: ∃l',((List.range l.length).map λk=>l.getD (f k) (l8 aa))=l':=⟨_,rfl⟩
  have ak:l'.length=l.length:=by rw[<-ab,wd0]
  have hg: ∀k,k<l.length->l'.getD k (l8 aa)=l.getD (f k) (l8 aa):=λk hk=>by
   rw[<-ab,ED (sU hk)];simp
  have af:=wm9 (l8 aa) T st aa ah l' (λx hx=>by
   rw[<-ab]at hx
   obtain⟨k,_,rfl⟩:=Ac.1 hx
   exact ae _) i j om om
  have al:n9 (l8 aa) aa st.down l' i j=n9 (l8 aa) aa st.down l (f i) (f j):=by
   unfold n9
   rw[hg i hi,hg j hj]
  rw[al,ak]at af
  rw[ab]at hk⊢
  refine uM 6 af cB ?_ rfl (by have:=BH T st aa l' l.length;exact this) ?_ ?_ ?_
  .show(jG _ _ _ _ _++_++τ).take 6=_
   rw[D0]
   exact Ca rfl
  .exact rS rfl
  .rintro r s ⟨rfl,rfl⟩
   exact⟨rfl,BH T st aa l' l.length,rfl⟩
  .rintro r s ⟨rfl,rfl⟩
   have e:jG T st aa (l'.map Ln.row) l.length++(na T st aa (l'.map Ln.row) l.length++τ).drop 6=na T st aa (l'.map Ln.row) l.length++τ:=rfl
   rw[e]
   exact hk
 .have h2:2<=l.length:=om
  rw[hG h2]
  obtain⟨ie,an,ad⟩:=Av.1 VU
  simp only[aiF]at ad
  obtain⟨ao,_,_⟩:=ad
  have e0:EE l.length= [.cM 0 3 l.length 0 l.length,.raw (typeHandle prog 228)]:=by unfold EE;rw[aiu om]
  rw[e0]
  refine xB2 wu4 an isAgg228 ao sm (rows:=(List.range l.length).map λk=>(l.getD (f k) (l8 aa)).row) (R:=(List.range l.length).map λk=>(l.getD (sw f i j k) (l8 aa)).row) rfl hi hj ?_ hk
  have gd: ∀q,q<l.length->((List.range l.length).map λk=>(l.getD (f k) (l8 aa)).row).getD q []=(l.getD (f q) (l8 aa)).row:=λq hq=>by
   rw[ED (sU hq)];simp
  rw[gd i hi,gd j hj]
  refine List.ext_getElem sm λk h1 h2=> ?_
  rw[List.getElem_set,List.getElem_set]
  simp only[Cy,List.getElem_range,sw]
  split
  .rename_i q;subst q
   rw[aiu om,aiv rfl]
  .split
   .rename_i q;subst q
    rw[aiv rfl]
   .rename_i q1 q2
    rw[aiu om,aiu om]
theorem Pg (args:aj3) (w:World):(callFunc 221 args).run prog w=((Extern.ReflectliteValue.unpack (args.getD 0 (.tuple #[]))).run prog w).andThen λv w'=> .ok (.value v) w':=
 run_callFunc_extern func221 kR kR kR (e:=λargs=>Extern.ReflectliteValue.unpack (args.getD 0 (.tuple #[]))) kR args w
theorem wu5 (args:aj3) (w:World):(callFunc 222 args).run prog w=((Extern.ReflectliteSwapper.swapper "internal/reflectlite" (Extern.ReflectliteValue.valueError "Swapper") args).run prog w).andThen λv w'=> .ok (.value v) w':=
 run_callFunc_extern func222 kR kR kR (e:=Extern.ReflectliteSwapper.swapper "internal/reflectlite" (Extern.ReflectliteValue.valueError "Swapper")) kR args w
theorem wu9 (args:aj3) (w:World):(callFunc 224 args).run prog w=((Extern.ReflectliteValue.method (Extern.ReflectliteValue.valueError "reflectlite.Value.Len" 0) Extern.ReflectliteValue.len args).run prog w).andThen λv w'=> .ok (.value v) w':=
 run_callFunc_extern func224 kR kR kR (e:=Extern.ReflectliteValue.method (Extern.ReflectliteValue.valueError "reflectlite.Value.Len" 0) Extern.ReflectliteValue.len) kR args w
theorem xX7:(Tryz.prog.funcs.findIdx? (·.name== "internal/reflectlite" ++ ".Swapper$" ++toString 1),Tryz.prog.funcs.findIdx? (·.name== "internal/reflectlite" ++ ".Swapper$" ++toString 2),Tryz.prog.funcs.findIdx? (·.name== "internal/reflectlite" ++ ".Swapper$" ++toString 9))=(some 271,some 272,some 279):=kR
@[go_sem] theorem Gy:wB prog 335=some [.fT,.fT,.int .u64 0]:=kR
@[go_sem] theorem LH:eE prog 335=some 3:=kR
@[go_sem] theorem IH:cS prog 335=some true:=kR
theorem yq2 (T:bL) (st:bW) (jk:Nat) (HF:jk<=10000) (l:List Ln) (hl:l.length<=10000) (hcl: ∀x∈l,jk<x.v.length):
  bN prog 159 [.gV 223 [.cM 0 3 l.length 0 l.length],.fn 160 [.ptr 3 0,.ptr 5 0,.ptr 2 0]] (jG T st jk (l.map Ln.row) l.length) (λr s=>r= .cy []/\s=jG T st jk ((pt jk st.down l).map Ln.row) l.length):=by
 obtain⟨ti,Ph,Pj⟩:=Av.1 xw9
 obtain⟨ie,NL,II⟩:=Av.1 VU
 simp only[aiF]at II
 obtain⟨hs3,hp,hby⟩:=II
 obtain⟨G,hG,hG2,IJ⟩: ∃G,Tryz.prog.funcs.findIdx? (·.name== "internal/reflectlite" ++ ".Swapper$" ++toString (Lib.swapperK l.length ie 25))=some G/\(2<=l.length->G=279)/\(Lib.swapperK l.length ie 25<=2↔l.length<=1):=by
  have h:=xX7
  simp only[aiF]at h
  obtain⟨f1,f2,f3⟩:=h
  by_cases q:2<=l.length
  .rw[wd7 q hp hby]
   exact⟨_,f3,λ_=>rfl,om⟩
  .rcases(by omega:l.length=0\/l.length=1)with e|e
   .rw[e];exact⟨_,f1,λh=>om,⟨λ_=>dC,λ_=>(by show 1<=2;decide)⟩⟩
   .rw[e];exact⟨_,f2,λh=>om,⟨λ_=>dC,λ_=>(by show 2<=2;decide)⟩⟩
 have S:=wr3 G T st jk HF l hl hcl hG2
 have VX:=xQ9 S (VT (l8 jk) jk st.down l)
 have VY: ∀f,ft (na T st jk (l.map Ln.row) l.length) 0 3 l.length (λk=>(l.getD k (l8 jk)).row) f=na T st jk (((List.range l.length).map λk=>l.getD (f k) (l8 jk)).map Ln.row) l.length:=λf=>VV f
 have Pm:((List.range l.length).map λk=>l.getD k (l8 jk))=l:=by
  refine List.ext_getElem sm λk h1 h2=> ?_
  simp[h2]
 have Pn:bN prog 223 [.agg [.fn 160 [.ptr 3 0,.ptr 5 0,.ptr 2 0],.fn G (EE l.length)],.int .i64 l.length] (na T st jk (l.map Ln.row) l.length) (λr t=>r= .cy []/\t=na T st jk ((pt jk st.down l).map Ln.row) l.length):=by
  rw[VY,Pm]at VX
  refine VX.mono λr t h=> ?_
  obtain⟨h1,g,h2,h3⟩:=h
  refine⟨h1, ?_⟩
  rw[h2,VY]
  congr 2
  exact xe8 h3.1 h3.2
 have cQ: ∀m:List Ln,(na T st jk (m.map Ln.row) l.length).all (bS 8)=true:=λm=>by
  have h:=BH T st jk m l.length
  unfold na
  rw[E7,Ab]
  refine⟨?_,by simp[bS,cN,cL]⟩
  rw[Am]at h⊢
  exact λo ho=>J5 dC (h o ho)
 have hsc:EE l.length=(if Lib.swapperK l.length ie 25<=2 then []else [.cM 0 3 l.length 0 l.length,.raw (typeHandle prog 228)]):=by
  unfold EE
  by_cases q:l.length<=1
  .rw[aiv q,aiv (IJ.2 q)]
  .rw[aiu q,aiu λh=>q (IJ.1 h)]
 refine iV 6 func159 ntmps159 results159 λc hc hb=> ?_
 refine zN (zA ?_)
 simp[go_sem]
 refine yW5 Pg Ph Pj ?_
 simp[go_sem]
 have e6:(jG T st jk (l.map Ln.row) l.length).length=6:=rfl
 rw[e6]
 refine zN (zA ?_)
 simp[go_sem]
 refine yW4 wu5 Ph Pj NL xK9 hG ?_
 rw[<-hsc]
 simp[go_sem]
 have h7:(jG T st jk (l.map Ln.row) l.length++ [.box [.cM 0 3 l.length 0 l.length],.box [.raw (typeHandle prog 223),.ptr 6 0,.int .u64 151]])[7]? =some (.box [.raw (typeHandle prog 223),.ptr 6 0,.int .u64 151]):=rfl
 refine zA ?_
 simp[go_sem,h7]
 refine yF4 wu9 Ph Pj kR (id:=0) (s:=3) (n:=l.length) (m:=l.length) (k:=6) rfl ?_
 simp[go_sem]
 have cJ:jG T st jk (l.map Ln.row) l.length++ [.box [.cM 0 3 l.length 0 l.length],.box [.raw (typeHandle prog 223),.ptr 6 0,.int .u64 151]]=na T st jk (l.map Ln.row) l.length:=rfl
 rw[cJ]
 refine uM 8 Pn cB (Aa (A7 8)) rfl (cQ l) ?_ ?_ ?_
 .rw[Ay]
  refine rS ?_
  have:=S.BG
  have e8:(na T st (jk:Int) (l.map Ln.row) l.length).length=8:=rfl
  rw[e8]at this
  simp[iJ,jn,cN,this,cL]
 .rintro r s ⟨rfl,rfl⟩
  exact⟨rfl,cQ _,rfl⟩
 .rintro r s ⟨rfl,rfl⟩
  have hd8:(na T st (jk:Int) (l.map Ln.row) l.length).drop 8= []:=rfl
  rw[hd8]
  simp[go_sem]
  exact yZ 6 (s:=jG T st jk ((pt jk st.down l).map Ln.row) l.length) rfl rfl (BH T st jk _ _) (A7 _) (zC rfl) ⟨rfl,rfl⟩
theorem cO.get (h:cO b l) {p:Pl} {d:aiZ}:b.get p=some d↔ ∃x∈l,x.at=p/\xL x.v=d:=by
 rw[Mp.get_mem h.ok,h.perm.mem_iff,Ac]
 constructor
 .rintro⟨x,hx,he⟩
  simp only[aiF]at he
  exact⟨x,hx,he⟩
 .rintro⟨x,hx,h1,h2⟩
  exact⟨x,hx,by rw[h1,h2]⟩
theorem cO.get_none (h:cO b l) {p:Pl}:b.get p=none↔jF l p=false:=kY.trans h.gR
def IK (a:Mp aiZ) (e:Pl×aiZ):Bool:=a.get e.1 !=some e.2
def Gz (b:Mp aiZ) (e:Pl×aiZ):Bool:=(b.get e.1).isNone
def iO (a:Mp aiZ) (D:List (Pl×aiZ)):List Pl:=(D.filter (IK a)).map (·.1)
def iE (b:Mp aiZ) (D:List (Pl×aiZ)):List Pl:=(D.filter (Gz b)).map (·.1)
def p6 (b:Mp aiZ) (p:Pl):Wr:=⟨p,(b.get p).isNone,(b.get p).getD []⟩
theorem xE5 {a:Mp aiZ} {ai now:List Ln} (ha:cO a ai) (hb:cO b now) {L:List Pl} (hp:L.Perm (iO a b.W++iE b a.W)) (hs:L.Pairwise λp q=> ¬kX q p<0):L.map (p6 b)=jg ai now:=by
 have nN:(iO a b.W).Nodup:=aiH ((C2).map _) hb.keys
 have nO:(iE b a.W).Nodup:=aiH ((C2).map _) ha.keys
 have nL:L.Nodup:=by
  rw[hp.nodup_iff,Co]
  refine⟨nN,nO,λp h1 q h2 e=> ?_⟩
  subst e
  obtain⟨e1,ad,rfl⟩:=Ac.1 h1
  obtain⟨e2,ae,h3⟩:=Ac.1 h2
  have h4:=(Mp.get_mem hb.ok).2 (Bo.1 ad).1
  have h5:=(Bo.1 ae).2
  unfold Gz at h5
  rw[h3,h4]at h5
  cases h5
 have hr:iB L:=by
  have:=wc1 (kx:=λp:Pl=>p) (l:=L) hs (by rw[E3];exact nL)
  rwa [E3]at this
 obtain⟨c1,c2⟩:=LB ha.jh hb.jh
 refine VD ?_ c1 λw=> ?_
 .unfold oC
  rw[Da]
  exact hr
 rw[c2 w,Ac]
 have hm: ∀p,p∈L↔p∈iO a b.W\/p∈iE b a.W:=λp=>by rw[hp.mem_iff,Af]
 constructor
 .rintro⟨p,aj,rfl⟩
  rcases(hm p).1 aj with h|h
  .obtain⟨⟨p',d⟩,he,rfl⟩:=Ac.1 h
   obtain⟨ad,ae⟩:=Bo.1 he
   have hg:=(Mp.get_mem hb.ok).2 ad
   obtain⟨x,hx,aa,ab⟩:=hb.get.1 hg
   refine .inr ⟨by simp[p6,hg],x,hx,aa,by simp[p6,hg,ab],λy hy af ah=> ?_⟩
   have:=ha.get.2 ⟨y,hy,af.trans aa,ah.trans ab⟩
   simp[IK,this]at ae
  .obtain⟨⟨p',d⟩,he,rfl⟩:=Ac.1 h
   obtain⟨ad,ae⟩:=Bo.1 he
   have hg:=(Mp.get_mem ha.ok).2 ad
   have hn:b.get p'=none:=by simpa[Gz]using ae
   obtain⟨x,hx,aa,ab⟩:=ha.get.1 hg
   exact .inl ⟨by simp[p6,hn],by simp[p6,hn],⟨x,hx,aa⟩,hb.get_none.1 hn⟩
 .rintro(⟨h1,h2,⟨x,hx,aa⟩,h3⟩|⟨h1,x,hx,aa,ab,h3⟩)
  .have hn:=hb.get_none.2 h3
   have hg:=ha.get.2 ⟨x,hx,aa,rfl⟩
   refine⟨w.p,(hm _).2 (.inr (Ac.2 ⟨(w.p,xL x.v),Bo.2 ⟨(Mp.get_mem ha.ok).1 hg,by simp[Gz,hn]⟩,rfl⟩)), ?_⟩
   obtain⟨p,dr,da⟩:=w
   simp only at h1 h2 hn
   simp[p6,hn,h1,h2]
  .have hg:=hb.get.2 ⟨x,hx,aa,ab⟩
   refine⟨w.p,(hm _).2 (.inl (Ac.2 ⟨(w.p,w.data),Bo.2 ⟨(Mp.get_mem hb.ok).1 hg, ?_⟩,rfl⟩)), ?_⟩
   .simp only[IK,bne_iff_ne,ne_eq]
    intro h
    obtain⟨y,hy,af,ah⟩:=ha.get.1 h
    exact h3 y hy (af.trans aa.symm) (ah.trans ab.symm)
   .obtain⟨p,dr,da⟩:=w
    simp only at h1 hg
    simp[p6,hg,h1]
theorem wf3 {P:Program} {c:Ctx} {I:St} {f:FuncId} {bY args cd:List V} {KV:V->St->Prop} {rows:List (List V)} {w:Nat} (hc:bN P f cd [] λr s=>r= .cM 0 w n 0 n/\s= [.cj rows w]) (hb:xE P f) (ab:bS 0 (.cj rows w))
  (aa:bP (cT (cK [] I.length)) cd (args++bY)) (hK:KV (.cM I.length w n 0 n) (I++ [.cj rows w])):jm P c (.fn f bY) args I KV fx:=by
 refine VC.of hc hb [] C0 rfl sm aa λr s h _=> ?_
 obtain⟨rfl,rfl⟩:=h
 have e:yX [] I [.cj rows w]=I++ [.cj rows w]:=by
  simp only[yX,fI,Bh,Cs,Aj,Bq]
  rw[yY (n:=0) om ab]
 grind[dI,cK,dN,dj,du]
def EF (a:Mp aiZ) (sn:Mp Int) (m:List Ln) (B:Mp aiZ) (M:List Ln×Int) (r:V) (s:St):Prop:=
 s=dp a B sn++ [.cj (m.map Ln.row) 3]/\((M.2≠0/\r= .cy [.agg (Ot.row ⟨0,[]⟩),.int .i64 M.2])\/(M.2=0/\r= .cy [.agg (Ot.row ⟨m.length,[]⟩),.int .i64 0]/\cO B M.1))
def mM (T:bL) (cD:List cp):List Ln->Mp aiZ->Mp aiZ
 | [],b=>b
 |x::m,b=>
  if(gz T x.v cD x.v).2≠0 then b
  else if fe T.cm (gz T x.v cD x.v).1≠0 then b
  else mM T cD m (b.put x.at (xL (gz T x.v cD x.v).1))
theorem xy3 {r:Int} {k d:aiZ} {w:Nat×aiZ} (h:b.at (r,k)=some w):Ob.mp (((gx V.str b.W).set (2*w.1) (.agg [.int .i64 r,.str k])).set (2*w.1+1) (.str d)) b.bs b.cZ=(b.put (r,k) d).ob V.str:=by
 unfold Mp.put Mp.ob
 rw[h]
 show _=Ob.mp (gx V.str (b.W.set w.1 ((r,k),d))) _ _
 rw[<-UZ]
 rfl
theorem Po {x:Ln} (h:fM x):1<=x.v.length/\x.v.length<=20:=by
 obtain⟨tn,T,_,hT,hm⟩:=h.jD
 have h1:=xk hm
 have h2:=(by decide: ∀T∈bO,1<=T.cm.length/\T.cm.length<=20) T (by grind)
 omega
theorem VZ (T:bL) (name:aiZ):cV T name<T.cm.length:=by
 grind[Et,cV]
theorem xS3 (tn:Nat) (T:bL) (hT:bO[tn]? =some T) (st:bW) (aD:kM st) (au: ∀x∈st.cD,0<=cV T x.name) (a b:Mp aiZ) (sn:Mp Int) (l m:List Ln) (aL:cO b l) (hm: ∀x∈m,jF l x.at=true/\fM x/\(fC x.r).1=(tn:Int)) (hl:m.length<=10000):
  bN prog 108 [.ptr 3 0,.agg T.row,.agg st.row,.cM 4 3 m.length 0 m.length] (dp a b sn++ [.cj (m.map Ln.row) 3]) (EF a sn m (mM T st.cD m b) (gO T st.cD m l)):=by
 generalize hM:gO T st.cD m l=M
 generalize hB:mM T st.cD m b=B
 have av: ∀(b':Mp aiZ),(dp a b' sn++([.cj (m.map Ln.row) 3]:St)).all (bS 5)=true:=(by simp[wC,bS,cN,cL,Ln.row])
 have dS: ∀(b':Mp aiZ) (Il:St) (l':List Ln),b'=B->M=(l',0)->cO b' l'->cx (some (.cy [.agg [.sl .full [],.int .i64 m.length],.int .i64 0])) 5 (EF a sn m B M) (a.ob .str::b'.ob .str::sn.ob (V.int .i64):: .box [.sl .ro xJ,.sl .ro (bO.map bL.row),.mp 0,.mp 1,.mp 2]:: .cj (m.map Ln.row) 3::Il):=λb' Il l' h0 h1 h2=>
  yZ 5 (s:=dp a b' sn++ [.cj (m.map Ln.row) 3]) (r:= .cy [.agg (Ot.row ⟨m.length,[]⟩),.int .i64 0]) rfl rfl (av b') (A7 _) (yW ⟨wW ⟨zX,zF rfl,tV⟩,xV rfl,tV⟩) ⟨by rw[h0],(by grind)⟩
 have bad: ∀(b':Mp aiZ) (e:Int) (Il:St),b'=B->M.2=e->e≠0->cx (some (.cy [.agg [.sl .full [],.int .i64 0],.int .i64 e])) 5 (EF a sn m B M) (a.ob .str::b'.ob .str::sn.ob (V.int .i64):: .box [.sl .ro xJ,.sl .ro (bO.map bL.row),.mp 0,.mp 1,.mp 2]:: .cj (m.map Ln.row) 3::Il):=λb' e Il h0 h1 h2=>
  yZ 5 (s:=dp a b' sn++ [.cj (m.map Ln.row) 3]) (r:= .cy [.agg (Ot.row ⟨0,[]⟩),.int .i64 e]) rfl rfl (av b') (A7 _) (yW ⟨wW ⟨zX,zF rfl,tV⟩,xV rfl,tV⟩) ⟨by rw[h0],(by grind)⟩
 refine iV 5 func108 ntmps108 results108 λc hc hb=> ?_
 refine zA ?_
 simp[go_sem,dp,fQ]
 have aw: ∀(b':Mp aiZ),([a.ob .str,b'.ob .str,sn.ob (V.int .i64),.box [.sl .ro xJ,.sl .ro (bO.map bL.row),.mp 0,.mp 1,.mp 2],.cj (m.map Ln.row) 3,.box T.row,.box st.row,.box dV]:St).all (bS 8)=true:=λb'=>by
  have h:=wC 8 om a b' sn
  simp only[dp,fQ,Bl,D4,Db]at h⊢
  simp_all[bS,cN,cL,bW.row,bL.row,Ln.row,dV]
 have af: ∀(b':Mp aiZ) (x:Ln) (row:List bK),([a.ob .str,b'.ob .str,sn.ob (V.int .i64),.box [.sl .ro xJ,.sl .ro (bO.map bL.row),.mp 0,.mp 1,.mp 2],.cj (m.map Ln.row) 3,.box T.row,.box st.row,.box dV,.box x.row,.cj (row.map bK.row) 3]:St).all (bS 10)=true:=λb' x row=>by
  have h:=wC 10 om a b' sn
  simp only[dp,fQ,Bl,D4,Db]at h⊢
  simp_all[bS,cN,cL,bW.row,bL.row,Ln.row,bK.row,dV]
 have ax:T.cm.length<=maxLen:=(by decide: ∀T∈bO,T.cm.length<=maxLen) T (Bk hT)
 have hlen: ∀x,fM x->(fC x.r).1=(tn:Int)->x.v.length=T.cm.length:=λx hx an=>by
  obtain⟨aE,T',h1,h2,h3⟩:=hx.jD
  have:aE=tn:=by omega
  grind[xk]
 refine zH (S:=Nat×Mp aiZ×List Ln) [0,3,5,6,8,9,18,19,20] (λu=> [.ptr 3 0,.cM 4 3 m.length 0 m.length,.ptr 5 0,.ptr 6 0,.ptr 7 0,.int .i64 0,.cM 4 3 m.length 0 m.length,.int .i64 m.length,.int .i64 u.1])
  (λu=> [a.ob .str,u.2.1.ob .str,sn.ob (V.int .i64),.box [.sl .ro xJ,.sl .ro (bO.map bL.row),.mp 0,.mp 1,.mp 2],.cj (m.map Ln.row) 3,.box T.row,.box st.row,.box dV]) (λu=>m.length - u.1)
  (λu=>u.1<=m.length/\cO u.2.1 u.2.2/\(∀p,jF u.2.2 p=jF l p)/\gO T st.cD (m.drop u.1) u.2.2=M/\mM T st.cD (m.drop u.1) u.2.1=B) hc hb (0,b,l) (by grind) ?_ ?_
 .exact cc 8 (by simp[go_sem,dV]) rfl (aw b) dC (zD sg rfl)
 rintro⟨i,b1,l1⟩ ⟨hi,aj,ah,aa,ab⟩
 simp only at hi aj ah aa ab
 by_cases q:i<m.length
 rotate_left
 .rw[A9 om,gO]at aa
  rw[A9 om,mM]at ab
  refine zA ?_
  simp[go_sem,q,dV]
  exact dS b1 _ l1 ab aa.symm aj
 have ei:=zQ q om
 obtain⟨x,hx⟩:=eX (m[i])
 obtain⟨ay,ae,an⟩:=hm x (hx▸A8 q)
 refine zA ?_
 simp[go_sem,q,hx]
 have aP:=Po ae
 have aF:=Vi x.v om (by grind)
 refine wf3 aF cB (by simp[bS,cN,cL,bK.row]) ⟨zK,tV⟩ ?_
 simp[go_sem,dV]
 obtain⟨E,hE⟩:=eX (gz T x.v st.cD x.v)
 rw[A5 q,hx,gO,hE]at aa
 rw[A5 q,hx,mM,hE]at ab
 have az:=aD.cD
 refine zH (S:=Nat×List bK) [0,3,5,6,8,9,11,12,18,19,20,28,29,30] (λu=> [.ptr 3 0,.cM 4 3 m.length 0 m.length,.ptr 5 0,.ptr 6 0,.ptr 7 0,.int .i64 0,.ptr 8 0,.cM 9 3 x.v.length 0 x.v.length,.cM 4 3 m.length 0 m.length,.int .i64 m.length,.int .i64 i,.sl .ro (st.cD.map cp.row),.int .i64 st.cD.length,.int .i64 u.1])
  (λu=> [a.ob .str,b1.ob .str,sn.ob (V.int .i64),.box [.sl .ro xJ,.sl .ro (bO.map bL.row),.mp 0,.mp 1,.mp 2],.cj (m.map Ln.row) 3,.box T.row,.box st.row,.box dV,.box x.row,.cj (u.2.map bK.row) 3]) (λu=>st.cD.length - u.1)
  (λu=>u.1<=st.cD.length/\u.2.length=x.v.length/\gz T x.v (st.cD.drop u.1) u.2=E) hc hb (0,x.v) ⟨A3 _,rfl,hE⟩ ?_ ?_
 .exact cc 10 (by simp[go_sem,dV]) rfl (af b1 x x.v) dC (zD sg rfl)
 rintro⟨j,row⟩ ⟨hj,ak,ad⟩
 simp only at hj ak ad
 by_cases qj:j<st.cD.length
 .have ej:=zQ qj om
  obtain⟨y,hy⟩:=eX (st.cD[j])
  have aG:=(az.2 y (hy▸A8 qj)).2
  have aQ:=au y (hy▸A8 qj)
  rw[A5 qj,hy,gz]at ad
  have ai:=Lv T ax x.v ae.ok y.e aG
  have a1:Pure prog 142 [.agg T.row,.str y.name] (.int .i64 (cV T y.name)):=Gg T y.name ax
  obtain⟨k,hk⟩: ∃k:Nat,cV T y.name=k:=⟨(cV T y.name).toNat,om⟩
  have aR:k<row.length:=by
   have h1:=VZ T y.name
   grind
  have aH:k<x.v.length:=om
  rw[hk]at a1 ad
  simp only[B0]at ad
  obtain⟨⟨v,er⟩,hv⟩: ∃kv,gL T x.v y.e=kv:=⟨_,rfl⟩
  rw[hv]at ad ai
  simp only at ad
  refine zA ?_
  simp[go_sem,qj,hy]
  refine zL ai cB ⟨zC rfl,zK,xf y.e,tV⟩ rfl ?_
  simp[go_sem,fk]
  by_cases q2:er=0
  rotate_left
  .have ao:(er !=0)=true:=sU q2
   rw[aiv q2]at ad
   subst ad
   simp only at aa ab
   rw[aiv q2]at aa ab
   simp[go_sem,ao,dV]
   exact bad b1 er _ ab (by rw[<-aa]) q2
  have ao:(er !=0)=false:=sU q2
  rw[aiu (λh=>h q2)]at ad
  simp[go_sem,ao]
  refine yE [(4,0)] 12 rfl kR kR ?_
  simp[go_sem]
  refine pD a1 ?_
  simp[go_sem]
  refine zJ om ?_
  simp[go_sem,ak,aH,ej]
  exact zI (j+1,row.set k v) ⟨om,(by grind),cc 10 (by simp[go_sem,dV]) rfl (af b1 x _) dC (zD sg rfl)⟩
 rw[A9 om,gz]at ad
 subst ad
 simp only at aa ab
 rw[aiu (λh=>h rfl)]at aa ab
 have aS:=hlen x ae an
 have aI: ∀v∈row,v.ok:=by
  have h1:=Lw (T:=T) ae.ok (cD:=st.cD) (row:=x.v) (λy hy=>(az.2 y hy).2) ae.ok
  grind
 have al:=UG T row (by unfold maxLen;omega)
 have a6:xI (row.map bK.row):=by simp[xI,pN,bK.row]
 obtain⟨mr,a7⟩:=eX (fe T.cm row)
 rw[a7]at aa al ab
 have aJ:mr=0->jb row:=(by grind[Gu])
 have aq:=λh0=>Td row (aJ h0)
 obtain⟨w0,a8⟩: ∃w0,b1.at x.at=some w0:=by
  cases h:b1.at x.at with
  |none=>have:=ah x.at;rw[ay,aj.gR.1 h]at this;grind
  |some w=>exact⟨w,rfl⟩
 have eB:b1.ob .str= .mp (gx .str b1.W) b1.bs b1.cZ:=rfl
 have aA:dP (x.r,x.k) b1.W=some w0:=a8
 have aB:=xy3 (d:=xL row) (r:=x.r) (k:=x.k) a8
 have aC:mr=0->cO (b1.put x.at (xL row)) (jB l1 x.at row):=λh0=>aj.Ix x.at row (by rw[ah];exact ay) ⟨⟨tn,T,an,hT,a7.trans h0⟩,ae.err,aI⟩
 have aK:wX (row.map bK.row) 0 x.v.length=row.map bK.row:=by
  rw[<-ak]
  unfold wX
  rw[Bh,Aa sm,Bg]
  rfl
 refine zA ?_
 simp[go_sem,qj]
 refine Q5 al cB (.step 9 3 (row.map bK.row) rfl a6 (.refl _ _)) (zP (by simp[gk,gj,gr,fX,aK,ak,go_sem]) rfl) rfl ?_
 simp[go_sem]
 by_cases m0:mr=0
 rotate_left
 .have ar:(mr !=0)=true:=sU m0
  rw[aiv m0]at aa ab
  simp[go_sem,ar,dV]
  exact bad b1 mr _ ab (by rw[<-aa]) m0
 have ar:(mr !=0)=false:=sU m0
 rw[aiu (λh=>h m0)]at aa ab
 simp[go_sem,ar]
 refine yE [(7,1)] 10 rfl kR kR ?_
 simp[go_sem]
 refine Zf (aq m0) cB (λs hs=>⟨_,_,.step 9 3 (row.map bK.row) ((Kp.get (k:=Kp.pre 10) rfl hs).trans rfl) a6 (.refl _ _),zP (by grind[gk,gj,gr,fX]) rfl⟩) rfl ?_
 simp[go_sem,eB,po,aA,lp,lQ,aB,ei]
 exact zI (i+1,b1.put x.at (xL row),jB l1 x.at row) ⟨om,⟨q,aC m0,λp=>by show jF (jB l1 x.at row) p=_;rw[Vo];grind,aa,ab⟩,cc 8 (by simp[go_sem,dV];rfl) rfl (aw _) dC (zD sg rfl)⟩
theorem yI7 (l:List bK) (hl:l.length<=10000) (hz:l≠ []):Pure prog 95 [.sl .ro (l.map bK.row)] (.sl .ro (l.map bK.row)):=by
 refine(Vi l hl hz).Jj λr s h=> ?_
 obtain⟨rfl,rfl⟩:=h
 have aa:wX (l.map bK.row) 0 l.length=l.map bK.row:=by
  unfold wX
  rw[Bh,Aa sm,Bg]
  rfl
 refine⟨_,_,.step 0 3 (l.map bK.row) rfl (by grind[xI,pN,bK.row]) (.refl _ _), ?_⟩
 simp_all[gk,gj,gr,fX,zK]
def pz (r:Ot×Int):V:= .cy [.agg r.1.row,.int .i64 r.2]
theorem xX0 (T:bL) (name:aiZ) (h:0<=cV T name): ∃k:Nat,cV T name=k/\k<T.cm.length:=by
 have:=VZ T name
 exact⟨(cV T name).toNat,om,om⟩
theorem wc6 (T:bL) (st:bW) (l:List Ln) (h:BC st.items=false):lE T st l=(if(pv T st.items (lD st.bT (if 0<=cV T st.order then pt (cV T st.order).toNat st.down l else l)) []).2≠0 then(⟨0,[]⟩,(pv T st.items (lD st.bT (if 0<=cV T st.order then pt (cV T st.order).toNat st.down l else l)) []).2)else(⟨0,(pv T st.items (lD st.bT (if 0<=cV T st.order then pt (cV T st.order).toNat st.down l else l)) []).1⟩,0)):=by
 simp_all[lE]
theorem Pp (c:Nat) (down:Bool) (l:List Ln):(pt c down l).Perm l:=by
 unfold pt
 have h: ∀(m out:List Ln),(m.foldl (λout x=>Iv (λy=>decide (0<rj c down y x)) out x) out).Perm (out++m):=by
  intro m
  induction m with
  |nil=>simp
  |cons x m ih=>
   intro out
   refine(ih _).trans ?_
   refine((VR _ out x).append_right m).trans ?_
   exact Df.symm
 grind
def IL (T:bL) (st:bW) (l:List Ln):List Ln:=if BC st.items=true then l else if 0<=cV T st.order then pt (cV T st.order).toNat st.down l else l
theorem yz7 (tn:Nat) (T:bL) (hT:bO[tn]? =some T) (st:bW) (an:kM st) (hit:st.items≠ []) (l:List Ln) (hl:l.length<=10000) (cQ: ∀x∈l,fM x/\x.v.length=T.cm.length):
  bN prog 107 [.agg T.row,.agg st.row,.cM 0 3 l.length 0 l.length] [.cj (l.map Ln.row) 3] (λr s=>r=pz (lE T st l)/\s= [.cj ((IL T st l).map Ln.row) 3]):=by
 have ao:T.cm.length<=maxLen:=(by decide: ∀T∈bO,T.cm.length<=maxLen) T (by grind)
 have aR:T.cm.length<=20:=(by decide: ∀T∈bO,T.cm.length<=20) T (by grind)
 have ax:=wg1 st an
 have ae:=wt5 T ao st an l hl (λx hx=>(cQ x hx).1.ok)
 obtain⟨wb,ay⟩:=eX (BC st.items)
 rw[ay]at ax
 have ah:Pure prog 142 [.agg T.row,.str st.order] (.int .i64 (cV T st.order)):=Gg T st.order ao
 obtain⟨M,hM⟩:=eX (lE T st l)
 rw[hM]
 obtain⟨C,hC⟩:=eX (IL T st l)
 rw[hC]
 have aS:wb=true->C=l:=λh=>by simp_all[IL]
 have aT:wb=false->C=if 0<=cV T st.order then pt (cV T st.order).toNat st.down l else l:=λh=>by simp_all[IL]
 have az:wb=true->rl (ri T l st.items [])=pz M:=λh=>by
  rw[<-hM]
  unfold rl pz lE
  grind
 have a1:=λh:wb=false=>(wc6 T st l (ay.trans h)).symm.trans hM
 clear hM
 refine iV 1 func107 ntmps107 results107 λc hc hb=> ?_
 refine zN (zA ?_)
 simp[go_sem]
 refine zN (zA ?_)
 simp[go_sem]
 refine pC ax ?_
 refine(A6 wb).elim (λw=> ?_) (λw=> ?_)
 .rw[az w]at ae
  simp[go_sem,w]
  refine mw 0 ae cB rfl (by grind[bS,cN,cL,Ln.row]) ⟨zC rfl,zC rfl,.inl rfl,tV⟩ (by rintro r s ⟨rfl,rfl⟩;exact⟨_,rfl,by grind[bS,cN,cL,Ln.row]⟩) ?_
  rintro r o ⟨rfl,ho⟩
  cases ho
  simp[go_sem,pz,Ot.row]
  exact yZ 1 (s:= [.cj (l.map Ln.row) 3]) (r:= .cy [.agg (Ot.row M.1),.int .i64 M.2]) rfl rfl (by simp[bS,cN,cL,Ln.row]) om (yW ⟨wW ⟨zX,zF rfl,tV⟩,xV rfl,tV⟩) ⟨rfl,by grind⟩
 .have hM:=a1 w
  clear az a1 ae
  obtain⟨m,hm⟩:=eX ((if 0<=cV T st.order then pt (cV T st.order).toNat st.down l else l))
  rw[hm]at hM
  have a6:C=m:=(by grind)
  have aF:m.Perm l:=by
   grind[Pp,List.Perm.refl]
  have aq:=aF.length_eq
  have a7:0<=cV T st.order-> ∃k:Nat,cV T st.order=k/\bN prog 159 [.gV 223 [.cM 0 3 l.length 0 l.length],.fn 160 [.ptr 3 0,.ptr 5 0,.ptr 2 0]] (jG T st k (l.map Ln.row) l.length) (λr s=>r= .cy []/\s=jG T st k (m.map Ln.row) l.length):=λh0=>by
   obtain⟨k,hk,ai⟩:=xX0 T st.order h0
   have hs:=yq2 T st k om l hl (by grind)
   rw[aiv h0,hk,B0]at hm
   rw[hm]at hs
   exact⟨k,hk,hs⟩
  have ak: ¬0<=cV T st.order->m=l:=(by grind)
  clear hm
  simp[go_sem,w]
  refine ov (S:=Unit) [3,4,5,6] (λ_=> [.ptr 1 0,.ptr 2 0,.ptr 3 0,.ptr 4 0]) (λ_=>jG T st (cV T st.order) (m.map Ln.row) l.length) (λ_=>True) hc hb ?_ ?_
  .by_cases h0:0<=cV T st.order
   .obtain⟨k,hk,hs⟩:=a7 h0
    rw[hk]at ah⊢
    refine zA ?_
    simp[go_sem]
    refine pC ah ?_
    simp[go_sem,yz]
    refine FR (bY:= []) (args:= [.gV 223 [.cM 0 3 l.length 0 l.length],.fn 160 [.ptr 3 0,.ptr 5 0,.ptr 2 0]]) hs cB ?_
    rintro r s ⟨rfl,rfl⟩ _
    simp[go_sem]
    exact zI () ⟨tV,cc 6 (by rfl) rfl (by grind[BH]) dC (zD (by rfl) rfl)⟩
   .rw[ak h0]
    refine zA ?_
    simp[go_sem]
    refine pC ah ?_
    simp[go_sem,h0]
    exact zI () ⟨tV,cc 6 (by rfl) rfl (by grind[BH]) dC (zD (by rfl) rfl)⟩
  rintro _ _
  clear a7 ak ah
  generalize cV T st.order=ad at*
  obtain⟨k,a8,ai⟩: ∃k,lD st.bT m=m.take k/\k<=m.length/\(k=if 0<=st.bT/\st.bT<m.length then st.bT.toNat else m.length):=by
   unfold lD
   grind
  obtain⟨ai,ab⟩:=ai
  rw[a8]at hM
  rw[aq]at ai ab
  refine ov (S:=Unit) [3,4,5,6] (λ_=> [.ptr 1 0,.ptr 2 0,.ptr 3 0,.ptr 4 0]) (λ_=> [.cj (m.map Ln.row) 3,.box T.row,.box st.row,.box [.cM 0 3 l.length 0 k],.box dV,.box [.int .i64 ad]]) (λ_=>True) hc hb ?_ ?_
  .have ar:([.cj (m.map Ln.row) 3,.box T.row,.box st.row,.box [.cM 0 3 l.length 0 k],.box dV,.box [.int .i64 ad]]:St).all (bS 6)=true:=by simp[bS,cN,cL,Ln.row,bL.row,bW.row,dV]
   by_cases h0:0<=st.bT
   .by_cases h1:st.bT<l.length
    .rw[aiv ⟨h0,h1⟩]at ab
     refine zA ?_
     simp[go_sem,jG,h0,h1]
     refine zJ om ?_
     simp[go_sem,<-ab]
     exact zI () ⟨tV,cc 6 (by rfl) rfl ar dC (zD (by rfl) rfl)⟩
    .rw[aiu om]at ab
     subst ab
     refine zA ?_
     simp[go_sem,jG,h0,h1]
     exact zI () ⟨tV,cc 6 (by rfl) rfl ar dC (zD (by rfl) rfl)⟩
   .rw[aiu om]at ab
    subst ab
    refine zA ?_
    simp[go_sem,jG,h0]
    exact zI () ⟨tV,cc 6 (by rfl) rfl ar dC (zD (by rfl) rfl)⟩
  rintro _ _
  clear ab a8
  refine zN (zA ?_)
  simp[go_sem]
  refine DH 6 0 1 _ dC rfl rfl ?_
  obtain⟨y0,ys,aU⟩: ∃y0 ys,st.items=y0::ys:=by
   cases h:st.items<;>grind
  obtain⟨uI,hJ⟩:=eX st.items
  obtain⟨aG,aA⟩:=an.items
  rw[hJ]at aG aA hM
  have aH:uI.head?.map (·.kind)=some y0.kind:=by grind
  have aj: ∃h:0<uI.length,uI[0]=y0:=by grind
  obtain⟨aB,aj⟩:=aj
  obtain⟨P,hP⟩:=eX (pv T uI (m.take k) [])
  rw[hP]at hM
  have aI: ∀x∈m,fM x:=(by grind)
  have fin: ∀(rows:List (List bK)) (Il:St),P=(rows,0)->cx (some (.cy [.agg [.sl (.app 7) (rows.map λr=> [V.sl .ro (r.map bK.row)]),.int .i64 0],.int .i64 0])) 1 (λr s=>r=pz M/\s= [.cj (C.map Ln.row) 3]) (.cj (m.map Ln.row) 3::Il):=λrows Il h=>by
   rw[h,aiu om]at hM
   exact yZ 1 (s:= [.cj (m.map Ln.row) 3]) (r:= .cy [.agg (Ot.row ⟨0,rows⟩),.int .i64 0]) rfl rfl (by simp[bS,cN,cL,Ln.row]) om (yW ⟨wW ⟨zX,zF rfl,tV⟩,xV rfl,tV⟩) ⟨by rw[<-hM];rfl,by rw[a6]⟩
  have bad: ∀(er:Int) (Il:St),P.2=er->er≠0->cx (some (.cy [.agg [.sl .full [],.int .i64 0],.int .i64 er])) 1 (λr s=>r=pz M/\s= [.cj (C.map Ln.row) 3]) (.cj (m.map Ln.row) 3::Il):=λer Il h h0=>by
   rw[h,aiv h0]at hM
   exact yZ 1 (s:= [.cj (m.map Ln.row) 3]) (r:= .cy [.agg (Ot.row ⟨0,[]⟩),.int .i64 er]) rfl rfl (by simp[bS,cN,cL,Ln.row]) om (yW ⟨wW ⟨zX,zF rfl,tV⟩,xV rfl,tV⟩) ⟨by rw[<-hM];rfl,by rw[a6]⟩
  clear hM
  have au: ∀n:Nat,∀out:List (List bK),([.cj (m.map Ln.row) 3,.box T.row,.box st.row,.box [.cM 0 3 l.length 0 k],.box dV,.box [.int .i64 ad],.box [.sl (.app 7) (out.map λr=> [V.sl .ro (r.map bK.row)]),.int .i64 0],.app n 1]:St).all (bS 8)=true:=λn out=>by simp[bS,cN,cL,Ln.row,bL.row,bW.row,dV]
  refine zN (zA ?_)
  simp[go_sem]
  refine zH (S:=Nat×List (List bK)) [3,4,6,9,49,50,51] (λu=> [.ptr 1 0,.ptr 2 0,.ptr 4 0,.ptr 6 0,.cM 0 3 l.length 0 k,.int .i64 k,.int .i64 u.1])
   (λu=> [.cj (m.map Ln.row) 3,.box T.row,.box st.row,.box [.cM 0 3 l.length 0 k],.box dV,.box [.int .i64 ad],.box [.sl (.app 7) (u.2.map λr=> [V.sl .ro (r.map bK.row)]),.int .i64 0],.app u.2.length 1]) (λu=>k - u.1)
   (λu=>u.1<=k/\u.2.length<=u.1/\pv T uI ((m.take k).drop u.1) u.2=P) hc hb (0,[]) (by grind) ?_ ?_
  .exact cc 8 (by rfl) rfl (au 0 []) dC (zD (by rfl) rfl)
  rintro⟨i,out⟩ ⟨hi,aJ,hinv⟩
  simp only at hi aJ hinv
  by_cases q:i<k
  rotate_left
  .rw[A9 (by grind),pv]at hinv
   refine zA ?_
   simp[go_sem,q]
   refine zA ?_
   simp[go_sem,dV]
   exact fin out _ hinv.symm
  have ei:=zQ q om
  have aK:i<m.length:=om
  have aC:i<l.length:=om
  obtain⟨x,hx⟩:=eX (m[i])
  have aV:m[i]? =some x:=by grind
  have aD:=aI x (hx▸A8 aK)
  have aE:=Po aD
  rw[A5 (by grind),aiV,hx,pv,aH]at hinv
  by_cases k1:y0.kind=1
  .have av:(y0.kind==1)=true:=by grind
   rw[aiv (by rw[k1])]at hinv
   have aL:=yI7 x.v om (λh=>by rw[h]at aE;simp at aE)
   refine zA ?_
   simp[go_sem,q,aC,aq,hx,hJ,aB,aj,av]
   refine ny [(3,2),(4,0),(6,3)] 7 sm (by rfl) kR ?_
   simp[go_sem]
   refine pD aL ?_
   simp[go_sem]
   refine zJ ⟨om,zY rfl⟩ ?_
   simp[go_sem,ei]
   exact zI (i+1,out++ [x.v]) ⟨om,(by grind),cc 8 (by simp_all) rfl (au _ _) dC (zD (by rfl) rfl)⟩
  .have av:(y0.kind==1)=false:=by grind
   rw[aiu (by grind)]at hinv
   obtain⟨E,hE⟩:=eX (eC T x.v (uI.map (·.e)) [])
   rw[hE]at hinv
   have al: ∀n:Nat,∀out:List (List bK),([.cj (m.map Ln.row) 3,.box T.row,.box st.row,.box [.cM 0 3 l.length 0 k],.box dV,.box [.int .i64 ad],.box [.sl (.app 7) (out.map λr=> [V.sl .ro (r.map bK.row)]),.int .i64 0],.app out.length 1,.box x.row,.app n 3]:St).all (bS 10)=true:=λn out=>by simp[bS,cN,cL,Ln.row,bL.row,bW.row,dV]
   refine zA ?_
   simp[go_sem,q,aC,aq,hx,hJ,aB,aj,av]
   refine lU 12 3 dC (by rfl) ?_
   refine zH (S:=Nat×List bK) [3,4,6,9,11,12,49,50,51,70,71,72] (λu=> [.ptr 1 0,.ptr 2 0,.ptr 4 0,.ptr 6 0,.ptr 8 0,.sl (.app 9) (u.2.map bK.row),.cM 0 3 l.length 0 k,.int .i64 k,.int .i64 i,.sl .ro (uI.map cP.row),.int .i64 uI.length,.int .i64 u.1])
    (λu=> [.cj (m.map Ln.row) 3,.box T.row,.box st.row,.box [.cM 0 3 l.length 0 k],.box dV,.box [.int .i64 ad],.box [.sl (.app 7) (out.map λr=> [V.sl .ro (r.map bK.row)]),.int .i64 0],.app out.length 1,.box x.row,.app u.2.length 3]) (λu=>uI.length - u.1)
    (λu=>u.1<=uI.length/\u.2.length<=u.1/\eC T x.v ((uI.drop u.1).map (·.e)) u.2=E) hc hb (0,[]) (by grind) ?_ ?_
   .exact cc 10 (by simp[go_sem,hJ]) rfl (al _ _) dC (zD (by rfl) rfl)
   rintro⟨j,acc⟩ ⟨hj,aP,aa⟩
   simp only at hj aP aa
   by_cases p:j<uI.length
   .have ej:=zQ p om
    obtain⟨y,hy⟩:=eX (uI[j])
    have aQ:=(aA y (hy▸A8 p)).2
    rw[A5 p,hy,Aj,eC]at aa
    have af:=Lv T ao x.v aD.ok y.e aQ
    obtain⟨⟨v,er⟩,hv⟩: ∃kv,gL T x.v y.e=kv:=⟨_,rfl⟩
    rw[hv]at aa af
    simp only at aa
    refine zA ?_
    simp[go_sem,p,hy]
    refine zL af cB ⟨zC rfl,zK,xf y.e,tV⟩ rfl ?_
    simp[go_sem,fk]
    by_cases q2:er=0
    rotate_left
    .have aw:(er !=0)=true:=by grind
     rw[aiv q2]at aa
     subst aa
     simp only at hinv
     rw[aiv q2]at hinv
     simp[go_sem,aw,dV]
     exact bad er _ (by grind) q2
    have aw:(er !=0)=false:=by grind
    rw[aiu om]at aa
    simp[go_sem,aw]
    refine zJ ⟨om,zY rfl⟩ ?_
    simp[go_sem,ej]
    exact zI (j+1,acc++ [v]) ⟨om,(by grind),cc 10 sm rfl (al _ _) dC (zD sg rfl)⟩
   .rw[A9 om,Bq,eC]at aa
    subst aa
    simp only at hinv
    rw[aiu om]at hinv
    refine zA ?_
    simp[go_sem,p]
    refine zJ ⟨om,zY rfl⟩ ?_
    simp[go_sem,ei]
    exact zI (i+1,out++ [acc]) ⟨om,(by grind),cc 8 sm rfl (au _ _) dC (zD (by rfl) rfl)⟩
end Go.Proofs.YtplackkccmeioaaGreat
