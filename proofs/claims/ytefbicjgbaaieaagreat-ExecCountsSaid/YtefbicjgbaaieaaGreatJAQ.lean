/-
  exec.choose: what a SELECT tells of the rows that it meets; used by the walk of exec.Run.
  Conditions: as the theorem states them.
-/
import Derived.Test.YtefbicjgbaaieaaGreatJAO
import Derived.Test.YtefbicjgbaaieaaGreatJAN
import Derived.Test.YtefbicjgbaaieaaGreatJAP
import Derived.Test.YtefbicjgbaaieaaGreatJAE
import Derived.Test.YtefbicjgbaaieaaGreatJAF
import Derived.Test.YtefbicjgbaaieaaGreatJAG
set_option maxHeartbeats 8000000
namespace Go.Proofs.YtefbicjgbaaieaaGreat
open Go Go.Vx R Go.Proofs.Tryz
set_option maxRecDepth 100000
def metR (a b:Mp (List UInt8)) (sn:Mp Int) (M:List Ln×Int) (r:V) (s:St):Prop:=
 (M.2≠0/\s=runS a b sn/\r= .tup [.sl .ro [],.int .i64 M.2])∨(M.2=0/\s=runS a b sn++ [.lst (M.1.map Ln.row) 3]/\r= .tup [.lsv 4 3 M.1.length 0 M.1.length,.int .i64 0])
theorem LnOk.light {x:Ln} (h:LnOk x):LightR x.v:=by
 obtain⟨tn,T,_,hT,hm⟩:=h.tab
 exact zB7 ((by decide: ∀T∈tabsS,T.cols.length<=20) T (B7 hT)) h.ok hm
theorem yE3 {nt:Nat} {d:Option Tmp} {K:KT} {e:Env} {σ:St} {i id clk:Nat} {seen:List Nat} {b:Mp (List UInt8)} {R0:Vx.R} (hR:R0=zi0 true σ (.ptr i 0)) (hi:σ[i]? =some (.it (some id) clk seen clk)) (hid:σ[id]? =some (.mp (kvE V.str b.W) b.bs clk)) (hb: ∀x∈b.bs,x<clk)
  (h0:zf6 seen b.W b.bs= []->wput nt d (.tup [.bool false]) K fx e σ) (h1: ∀p∈zf6 seen b.W b.bs,wput nt d (.tup [.bool true,plV p.1.1,.str p.1.2]) K fx e (σ.set i (.it (some id) clk (seen++ [p.2]) clk))):wfin nt d R0 K fx e σ:=by
 subst hR
 have aa:(b.bs.all fun x=>decide (x<clk))=true:=Aj.2 fun x hx=>decide_eq_true (hb x hx)
 unfold zi0
 simp only[hi,hid,aa,A4,and_self,if_true,xd1]
 match hL:zf6 seen b.W b.bs with
 | []=>exact h0 hL
 | [p]=>exact h1 p (by rw[hL];exact Cc.2 rfl)
 |p::q::r=>
  simp only[Ai]
  rw[xH7]
  refine xS2 fun x hx=> ?_
  have ab:x∈(p::q::r).map fun p:(Pl×List UInt8)×Nat=>((.tup [.bool true,plV p.1.1,.str p.1.2]:V),σ.set i (.it (some id) clk (seen++ [p.2]) clk)):=by
   simpa using hx
  obtain⟨y,hy,rfl⟩:=Ad.1 ab
  exact h1 y (by rw[hL];exact hy)
theorem xe5 {a b:Mp (List UInt8)} {sn:Mp Int} {m:List Ln} {k:Nat} {σ:St} (hk:4<=k) (h4:σ.take 4=runS a b sn) (hσ:σ[k]? =some (.lst (m.map Ln.row) 3)):wret (some (.tup [.lsv k 3 m.length 0 m.length,.int .i64 0])) 4 (metR a b sn (m,0)) σ:=by
 refine yZ3 [0,1,2,3,k] (s:=runS a b sn++ [.lst (m.map Ln.row) 3]) (r:= .tup [.lsv 4 3 m.length 0 m.length,.int .i64 0]) ?_ (fun i hi=> ?_) rfl (fun i j o aa ho=> ?_) (.inl (by simp[renS,renA,renC,renK,ren])) (.inr ⟨rfl,rfl,rfl⟩)
 .simp;omega
 .match i,hi with
  |0,_=>rfl
  |1,_=>rfl
  |2,_=>rfl
  |3,_=>rfl
 .by_cases q:i<4
  .have e:j=i:=by
    match i,q with
    |0,_=>simp at aa;omega
    |1,_=>simp at aa;omega
    |2,_=>simp at aa;omega
    |3,_=>simp at aa;omega
   subst e
   have h1:(runS a b sn)[j]? =some o:=by rw[Az (by exact q)]at ho;exact ho
   have ab:ltOb 4 o=true:=Aj.1 (xS 4 dc a b sn) o (B7 h1)
   rw[wO (n:=4) (fun x hx=> ?_) ab]
   .rw[<-h4,Dv q]at h1
    exact h1
   .rw[wT (by simp;omega)]
    match x,hx with
    |0,_=>rfl
    |1,_=>rfl
    |2,_=>rfl
    |3,_=>rfl
  .have e:i=4:=by
    have:=(A6.1 aa).1
    simp at this;omega
   subst e
   have e1:o= .lst (m.map Ln.row) 3:=by cases ho;rfl
   have e2:j=k:=by simp at aa;omega
   subst e1;subst e2
   rw[wO (n:=0) (fun _ h=>absurd h (Dn _)) (by simp[ltOb,ltC,ltK,Ln.row])]
   exact hσ
theorem xr2 (T:GTable) (st:GStmt) (acc:List Ln) (x:Ln) (l:List Ln):zo6 T st acc (x::l)=if(evR T x.v st.where_).2≠0 then([],(evR T x.v st.where_).2)else zo6 T st (if zN9 (evR T x.v st.where_).1=true then acc++ [x]else acc) l:=rfl
theorem wf3 (tn:Nat) (T:GTable) (hT:tabsS[tn]? =some T) (st:GStmt) (aI:SOk st) (hv:VOk st) (a b:Mp (List UInt8)) (sn:Mp Int) (l:List Ln) (aa:NowOk b l) (hl:l.length<=10000):
  VCalls prog 90 [.ptr 3 0,.int .i64 tn,.agg st.row] (runS a b sn) (metR a b sn (metF tn T st l)):=by
 obtain⟨a6,aJ⟩:=A6.1 hT
 have h3:tn<3:=a6
 have a7:=xr5 wF tabsS tn st dc dc (by have:=yr2 st;unfold maxLen;omega) hv
 have a8:=xj4 tn st (by have:=yr2 st;unfold maxLen;omega)
 obtain⟨⟨lo,hi⟩,ao⟩: ∃bd,zi8 tabsS tn st=bd:=⟨_,rfl⟩
 rw[ao]at a7
 obtain⟨G,hG⟩:=eX (za7 tn st)
 have aK:=yB6 tn st
 have aA:=fun g (hg:g∈za7 (tn:Int) st)=>xg3 tn h3 hg
 rw[hG]at a8 aK aA
 refine iV 4 func90 ntmps90 results90 fun c hc hb=> ?_
 refine zP (zA ?_)
 simp[go_sem,runS,runB]
 refine zP (zA ?_)
 simp[go_sem]
 refine xA [(6,0)] 5 rfl kR kR ?_
 simp[go_sem]
 refine pD a7 ?_
 simp[go_sem,xD0]
 refine zP (zA ?_)
 simp[go_sem]
 refine zM6 10 3 dc sg ?_
 refine zP (zA ?_)
 simp[go_sem]
 refine xA [(6,0)] 6 rfl kR kR ?_
 simp[go_sem]
 refine pD a8 ?_
 simp[go_sem]
 have aB: ∀(m:List Ln),([a.ob .str,b.ob .str,sn.ob (V.int .i64),.box [.sl .ro wF,.sl .ro (tabsS.map GTable.row),.mp 0,.mp 1,.mp 2],.box st.row,.lst (m.map Ln.row) 3]:St).all (ltOb 6)=true:=fun m=>by
  have h:=xS 6 om a b sn
  simp only[runS,runB,Ac,Cb,C9]at h⊢
  rw[A1,A1,A1]at h⊢
  refine⟨h.1,h.2.1,h.2.2.1, ?_⟩
  rw[A1]
  exact⟨h.2.2.2,by simp[ltOb,ltC,ltK,GStmt.row,Ln.row]⟩
 have eB:b.ob .str= .mp (kvE .str b.W) b.bs b.clk:=rfl
 have aL: ∀x∈b.bs,x<b.clk:=aa.ok.lt
 have ad: ∀(m:List Ln) (se:List Nat),([a.ob .str,b.ob .str,sn.ob (V.int .i64),.box [.sl .ro wF,.sl .ro (tabsS.map GTable.row),.mp 0,.mp 1,.mp 2],.box st.row,.lst (m.map Ln.row) 3,.it (some 1) b.clk se b.clk]:St).all (ltOb 7)=true:=fun m se=>by
  have h:=xS 7 om a b sn
  simp only[runS,runB,Ac,Cb,C9]at h⊢
  rw[A1,A1,A1]at h⊢
  refine⟨h.1,h.2.1,h.2.2.1, ?_⟩
  rw[A1]
  exact⟨h.2.2.2,by simp[ltOb,ltC,ltK,GStmt.row,Ln.row]⟩
 refine zH (S:=Nat×List Ln) [0,1,5,8,9,10,40,41,42] (fun u=> [.ptr 3 0,.int .i64 tn,.ptr 4 0,.str lo,.str hi,.lsv 5 3 u.2.length 0 u.2.length,.sl .ro (G.map yQ),.int .i64 G.length,.int .i64 u.1])
  (fun u=> [a.ob .str,b.ob .str,sn.ob (V.int .i64),.box [.sl .ro wF,.sl .ro (tabsS.map GTable.row),.mp 0,.mp 1,.mp 2],.box st.row,.lst (u.2.map Ln.row) 3]) (fun u=>G.length - u.1)
  (fun u=>u.1<=G.length/\u.2.Perm ((G.take u.1).flatMap fun g=>l.filter (inL (wN tn g).1 lo hi))/\u.2.length<=u.1*10000) hc hb (0,[]) ⟨A3 _,sM,A3 _⟩ ?_ ?_
 .exact aN 6 (aB [])
 rintro⟨i,acc⟩ ⟨aP,ae,aQ⟩
 simp only at aP ae aQ
 by_cases q:i<G.length
 .have ei:=zS q om
  obtain⟨g,hg⟩:=eX (G[i])
  obtain⟨bb,aR,aC⟩:=aA g (hg▸Ab q)
  have aD:=yF0 tn g om om
  obtain⟨rng,al⟩:=eX ((wN tn g).1)
  have aS:wN tn g=(rng,0):=Prod.ext al aR
  rw[aS]at aD aC
  refine zA ?_
  simp[go_sem,q,hg,yQ]
  refine pC aD ?_
  simp[go_sem,yB5,eB]
  refine zH (S:=List Nat×List (Pl×List UInt8)) [0,1,5,8,9,10,13,40,41,42,60] (fun u=> [.ptr 3 0,.int .i64 tn,.ptr 4 0,.str lo,.str hi,.lsv 5 3 (acc++(u.2.filter (inE rng lo hi)).map (lnE tn)).length 0 (acc++(u.2.filter (inE rng lo hi)).map (lnE tn)).length,.int .i64 rng,.sl .ro (G.map yQ),.int .i64 G.length,.int .i64 i,.ptr 6 0])
   (fun u=> [a.ob .str,b.ob .str,sn.ob (V.int .i64),.box [.sl .ro wF,.sl .ro (tabsS.map GTable.row),.mp 0,.mp 1,.mp 2],.box st.row,.lst ((acc++(u.2.filter (inE rng lo hi)).map (lnE tn)).map Ln.row) 3,.it (some 1) b.clk u.1 b.clk]) (fun u=>(zf6 u.1 b.W b.bs).length)
   (fun u=>MetD u.1 b.W b.bs u.2) hc hb ([],[]) (MetD.start aa.ok.len) ?_ ?_
  .exact at_n 7 (by simp[go_sem];rfl) rfl (ad _ _) dc (zF sg rfl)
  rintro⟨se,D⟩ hD
  simp only at hD
  refine zx7 61 dc ?_
  refine zA ?_
  simp[go_sem,eB]
  have aE: ∀p∈zf6 se b.W b.bs,p.1.2.length<=maxB:=fun p hp=>by
   obtain⟨x,hx,aT⟩:=Ad.1 (aa.perm.mem_iff.1 (List.of_mem_zip (zL4 hp)).1)
   rw[<-aT]
   have:=zV2 (LnOk.light (aa.rows x hx)) x.v.length
   exact B3 this dc
  have bc:D.length<=10000:=by
   have h1:=hD.length_eq
   rw[aa.perm.length_eq]at h1
   simp only[Ak,An]at h1
   omega
  have bf:((D.filter (inE rng lo hi)).map (lnE tn)).length<=D.length:=by rw[An];exact Bj _ _
  refine yE3 (b:=b) (i:=6) (id:=1) (seen:=se) (clk:=b.clk) (by simp[go_sem,zi0]) rfl rfl aL (fun hL=> ?_) (fun p hp=> ?_)
  .have aq:=yN1 aa (hD.done hL) (t:=tn) (rng:=rng) (by rw[aC]) lo hi
   simp[go_sem,ei]
   exact zG (i+1,acc++(D.filter (inE rng lo hi)).map (lnE tn)) ⟨by show G.length - (i+1)<G.length - i;omega,⟨q,by
    show(acc++_).Perm _
    rw[By q,List.flatMap_append,hg]
    refine ae.append ?_
    simp only[C8,List.flatMap_nil,B9,al]
    exact aq,by show(acc++_).length<=(i+1)*10000;rw[Ak];omega⟩,at_n 6 (by simp[go_sem];rfl) rfl (aB _) dc (zF sg rfl)⟩
  .have af:=yy4 (g:=V.str) aa.ok.nd (zL4 hp)
   have ag:=hD.next aa.ok.nd hp
   have ar:=(zE6 aa.ok.nd hp).length_eq
   have au:=aE p hp
   clear aE
   obtain⟨⟨⟨pr,pk⟩,data⟩,stamp⟩:=p
   simp only[plV]at af ag ar au
   have ab:(zf6 (se++ [stamp]) b.W b.bs).length<(zf6 se b.W b.bs).length:=by rw[ar];exact Nat.lt_succ_self _
   have an:=xT1 wF tabsS tn data au dc
   have aF:lnE tn ((pr,pk),data)=⟨pr,pk,(rowF tabsS tn data).1⟩:=rfl
   obtain⟨rf,aU⟩:=eX (rowF tabsS tn data)
   rw[aU]at an aF
   have ak:inE rng lo hi ((pr,pk),data)=((pr==rng)&&(!Op.bytesLess pk lo&&Op.bytesLess pk hi)):=rfl
   clear ar hp au
   refine(A7 (pr==rng)).elim (fun r1=> ?_) (fun r1=> ?_)
   rotate_left
   .have hE:inE rng lo hi ((pr,pk),data)=false:=by rw[ak,r1];rfl
    simp[go_sem,plV,zi9,af,r1]
    exact zG (se++ [stamp],D++ [((pr,pk),data)]) ⟨ab,ag,at_n 7 (by simp[go_sem,hE];rfl) rfl (ad _ _) dc (zF (by simp[go_sem,hE]) rfl)⟩
   refine(A7 (Op.bytesLess pk lo)).elim (fun r2=> ?_) (fun r2=> ?_)
   .have hE:inE rng lo hi ((pr,pk),data)=false:=by rw[ak,r1,r2];rfl
    simp[go_sem,plV,zi9,af,r1,r2]
    exact zG (se++ [stamp],D++ [((pr,pk),data)]) ⟨ab,ag,at_n 7 (by simp[go_sem,hE];rfl) rfl (ad _ _) dc (zF (by simp[go_sem,hE]) rfl)⟩
   refine(A7 (Op.bytesLess pk hi)).elim (fun r3=> ?_) (fun r3=> ?_)
   rotate_left
   .have hE:inE rng lo hi ((pr,pk),data)=false:=by rw[ak,r1,r2,r3];rfl
    simp[go_sem,plV,zi9,af,r1,r2,r3]
    exact zG (se++ [stamp],D++ [((pr,pk),data)]) ⟨ab,ag,at_n 7 (by simp[go_sem,hE];rfl) rfl (ad _ _) dc (zF (by simp[go_sem,hE]) rfl)⟩
   have hE:inE rng lo hi ((pr,pk),data)=true:=by rw[ak,r1,r2,r3];rfl
   simp[go_sem,plV,zi9,af,r1,r2,r3]
   refine pC an ?_
   simp[go_sem,rowV,Bl]
   have bg:(D.filter (inE rng lo hi)).length<=D.length:=Bj _ _
   refine zI ⟨zX rfl,om⟩ ?_
   simp[go_sem]
   exact zG (se++ [stamp],D++ [((pr,pk),data)]) ⟨ab,ag,at_n 7 (by simp[go_sem,hE,aF];rfl) rfl (ad _ _) dc (zF (by simp[go_sem,hE,Do]) rfl)⟩
 .have aV:i=G.length:=om
  have bh: ∀x:Ln,zm5 tn st x=((G.any fun g=>(wN tn g).1==x.r)&&(!Op.bytesLess x.k lo&&Op.bytesLess x.k hi)):=fun x=>by unfold zm5;rw[hG,ao]
  have ah:acc.Perm (l.filter (zm5 tn st)):=by
   have h:=yB7 tn h3 st l
   rw[hG,ao]at h
   rw[aV,List.take_length]at ae
   exact ae.trans h
  have hlen:acc.length<=l.length:=by rw[ah.length_eq];exact Bj _ _
  obtain⟨M,hM⟩:=eX (metF tn T st l)
  have av:st.filtered=false->M=(l.filter (zm5 tn st),0):=fun h=>by rw[<-hM];unfold metF;rw[if_neg (by rw[h];decide)]
  have aw:st.filtered=true->M=zo6 T st [] (l.filter (zm5 tn st)):=fun h=>by rw[<-hM];unfold metF;rw[if_pos h]
  rw[hM]
  clear hM
  refine zA ?_
  simp[go_sem,q]
  refine zP (zA ?_)
  simp[go_sem]
  refine yQ4 Tryz.sortMet rfl cB dc Tryz.sortMet_agg Tryz.sortMet_sz cB yM6 xC8 (f:=Ln.row) (kx:=Ln.at) (fun x=>⟨_,rfl,rfl⟩) acc rfl om (fun l' ax aG=> ?_)
  have ay:=yV2 aa.rise (ax.symm.trans ah) aG
  have az:acc.length=l'.length:=ax.length_eq
  rw[<-ay]at av aw
  simp[go_sem,az]
  refine zP (zA ?_)
  simp[go_sem]
  refine zR (fun h=> ?_) (fun h=> ?_)
  .have hf:st.filtered=false:=sU h
   rw[av hf]
   simp[go_sem]
   exact xe5 dc rfl rfl
  .have hf:st.filtered=true:=sU h
   have hM:=aw hf
   have bj:l'.length<=10000:=om
   have aW: ∀x∈l',LnOk x:=fun x hx=>aa.rows x (by rw[ay]at hx;exact(Bb.1 hx).1)
   have aX:T.cols.length<=maxLen:=(by decide: ∀T∈tabsS,T.cols.length<=maxLen) T (B7 hT)
   clear av aw ay ax aG ae ah
   have ai: ∀(m:List Ln),([a.ob .str,b.ob .str,sn.ob (V.int .i64),.box [.sl .ro wF,.sl .ro (tabsS.map GTable.row),.mp 0,.mp 1,.mp 2],.box st.row,.lst (l'.map Ln.row) 3,.lst (m.map Ln.row) 3]:St).all (ltOb 7)=true:=fun m=>by
    have h:=xS 7 om a b sn
    simp only[runS,runB,Ac,Cb,C9]at h⊢
    rw[A1,A1,A1]at h⊢
    refine⟨h.1,h.2.1,h.2.2.1, ?_⟩
    rw[A1]
    exact⟨h.2.2.2,by simp[ltOb,ltC,ltK,GStmt.row,Ln.row]⟩
   refine zP (zA ?_)
   simp[go_sem]
   refine zM6 19 3 dc sg ?_
   refine zP (zA ?_)
   simp[go_sem]
   refine zH (S:=Nat×List Ln) [0,1,5,19,105,106,107] (fun u=> [.ptr 3 0,.int .i64 tn,.ptr 4 0,.lsv 6 3 u.2.length 0 u.2.length,.lsv 5 3 l'.length 0 l'.length,.int .i64 l'.length,.int .i64 u.1])
    (fun u=> [a.ob .str,b.ob .str,sn.ob (V.int .i64),.box [.sl .ro wF,.sl .ro (tabsS.map GTable.row),.mp 0,.mp 1,.mp 2],.box st.row,.lst (l'.map Ln.row) 3,.lst (u.2.map Ln.row) 3]) (fun u=>l'.length - u.1)
    (fun u=>u.1<=l'.length/\u.2.length<=u.1/\zo6 T st u.2 (l'.drop u.1)=M) hc hb (0,[]) ⟨A3 _,A4 _,hM.symm⟩ ?_ ?_
   .exact aN 7 (ai [])
   rintro⟨j,out⟩ ⟨hj,aY,hinv⟩
   simp only at hj aY hinv
   by_cases p:j<l'.length
   rotate_left
   .rw[A9 om,zo6]at hinv
    subst hinv
    refine zA ?_
    simp[go_sem,p]
    refine zA ?_
    simp[go_sem]
    exact xe5 dc rfl rfl
   have ej:=zS p om
   obtain⟨x,hx⟩:=eX (l'[j])
   have aZ:=aW x (hx▸Ab p)
   rw[A5 p,hx,xr2]at hinv
   have aj:=yx2 T aX x.v aZ.ok st.where_ aI.where_
   obtain⟨⟨v,er⟩,hv⟩: ∃kv,evR T x.v st.where_=kv:=⟨_,rfl⟩
   rw[hv]at hinv aj
   simp only at hinv
   have aH:=xG1 v
   obtain⟨tv,ba⟩:=eX (zN9 v)
   rw[ba]at hinv aH
   refine zA ?_
   simp[go_sem,p,hx]
   refine xA [(12,0)] 8 rfl kR kR ?_
   simp[go_sem,a6,aJ]
   refine zi5 aj cB (fun _=>⟨zC rfl,zL,zQ1 st.where_,tV⟩) rfl ?_
   simp[go_sem,valP]
   by_cases q2:er=0
   rotate_left
   .have a1:(er !=0)=true:=sU q2
    rw[if_pos q2]at hinv
    subst hinv
    simp[go_sem,a1]
    exact xM 4 (s:=runS a b sn) (r:= .tup [.sl .ro [],.int .i64 er]) rfl rfl (xS 4 dc a b sn) (A4 _) (xU ⟨zt5,za1 rfl,tV⟩) (.inl ⟨q2,rfl,rfl⟩)
   have a1:(er !=0)=false:=sU q2
   rw[if_neg (fun h=>h q2)]at hinv
   simp[go_sem,a1]
   refine pC aH ?_
   refine(A7 tv).elim (fun t=> ?_) (fun t=> ?_)
   .rw[if_pos t]at hinv
    simp[go_sem,t,Bl]
    refine zI ⟨zX rfl,om⟩ ?_
    simp[go_sem,ej]
    exact zG (j+1,out++ [x]) ⟨by show l'.length - (j+1)<l'.length - j;omega,⟨p,by show(out++ [x]).length<=j+1;simp;omega,hinv⟩,aN 7 (ai (out++ [x]))⟩
   .rw[if_neg (by rw[t];decide)]at hinv
    simp[go_sem,t,ej]
    exact zG (j+1,out) ⟨by show l'.length - (j+1)<l'.length - j;omega,⟨p,by show out.length<=j+1;omega,hinv⟩,aN 7 (ai out)⟩
end Go.Proofs.YtefbicjgbaaieaaGreat
namespace Go.Proofs.YtefbicjgbaaieaaGreat
open Go Go.Vx Go.Proofs.Tryz
structure Ord (lt:Nat->Nat->Bool):Prop where
 irr: ∀i,lt i i=false
 tr: ∀i j k,lt i j=true->lt j k=true->lt i k=true
 nt: ∀i j k,lt i j=false->lt j k=false->lt i k=false
variable {a:Nat}{b:Nat}{i:Nat}{k:Nat}{m:Nat}{j:Nat}{lt:Nat->Nat->Bool}{f:Nat->Nat}{g:Nat->Nat}
def TO (lt:Nat->Nat->Bool) (i j:Nat):Prop:=lt i j=true∨lt j i=false/\i<j
theorem Ord.asym (o:Ord lt) (h:lt i j=true):lt j i=false:=by
 cases q:lt j i
 .rfl
 .have:=o.tr _ _ _ h q;rw[o.irr]at this;grind
theorem TO.trans (o:Ord lt) (h:TO lt i j) (g:TO lt j k):TO lt i k:=by
 cases q:lt i k with
 |true=>exact .inl q
 |false=>
  rcases h with h|⟨h,h'⟩
  .rcases g with g|⟨g,g'⟩
   .rw[o.tr _ _ _ h g]at q;cases q
   .have:=o.nt _ _ _ q g;grind
  .rcases g with g|⟨g,g'⟩
   .have:=o.nt _ _ _ h q;grind
   .exact .inr ⟨o.nt _ _ _ g h,om⟩
theorem TO.irr (o:Ord lt) (h:TO lt i i):False:=by
 rcases h with h|⟨_,h⟩
 .rw[o.irr]at h;cases h
 .omega
theorem TO.fore (o:Ord lt) (h:j<i):TO lt j i↔lt i j=false:=
 ⟨fun q=>q.elim o.asym fun q=>q.1,fun q=> .inr ⟨q,h⟩⟩
def Srt (lt:Nat->Nat->Bool) (f:Nat->Nat) (a b:Nat):Prop:= ∀i j,a<=i->i<j->j<b->TO lt (f i) (f j)
def Mv (f f':Nat->Nat) (a b:Nat):Prop:=
 ∃π:Nat->Nat,(∀k,a<=k->k<b->a<=π k/\π k<b)/\(∀k,k<a∨b<=k->π k=k)/\(∀i j,π i=π j->i=j)/\ ∀k,f' k=f (π k)
theorem Mv.refl (f:Nat->Nat) (a b:Nat):Mv f f a b:=⟨id,(by grind),sM,sM,fun _=>rfl⟩
theorem Mv.mono {f':Nat->Nat} {c d:Nat} (h:Mv f f' a b) (h1:c<=a) (h2:b<=d):Mv f f' c d:=by
 obtain⟨π,p1,p2,p3,p4⟩:=h
 refine⟨π,fun k k1 k2=> ?_,(by grind),p3,p4⟩
 grind
theorem Mv.trans {h:Nat->Nat} (p:Mv f g a b) (q:Mv g h a b):Mv f h a b:=by
 obtain⟨π,p1,p2,p3,p4⟩:=p
 obtain⟨ρ,q1,q2,q3,q4⟩:=q
 refine⟨fun k=>π (ρ k),(by grind),(by grind),(by grind),(by grind)⟩
 all_goals grind
theorem Mv.out (p:Mv f g a b) (h:k<a∨b<=k):g k=f k:=by
 obtain⟨π,p1,p2,p3,p4⟩:=p
 grind
theorem Mv.at (p:Mv f g a b) (h1:a<=k) (h2:k<b): ∃j,a<=j/\j<b/\g k=f j:=by
 obtain⟨π,p1,p2,p3,p4⟩:=p
 grind
def sw (f:Nat->Nat) (i j:Nat):Nat->Nat:=fun k=>if k=i then f j else if k=j then f i else f k
def swR (f:Nat->Nat) (a b n:Nat):Nat->Nat:=fun k=>if a<=k/\k<a+n then f (k - a+b)else if b<=k/\k<b+n then f (k - b+a)else f k
theorem wg6 (f:Nat->Nat) (a b:Nat):swR f a b 0=f:=by
 funext x
 unfold swR
 grind
theorem xF6 (f:Nat->Nat) (h:a+i<b):sw (swR f a b i) (a+i) (b+i)=swR f a b (i+1):=by
 funext x
 unfold sw swR
 grind
def rotF (f:Nat->Nat) (a m b:Nat):Nat->Nat:=fun k=>if a<=k/\k<a+(b - m)then f (k+(m - a))else if a+(b - m)<=k/\k<b then f (k - (b - m))else f k
theorem Mv.rot (f:Nat->Nat) (h1:a<=m) (h2:m<=b):Mv f (rotF f a m b) a b:=by
 refine⟨fun k=>if a<=k/\k<a+(b - m)then k+(m - a)else if a+(b - m)<=k/\k<b then k - (b - m)else k,fun k k1 k2=> ?_,fun k hk=> ?_,fun x y e=> ?_,fun k=> ?_⟩
 .grind
 .grind
 .grind
 .unfold rotF
  grind
theorem wb1 (g:Nat->Nat) (h:j<i) (hi:i<=m):rotF (swR g (m - i) m j) (m - (i - j)) m (m+j)=rotF g (m - i) m (m+j):=by
 funext x
 unfold rotF swR
 grind
theorem wb2 (g:Nat->Nat) (h:i<j) (hi:i<=m):rotF (swR g (m - i) (m+j - i) i) (m - i) m (m+(j - i))=rotF g (m - i) m (m+j):=by
 funext x
 unfold rotF swR
 grind
theorem wb0 (g:Nat->Nat) (hi:i<=m):swR g (m - i) m i=rotF g (m - i) m (m+i):=by
 funext x
 unfold rotF swR
 grind
theorem wg7 (f:Nat->Nat) (h:a<=k):sw (rotF f a (a+1) (k+1)) k (k+1)=rotF f a (a+1) (k+2):=by
 funext x
 unfold sw rotF
 grind
theorem yN4 (f:Nat->Nat) (a m:Nat):rotF f a m m=f:=by
 funext x
 unfold rotF
 grind
theorem xV0 (f:Nat->Nat) (h:k<=m) (hk:0<k):sw (rotF f k m (m+1)) k (k - 1)=rotF f (k - 1) m (m+1):=by
 funext x
 unfold sw rotF
 grind
theorem yl8 (f:Nat->Nat) (m b:Nat):rotF f m m b=f:=by
 funext x
 unfold rotF
 grind
theorem zI8 (f:Nat->Nat) (h:a<=k/\k<a+(b - m)):rotF f a m b k=f (k+(m - a)):=by simp_all[rotF]
theorem zI9 (f:Nat->Nat) (h:a+(b - m)<=k/\k<b):rotF f a m b k=f (k - (b - m)):=by simp_all[rotF,if_neg]
theorem zz6 (f:Nat->Nat) (hm:m<=b) (h0:a<=m) (h:k<a∨b<=k):rotF f a m b k=f k:=by unfold rotF;grind
section
variable {lt:Nat->Nat->Bool} {f:Nat->Nat}
theorem xN7 {a b i:Nat} (hs:Srt lt f (a+1) b) (h1:a+1<=i) (h2:i<=b) (hl: ∀x,a+1<=x->x<i->TO lt (f x) (f a)) (hr: ∀x,i<=x->x<b->TO lt (f a) (f x)):Srt lt (rotF f a (a+1) i) a b:=by
 intro x y hx aa hy
 rcases Bc y (i - 1)with q|q|q
 .rw[zI8 f om,zI8 f om]
  exact hs _ _ om om om
 .grind[zI8,zI9]
 .rw[zz6 f om om (k:=y) om]
  rcases Bc x (i - 1)with p|p|p
  .rw[zI8 f om]
   exact hs _ _ om om om
  .grind[zI9]
  .rw[zz6 f om om (k:=x) om]
   exact hs _ _ om om om
theorem xe4 {a m i:Nat} (hs:Srt lt f a m) (h1:a<=i) (h2:i<=m) (hl: ∀x,a<=x->x<i->TO lt (f x) (f m)) (hr: ∀x,i<=x->x<m->TO lt (f m) (f x)):Srt lt (rotF f i m (m+1)) a (m+1):=by
 intro x y hx aa hy
 rcases Bc x i with q|q|q
 .rw[zz6 f om om (k:=x) om]
  rcases Bc y i with p|p|p
  .rw[zz6 f om om (k:=y) om]
   exact hs _ _ om om om
  .grind[zI8]
  .rw[zI9 f om]
   exact hs _ _ om om om
 .rw[zI8 f om,show x+(m - i)=m by omega,zI9 f om]
  grind
 .rw[zI9 f om,zI9 f om]
  exact hs _ _ om om om
theorem xn6 (o:Ord lt) {a m b mid s e lo hi:Nat} (ha:a<m) (hb:m<b) (al:mid=(a+b)/2) (ad:Srt lt f a m) (ae:Srt lt f m b)
  (ai:lo=if mid<m then mid+m - b else a) (aj:hi=if mid<m then mid else m) (h1:lo<=s) (h2:s<=hi) (he:e=mid+m - s)
  (hl: ∀c,lo<=c->c<s->TO lt (f c) (f (mid+m - 1 - c))) (hr: ∀c,s<=c->c<hi->TO lt (f (mid+m - 1 - c)) (f c)):
  (a<=s/\s<=mid/\s<=m/\m<=e/\mid<=e/\e<=b/\s+(e - m)=mid)/\(∀x y,a<=x->x<mid->mid<=y->y<b->TO lt (rotF f s m e x) (rotF f s m e y))/\
  Srt lt (rotF f s m e) a s/\Srt lt (rotF f s m e) s mid/\Srt lt (rotF f s m e) mid e/\Srt lt (rotF f s m e) e b:=by
 have hm:mid*2<=a+b/\a+b<=mid*2+1:=om
 have ak:a<=s/\s<=mid/\s<=m/\m<=e/\mid<=e/\e<=b/\s+(e - m)=mid/\a<mid/\mid<b:=by
  split at ai<;>split at aj<;>omega
 obtain⟨r1,r2,r3,r4,r5,r6,r7,r8,r9⟩:=ak
 have k1: ∀x,a<=x->x<s-> ∀y,s<=y->y<m->TO lt (f x) (f y):=fun x aa ag y ah ab=>ad _ _ aa om ab
 have k2: ∀x,m<=x->x<e-> ∀y,e<=y->y<b->TO lt (f x) (f y):=fun x aa ag y ah ab=>ae _ _ aa om ab
 have k3: ∀x,a<=x->x<s-> ∀y,e<=y->y<b->TO lt (f x) (f y):=fun x aa ag y ah ab=>by
  have q:lo<=s - 1:=by split at ai<;>omega
  have h:=hl (s - 1) q om
  rw[show mid+m - 1 - (s - 1)=e by omega]at h
  have h3:TO lt (f x) (f e):=by
   by_cases hx:x=s - 1
   .rw[hx];exact h
   .exact(ad x (s - 1) aa om om).trans o h
  by_cases hy:y=e
  .rw[hy];exact h3
  .exact h3.trans o (ae _ _ om om ab)
 have k4: ∀x,m<=x->x<e-> ∀y,s<=y->y<m->TO lt (f x) (f y):=fun x aa ag y ah ab=>by
  have q:s<hi:=by split at aj<;>omega
  have h:=hr s (A4 _) q
  have h3:TO lt (f x) (f s):=by
   by_cases hx:x=mid+m - 1 - s
   .rw[hx];exact h
   .exact(ae x (mid+m - 1 - s) aa om om).trans o h
  by_cases hy:y=s
  .rw[hy];exact h3
  .exact h3.trans o (ad _ _ om om ab)
 refine⟨⟨r1,r2,r3,r4,r5,r6,r7⟩,fun x y aa ag ah ab=> ?_,fun x y hx af hy=> ?_,fun x y hx af hy=> ?_,fun x y hx af hy=> ?_,fun x y hx af hy=> ?_⟩
 .by_cases c1:x<s
  .rw[zz6 f r4 r3 (k:=x) om]
   by_cases c2:y<e
   .rw[zI9 f om];exact k1 _ aa c1 _ om om
   .rw[zz6 f r4 r3 (k:=y) om];exact k3 _ aa c1 _ om ab
  .rw[zI8 f om]
   by_cases c2:y<e
   .rw[zI9 f om];exact k4 _ om om _ om om
   .rw[zz6 f r4 r3 (k:=y) om];exact k2 _ om om _ om ab
 .rw[zz6 f r4 r3 om,zz6 f r4 r3 om];exact ad _ _ hx af om
 .rw[zI8 f om,zI8 f om];exact ae _ _ om om om
 .rw[zI9 f om,zI9 f om];exact ad _ _ om om om
 .rw[zz6 f r4 r3 om,zz6 f r4 r3 om];exact ae _ _ om af hy
end
variable {f:Nat->Nat}{lt:Nat->Nat->Bool}{a:Nat}{b:Nat}{w:Nat}{f':Nat->Nat}{n:Nat}{t:Nat}{m:Nat}{mid:Nat}
def Grp (f:Nat->Nat) (a m b:Nat):Prop:= ∀x y,a<=x->x<m->m<=y->y<b->f x<f y
theorem Grp.rot_l {s e:Nat} (h:Grp f a m b) (h2:s<=m) (h3:m<=e) (h4:e<=b) (h5:s+(e - m)=mid):Grp (rotF f s m e) a s mid:=by
 intro x y aa ab ad ae
 rw[zz6 f h3 h2 om,zI8 f om]
 exact h _ _ aa om om om
theorem Grp.rot_r {s e:Nat} (h:Grp f a m b) (h1:a<=s) (h2:s<=m) (h3:m<=e) (h5:s+(e - m)=mid):Grp (rotF f s m e) mid e b:=by
 intro x y aa ab ad ae
 rw[zI9 f om,zz6 f h3 h2 (k:=y) om]
 exact h _ _ om om om om
def Mrg (lt:Nat->Nat->Bool) (f g:Nat->Nat) (a b:Nat):Prop:=Mv f g a b/\Srt lt g a b
theorem Mrg.both {g h1 h2:Nat->Nat} (h0:Mv f g a b) (hp: ∀x y,a<=x->x<mid->mid<=y->y<b->TO lt (g x) (g y)) (hm:a<=mid/\mid<=b) (q1:Mrg lt g h1 a mid) (q2:Mrg lt h1 h2 mid b):Mrg lt f h2 a b:=by
 refine⟨(h0.trans (q1.1.mono om hm.2)).trans (q2.1.mono hm.1 om),fun x y hx aa hy=> ?_⟩
 by_cases c1:y<mid
 .rw[q2.1.out om,q2.1.out om]
  exact q1.2 _ _ hx aa c1
 .by_cases c2:mid<=x
  .exact q2.2 _ _ c2 aa hy
  .rw[q2.1.out (k:=x) om]
   obtain⟨i,i1,i2,i3⟩:=q1.1.at hx om
   obtain⟨j,j1,j2,j3⟩:=q2.1.at (k:=y) om hy
   rw[i3,j3,q1.1.out (k:=j) om]
   grind
theorem Mrg.id (h:Srt lt f a b):Mrg lt f f a b:=⟨.refl f a b,h⟩
def Blk (lt:Nat->Nat->Bool) (f:Nat->Nat) (a b:Nat):Prop:=(∀k,a<=k->k<b->a<=f k/\f k<b)/\Srt lt f a b
theorem Blk.grp (h:Blk lt f a m) (g:Blk lt f m b):Grp f a m b:=fun x y aa ab ad ae=>by
 have:=h.1 x aa ab;have:=g.1 y ad ae;omega
theorem Blk.merged (h:Blk lt f a m) (g:Blk lt f m b) (hm:a<=m/\m<=b) (q:Mrg lt f f' a b):Blk lt f' a b:=by
 refine⟨fun k h1 h2=> ?_,q.2⟩
 obtain⟨j,j1,j2,j3⟩:=q.1.at h1 h2
 rw[j3]
 by_cases c:j<m
 .have:=h.1 j j1 c;omega
 .have:=g.1 j om j2;omega
theorem Blk.away {c d:Nat} (h:Blk lt f c d) (q:Mv f f' a b) (hd:d<=a∨b<=c):Blk lt f' c d:=by
 refine⟨fun k h1 h2=> ?_,fun x y hx aa hy=> ?_⟩
 .rw[q.out om];exact h.1 k h1 h2
 .rw[q.out om,q.out om];exact h.2 x y hx aa hy
theorem Blk.sorted (h: ∀k,a<=k->f k=k) (q:Mrg lt f f' a b):Blk lt f' a b:=by
 refine⟨fun k h1 h2=> ?_,q.2⟩
 obtain⟨j,j1,j2,j3⟩:=q.1.at h1 h2
 grind
def Blks (lt:Nat->Nat->Bool) (f:Nat->Nat) (w n:Nat):Prop:= ∀q,q*w<n->Blk lt f (q*w) (min (q*w+w) n)
def BlkM (lt:Nat->Nat->Bool) (f:Nat->Nat) (w n t:Nat):Prop:=(∀q,q<t->Blk lt f (q*(2*w)) (q*(2*w)+2*w))/\ ∀q,2*t<=q->q*w<n->Blk lt f (q*w) (min (q*w+w) n)
theorem BlkM.start (h:Blks lt f w n):BlkM lt f w n 0:=⟨om,(by simpa)⟩
theorem BlkM.pair (h:BlkM lt f w n t) (hw:0<w) (hm:t*(2*w)+w<n):Blk lt f (t*(2*w)) (t*(2*w)+w)/\Blk lt f (t*(2*w)+w) (min (t*(2*w)+2*w) n):=by
 have e1:2*t*w=t*(2*w):=by grind
 have e2:(2*t+1)*w=t*(2*w)+w:=by grind
 have h1:=h.2 (2*t) om om
 have h2:=h.2 (2*t+1) om om
 grind
theorem BlkM.next (h:BlkM lt f w n t) (hw:0<w) (hb:t*(2*w)+2*w<=n) (q:Mrg lt f f' (t*(2*w)) (t*(2*w)+2*w)):BlkM lt f' w n (t+1):=by
 have e1:2*t*w=t*(2*w):=by grind
 have hp:=h.pair hw om
 refine⟨fun p aa=> ?_,fun p aa h1=> ?_⟩
 .by_cases c:p=t
  .subst c
   rw[show min (p*(2*w)+2*w) n=p*(2*w)+2*w by omega]at hp
   exact hp.1.merged hp.2 om q
  .have:=Ah (2*w) (show p+1<=t by omega)
   rw[B2,D8]at this
   exact(h.1 p om).away q.1 (.inl this)
 .have:=Ah w (show 2*t+2<=p by omega)
  rw[B2,e1]at this
  exact(h.2 p om h1).away q.1 (.inr this)
theorem BlkM.last (h:BlkM lt f w n t) (hw:0<w) (hm:t*(2*w)+w<n) (hb:n<t*(2*w)+2*w) (q:Mrg lt f f' (t*(2*w)) n):Blks lt f' (2*w) n:=by
 have hp:=h.pair hw hm
 rw[show min (t*(2*w)+2*w) n=n by omega]at hp
 intro p h1
 rcases Bc p t with c|c|c
 .have:=Ah (2*w) (show p+1<=t by omega)
  rw[B2,D8]at this
  rw[show min (p*(2*w)+2*w) n=p*(2*w)+2*w by omega]
  exact(h.1 p c).away q.1 (.inl this)
 .subst c
  rw[show min (p*(2*w)+2*w) n=n by omega]
  exact hp.1.merged hp.2 om q
 .have:=Ah (2*w) (show t+1<=p by omega)
  grind
theorem BlkM.none (h:BlkM lt f w n t) (h0:t*(2*w)<=n) (hm:n<=t*(2*w)+w):Blks lt f (2*w) n:=by
 have e1:2*t*w=t*(2*w):=by grind
 intro p h1
 rcases Bc p t with c|c|c
 .have:=Ah (2*w) (show p+1<=t by omega)
  rw[B2,D8]at this
  rw[show min (p*(2*w)+2*w) n=p*(2*w)+2*w by omega]
  exact h.1 p c
 .subst c
  have:=h.2 (2*p) om om
  grind
 .have:=Ah (2*w) (show t+1<=p by omega)
  grind
theorem Blks.all (h:Blks lt f w n) (hw:n<=w):Blk lt f 0 n:=by
 by_cases c:n=0
 .subst c;exact⟨om,fun x y _ _ h=>om⟩
 .have:=h 0 om
  grind
theorem yS0 (h1: ∀q,q<t->Blk lt f (q*w) (q*w+w)) (h2: ∀k,t*w<=k->f k=k) (ht:t*w<=n) (hn:n<t*w+w) (q:Mrg lt f f' (t*w) n):Blks lt f' w n:=by
 intro p hp
 rcases Bc p t with c|c|c
 .have:=Ah w (show p+1<=t by omega)
  rw[B2,D8]at this
  rw[show min (p*w+w) n=p*w+w by omega]
  exact(h1 p c).away q.1 (.inl this)
 .grind[Blk.sorted]
 .have:=Ah w (show t+1<=p by omega)
  grind
theorem xk0 (h1: ∀q,q<t->Blk lt f (q*w) (q*w+w)) (h2: ∀k,t*w<=k->f k=k) (q:Mrg lt f f' (t*w) (t*w+w)):
  (∀q,q<t+1->Blk lt f' (q*w) (q*w+w))/\ ∀k,(t+1)*w<=k->f' k=k:=by
 refine⟨fun p hp=> ?_,fun k hk=> ?_⟩
 .by_cases c:p=t
  .grind[Blk.sorted]
  .have:=Ah w (show p+1<=t by omega)
   rw[B2,D8]at this
   exact(h1 p om).away q.1 (.inl this)
 .rw[B2,D8]at hk
  rw[q.1.out om]
  grind
end Go.Proofs.YtefbicjgbaaieaaGreat
namespace Go.Proofs.YtefbicjgbaaieaaGreat
open Go Go.Vx Go.Proofs.Tryz
set_option maxRecDepth 100000
@[go_sem] theorem szT_less:szT prog 215=some 1:=kR
@[go_sem] theorem aggT_less:aggT prog 215=some false:=kR
@[go_sem] theorem szT_swap:szT prog 306=some 1:=kR
@[go_sem] theorem aggT_swap:aggT prog 306=some false:=kR
def lsF (σ0:St) (id s n:Nat) (row:Nat->List V) (f:Nat->Nat):St:=σ0.set id (.lst ((List.range n).map fun k=>row (f k)) s)
theorem zz1 (σ0:St) (id s n:Nat) (row:Nat->List V) (f:Nat->Nat):(lsF σ0 id s n row f).length=σ0.length:=by simp[lsF]
structure SC (P:Program) (gl gs:FuncId) (cl cs:List V) (σ0:St) (id s n:Nat) (row:Nat->List V) (lt:Nat->Nat->Bool):Prop where
 here:id<σ0.length
 nn:n<=1000000
 cl_ok:cl.all (ltK σ0.length)=true
 cs_ok:cs.all (ltK σ0.length)=true
 st_ok:σ0.all (ltOb σ0.length)=true
 row_ok: ∀k,(row k).all (ltC σ0.length)=true
 less: ∀(c:Ctx) (τ:St) (f:Nat->Nat) (i j:Nat) (K:V->St->Prop),i<n->j<n->i≠j->K (.bool (lt (f i) (f j))) (lsF σ0 id s n row f++τ)->wVC P c (.fn gl cl) [.int .i64 i,.int .i64 j] (lsF σ0 id s n row f++τ) K fx
 swap: ∀(c:Ctx) (τ:St) (f:Nat->Nat) (i j:Nat) (K:V->St->Prop),i<n->j<n->i≠j->K (.tup []) (lsF σ0 id s n row (sw f i j)++τ)->wVC P c (.fn gs cs) [.int .i64 i,.int .i64 j] (lsF σ0 id s n row f++τ) K fx
section
variable {gl gs:FuncId} {cl cs:List V} {σ0:St} {id s n:Nat} {row:Nat->List V} {lt:Nat->Nat->Bool}
theorem SC.lt_ok (S:SC prog gl gs cl cs σ0 id s n row lt) (f:Nat->Nat):(lsF σ0 id s n row f).all (ltOb σ0.length)=true:=by
 unfold lsF
 rw[Aj]
 intro o ho
 rcases List.mem_or_eq_of_mem_set ho with h|rfl
 .exact Aj.1 S.st_ok o h
 .simp only[ltOb,Aj]
  intro r hr x hx
  obtain⟨k,_,rfl⟩:=Ad.1 hr
  exact Aj.1 (S.row_ok (f k)) x hx
def datB (gl gs:FuncId) (cl cs:List V):Ob:= .box [.fn gl cl,.fn gs cs]
theorem yP4 (S:SC prog gl gs cl cs σ0 id s n row lt) (f:Nat->Nat) (a b m:Nat) (h1:a+m<=b) (h2:b+m<=n):
  VCalls prog 359 [.agg [.fn gl cl,.fn gs cs],.int .i64 a,.int .i64 b,.int .i64 m] (lsF σ0 id s n row f) (fun r t=>r= .tup []/\t=lsF σ0 id s n row (swR f a b m)):=by
 have hn:=S.nn
 refine VCalls.introV (lsF σ0 id s n row f).length func359 ntmps359 results359 rfl rfl (Ca rfl) fun c hc hb=> ?_
 have hl: ∀g,(lsF σ0 id s n row g).length=σ0.length:=fun g=>zz1 ..
 refine zA ?_
 simp[go_sem,hl]
 refine zH (S:=Nat) [1,2,3,4,8] (fun i=> [.int .i64 a,.int .i64 b,.int .i64 m,.ptr σ0.length 0,.int .i64 i]) (fun i=>lsF σ0 id s n row (swR f a b i)++ [datB gl gs cl cs]) (fun i=>m - i) (fun i=>i<=m) (hc.trans (hl f)) hb 0 (A3 _) ?_ ?_
 .rw[wg6]
  exact zW (by simp[hl]) sg
 rintro i hi
 have hd: ∀g,(lsF σ0 id s n row g++ [datB gl gs cl cs])[σ0.length]? =some (.box [.fn gl cl,.fn gs cs]):=fun g=>by
  rw[B8 (by rw[hl];exact A4 _),hl];simp[datB]
 by_cases q:i<m
 rotate_left
 .have ab:i=m:=om
  subst ab
  refine zA ?_
  simp[go_sem]
  exact xM σ0.length (C2 (hl _)) (hl _) (S.lt_ok _) (Da (hl f)) (zC rfl) ⟨rfl,rfl⟩
 have ea:IntKind.i64.wrap ((a:Int)+i)=((a+i:Nat):Int):=by rw[i64_id om om];omega
 have eb:IntKind.i64.wrap ((b:Int)+i)=((b+i:Nat):Int):=by rw[i64_id om om];omega
 have ei:=zS q om
 have aa:=fun K=>S.swap c [datB gl gs cl cs] (swR f a b i) (a+i) (b+i) K om om om
 rw[xF6 f om]at aa
 refine zA ?_
 simp[go_sem,q,hd,ea,eb]
 refine aa _ ?_
 simp[go_sem,ei]
 exact zG (i+1) ⟨om,om,zW (by simp[hl]) sg⟩
end
section
variable {gl gs:FuncId} {cl cs:List V} {σ0:St} {id s n:Nat} {row:Nat->List V} {lt:Nat->Nat->Bool}
theorem yA2 (f:Nat->Nat):(lsF σ0 id s n row f++ [datB gl gs cl cs])[σ0.length]? =some (.box [.fn gl cl,.fn gs cs]):=by
 rw[B8 (by rw[zz1];exact A4 _),zz1];simp[datB]
theorem xz0 (o:Ord lt) {f g:Nat->Nat} {a b i j:Nat} (hi:i<b) (aa: ∀x y,a<=x->x<y->y<b->f x<f y) (hm:Mv f g a i) (hs:Srt lt g a i) (ab:a<=j) (ad:j<=i)
  (hl: ∀x,j<=x->x<i->lt (g i) (g x)=true) (he:j=a∨lt (g i) (g (j - 1))=false):Mv f (rotF g j i (i+1)) a (i+1)/\Srt lt (rotF g j i (i+1)) a (i+1):=by
 refine⟨(hm.mono (A4 _) (E1 _)).trans ((Mv.rot g ad (E1 _)).mono ab (A4 _)), ?_⟩
 refine xe4 hs ab ad (fun x h1 h2=> ?_) (fun x h1 h2=> .inl (hl x h1 h2))
 rcases he with he|he
 .omega
 have ae:g i=f i:=hm.out (.inr (A4 _))
 obtain⟨y,y1,y2,y3⟩:=hm.at (k:=j - 1) om om
 have af:g (j - 1)<g i:=by rw[y3,ae];exact aa y i y1 y2 hi
 have h3:TO lt (g (j - 1)) (g i):=(TO.fore o af).2 he
 by_cases q:x=j - 1
 .rw[q];exact h3
 .exact(hs x (j - 1) h1 om om).trans o h3
theorem zZ6 (S:SC prog gl gs cl cs σ0 id s n row lt) (o:Ord lt) (f:Nat->Nat) (a b:Nat) (ae:a<=b) (af:b<=n) (aa: ∀x y,a<=x->x<y->y<b->f x<f y):
  VCalls prog 301 [.agg [.fn gl cl,.fn gs cs],.int .i64 a,.int .i64 b] (lsF σ0 id s n row f) (fun r t=>r= .tup []/\ ∃g,t=lsF σ0 id s n row g/\Mrg lt f g a b):=by
 have hn:=S.nn
 refine VCalls.introV (lsF σ0 id s n row f).length func301 ntmps301 results301 rfl rfl (Ca rfl) fun c hc hb=> ?_
 have hl: ∀g,(lsF σ0 id s n row g).length=σ0.length:=fun g=>zz1 ..
 have ad:IntKind.i64.wrap ((a:Int)+1)=((a+1:Nat):Int):=by rw[i64_id om om];omega
 refine zA ?_
 simp[go_sem,hl,ad]
 refine zH (S:=Nat×(Nat->Nat)) [1,2,3,6] (fun u=> [.int .i64 a,.int .i64 b,.ptr σ0.length 0,.int .i64 u.1]) (fun u=>lsF σ0 id s n row u.2++ [datB gl gs cl cs]) (fun u=>b - u.1)
  (fun u=>a+1<=u.1/\Mv f u.2 a (min u.1 b)/\Srt lt u.2 a (min u.1 b)) (hc.trans (hl f)) hb (a+1,f) ⟨A4 _,Mv.refl _ _ _,fun x y h1 h2 h3=>om⟩ ?_ ?_
 .exact zW (by simp[hl]) sg
 rintro⟨i,g⟩ ⟨hi,hm,hs⟩
 simp only at hi hm hs
 by_cases q:i<b
 rotate_left
 .rw[Nat.min_eq_right om]at hm hs
  refine zA ?_
  simp[go_sem,q]
  exact xM σ0.length (C2 (hl _)) (hl _) (S.lt_ok _) (Da (hl f)) (zC rfl) ⟨rfl,g,rfl,hm,hs⟩
 rw[Dm om]at hm hs
 have ei:=zS q om
 have hd:=yA2 (σ0:=σ0) (id:=id) (s:=s) (n:=n) (row:=row) (gl:=gl) (gs:=gs) (cl:=cl) (cs:=cs)
 refine zA ?_
 simp[go_sem,q]
 refine zH (S:=Nat) [1,2,3,6,7] (fun j=> [.int .i64 a,.int .i64 b,.ptr σ0.length 0,.int .i64 i,.int .i64 j]) (fun j=>lsF σ0 id s n row (rotF g j i (i+1))++ [datB gl gs cl cs]) (fun j=>j)
  (fun j=>a<=j/\j<=i/\ ∀x,j<=x->x<i->lt (g i) (g x)=true) (hc.trans (hl f)) hb i ⟨om,A4 _,fun x h1 h2=>om⟩ ?_ ?_
 .rw[yl8]
  exact zW (by simp[hl]) sg
 rintro j ⟨h1,h2,h3⟩
 have fin: ∀(he:j=a∨lt (g i) (g (j - 1))=false),Mv f (rotF g j i (i+1)) a (min (i+1) b)/\Srt lt (rotF g j i (i+1)) a (min (i+1) b):=fun he=>by
  rw[Dm om]
  exact xz0 o q aa hm hs h1 h2 h3 he
 by_cases p:a<j
 rotate_left
 .have p': ¬((a:Int)<j):=om
  obtain⟨f1,f2⟩:=fin (.inl om)
  refine zA ?_
  simp[go_sem,p,ei]
  exact zG (i+1,rotF g j i (i+1)) ⟨by show b - (i+1)<b - i;omega,⟨by show a+1<=i+1;omega,f1,f2⟩,zW (by simp[hl]) sg⟩
 have ej:IntKind.i64.wrap ((j:Int) - 1)=((j - 1:Nat):Int):=by rw[i64_id om om];omega
 have hle:=fun K=>S.less c [datB gl gs cl cs] (rotF g j i (i+1)) j (j - 1) K om om om
 have ab:=fun K=>S.swap c [datB gl gs cl cs] (rotF g j i (i+1)) j (j - 1) K om om om
 rw[xV0 g h2 om]at ab
 have e1:rotF g j i (i+1) j=g i:=by rw[zI8 g om];congr 1;omega
 have e2:rotF g j i (i+1) (j - 1)=g (j - 1):=zz6 g om h2 om
 rw[e1,e2]at hle
 refine zA ?_
 simp[go_sem,p,hd,ej]
 refine hle _ ?_
 cases hL:lt (g i) (g (j - 1))with
 |false=>
  obtain⟨f1,f2⟩:=fin (.inr hL)
  simp[go_sem,ei]
  exact zG (i+1,rotF g j i (i+1)) ⟨by show b - (i+1)<b - i;omega,⟨by show a+1<=i+1;omega,f1,f2⟩,zW (by simp[hl]) sg⟩
 |true=>
  simp[go_sem,hd,ej]
  refine ab _ ?_
  simp[go_sem,ej]
  exact zG (j - 1) ⟨om,⟨om,om,fun x x1 x2=>by
   by_cases c1:x=j - 1
   .rw[c1];exact hL
   .exact h3 x om x2⟩,zW (by simp[hl]) sg⟩
end
section
variable {gl gs:FuncId} {cl cs:List V} {σ0:St} {id s n:Nat} {row:Nat->List V} {lt:Nat->Nat->Bool}
theorem SC.call (S:SC prog gl gs cl cs σ0 id s n row lt) {F:FuncId} {ints:List V} {g:Nat->Nat} {Q:(Nat->Nat)->Prop} {c:Ctx} {τ:St} {K:V->St->Prop}
  (hc:VCalls prog F (.agg [.fn gl cl,.fn gs cs]::ints) (lsF σ0 id s n row g) (fun r t=>r= .tup []/\ ∃g',t=lsF σ0 id s n row g'/\Q g')) (hb:wL prog F=true) (hi:ints.all noS=true)
  (hK: ∀g',Q g'->K (.tup []) (lsF σ0 id s n row g'++τ)):wVC prog c (.fn F []) (.agg [.fn gl cl,.fn gs cs]::ints) (lsF σ0 id s n row g++τ) K fx:=by
 have hl: ∀g,(lsF σ0 id s n row g).length=σ0.length:=fun g=>zz1 ..
 refine za4 σ0.length hc hb (C2 (hl _)) (hl _) (S.lt_ok _) ?_ ?_ ?_
 .rw[B9]
  exact⟨zp8 (by simp[ltS,ltA,ltC,S.cl_ok,S.cs_ok]),zY hi⟩
 .rintro r t ⟨rfl,g',rfl,_⟩
  exact⟨hl _,S.lt_ok _,rfl⟩
 .rintro r t ⟨rfl,g',rfl,hq⟩
  rw[List.drop_left' (hl _)]
  exact hK g' hq
theorem xE1 (S:SC prog gl gs cl cs σ0 id s n row lt) (f:Nat->Nat) (a m b:Nat) (h1:a<m) (h2:m<b) (h3:b<=n):
  VCalls prog 345 [.agg [.fn gl cl,.fn gs cs],.int .i64 a,.int .i64 m,.int .i64 b] (lsF σ0 id s n row f) (fun r t=>r= .tup []/\ ∃g,t=lsF σ0 id s n row g/\g=rotF f a m b):=by
 have hn:=S.nn
 have ab: ∀g x y k,x+k<=y->y+k<=n->VCalls prog 359 [.agg [.fn gl cl,.fn gs cs],.int .i64 (x:Nat),.int .i64 (y:Nat),.int .i64 (k:Nat)] (lsF σ0 id s n row g) (fun r t=>r= .tup []/\ ∃g',t=lsF σ0 id s n row g'/\g'=swR g x y k):=fun g x y k q1 q2=>
  (yP4 S g x y k q1 q2).mono fun r t h=>⟨h.1,_,h.2,rfl⟩
 refine VCalls.introV (lsF σ0 id s n row f).length func345 ntmps345 results345 rfl rfl (Ca rfl) fun c hc hb=> ?_
 have hl: ∀g,(lsF σ0 id s n row g).length=σ0.length:=fun g=>zz1 ..
 have hd:=yA2 (σ0:=σ0) (id:=id) (s:=s) (n:=n) (row:=row) (gl:=gl) (gs:=gs) (cl:=cl) (cs:=cs)
 have e1:IntKind.i64.wrap ((m:Int) - a)=((m - a:Nat):Int):=by rw[i64_id om om];omega
 have e2:IntKind.i64.wrap ((b:Int) - m)=((b - m:Nat):Int):=by rw[i64_id om om];omega
 refine zA ?_
 simp[go_sem,hl,e1,e2]
 refine zH (S:=Nat×Nat×(Nat->Nat)) [1,2,3,4,8,9] (fun u=> [.int .i64 a,.int .i64 m,.int .i64 b,.ptr σ0.length 0,.int .i64 u.1,.int .i64 u.2.1]) (fun u=>lsF σ0 id s n row u.2.2++ [datB gl gs cl cs]) (fun u=>u.1+u.2.1)
  (fun u=>0<u.1/\0<u.2.1/\u.1<=m/\m+u.2.1<=n/\rotF u.2.2 (m - u.1) m (m+u.2.1)=rotF f a m b) (hc.trans (hl f)) hb (m - a,b - m,f) ⟨by show 0<m - a;omega,by show 0<b - m;omega,by show m - a<=m;omega,by show m+(b - m)<=n;omega,by show rotF f (m - (m - a)) m (m+(b - m))=_;rw[show m - (m - a)=a by omega,show m+(b - m)=b by omega]⟩ ?_ ?_
 .exact zW (by simp[hl]) sg
 rintro⟨i,j,g⟩ ⟨hi,hj,aa,ae,hg⟩
 simp only at hi hj aa ae hg
 have ad:IntKind.i64.wrap ((m:Int) - i)=((m - i:Nat):Int):=by rw[i64_id om om];omega
 rcases Bc i j with q|q|q
 .have p1:((i:Int) !=j)=true:=by simp;omega
  have p2: ¬((j:Int)<i):=om
  have p3: ¬(j<i):=om
  have p4: ¬i=j:=om
  have ea:IntKind.i64.wrap ((m:Int)+j)=(m:Int)+j:=i64_id om om
  have eb:IntKind.i64.wrap ((m:Int)+j - i)=((m+j - i:Nat):Int):=by rw[i64_id om om];omega
  have ej:IntKind.i64.wrap ((j:Int) - i)=((j - i:Nat):Int):=by rw[i64_id om om];omega
  refine zA ?_
  simp[go_sem,p1,p2,hd,ad,ea,eb]
  refine S.call (ab g (m - i) (m+j - i) i om om) cB rfl ?_
  rintro g' rfl
  simp[go_sem,ej]
  exact zG (i,j - i,swR g (m - i) (m+j - i) i) ⟨by show i+(j - i)<i+j;omega,⟨hi,by show 0<j - i;omega,aa,by show m+(j - i)<=n;omega,by show rotF _ (m - i) m (m+(j - i))=_;rw[wb2 g q aa];exact hg⟩,zW (by simp[hl]) sg⟩
 .subst q
  refine zA ?_
  simp[go_sem,hd,ad]
  refine S.call (ab g (m - i) m i om om) cB rfl ?_
  rintro g' rfl
  rw[wb0 g aa,hg]
  simp[go_sem]
  exact xM σ0.length (C2 (hl _)) (hl _) (S.lt_ok _) (Da (hl f)) (zC rfl) ⟨rfl,rfl⟩
 .have p1:((i:Int) !=j)=true:=by simp;omega
  have p2:(j:Int)<i:=om
  have p4: ¬i=j:=om
  have ei:IntKind.i64.wrap ((i:Int) - j)=((i - j:Nat):Int):=by rw[i64_id om om];omega
  refine zA ?_
  simp[go_sem,p1,p2,hd,ad]
  refine S.call (ab g (m - i) m j om om) cB rfl ?_
  rintro g' rfl
  simp[go_sem,ei]
  exact zG (i - j,j,swR g (m - i) m j) ⟨by show i - j+j<i+j;omega,⟨by show 0<i - j;omega,hj,by show i - j<=m;omega,ae,by show rotF _ (m - (i - j)) m (m+j)=_;rw[wb1 g q aa];exact hg⟩,zW (by simp[hl]) sg⟩
end
section
variable {lt:Nat->Nat->Bool}
variable {x:Nat}{h:Nat}{a:Nat}
theorem wf1 (o:Ord lt) (t:TO lt x h) (g:lt h a=true):lt x a=true:=by
 rcases t with t|⟨t,_⟩
 .exact o.tr _ _ _ t g
 .cases q:lt x a with
  |true=>rfl
  |false=>have:=o.nt _ _ _ t q;rw[g]at this;cases this
theorem xZ3 (o:Ord lt) (t:TO lt h x) (g:lt h a=false):lt x a=false:=by
 cases q:lt x a with
 |false=>rfl
 |true=>
  rcases t with t|⟨t,_⟩
  .have:=o.tr _ _ _ t q;rw[g]at this;cases this
  .have:=o.nt _ _ _ t g;rw[q]at this;cases this
theorem wh0 (o:Ord lt) (t:TO lt h x) (g:lt a h=true):lt a x=true:=by
 rcases t with t|⟨t,_⟩
 .exact o.tr _ _ _ g t
 .cases q:lt a x with
  |true=>rfl
  |false=>have:=o.nt _ _ _ q t;rw[g]at this;cases this
theorem wb8 (o:Ord lt) (t:TO lt x h) (g:lt a h=false):lt a x=false:=by
 cases q:lt a x with
 |false=>rfl
 |true=>
  rcases t with t|⟨t,_⟩
  .have:=o.tr _ _ _ q t;rw[g]at this;cases this
  .have:=o.nt _ _ _ g t;rw[q]at this;cases this
end
theorem yz4 {i j:Nat} (h:i+j<4000000000):IntKind.i64.wrap ((IntKind.u64.wrap (IntKind.i64.wrap ((i:Int)+j))).fdiv 2)=(((i+j)/2:Nat):Int):=by
 have e1:IntKind.i64.wrap ((i:Int)+j)=(i:Int)+j:=i64_id om om
 have e2:IntKind.u64.wrap ((i:Int)+j)=(i:Int)+j:=u64_id om om
 rw[e1,e2,Dq _ om,i64_id om om]
 omega
section
variable {gl gs:FuncId} {cl cs:List V} {σ0:St} {id s n:Nat} {row:Nat->List V} {lt:Nat->Nat->Bool}
theorem yq4 (S:SC prog gl gs cl cs σ0 id s n row lt) (o:Ord lt) (f:Nat->Nat) (a m b:Nat) (h1:a<m) (h2:m<b) (h3:b<=n) (ag:Srt lt f a m) (af:Srt lt f m b) (ae:Grp f a m b)
  (ih: ∀f a' m b',b' - a'<b - a->a'<m->m<b'->b'<=n->Srt lt f a' m->Srt lt f m b'->Grp f a' m b'->VCalls prog 302 [.agg [.fn gl cl,.fn gs cs],.int .i64 (a':Nat),.int .i64 (m:Nat),.int .i64 (b':Nat)] (lsF σ0 id s n row f) (fun r t=>r= .tup []/\ ∃g,t=lsF σ0 id s n row g/\Mrg lt f g a' b')):
  VCalls prog 302 [.agg [.fn gl cl,.fn gs cs],.int .i64 a,.int .i64 m,.int .i64 b] (lsF σ0 id s n row f) (fun r t=>r= .tup []/\ ∃g,t=lsF σ0 id s n row g/\Mrg lt f g a b):=by
 have hn:=S.nn
 refine VCalls.introV (lsF σ0 id s n row f).length func302 ntmps302 results302 rfl rfl (Ca rfl) fun c hc hb=> ?_
 have hl: ∀g,(lsF σ0 id s n row g).length=σ0.length:=fun g=>zz1 ..
 have hd:=yA2 (σ0:=σ0) (id:=id) (s:=s) (n:=n) (row:=row) (gl:=gl) (gs:=gs) (cl:=cl) (cs:=cs)
 have e1:IntKind.i64.wrap ((m:Int) - a)=((m - a:Nat):Int):=by rw[i64_id om om];omega
 have e2:IntKind.i64.wrap ((b:Int) - m)=((b - m:Nat):Int):=by rw[i64_id om om];omega
 by_cases c1:m - a=1
 .have ar:(((m - a:Nat):Int)==1)=true:=by simp;omega
  refine zA ?_
  simp[go_sem,hl,e1,ar]
  refine zH (S:=Nat×Nat) [1,2,3,4,8,9] (fun u=> [.int .i64 a,.int .i64 m,.int .i64 b,.ptr σ0.length 0,.int .i64 u.1,.int .i64 u.2]) (fun _=>lsF σ0 id s n row f++ [datB gl gs cl cs]) (fun u=>u.2 - u.1)
   (fun u=>m<=u.1/\u.1<=u.2/\u.2<=b/\(∀x,m<=x->x<u.1->lt (f x) (f a)=true)/\ ∀x,u.2<=x->x<b->lt (f x) (f a)=false) (hc.trans (hl f)) hb (m,b) ⟨A4 _,by show m<=b;omega,A4 _,fun x q1 q2=>om,fun x q1 q2=>om⟩ ?_ ?_
  .exact zW (by simp[hl]) sg
  rintro⟨i,j⟩ ⟨hi,ai,hj,hL,hR⟩
  simp only at hi ai hj hL hR
  by_cases q:i<j
  .obtain⟨h,hh⟩:=eX ((i+j)/2)
   have eh:=yz4 (i:=i) (j:=j) om
   rw[hh]at eh
   have ei:=zS (show h<j by omega) om
   have hle:=fun K=>S.less c [datB gl gs cl cs] f h a K om om om
   refine zA ?_
   simp[go_sem,q,hd,eh]
   refine hle _ ?_
   cases aa:lt (f h) (f a)with
   |true=>
    simp[go_sem,ei]
    exact zG (h+1,j) ⟨by show j - (h+1)<j - i;omega,⟨by show m<=h+1;omega,by show h+1<=j;omega,hj,fun x q1 q2=>by
     by_cases c2:x=h
     .rw[c2];exact aa
     .exact wf1 o (af x h q1 (by have:x<h+1:=q2;omega) om) aa,hR⟩,zW (by simp[hl]) sg⟩
   |false=>
    simp[go_sem]
    exact zG (i,h) ⟨by show h - i<j - i;omega,⟨hi,by show i<=h;omega,by show h<=b;omega,hL,fun x q1 q2=>by
     by_cases c2:x=h
     .rw[c2];exact aa
     .exact xZ3 o (af h x om (by have:h<=x:=q1;omega) q2) aa⟩,zW (by simp[hl]) sg⟩
  .have e3:IntKind.i64.wrap ((i:Int) - 1)=((i - 1:Nat):Int):=by rw[i64_id om om];omega
   have aj:i=j:=om
   have a6:m=a+1:=om
   refine zA ?_
   simp[go_sem,q]
   refine zH (S:=Nat) [1,2,3,4,8,11] (fun k=> [.int .i64 a,.int .i64 m,.int .i64 b,.ptr σ0.length 0,.int .i64 i,.int .i64 k]) (fun k=>lsF σ0 id s n row (rotF f a (a+1) (k+1))++ [datB gl gs cl cs]) (fun k=>i - k)
    (fun k=>a<=k/\k+1<=i) (hc.trans (hl f)) hb a ⟨A4 _,om⟩ ?_ ?_
   .rw[yN4]
    exact zW (by simp[hl]) sg
   rintro k ⟨k1,k2⟩
   by_cases q2:k<i - 1
   .have a7:(k:Int)<((i - 1:Nat):Int):=om
    have ek:IntKind.i64.wrap ((k:Int)+1)=((k+1:Nat):Int):=by rw[i64_id om om];omega
    have ak:=fun K=>S.swap c [datB gl gs cl cs] (rotF f a (a+1) (k+1)) k (k+1) K om om om
    rw[wg7 f k1]at ak
    refine zA ?_
    simp[go_sem,e3,q2,hd,ek]
    refine ak _ ?_
    simp[go_sem,ek]
    exact zG (k+1) ⟨om,⟨om,om⟩,zW (by simp[hl]) sg⟩
   .have a7: ¬(k:Int)<((i - 1:Nat):Int):=om
    have hk:k+1=i:=om
    refine zA ?_
    simp[go_sem,e3,q2]
    refine xM σ0.length (C2 (hl _)) (hl _) (S.lt_ok _) (Da (hl f)) (zC rfl) ⟨rfl,_,rfl, ?_, ?_⟩
    .rw[hk]
     exact(Mv.rot f om om).mono (A4 _) om
    .rw[hk]
     rw[a6]at af hL
     refine xN7 af om om (fun x x1 x2=> .inl (hL x x1 x2)) (fun x x1 x2=> ?_)
     exact(TO.fore o (ae a x (A4 _) h1 om x2)).2 (hR x om x2)
 .have ar:(((m - a:Nat):Int)==1)=false:=by simp;omega
  refine zP (zA ?_)
  simp[go_sem,hl]
  refine zP (zA ?_)
  simp[go_sem,e1,ar]
  by_cases c2:b - m=1
  .have au:(((b - m:Nat):Int)==1)=true:=by simp;omega
   have a8:b=m+1:=om
   refine zA ?_
   simp[go_sem,e2,au]
   refine zH (S:=Nat×Nat) [1,2,3,4,12,13] (fun u=> [.int .i64 a,.int .i64 m,.int .i64 b,.ptr σ0.length 0,.int .i64 u.1,.int .i64 u.2]) (fun _=>lsF σ0 id s n row f++ [datB gl gs cl cs]) (fun u=>u.2 - u.1)
    (fun u=>a<=u.1/\u.1<=u.2/\u.2<=m/\(∀x,a<=x->x<u.1->lt (f m) (f x)=false)/\ ∀x,u.2<=x->x<m->lt (f m) (f x)=true) (hc.trans (hl f)) hb (a,m) ⟨A4 _,by show a<=m;omega,A4 _,fun x q1 q2=>om,fun x q1 q2=>om⟩ ?_ ?_
   .exact zW (by simp[hl]) sg
   rintro⟨i,j⟩ ⟨hi,ai,hj,hL,hR⟩
   simp only at hi ai hj hL hR
   by_cases q:i<j
   .obtain⟨h,hh⟩:=eX ((i+j)/2)
    have eh:=yz4 (i:=i) (j:=j) om
    rw[hh]at eh
    have ei:=zS (show h<j by omega) om
    have hle:=fun K=>S.less c [datB gl gs cl cs] f m h K om om om
    refine zA ?_
    simp[go_sem,q,hd,eh]
    refine hle _ ?_
    cases aa:lt (f m) (f h)with
    |false=>
     simp[go_sem,ei]
     exact zG (h+1,j) ⟨by show j - (h+1)<j - i;omega,⟨by show a<=h+1;omega,by show h+1<=j;omega,hj,fun x q1 q2=>by
      by_cases c2:x=h
      .rw[c2];exact aa
      .exact wb8 o (ag x h q1 (by have:x<h+1:=q2;omega) om) aa,hR⟩,zW (by simp[hl]) sg⟩
    |true=>
     simp[go_sem]
     exact zG (i,h) ⟨by show h - i<j - i;omega,⟨hi,by show i<=h;omega,by show h<=m;omega,hL,fun x q1 q2=>by
      by_cases c2:x=h
      .rw[c2];exact aa
      .exact wh0 o (ag h x om (by have:h<=x:=q1;omega) q2) aa⟩,zW (by simp[hl]) sg⟩
   .have aj:i=j:=om
    refine zA ?_
    simp[go_sem,q]
    refine zH (S:=Nat) [1,2,3,4,12,15] (fun k=> [.int .i64 a,.int .i64 m,.int .i64 b,.ptr σ0.length 0,.int .i64 i,.int .i64 k]) (fun k=>lsF σ0 id s n row (rotF f k m (m+1))++ [datB gl gs cl cs]) (fun k=>k)
     (fun k=>i<=k/\k<=m) (hc.trans (hl f)) hb m ⟨om,A4 _⟩ ?_ ?_
    .rw[yl8]
     exact zW (by simp[hl]) sg
    rintro k ⟨k1,k2⟩
    by_cases q2:i<k
    .have ek:IntKind.i64.wrap ((k:Int) - 1)=((k - 1:Nat):Int):=by rw[i64_id om om];omega
     have ak:=fun K=>S.swap c [datB gl gs cl cs] (rotF f k m (m+1)) k (k - 1) K om om om
     rw[xV0 f k2 om]at ak
     refine zA ?_
     simp[go_sem,q2,hd,ek]
     refine ak _ ?_
     simp[go_sem,ek]
     exact zG (k - 1) ⟨om,⟨om,om⟩,zW (by simp[hl]) sg⟩
    .have hk:k=i:=om
     refine zA ?_
     simp[go_sem,q2]
     refine xM σ0.length (C2 (hl _)) (hl _) (S.lt_ok _) (Da (hl f)) (zC rfl) ⟨rfl,_,rfl, ?_, ?_⟩
     .rw[hk]
      exact(Mv.rot f om om).mono hi om
     .rw[hk,a8]
      refine xe4 ag hi om (fun x x1 x2=> ?_) (fun x x1 x2=> .inl (hR x om x2))
      exact(TO.fore o (ae x m x1 om (A4 _) h2)).2 (hL x x1 x2)
  .have au:(((b - m:Nat):Int)==1)=false:=by simp;omega
   refine zP (zA ?_)
   simp[go_sem,e2,au]
   obtain⟨mid,aq⟩:=eX ((a+b)/2)
   have eh:=yz4 (i:=a) (j:=b) om
   rw[aq]at eh
   have en:IntKind.i64.wrap ((mid:Int)+m)=(mid:Int)+m:=i64_id om om
   refine zP (zA ?_)
   simp[go_sem,eh]
   refine zP (zA ?_)
   simp[go_sem,en]
   refine zP (zA ?_)
   simp[go_sem]
   obtain⟨lo,al⟩:=eX ((if mid<m then mid+m - b else a))
   obtain⟨hi,ah⟩:=eX ((if mid<m then mid else m))
   have aE:mid*2<=a+b/\a+b<=mid*2+1:=om
   have aA:a<=lo/\lo<=hi/\hi<=m/\hi<=mid/\mid+m<=lo+b:=by
    split at al<;>split at ah<;>omega
   obtain⟨l1,l2,l3,l4,l5⟩:=aA
   refine zg2 (S:=Unit) [1,2,3,4,16,17,18,19] (fun _=> [.int .i64 a,.int .i64 m,.int .i64 b,.ptr σ0.length 0,.int .i64 mid,.int .i64 ((mid:Int)+m),.int .i64 lo,.int .i64 hi]) (fun _=>lsF σ0 id s n row f++ [datB gl gs cl cs]) (fun _=>True) (hc.trans (hl f)) hb ?_ ?_
   .by_cases c3:mid<m
    .rw[if_pos c3]at al ah
     have e4:IntKind.i64.wrap ((mid:Int)+m - b)=(lo:Int):=by rw[i64_id om om];omega
     refine zA ?_
     simp[go_sem,c3,e4]
     exact zG () ⟨tV,zW (by simp[hl]) (by simp[go_sem,ah])⟩
    .rw[if_neg c3]at al ah
     refine zA ?_
     simp[go_sem,c3]
     exact zG () ⟨tV,zW (by simp[hl]) (by simp[go_sem,al,ah])⟩
   rintro _ _
   obtain⟨p,hp⟩:=eX (mid+m - 1)
   have e5:IntKind.i64.wrap ((mid:Int)+m - 1)=(p:Int):=by rw[i64_id om om];omega
   refine zP (zA ?_)
   simp[go_sem,e5]
   refine zP (zA ?_)
   simp[go_sem]
   refine zH (S:=Nat×Nat) [1,2,3,4,16,17,18,19,20] (fun u=> [.int .i64 a,.int .i64 m,.int .i64 b,.ptr σ0.length 0,.int .i64 mid,.int .i64 ((mid:Int)+m),.int .i64 u.1,.int .i64 u.2,.int .i64 p]) (fun _=>lsF σ0 id s n row f++ [datB gl gs cl cs]) (fun u=>u.2 - u.1)
    (fun u=>lo<=u.1/\u.1<=u.2/\u.2<=hi/\(∀x,lo<=x->x<u.1->TO lt (f x) (f (p - x)))/\ ∀x,u.2<=x->x<hi->TO lt (f (p - x)) (f x)) (hc.trans (hl f)) hb (lo,hi) ⟨A4 _,l2,A4 _,fun x q1 q2=>om,fun x q1 q2=>om⟩ ?_ ?_
   .exact zW (by simp[hl]) sg
   rintro⟨i,j⟩ ⟨av,ai,hj,hL,hR⟩
   simp only at av ai hj hL hR
   by_cases q:i<j
   .obtain⟨h,hh⟩:=eX ((i+j)/2)
    have eh:=yz4 (i:=i) (j:=j) om
    rw[hh]at eh
    have ei:=zS (show h<j by omega) om
    have e6:IntKind.i64.wrap ((p:Int) - h)=((p - h:Nat):Int):=by rw[i64_id om om];omega
    have hle:=fun K=>S.less c [datB gl gs cl cs] f (p - h) h K om om om
    refine zA ?_
    simp[go_sem,q,hd,eh,e6]
    refine hle _ ?_
    cases aa:lt (f (p - h)) (f h)with
    |false=>
     simp[go_sem,ei]
     exact zG (h+1,j) ⟨by show j - (h+1)<j - i;omega,⟨by show lo<=h+1;omega,by show h+1<=j;omega,hj,fun x q1 q2=>by
      have q2:x<h+1:=q2
      have t1:TO lt (f h) (f (p - h)):=(TO.fore o (ae h (p - h) om om om om)).2 aa
      by_cases c2:x=h
      .rw[c2];exact t1
      .exact((ag x h om om om).trans o t1).trans o (af (p - h) (p - x) om om om),hR⟩,zW (by simp[hl]) sg⟩
    |true=>
     simp[go_sem]
     exact zG (i,h) ⟨by show h - i<j - i;omega,⟨av,by show i<=h;omega,by show h<=hi;omega,hL,fun x q1 q2=>by
      have q1:h<=x:=q1
      by_cases c2:x=h
      .rw[c2];exact .inl aa
      .exact((af (p - x) (p - h) om om om).trans o (.inl aa)).trans o (ag h x om om om)⟩,zW (by simp[hl]) sg⟩
   .have aj:i=j:=om
    subst aj
    obtain⟨e,he⟩:=eX (mid+m - i)
    have e7:IntKind.i64.wrap ((mid:Int)+m - i)=(e:Int):=by rw[i64_id om om];omega
    obtain⟨⟨r1,r2,r3,r4,r5,r6,r7⟩,ao,t1,t2,t3,t4⟩:=xn6 o (f:=f) (lo:=lo) (hi:=hi) (s:=i) (e:=e) h1 h2 aq.symm ag af al.symm ah.symm av hj he.symm (fun x q1 q2=>by rw[hp];exact hL x q1 q2) (fun x q1 q2=>by rw[hp];exact hR x q1 q2)
    have aB:=ae.rot_l r3 r4 r6 r7
    have aC:=ae.rot_r r1 r3 r4 r7
    have aD:Mv f (rotF f i m e) a b:=(Mv.rot f r3 r4).mono r1 r6
    have an: ¬(i<m/\m<e)->rotF f i m e=f:=fun hn=>by
     rcases C1 i m with c|c
     .have:e=m:=om
      rw[this];exact yN4 f i m
     .have:i=m:=om
      rw[this];exact yl8 f m e
    have ax:=fun c1 c2=>xE1 S f i m e c1 c2 om
    generalize rotF f i m e=g0 at*
    refine zA ?_
    simp[go_sem]
    refine zP (zA ?_)
    simp[go_sem,e7]
    refine zg2 (S:=Unit) [1,2,3,4,16,18,22] (fun _=> [.int .i64 a,.int .i64 m,.int .i64 b,.ptr σ0.length 0,.int .i64 mid,.int .i64 i,.int .i64 e]) (fun _=>lsF σ0 id s n row g0++ [datB gl gs cl cs]) (fun _=>True) (hc.trans (hl f)) hb ?_ ?_
    .by_cases k1:i<m
     .by_cases k2:m<e
      .have ab:=ax k1 k2
       refine zA ?_
       simp[go_sem,k1,k2,hd]
       refine S.call ab cB rfl ?_
       rintro g' rfl
       simp[go_sem]
       exact zG () ⟨tV,zW (by simp[hl]) sg⟩
      .rw[an fun h=>k2 h.2]
       refine zA ?_
       simp[go_sem,k1,k2]
       exact zG () ⟨tV,zW (by simp[hl]) sg⟩
     .rw[an fun h=>k1 h.1]
      refine zA ?_
      simp[go_sem,k1]
      exact zG () ⟨tV,zW (by simp[hl]) sg⟩
    rintro _ _
    clear ax an hL hR
    refine zg2 (S:=Nat->Nat) [1,2,3,4,16,22] (fun _=> [.int .i64 a,.int .i64 m,.int .i64 b,.ptr σ0.length 0,.int .i64 mid,.int .i64 e]) (fun g=>lsF σ0 id s n row g++ [datB gl gs cl cs]) (fun g=>Mrg lt g0 g a mid) (hc.trans (hl f)) hb ?_ ?_
    .by_cases k1:a<i
     .by_cases k2:i<mid
      .have ab:=ih g0 a i mid om k1 k2 om t1 t2 aB
       refine zA ?_
       simp[go_sem,k1,k2,hd]
       refine S.call ab cB rfl ?_
       rintro g' aw
       simp[go_sem]
       exact zG g' ⟨aw,zW (by simp[hl]) sg⟩
      .have hq:Srt lt g0 a mid:=by rw[show mid=i by omega];exact t1
       refine zA ?_
       simp[go_sem,k1,k2]
       exact zG g0 ⟨Mrg.id hq,zW (by simp[hl]) sg⟩
     .have hq:Srt lt g0 a mid:=by rw[show a=i by omega];exact t2
      refine zA ?_
      simp[go_sem,k1]
      exact zG g0 ⟨Mrg.id hq,zW (by simp[hl]) sg⟩
    rintro ad q1
    have same: ∀k,mid<=k->ad k=g0 k:=fun k hk=>q1.1.out (.inr hk)
    have ay:Srt lt ad mid e:=fun x y x1 x2 x3=>by rw[same x x1,same y om];exact t3 x y x1 x2 x3
    have az:Srt lt ad e b:=fun x y x1 x2 x3=>by rw[same x om,same y om];exact t4 x y x1 x2 x3
    have a1:Grp ad mid e b:=fun x y x1 x2 x3 x4=>by rw[same x x1,same y om];exact aC x y x1 x2 x3 x4
    have fin: ∀g2,Mrg lt ad g2 mid b->Mrg lt f g2 a b:=fun g2 q2=>Mrg.both aD ao ⟨om,om⟩ q1 q2
    by_cases k1:mid<e
    .by_cases k2:e<b
     .have ab:=ih ad mid e b om k1 k2 om ay az a1
      refine zA ?_
      simp[go_sem,k1,k2,hd]
      refine S.call ab cB rfl ?_
      rintro g' aw
      simp[go_sem]
      exact xM σ0.length (C2 (hl _)) (hl _) (S.lt_ok _) (Da (hl f)) (zC rfl) ⟨rfl,_,rfl,fin g' aw⟩
     .have hq:Srt lt ad mid b:=by rw[show b=e by omega];exact ay
      refine zA ?_
      simp[go_sem,k1,k2]
      exact xM σ0.length (C2 (hl _)) (hl _) (S.lt_ok _) (Da (hl f)) (zC rfl) ⟨rfl,_,rfl,fin ad (Mrg.id hq)⟩
    .have hq:Srt lt ad mid b:=by rw[show mid=e by omega];exact az
     refine zA ?_
     simp[go_sem,k1]
     exact xM σ0.length (C2 (hl _)) (hl _) (S.lt_ok _) (Da (hl f)) (zC rfl) ⟨rfl,_,rfl,fin ad (Mrg.id hq)⟩
theorem zP9 (S:SC prog gl gs cl cs σ0 id s n row lt) (o:Ord lt): ∀(d:Nat) (f:Nat->Nat) (a m b:Nat),b - a<d->a<m->m<b->b<=n->Srt lt f a m->Srt lt f m b->Grp f a m b->
  VCalls prog 302 [.agg [.fn gl cl,.fn gs cs],.int .i64 a,.int .i64 m,.int .i64 b] (lsF σ0 id s n row f) (fun r t=>r= .tup []/\ ∃g,t=lsF σ0 id s n row g/\Mrg lt f g a b)
 |0,_,_,_,_,h,_,_,_,_,_,_=>absurd h (Dn _)
 |d+1,f,a,m,b,h,h1,h2,h3,aa,ab,hg=>yq4 S o f a m b h1 h2 h3 aa ab hg fun f' a' m' b' h' q1 q2 q3 q4 q5 q6=>zP9 S o d f' a' m' b' om q1 q2 q3 q4 q5 q6
end
section
variable {gl gs:FuncId} {cl cs:List V} {σ0:St} {id s n:Nat} {row:Nat->List V} {lt:Nat->Nat->Bool}
theorem xF3 (S:SC prog gl gs cl cs σ0 id s n row lt) (o:Ord lt):
  VCalls prog 234 [.agg [.fn gl cl,.fn gs cs],.int .i64 n] (lsF σ0 id s n row fun k=>k) (fun r t=>r= .tup []/\ ∃g,t=lsF σ0 id s n row g/\Mrg lt (fun k=>k) g 0 n):=by
 have hn:=S.nn
 refine VCalls.introV (lsF σ0 id s n row fun k=>k).length func234 ntmps234 results234 rfl rfl (Ca rfl) fun c hc hb=> ?_
 have hl: ∀g,(lsF σ0 id s n row g).length=σ0.length:=fun g=>zz1 ..
 have hd:=yA2 (σ0:=σ0) (id:=id) (s:=s) (n:=n) (row:=row) (gl:=gl) (gs:=gs) (cl:=cl) (cs:=cs)
 refine zP (zA ?_)
 simp[go_sem,hl]
 refine zP (zA ?_)
 simp[go_sem]
 refine zP (zA ?_)
 simp[go_sem]
 refine zP (zA ?_)
 simp[go_sem]
 refine zH (S:=Nat×Nat×(Nat->Nat)) [1,2,4,5,6] (fun u=> [.int .i64 n,.ptr σ0.length 0,.int .i64 20,.int .i64 u.2.1,.int .i64 ((u.2.1+20:Nat):Int)]) (fun u=>lsF σ0 id s n row u.2.2++ [datB gl gs cl cs]) (fun u=>n - u.2.1)
  (fun u=>u.2.1=u.1*20/\u.2.1<=n/\(∀q,q<u.1->Blk lt u.2.2 (q*20) (q*20+20))/\(∀k,u.2.1<=k->u.2.2 k=k)/\Mv (fun k=>k) u.2.2 0 n) (hc.trans (hl _)) hb (0,0,fun k=>k) ⟨rfl,A3 _,fun q hq=>absurd hq (Dn _),fun _ _=>rfl,Mv.refl _ _ _⟩ ?_ ?_
 .exact zW (by simp[hl]) sg
 rintro⟨t,A,g⟩ ⟨hA,af,ah,hid,ab⟩
 simp only at hA af ah hid ab
 have ag: ∀b,∀x y,A<=x->x<y->y<b->g x<g y:=fun b x y x1 x2 x3=>by rw[hid x x1,hid y om];exact x2
 by_cases q:A+20<=n
 .have q':(A:Int)+20<=n:=om
  have e1:IntKind.i64.wrap ((A:Int)+20+20)=(A:Int)+20+20:=i64_id om om
  have aa:=zZ6 S o g A (A+20) om q (ag _)
  refine zA ?_
  simp[go_sem,q',hd]
  refine S.call aa cB rfl ?_
  rintro g' ad
  rw[hA]at ad
  rw[hA]at hid
  obtain⟨f1,f2⟩:=xk0 ah hid ad
  simp[go_sem,e1]
  exact zG (t+1,A+20,g') ⟨by show n - (A+20)<n - A;omega,⟨by show A+20=(t+1)*20;omega,q,f1,fun k hk=>f2 k (by have:A+20<=k:=hk;omega),ab.trans (ad.1.mono (A3 _) om)⟩,zW (by simp[hl]) sg⟩
 .have q': ¬(A:Int)+20<=n:=om
  have aa:=zZ6 S o g A n af (A4 _) (ag _)
  refine zA ?_
  simp[go_sem,q']
  refine zP (zA ?_)
  simp[go_sem,hd]
  refine S.call aa cB rfl ?_
  rintro g' ad
  rw[hA]at ad hid
  have hB:=yS0 ah hid om om ad
  have ai:=ab.trans (ad.1.mono (A3 _) (A4 _))
  clear aa ad ag hid ah ab
  simp[go_sem]
  refine zA ?_
  simp[go_sem]
  refine zH (S:=Nat×(Nat->Nat)) [1,2,4] (fun u=> [.int .i64 n,.ptr σ0.length 0,.int .i64 u.1]) (fun u=>lsF σ0 id s n row u.2++ [datB gl gs cl cs]) (fun u=>n - u.1)
   (fun u=>20<=u.1/\u.1<=2000020/\Blks lt u.2 u.1 n/\Mv (fun k=>k) u.2 0 n) (hc.trans (hl _)) hb (20,g') ⟨A4 _,by show 20<=2000020;omega,hB,ai⟩ ?_ ?_
  .exact zW (by simp[hl]) sg
  clear hB ai q q' hA af g' g t A
  rintro⟨w,g⟩ ⟨hw,ak,hB,ab⟩
  simp only at hw ak hB ab
  by_cases q:w<n
  rotate_left
  .refine zA ?_
   simp[go_sem,q]
   exact xM σ0.length (C2 (hl _)) (hl _) (S.lt_ok _) (Da (hl _)) (zC rfl) ⟨rfl,g,rfl,ab,(hB.all om).2⟩
  have e2:IntKind.i64.wrap (2*(w:Int))=2*(w:Int):=i64_id om om
  have e3:IntKind.i64.wrap ((w:Int)*2)=(w:Int)*2:=i64_id om om
  refine zA ?_
  simp[go_sem,q,e2]
  refine zH (S:=Nat×Nat×(Nat->Nat)) [1,2,4,5,6] (fun u=> [.int .i64 n,.ptr σ0.length 0,.int .i64 w,.int .i64 u.2.1,.int .i64 ((u.2.1+2*w:Nat):Int)]) (fun u=>lsF σ0 id s n row u.2.2++ [datB gl gs cl cs]) (fun u=>n - u.2.1)
   (fun u=>u.2.1=u.1*(2*w)/\u.2.1<=n/\BlkM lt u.2.2 w n u.1/\Mv (fun k=>k) u.2.2 0 n) (hc.trans (hl _)) hb (0,0,g) ⟨sM,A3 _,BlkM.start hB,ab⟩ ?_ ?_
  .exact zW (by simp[hl]) sg
  clear hB ab g
  rintro⟨t,A,g⟩ ⟨hA,af,hM,ab⟩
  simp only at hA af hM ab
  have e4:IntKind.i64.wrap ((A:Int)+w)=(A:Int)+w:=i64_id om om
  by_cases p:A+2*w<=n
  .have p':(A:Int)+2*w<=n:=om
   have e5:IntKind.i64.wrap ((A:Int)+2*w+2*w)=(A:Int)+2*w+2*w:=i64_id om om
   have ae:=hM.pair om (by rw[<-hA];omega)
   rw[<-hA,Dm p]at ae
   have aa:=zP9 S o (2*w+1) g A (A+w) (A+2*w) om om om p ae.1.2 ae.2.2 (ae.1.grp ae.2)
   refine zA ?_
   simp[go_sem,p',hd,e4]
   refine S.call aa cB rfl ?_
   rintro g' ad
   have hN:=hM.next om (by rw[<-hA];exact p) (hA▸ad)
   have em:(t+1)*(2*w)=t*(2*w)+2*w:=by rw[B2,D8]
   simp[go_sem,e2,e5]
   exact zG (t+1,A+2*w,g') ⟨by show n - (A+2*w)<n - A;omega,⟨by show A+2*w=(t+1)*(2*w);rw[em,hA],p,hN,ab.trans (ad.1.mono (A3 _) p)⟩,zW (by simp[hl]) sg⟩
  .have p': ¬(A:Int)+2*w<=n:=om
   by_cases p2:A+w<n
   .have aj:(A:Int)+w<n:=om
    have ae:=hM.pair om (by rw[<-hA];exact p2)
    rw[<-hA,Nat.min_eq_right om]at ae
    have aa:=zP9 S o (2*w+1) g A (A+w) n om om p2 (A4 _) ae.1.2 ae.2.2 (ae.1.grp ae.2)
    refine zA ?_
    simp[go_sem,p',aj,hd,e4]
    refine S.call aa cB rfl ?_
    rintro g' ad
    have hN:=hM.last om (by rw[<-hA];exact p2) (by rw[<-hA];omega) (hA▸ad)
    simp[go_sem,e3]
    exact zG (w*2,g') ⟨by show n - w*2<n - w;omega,⟨by show 20<=w*2;omega,by show w*2<=2000020;omega,by show Blks lt g' (w*2) n;rw[Du];exact hN,ab.trans (ad.1.mono (A3 _) (A4 _))⟩,zW (by simp[hl]) sg⟩
   .have aj: ¬(A:Int)+w<n:=om
    have hN:=hM.none (by rw[<-hA];exact af) (by rw[<-hA];omega)
    refine zA ?_
    simp[go_sem,p',aj,e4,e3]
    exact zG (w*2,g) ⟨by show n - w*2<n - w;omega,⟨by show 20<=w*2;omega,by show w*2<=2000020;omega,by show Blks lt g (w*2) n;rw[Du];exact hN,ab⟩,zW (by simp[hl]) sg⟩
end
end Go.Proofs.YtefbicjgbaaieaaGreat
namespace Go.Proofs.YtefbicjgbaaieaaGreat
open Go Go.Vx R Go.Proofs.Tryz
set_option maxRecDepth 100000
variable {α:Type}{l:List Ln}{b:Mp (List UInt8)}{n:Nat}
def insG (gt:α->Bool) (out:List α) (x:α):List α:=(out.reverse.dropWhile gt).reverse++x::(out.reverse.takeWhile gt).reverse
theorem yt0 (gt:α->Bool) (out:List α) (x:α):(insG gt out x).Perm (x::out):=by
 unfold insG
 refine Di.trans (List.Perm.cons _ ?_)
 rw[<-List.reverse_append,Ch,List.reverse_reverse]
theorem xy7 {β:Type} (h:α->β) (gt:β->Bool) (out:List α) (x:α):(insG (fun y=>gt (h y)) out x).map h=insG gt (out.map h) (h x):=by
 unfold insG
 rw[Co,Ai,List.map_reverse,List.map_reverse,<-List.map_reverse (l:=out),List.dropWhile_map,List.takeWhile_map]
 rfl
theorem yJ3 {lt:Nat->Nat->Bool} (o:Ord lt) {out:List Nat} {x:Nat} (hs:out.Pairwise (TO lt)) (hx: ∀y∈out,y<x):(insG (fun y=>lt x y) out x).Pairwise (TO lt):=by
 have hl:out=(out.reverse.dropWhile (fun y=>lt x y)).reverse++(out.reverse.takeWhile (fun y=>lt x y)).reverse:=by
  grind[Ch]
 have ab: ∀y∈out.reverse.takeWhile (fun y=>lt x y),lt x y=true:=by
  intro y hy
  exact Aj.1 List.all_takeWhile y hy
 have ad: ∀y∈out.reverse.dropWhile (fun y=>lt x y),lt x y=false:=by
  cases hd:out.reverse.dropWhile (fun y=>lt x y)with
  |nil=>simp
  |cons z d=>
   have hz:lt x z=false:=by
    have:=List.head?_dropWhile_not (fun y=>lt x y) out.reverse
    grind
   intro y hy
   rcases Af.1 hy with rfl|hy
   .exact hz
   .have hp:(out.reverse).Pairwise (fun a b=>TO lt b a):=(by grind)
    have aa:(z::d).Pairwise (fun a b=>TO lt b a):=(by grind)
    have h3:=(Bv.1 aa).1 y hy
    cases q:lt x y with
    |false=>rfl
    |true=>
     rcases h3 with h3|⟨h3,_⟩
     .rw[o.tr _ _ _ q h3]at hz;cases hz
     .have:=o.nt _ _ _ hz h3;grind
 unfold insG
 rw[hl,Cv]at hs
 have ae: ∀y∈out.reverse.dropWhile (fun y=>lt x y),y∈out:=(by grind)
 rw[Cv,Bv]
 refine⟨hs.1,⟨fun y hy=> .inl (by grind),hs.2.1⟩,fun y hy z hz=> ?_⟩
 rcases Af.1 hz with rfl|hz
 .exact .inr (by grind)
 grind
def zC4 (lt:Nat->Nat->Bool) (n:Nat):List Nat:=(List.range n).foldl (fun out x=>insG (fun y=>lt x y) out x) []
theorem yP1 {lt:Nat->Nat->Bool} (o:Ord lt): ∀n,(zC4 lt n).Perm (List.range n)/\(zC4 lt n).Pairwise (TO lt)
 |0=>⟨List.Perm.nil,List.Pairwise.nil⟩
 |n+1=>by
  obtain⟨h1,h2⟩:=yP1 o n
  have e:zC4 lt (n+1)=insG (fun y=>lt n y) (zC4 lt n) n:=by
   unfold zC4;rw[List.range_succ,Df];rfl
  rw[e]
  refine⟨(yt0 _ _ _).trans ?_,yJ3 o h2 fun y hy=>Ci.1 (h1.mem_iff.1 hy)⟩
  grind
theorem xq4 {lt:Nat->Nat->Bool} (o:Ord lt) {f:Nat->Nat} (hm:Mv id f 0 n) (hs:Srt lt f 0 n):(List.range n).map f=zC4 lt n:=by
 obtain⟨hp,hq⟩:=yP1 o n
 obtain⟨π,p1,p2,p3,p4⟩:=hm
 have hf: ∀k,f k=π k:=p4
 have ad:((List.range n).map f).Nodup:=by
  grind[Br]
 have aa:((List.range n).map f).Perm (List.range n):=by
  rw[List.perm_ext_iff_of_nodup ad Br]
  have ab: ∀y∈(List.range n).map f,y∈List.range n:=(by grind)
  intro y
  refine⟨ab y,fun hy=>C5 fun hn=> ?_⟩
  have h1:(y::(List.range n).map f).Nodup:=(by grind)
  have:=h1.length_le_of_subset (l₂:=List.range n) (by grind)
  grind
 have ae:((List.range n).map f).Pairwise (TO lt):=by
  rw[C0]
  have:=List.pairwise_lt_range (n:=n)
  refine List.Pairwise.imp_of_mem (fun{a b} ha hb af=> ?_) this
  exact hs a b om af (by grind)
 exact(aa.trans hp.symm).eq_of_pairwise (fun a b _ _ h1 h2=>absurd (h1.trans o h2) (fun h=>h.irr o)) ae hq
theorem yT4 (gt:α->α->Bool) (l:List α) (d:α):l.foldl (fun out x=>insG (fun y=>gt x y) out x) []=(zC4 (fun i j=>gt (l.getD i d) (l.getD j d)) l.length).map fun i=>l.getD i d:=by
 have key: ∀n,n<=l.length->(l.take n).foldl (fun out x=>insG (fun y=>gt x y) out x) []=(zC4 (fun i j=>gt (l.getD i d) (l.getD j d)) n).map fun i=>l.getD i d:=by
  intro n
  induction n with
  |zero=>grind[zC4]
  |succ n ih=>
   intro h
   have hn:n<l.length:=h
   rw[By hn,Df,ih om]
   have e:zC4 (fun i j=>gt (l.getD i d) (l.getD j d)) (n+1)=insG (fun y=>gt (l.getD n d) (l.getD y d)) (zC4 (fun i j=>gt (l.getD i d) (l.getD j d)) n) n:=by
    unfold zC4;rw[List.range_succ,Df];rfl
   rw[e,xy7 (fun i=>l.getD i d) (fun y=>gt (l.getD n d) y)]
   grind
 grind
def LTv (a b:GValue):Prop:=a.kind<b.kind∨a.kind=b.kind/\(a.n<b.n∨a.n=b.n/\Op.bytesLess a.s b.s=true)
theorem we1 {a b:List UInt8} (h:Op.bytesLess a b=true):Op.bytesLess b a=false:=by
 cases q:Op.bytesLess b a
 .rfl
 grind[zv3,zm4]
theorem yy0 (a b:GValue):(cmpV a b<0↔LTv a b)/\(0<cmpV a b↔LTv b a):=by
 grind[cmpV,LTv,orL,cmpI,cmpS,we1]
theorem LTv.irr (a:GValue): ¬LTv a a:=by
 intro h
 rcases h with h|⟨_,h|⟨_,h⟩⟩
 all_goals grind[zm4]
theorem LTv.trans {a b c:GValue} (h:LTv a b) (g:LTv b c):LTv a c:=by
 rcases h with h|⟨h,h|⟨h',h⟩⟩<;>rcases g with g|⟨g,g|⟨g',g⟩⟩
 .exact .inl om
 .exact .inl om
 .exact .inl om
 .exact .inl om
 .exact .inr om
 .exact .inr om
 .exact .inl om
 .exact .inr om
 .exact .inr (by grind[zv3])
theorem LTv.some {a c:GValue} (b:GValue) (h:LTv a c):LTv a b∨LTv b c:=by
 rcases Int.lt_trichotomy a.kind b.kind with k|k|k
 .exact .inl (.inl k)
 .rcases h with h|⟨h,h⟩
  .exact .inr (.inl om)
  .rcases Int.lt_trichotomy a.n b.n with m|m|m
   .exact .inl (.inr om)
   .rcases h with h|⟨h',h⟩
    .exact .inr (.inr om)
    .rcases zH3 a.s b.s with f|f|f
     .exact .inl (.inr (by grind))
     .exact .inr (.inr (by grind))
     .exact .inr (.inr (by grind[zv3]))
   .rcases h with h|⟨h',h⟩
    .exact .inr (.inr om)
    .exact .inr (.inr om)
 .rcases h with h|⟨h,_⟩
  .exact .inr (.inl om)
  .exact .inr (.inl om)
def ltR (d:Ln) (c:Nat) (down:Bool) (l:List Ln) (i j:Nat):Bool:=decide (0<cmpC c down (l.getD j d) (l.getD i d))
theorem yU8 (d:Ln) (c:Nat) (down:Bool) (l:List Ln) (i j:Nat):ltR d c down l i j=true↔if down=true then LTv ((l.getD j d).v.getD c zeroV) ((l.getD i d).v.getD c zeroV)else LTv ((l.getD i d).v.getD c zeroV) ((l.getD j d).v.getD c zeroV):=by
 unfold ltR cmpC
 rw[decide_eq_true_eq]
 cases down<;>simp[yy0]
theorem xe0 (d:Ln) (c:Nat) (down:Bool) (l:List Ln):Ord (ltR d c down l):=by
 refine⟨fun i=> ?_,fun i j k h g=> ?_,fun i j k h g=> ?_⟩
 .cases q:ltR d c down l i i with
  |false=>rfl
  |true=>
   grind[yU8,LTv.irr]
 .rw[yU8]at h g⊢
  split at h
  .rename_i e0
   rw[if_pos e0]at g⊢
   exact g.trans h
  .rename_i e0
   rw[if_neg e0]at g⊢
   exact h.trans g
 .cases q:ltR d c down l i k with
  |false=>rfl
  |true=>
   exfalso
   have h': ¬ltR d c down l i j=true:=by grind
   have g': ¬ltR d c down l j k=true:=by grind
   rw[yU8]at h' g' q
   split at q
   .rename_i e0
    rw[if_pos e0]at h' g'
    exact(q.some ((l.getD j d).v.getD c zeroV)).elim g' h'
   .rename_i e0
    rw[if_neg e0]at h' g'
    exact(q.some ((l.getD j d).v.getD c zeroV)).elim h' g'
theorem xF2 (d:Ln) (c:Nat) (down:Bool) (l:List Ln):zo2 c down l=(zC4 (ltR d c down l) l.length).map fun i=>l.getD i d:=yT4 (fun x y=>decide (0<cmpC c down y x)) l d
theorem yY0 {d:Ln} {c:Nat} {down:Bool} {f:Nat->Nat} (hm:Mv id f 0 l.length) (hs:Srt (ltR d c down l) f 0 l.length):((List.range l.length).map fun k=>l.getD (f k) d)=zo2 c down l:=by
 rw[xF2 d,<-xq4 (by grind[xe0]) hm hs,Bh]
 rfl
def chS (T:GTable) (st:GStmt) (c:Int) (rows:List (List V)) (n:Nat):St:= [.lst rows 3,.box T.row,.box st.row,.box [.lsv 0 3 n 0 n],.box out0,.box [.int .i64 c]]
theorem zH4 (T:GTable) (st:GStmt) (c:Int) (l:List Ln) (n:Nat):(chS T st c (l.map Ln.row) n).all (ltOb 6)=true:=by simp[chS,out0,ltOb,ltC,ltK,Ln.row,GTable.row,GStmt.row]
theorem zE2 {l:List α} {i:Nat} (h:i<l.length) (d:α):l.getD i d=l[i]:=by rw[A8,A0 h];rfl
theorem xY8 (d:Ln) (T:GTable) (st:GStmt) (aa:Nat) (_hc0:aa<=10000) (l:List Ln) (ad: ∀x∈l,aa<x.v.length) (i j:Nat) (hi:i<l.length) (hj:j<l.length):
  VCalls prog 158 [.int .i64 i,.int .i64 j,.ptr 3 0,.ptr 5 0,.ptr 2 0] (chS T st aa (l.map Ln.row) l.length) (fun r s=>r= .bool (ltR d aa st.down l i j)/\s=chS T st aa (l.map Ln.row) l.length):=by
 obtain⟨x,hx⟩:=eX (l[i])
 obtain⟨y,hy⟩:=eX (l[j])
 have ae:=ad x (hx▸Ab hi)
 have af:=ad y (hy▸Ab hj)
 obtain⟨v,hv⟩:=eX (x.v[aa])
 obtain⟨u,hu⟩:=eX (y.v[aa])
 have ab:=yr1 v u
 obtain⟨a1,a2,a3,a4,a5,a6,a7,a8,dn,a9⟩:=st
 have hM:ltR d aa dn l i j=(if dn=true then decide (0<cmpV v u)else decide (cmpV v u<0)):=by
  unfold ltR cmpC
  rw[zE2 hi,zE2 hj,hx,hy,zE2 ae,zE2 af,hv,hu]
  obtain⟨h1,h2⟩:=yy0 v u
  obtain⟨h3,h4⟩:=yy0 u v
  split
  .rw[decide_eq_decide]
   exact⟨fun h=>h2.2 (h3.1 om),fun h=>by have:=h3.2 (h2.1 h);omega⟩
  .rw[decide_eq_decide]
   exact⟨fun h=>h1.2 (h4.1 h),fun h=>h4.2 (h1.1 h)⟩
 show VCalls _ _ _ _ (fun r s=>r= .bool (ltR d aa dn l i j)/\_)
 rw[hM]
 clear hM
 generalize cmpV v u=k at ab
 have hok:=zH4 T ⟨a1,a2,a3,a4,a5,a6,a7,a8,dn,a9⟩ aa l l.length
 generalize hB:(if dn=true then decide (0<k)else decide (k<0))=B
 have ret: ∀(r:Bool) (σl:St),r=B->wret (some (.bool r)) 6 (fun r s=>r= .bool B/\s=chS T ⟨a1,a2,a3,a4,a5,a6,a7,a8,dn,a9⟩ aa (l.map Ln.row) l.length) (chS T ⟨a1,a2,a3,a4,a5,a6,a7,a8,dn,a9⟩ aa (l.map Ln.row) l.length++σl):=fun r σl h=>by
  subst h
  exact xM 6 (C2 rfl) rfl hok (A4 _) (zC rfl) ⟨rfl,rfl⟩
 clear hok ad
 have hk:=Int.lt_trichotomy k 0
 cases dn<;>(
  refine iV 6 func158 ntmps158 results158 fun c hc hb=> ?_
  refine zA ?_
  simp[go_sem,chS]
  refine xA [(16,0)] 6 rfl kR kR ?_
  simp[go_sem,hi,hj,hx,hy,ae,af,hv,hu]
  refine pD ab ?_
  simp[go_sem]
  rcases hk with q|q|q
  .have q2: ¬0<k:=om
   simp[go_sem,q,q2]
   exact ret _ _ (by rw[<-hB];simp[q,q2])
  .subst q
   simp[go_sem]
   exact ret _ _ (by rw[<-hB];simp)
  .have q2: ¬k<0:=om
   simp[go_sem,q,q2]
   exact ret _ _ (by rw[<-hB];simp[q,q2]))
theorem yL3:(Tryz.prog.info? 200).map (fun i=>(i.size,i.hasPointers,i.bytes))=some (3,true,48):=kR
theorem xn9:(Tryz.prog.info? 195).map (fun i=>i.desc)=some (.slice 200):=kR
theorem xA6 (w:World):(Extern.Rtype.kind 200).run prog w= .ok 25 w:=kR
theorem xQ8 {ie:TypeInfo} (hn:2<=n) (h1:ie.hasPointers=true) (h2:ie.bytes=48):Lib.swapperK n ie 25=9:=by
 unfold Lib.swapperK
 have e1:(n==0)=false:=by simp;omega
 have e2:(n==1)=false:=by simp;omega
 rw[e1,e2,h1,h2]
 rfl
theorem wg8 (args:Array Value) (w:World):(callFunc 300 args).run prog w=((Extern.ReflectliteSwapper.swap false args).run prog w).andThen fun v w'=> .ok (.value v) w':=
 run_callFunc_extern func300 kR kR kR (e:=Extern.ReflectliteSwapper.swap false) kR args w
def lnD (col:Nat):Ln:=⟨0,[],List.replicate (col+1) zeroV⟩
noncomputable def ssS (T:GTable) (st:GStmt) (col:Int) (rows:List (List V)) (n:Nat):St:=chS T st col rows n++ [.box [.lsv 0 3 n 0 n],.box [.raw (typeHandle prog 195),.ptr 6 0,.int .u64 151]]
noncomputable def ssC (n:Nat):List V:=if n<=1 then []else [.lsv 0 3 n 0 n,.raw (typeHandle prog 200)]
theorem xU5 {T:GTable} {st:GStmt} {aa:Nat} (f:Nat->Nat):lsF (ssS T st aa (l.map Ln.row) l.length) 0 3 l.length (fun k=>(l.getD k (lnD aa)).row) f=ssS T st aa (((List.range l.length).map fun k=>l.getD (f k) (lnD aa)).map Ln.row) l.length:=by
 unfold lsF ssS chS
 rw[Bh]
 rfl
theorem xQ2 {d:Ln} (f:Nat->Nat):((List.range l.length).map fun k=>l.getD (f k) d).length=l.length:=sM
theorem wd6 (G:FuncId) (T:GTable) (st:GStmt) (aa:Nat) (ag:aa<=10000) (l:List Ln) (hl:l.length<=10000) (ah: ∀x∈l,aa<x.v.length) (hG:2<=l.length->G=300):
  SC prog 158 G [.ptr 3 0,.ptr 5 0,.ptr 2 0] (ssC l.length) (ssS T st aa (l.map Ln.row) l.length) 0 3 l.length (fun k=>(l.getD k (lnD aa)).row) (ltR (lnD aa) aa st.down l):=by
 have ae: ∀k,aa<(l.getD k (lnD aa)).v.length:=fun k=>by
  by_cases q:k<l.length
  .rw[zE2 q];exact ah _ (Ab q)
  .rw[A8,D6 om];simp[lnD]
 have ao: ∀rows n,(chS T st aa rows n).length=6:=fun _ _=>rfl
 refine⟨by simp[ssS,chS],om,rfl, ?_, ?_,fun k=> ?_,fun c τ f i j K hi hj ai hk=> ?_,fun c τ f i j K hi hj ai hk=> ?_⟩
 .unfold ssC
  split
  .rfl
  .simp[ssS,chS,ltK]
 .have h:=zH4 T st aa l l.length
  unfold ssS
  rw[E8,A1]
  refine⟨?_,by simp[chS,ltOb,ltC,ltK]⟩
  rw[Aj]at h⊢
  exact fun o ho=>yt8 (by simp[chS]) (h o ho)
 .simp[Ln.row,ltC,ltK]
 .rw[xU5]at hk⊢
  obtain⟨l',ab⟩: ∃l',((List.range l.length).map fun k=>l.getD (f k) (lnD aa))=l':=⟨_,rfl⟩
  have aj:l'.length=l.length:=by rw[<-ab,xQ2]
  have hg: ∀k,k<l.length->l'.getD k (lnD aa)=l.getD (f k) (lnD aa):=fun k hk=>by
   rw[<-ab,zE2 (sU hk)];simp
  have af:=xY8 (lnD aa) T st aa ag l' (fun x hx=>by
   rw[<-ab]at hx
   obtain⟨k,_,rfl⟩:=Ad.1 hx
   exact ae _) i j om om
  have ak:ltR (lnD aa) aa st.down l' i j=ltR (lnD aa) aa st.down l (f i) (f j):=by
   unfold ltR
   rw[hg i hi,hg j hj]
  rw[ak,aj]at af
  rw[ab]at hk⊢
  refine za4 6 af cB ?_ rfl (by have:=zH4 T st aa l' l.length;exact this) ?_ ?_ ?_
  .show(chS _ _ _ _ _++_++τ).take 6=_
   rw[Cw]
   exact C2 rfl
  .exact wB rfl
  .rintro r s ⟨rfl,rfl⟩
   exact⟨rfl,zH4 T st aa l' l.length,rfl⟩
  .rintro r s ⟨rfl,rfl⟩
   have e:chS T st aa (l'.map Ln.row) l.length++(ssS T st aa (l'.map Ln.row) l.length++τ).drop 6=ssS T st aa (l'.map Ln.row) l.length++τ:=rfl
   rw[e]
   exact hk
 .have h2:2<=l.length:=om
  rw[hG h2]
  obtain⟨ie,al,ad⟩:=Ao.1 yL3
  simp only[Prod.mk.injEq]at ad
  obtain⟨an,_,_⟩:=ad
  have e0:ssC l.length= [.lsv 0 3 l.length 0 l.length,.raw (typeHandle prog 200)]:=by unfold ssC;rw[if_neg om]
  rw[e0]
  refine xr1 wg8 al isAgg200 an sM (rows:=(List.range l.length).map fun k=>(l.getD (f k) (lnD aa)).row) (R:=(List.range l.length).map fun k=>(l.getD (sw f i j k) (lnD aa)).row) rfl hi hj ?_ hk
  have gd: ∀q,q<l.length->((List.range l.length).map fun k=>(l.getD (f k) (lnD aa)).row).getD q []=(l.getD (f q) (lnD aa)).row:=fun q hq=>by
   rw[zE2 (sU hq)];simp
  rw[gd i hi,gd j hj]
  refine List.ext_getElem sM fun k h1 h2=> ?_
  rw[List.getElem_set,List.getElem_set]
  simp only[D5,List.getElem_range,sw]
  split
  .rename_i q;subst q
   rw[if_neg om,if_pos rfl]
  .split
   .rename_i q;subst q
    rw[if_pos rfl]
   .rename_i q1 q2
    rw[if_neg om,if_neg om]
theorem valF (args:Array Value) (w:World):(callFunc 232 args).run prog w=((Extern.ReflectliteValue.unpack (args.getD 0 (.tuple #[]))).run prog w).andThen fun v w'=> .ok (.value v) w':=
 run_callFunc_extern func232 kR kR kR (e:=fun args=>Extern.ReflectliteValue.unpack (args.getD 0 (.tuple #[]))) kR args w
theorem wg9 (args:Array Value) (w:World):(callFunc 233 args).run prog w=((Extern.ReflectliteSwapper.swapper "internal/reflectlite" (Extern.ReflectliteValue.valueError "Swapper") args).run prog w).andThen fun v w'=> .ok (.value v) w':=
 run_callFunc_extern func233 kR kR kR (e:=Extern.ReflectliteSwapper.swapper "internal/reflectlite" (Extern.ReflectliteValue.valueError "Swapper")) kR args w
theorem wh3 (args:Array Value) (w:World):(callFunc 235 args).run prog w=((Extern.ReflectliteValue.method (Extern.ReflectliteValue.valueError "reflectlite.Value.Len" 0) Extern.ReflectliteValue.len args).run prog w).andThen fun v w'=> .ok (.value v) w':=
 run_callFunc_extern func235 kR kR kR (e:=Extern.ReflectliteValue.method (Extern.ReflectliteValue.valueError "reflectlite.Value.Len" 0) Extern.ReflectliteValue.len) kR args w
theorem xL6:(Tryz.prog.funcs.findIdx? (·.name== "internal/reflectlite" ++ ".Swapper$" ++toString 1),Tryz.prog.funcs.findIdx? (·.name== "internal/reflectlite" ++ ".Swapper$" ++toString 2),Tryz.prog.funcs.findIdx? (·.name== "internal/reflectlite" ++ ".Swapper$" ++toString 9))=(some 292,some 293,some 300):=kR
@[go_sem] theorem zeroT_val:zb0 prog 304=some [.nilp,.nilp,.int .u64 0]:=kR
@[go_sem] theorem szT_val:szT prog 304=some 3:=kR
@[go_sem] theorem aggT_val:aggT prog 304=some true:=kR
theorem yq3 (T:GTable) (st:GStmt) (col:Nat) (hc0:col<=10000) (l:List Ln) (hl:l.length<=10000) (hcl: ∀x∈l,col<x.v.length):
  VCalls prog 157 [.ifc 195 [.lsv 0 3 l.length 0 l.length],.fn 158 [.ptr 3 0,.ptr 5 0,.ptr 2 0]] (chS T st col (l.map Ln.row) l.length) (fun r s=>r= .tup []/\s=chS T st col ((zo2 col st.down l).map Ln.row) l.length):=by
 obtain⟨ti,hti,htd⟩:=Ao.1 xn9
 obtain⟨ie,hie,hie2⟩:=Ao.1 yL3
 simp only[Prod.mk.injEq]at hie2
 obtain⟨hs3,hp,hby⟩:=hie2
 obtain⟨G,hG,hG2,hsel⟩: ∃G,Tryz.prog.funcs.findIdx? (·.name== "internal/reflectlite" ++ ".Swapper$" ++toString (Lib.swapperK l.length ie 25))=some G/\(2<=l.length->G=300)/\(Lib.swapperK l.length ie 25<=2↔l.length<=1):=by
  have h:=xL6
  simp only[Prod.mk.injEq]at h
  obtain⟨f1,f2,f3⟩:=h
  by_cases q:2<=l.length
  .rw[xQ8 q hp hby]
   exact⟨_,f3,fun _=>rfl,om⟩
  .rcases(by omega:l.length=0∨l.length=1)with e|e
   .rw[e];exact⟨_,f1,fun h=>om,⟨fun _=>dc,fun _=>(by show 1<=2;decide)⟩⟩
   .rw[e];exact⟨_,f2,fun h=>om,⟨fun _=>dc,fun _=>(by show 2<=2;decide)⟩⟩
 have S:=wd6 G T st col hc0 l hl hcl hG2
 have hst:=xF3 S (xe0 (lnD col) col st.down l)
 have hls: ∀f,lsF (ssS T st col (l.map Ln.row) l.length) 0 3 l.length (fun k=>(l.getD k (lnD col)).row) f=ssS T st col (((List.range l.length).map fun k=>l.getD (f k) (lnD col)).map Ln.row) l.length:=fun f=>xU5 f
 have hidl:((List.range l.length).map fun k=>l.getD k (lnD col))=l:=by
  refine List.ext_getElem sM fun k h1 h2=> ?_
  simp[h2]
 have hst2:VCalls prog 234 [.agg [.fn 158 [.ptr 3 0,.ptr 5 0,.ptr 2 0],.fn G (ssC l.length)],.int .i64 l.length] (ssS T st col (l.map Ln.row) l.length) (fun r t=>r= .tup []/\t=ssS T st col ((zo2 col st.down l).map Ln.row) l.length):=by
  rw[hls,hidl]at hst
  refine hst.mono fun r t h=> ?_
  obtain⟨h1,g,h2,h3⟩:=h
  refine⟨h1, ?_⟩
  rw[h2,hls]
  congr 2
  exact yY0 h3.1 h3.2
 have hok: ∀m:List Ln,(ssS T st col (m.map Ln.row) l.length).all (ltOb 8)=true:=fun m=>by
  have h:=zH4 T st col m l.length
  unfold ssS
  rw[E8,A1]
  refine⟨?_,by simp[ltOb,ltC,ltK]⟩
  rw[Aj]at h⊢
  exact fun o ho=>yt8 dc (h o ho)
 have hsc:ssC l.length=(if Lib.swapperK l.length ie 25<=2 then []else [.lsv 0 3 l.length 0 l.length,.raw (typeHandle prog 200)]):=by
  unfold ssC
  by_cases q:l.length<=1
  .rw[if_pos q,if_pos (hsel.2 q)]
  .rw[if_neg q,if_neg fun h=>q (hsel.1 h)]
 refine iV 6 func157 ntmps157 results157 fun c hc hb=> ?_
 refine zP (zA ?_)
 simp[go_sem]
 refine yQ6 valF hti htd ?_
 simp[go_sem]
 have e6:(chS T st col (l.map Ln.row) l.length).length=6:=rfl
 rw[e6]
 refine zP (zA ?_)
 simp[go_sem]
 refine yQ5 wg9 hti htd hie xA6 hG ?_
 rw[<-hsc]
 simp[go_sem]
 have h7:(chS T st col (l.map Ln.row) l.length++ [.box [.lsv 0 3 l.length 0 l.length],.box [.raw (typeHandle prog 195),.ptr 6 0,.int .u64 151]])[7]? =some (.box [.raw (typeHandle prog 195),.ptr 6 0,.int .u64 151]):=rfl
 refine zA ?_
 simp[go_sem,h7]
 refine yD9 wh3 hti htd kR (id:=0) (s:=3) (n:=l.length) (m:=l.length) (k:=6) rfl ?_
 simp[go_sem]
 have hσ:chS T st col (l.map Ln.row) l.length++ [.box [.lsv 0 3 l.length 0 l.length],.box [.raw (typeHandle prog 195),.ptr 6 0,.int .u64 151]]=ssS T st col (l.map Ln.row) l.length:=rfl
 rw[hσ]
 refine za4 8 hst2 cB (Ap (A4 8)) rfl (hok l) ?_ ?_ ?_
 .rw[B9]
  refine wB ?_
  have:=S.cs_ok
  have e8:(ssS T st (col:Int) (l.map Ln.row) l.length).length=8:=rfl
  rw[e8]at this
  simp[ltS,ltA,ltC,this,ltK]
 .rintro r s ⟨rfl,rfl⟩
  exact⟨rfl,hok _,rfl⟩
 .rintro r s ⟨rfl,rfl⟩
  have hd8:(ssS T st (col:Int) (l.map Ln.row) l.length).drop 8= []:=rfl
  rw[hd8]
  simp[go_sem]
  exact xM 6 (s:=chS T st col ((zo2 col st.down l).map Ln.row) l.length) rfl rfl (zH4 T st col _ _) (A4 _) (zC rfl) ⟨rfl,rfl⟩
theorem NowOk.get (h:NowOk b l) {p:Pl} {d:List UInt8}:b.get p=some d↔ ∃x∈l,x.at=p/\yH x.v=d:=by
 rw[Mp.get_mem h.ok,h.perm.mem_iff,Ad]
 constructor
 .rintro⟨x,hx,he⟩
  simp only[Prod.mk.injEq]at he
  exact⟨x,hx,he⟩
 .rintro⟨x,hx,h1,h2⟩
  exact⟨x,hx,by rw[h1,h2]⟩
theorem NowOk.get_none (h:NowOk b l) {p:Pl}:b.get p=none↔atF l p=false:=get_isNone.trans h.at_none
def isN (a:Mp (List UInt8)) (e:Pl×List UInt8):Bool:=a.get e.1 !=some e.2
def isO (b:Mp (List UInt8)) (e:Pl×List UInt8):Bool:=(b.get e.1).isNone
def keyN (a:Mp (List UInt8)) (D:List (Pl×List UInt8)):List Pl:=(D.filter (isN a)).map (·.1)
def keyO (b:Mp (List UInt8)) (D:List (Pl×List UInt8)):List Pl:=(D.filter (isO b)).map (·.1)
def wrB (b:Mp (List UInt8)) (p:Pl):Wr:=⟨p,(b.get p).isNone,(b.get p).getD []⟩
theorem xu2 {a:Mp (List UInt8)} {ah now:List Ln} (ha:NowOk a ah) (hb:NowOk b now) {L:List Pl} (hp:L.Perm (keyN a b.W++keyO b a.W)) (hs:L.Pairwise fun p q=> ¬ordP q p<0):L.map (wrB b)=chgF ah now:=by
 have nN:(keyN a b.W).Nodup:=List.Nodup.sublist ((Bp).map _) hb.keys
 have nO:(keyO b a.W).Nodup:=List.Nodup.sublist ((Bp).map _) ha.keys
 have nL:L.Nodup:=by
  rw[hp.nodup_iff,E2]
  refine⟨nN,nO,fun p h1 q h2 e=> ?_⟩
  subst e
  obtain⟨e1,ad,rfl⟩:=Ad.1 h1
  obtain⟨e2,ae,h3⟩:=Ad.1 h2
  have h4:=(Mp.get_mem hb.ok).2 (Bb.1 ad).1
  have h5:=(Bb.1 ae).2
  unfold isO at h5
  rw[h3,h4]at h5
  cases h5
 have hr:Rise L:=by
  have:=xP5 (kx:=fun p:Pl=>p) (l:=L) hs (by rw[E3];exact nL)
  rwa [E3]at this
 obtain⟨c1,c2⟩:=yc1 ha.rise hb.rise
 refine yW9 ?_ c1 fun w=> ?_
 .unfold zv0
  rw[C0]
  exact hr
 rw[c2 w,Ad]
 have hm: ∀p,p∈L↔p∈keyN a b.W∨p∈keyO b a.W:=fun p=>by rw[hp.mem_iff,B5]
 constructor
 .rintro⟨p,ai,rfl⟩
  rcases(hm p).1 ai with h|h
  .obtain⟨⟨p',d⟩,he,rfl⟩:=Ad.1 h
   obtain⟨ad,ae⟩:=Bb.1 he
   have hg:=(Mp.get_mem hb.ok).2 ad
   obtain⟨x,hx,aa,ab⟩:=hb.get.1 hg
   refine .inr ⟨by simp[wrB,hg],x,hx,aa,by simp[wrB,hg,ab],fun y hy af ag=> ?_⟩
   have:=ha.get.2 ⟨y,hy,af.trans aa,ag.trans ab⟩
   simp[isN,this]at ae
  .obtain⟨⟨p',d⟩,he,rfl⟩:=Ad.1 h
   obtain⟨ad,ae⟩:=Bb.1 he
   have hg:=(Mp.get_mem ha.ok).2 ad
   have hn:b.get p'=none:=by simpa[isO]using ae
   obtain⟨x,hx,aa,ab⟩:=ha.get.1 hg
   exact .inl ⟨by simp[wrB,hn],by simp[wrB,hn],⟨x,hx,aa⟩,hb.get_none.1 hn⟩
 .rintro(⟨h1,h2,⟨x,hx,aa⟩,h3⟩|⟨h1,x,hx,aa,ab,h3⟩)
  .have hn:=hb.get_none.2 h3
   have hg:=ha.get.2 ⟨x,hx,aa,rfl⟩
   refine⟨w.p,(hm _).2 (.inr (Ad.2 ⟨(w.p,yH x.v),Bb.2 ⟨(Mp.get_mem ha.ok).1 hg,by simp[isO,hn]⟩,rfl⟩)), ?_⟩
   obtain⟨p,dr,da⟩:=w
   simp only at h1 h2 hn
   simp[wrB,hn,h1,h2]
  .have hg:=hb.get.2 ⟨x,hx,aa,ab⟩
   refine⟨w.p,(hm _).2 (.inl (Ad.2 ⟨(w.p,w.data),Bb.2 ⟨(Mp.get_mem hb.ok).1 hg, ?_⟩,rfl⟩)), ?_⟩
   .simp only[isN,bne_iff_ne,ne_eq]
    intro h
    obtain⟨y,hy,af,ag⟩:=ha.get.1 h
    exact h3 y hy (af.trans aa.symm) (ag.trans ab.symm)
   .obtain⟨p,dr,da⟩:=w
    simp only at h1 hg
    simp[wrB,hg,h1]
theorem xR7 {P:Program} {c:Ctx} {σ:St} {f:FuncId} {caps args args':List V} {KV:V->St->Prop} {rows:List (List V)} {w:Nat} (hc:VCalls P f args' [] fun r s=>r= .lsv 0 w n 0 n/\s= [.lst rows w]) (hb:wL P f=true) (ab:ltOb 0 (.lst rows w)=true)
  (aa:All2 (argS (ren [] σ.length)) args' (args++caps)) (hK:KV (.lsv σ.length w n 0 n) (σ++ [.lst rows w])):wVC P c (.fn f caps) args σ KV fx:=by
 refine VC.of hc hb [] Cj rfl (fun i j o h=>by simp at h) aa fun r s h _=> ?_
 obtain⟨rfl,rfl⟩:=h
 have e:xX [] σ [.lst rows w]=σ++ [.lst rows w]:=by
  simp only[xX,mset,B1,Db,Ai,Bm]
  rw[wO (n:=0) (fun _ h=>absurd h (Dn _)) ab]
 rw[e]
 have e2:renS (ren [] σ.length) (.lsv 0 w n 0 n)= .lsv σ.length w n 0 n:=by
  simp[renS,renA,renC,renK,ren]
 rw[e2]
 exact hK
def updR (a:Mp (List UInt8)) (sn:Mp Int) (m:List Ln) (B:Mp (List UInt8)) (M:List Ln×Int) (r:V) (s:St):Prop:=
 s=runS a B sn++ [.lst (m.map Ln.row) 3]/\((M.2≠0/\r= .tup [.agg (Ot.row ⟨0,[]⟩),.int .i64 M.2])∨(M.2=0/\r= .tup [.agg (Ot.row ⟨m.length,[]⟩),.int .i64 0]/\NowOk B M.1))
def updB (T:GTable) (sets:List GAssign):List Ln->Mp (List UInt8)->Mp (List UInt8)
 | [],b=>b
 |x::m,b=>
  if(setF T x.v sets x.v).2≠0 then b
  else if mayT T.cols (setF T x.v sets x.v).1≠0 then b
  else updB T sets m (b.put x.at (yH (setF T x.v sets x.v).1))
theorem xp4 {r:Int} {k d:List UInt8} {w:Nat×List UInt8} (h:b.at (r,k)=some w):Ob.mp (((kvE V.str b.W).set (2*w.1) (.agg [.int .i64 r,.str k])).set (2*w.1+1) (.str d)) b.bs b.clk=(b.put (r,k) d).ob V.str:=by
 unfold Mp.put Mp.ob
 rw[h]
 show _=Ob.mp (kvE V.str (b.W.set w.1 ((r,k),d))) _ _
 rw[<-xz9]
 rfl
theorem yK1 {x:Ln} (h:LnOk x):1<=x.v.length/\x.v.length<=20:=by
 obtain⟨tn,T,_,hT,hm⟩:=h.tab
 have h1:=zk6 hm
 have h2:=(by decide: ∀T∈tabsS,1<=T.cols.length/\T.cols.length<=20) T (B7 hT)
 omega
theorem xb1 (T:GTable) (name:List UInt8):colF T name<T.cols.length:=by
 have h:=zr2 (fun c:GCol=>c.name==name) T.cols 0
 unfold colF
 omega
theorem xG7 (tn:Nat) (T:GTable) (hT:tabsS[tn]? =some T) (st:GStmt) (aG:SOk st) (au: ∀x∈st.sets,0<=colF T x.name) (a b:Mp (List UInt8)) (sn:Mp Int) (l m:List Ln) (av:NowOk b l) (hm: ∀x∈m,atF l x.at=true/\LnOk x/\(ofS x.r).1=(tn:Int)) (hl:m.length<=10000):
  VCalls prog 92 [.ptr 3 0,.agg T.row,.agg st.row,.lsv 4 3 m.length 0 m.length] (runS a b sn++ [.lst (m.map Ln.row) 3]) (updR a sn m (updB T st.sets m b) (updF T st.sets m l)):=by
 generalize hM:updF T st.sets m l=M
 generalize hB:updB T st.sets m b=B
 have aw: ∀(b':Mp (List UInt8)),(runS a b' sn++([.lst (m.map Ln.row) 3]:St)).all (ltOb 5)=true:=fun b'=>by
  have h:=xS 5 dc a b' sn
  rw[E8,h]
  simp[ltOb,ltC,ltK,Ln.row]
 have good: ∀(b':Mp (List UInt8)) (σl:St) (l':List Ln),b'=B->M=(l',0)->NowOk b' l'->wret (some (.tup [.agg [.sl .full [],.int .i64 m.length],.int .i64 0])) 5 (updR a sn m B M) (a.ob .str::b'.ob .str::sn.ob (V.int .i64):: .box [.sl .ro wF,.sl .ro (tabsS.map GTable.row),.mp 0,.mp 1,.mp 2]:: .lst (m.map Ln.row) 3::σl):=fun b' σl l' h0 h1 h2=>
  xM 5 (s:=runS a b' sn++ [.lst (m.map Ln.row) 3]) (r:= .tup [.agg (Ot.row ⟨m.length,[]⟩),.int .i64 0]) rfl rfl (aw b') (A4 _) (xU ⟨zd0 ⟨yX,zU rfl,tV⟩,za1 rfl,tV⟩) ⟨by rw[h0],.inr ⟨by rw[h1],rfl,by rw[h1,<-h0];exact h2⟩⟩
 have bad: ∀(b':Mp (List UInt8)) (e:Int) (σl:St),b'=B->M.2=e->e≠0->wret (some (.tup [.agg [.sl .full [],.int .i64 0],.int .i64 e])) 5 (updR a sn m B M) (a.ob .str::b'.ob .str::sn.ob (V.int .i64):: .box [.sl .ro wF,.sl .ro (tabsS.map GTable.row),.mp 0,.mp 1,.mp 2]:: .lst (m.map Ln.row) 3::σl):=fun b' e σl h0 h1 h2=>
  xM 5 (s:=runS a b' sn++ [.lst (m.map Ln.row) 3]) (r:= .tup [.agg (Ot.row ⟨0,[]⟩),.int .i64 e]) rfl rfl (aw b') (A4 _) (xU ⟨zd0 ⟨yX,zU rfl,tV⟩,za1 rfl,tV⟩) ⟨by rw[h0],.inl ⟨by rw[h1];exact h2,by rw[h1]⟩⟩
 refine iV 5 func92 ntmps92 results92 fun c hc hb=> ?_
 refine zA ?_
 simp[go_sem,runS,runB]
 have ax: ∀(b':Mp (List UInt8)),([a.ob .str,b'.ob .str,sn.ob (V.int .i64),.box [.sl .ro wF,.sl .ro (tabsS.map GTable.row),.mp 0,.mp 1,.mp 2],.lst (m.map Ln.row) 3,.box T.row,.box st.row,.box out0]:St).all (ltOb 8)=true:=fun b'=>by
  have h:=xS 8 om a b' sn
  simp only[runS,runB,Ac,Cb,C9]at h⊢
  rw[A1,A1,A1]at h⊢
  refine⟨h.1,h.2.1,h.2.2.1, ?_⟩
  rw[A1]
  exact⟨h.2.2.2,by simp[ltOb,ltC,ltK,GStmt.row,GTable.row,Ln.row,out0]⟩
 have ah: ∀(b':Mp (List UInt8)) (x:Ln) (row:List GValue),([a.ob .str,b'.ob .str,sn.ob (V.int .i64),.box [.sl .ro wF,.sl .ro (tabsS.map GTable.row),.mp 0,.mp 1,.mp 2],.lst (m.map Ln.row) 3,.box T.row,.box st.row,.box out0,.box x.row,.lst (row.map GValue.row) 3]:St).all (ltOb 10)=true:=fun b' x row=>by
  have h:=xS 10 om a b' sn
  simp only[runS,runB,Ac,Cb,C9]at h⊢
  rw[A1,A1,A1]at h⊢
  refine⟨h.1,h.2.1,h.2.2.1, ?_⟩
  rw[A1]
  exact⟨h.2.2.2,by simp[ltOb,ltC,ltK,GStmt.row,GTable.row,Ln.row,GValue.row,out0]⟩
 have ay:T.cols.length<=maxLen:=(by decide: ∀T∈tabsS,T.cols.length<=maxLen) T (B7 hT)
 have hlen: ∀x,LnOk x->(ofS x.r).1=(tn:Int)->x.v.length=T.cols.length:=fun x hx aj=>by
  obtain⟨aH,T',h1,h2,h3⟩:=hx.tab
  have:aH=tn:=om
  subst this
  rw[hT]at h2
  cases h2
  exact zk6 h3
 refine zH (S:=Nat×Mp (List UInt8)×List Ln) [0,3,5,6,8,9,18,19,20] (fun u=> [.ptr 3 0,.lsv 4 3 m.length 0 m.length,.ptr 5 0,.ptr 6 0,.ptr 7 0,.int .i64 0,.lsv 4 3 m.length 0 m.length,.int .i64 m.length,.int .i64 u.1])
  (fun u=> [a.ob .str,u.2.1.ob .str,sn.ob (V.int .i64),.box [.sl .ro wF,.sl .ro (tabsS.map GTable.row),.mp 0,.mp 1,.mp 2],.lst (m.map Ln.row) 3,.box T.row,.box st.row,.box out0]) (fun u=>m.length - u.1)
  (fun u=>u.1<=m.length/\NowOk u.2.1 u.2.2/\(∀p,atF u.2.2 p=atF l p)/\updF T st.sets (m.drop u.1) u.2.2=M/\updB T st.sets (m.drop u.1) u.2.1=B) hc hb (0,b,l) ⟨A3 _,av,fun _=>rfl,hM,hB⟩ ?_ ?_
 .exact at_n 8 (by simp[go_sem,out0]) rfl (ax b) dc (zF sg rfl)
 rintro⟨i,b1,l1⟩ ⟨hi,ak,ag,aa,ab⟩
 simp only at hi ak ag aa ab
 by_cases q:i<m.length
 rotate_left
 .rw[A9 om,updF]at aa
  rw[A9 om,updB]at ab
  refine zA ?_
  simp[go_sem,q,out0]
  exact good b1 _ l1 ab aa.symm ak
 have ei:=zS q om
 obtain⟨x,hx⟩:=eX (m[i])
 obtain⟨az,ae,aj⟩:=hm x (hx▸Ab q)
 refine zA ?_
 simp[go_sem,q,hx]
 have a1:=yK1 ae
 have aI:=yG5 x.v om (fun h=>by rw[h]at a1;simp at a1)
 refine xR7 aI cB (by simp[ltOb,ltC,ltK,GValue.row]) ⟨zL,tV⟩ ?_
 simp[go_sem,out0]
 obtain⟨E,hE⟩:=eX (setF T x.v st.sets x.v)
 rw[A5 q,hx,updF,hE]at aa
 rw[A5 q,hx,updB,hE]at ab
 have a6:=aG.sets
 refine zH (S:=Nat×List GValue) [0,3,5,6,8,9,11,12,18,19,20,28,29,30] (fun u=> [.ptr 3 0,.lsv 4 3 m.length 0 m.length,.ptr 5 0,.ptr 6 0,.ptr 7 0,.int .i64 0,.ptr 8 0,.lsv 9 3 x.v.length 0 x.v.length,.lsv 4 3 m.length 0 m.length,.int .i64 m.length,.int .i64 i,.sl .ro (st.sets.map GAssign.row),.int .i64 st.sets.length,.int .i64 u.1])
  (fun u=> [a.ob .str,b1.ob .str,sn.ob (V.int .i64),.box [.sl .ro wF,.sl .ro (tabsS.map GTable.row),.mp 0,.mp 1,.mp 2],.lst (m.map Ln.row) 3,.box T.row,.box st.row,.box out0,.box x.row,.lst (u.2.map GValue.row) 3]) (fun u=>st.sets.length - u.1)
  (fun u=>u.1<=st.sets.length/\u.2.length=x.v.length/\setF T x.v (st.sets.drop u.1) u.2=E) hc hb (0,x.v) ⟨A3 _,rfl,hE⟩ ?_ ?_
 .exact at_n 10 (by simp[go_sem,out0]) rfl (ah b1 x x.v) dc (zF sg rfl)
 rintro⟨j,row⟩ ⟨hj,af,ad⟩
 simp only at hj af ad
 by_cases qj:j<st.sets.length
 .have ej:=zS qj om
  obtain⟨y,hy⟩:=eX (st.sets[j])
  have aJ:=(a6.2 y (hy▸Ab qj)).2
  have aP:=au y (hy▸Ab qj)
  rw[A5 qj,hy,setF]at ad
  have ai:=yx2 T ay x.v ae.ok y.e aJ
  have a7:Pure prog 156 [.agg T.row,.str y.name] (.int .i64 (colF T y.name)):=yq5 T y.name ay
  obtain⟨k,hk⟩: ∃k:Nat,colF T y.name=k:=⟨(colF T y.name).toNat,om⟩
  have aQ:k<row.length:=by
   have h1:=xb1 T y.name
   rw[af,hlen x ae aj]
   omega
  have aK:k<x.v.length:=om
  rw[hk]at a7 ad
  simp only[As]at ad
  obtain⟨⟨v,er⟩,hv⟩: ∃kv,evR T x.v y.e=kv:=⟨_,rfl⟩
  rw[hv]at ad ai
  simp only at ad
  refine zA ?_
  simp[go_sem,qj,hy]
  refine zM ai cB ⟨zC rfl,zL,zQ1 y.e,tV⟩ rfl ?_
  simp[go_sem,valP]
  by_cases q2:er=0
  rotate_left
  .have an:(er !=0)=true:=sU q2
   rw[if_pos q2]at ad
   subst ad
   simp only at aa ab
   rw[if_pos q2]at aa ab
   simp[go_sem,an,out0]
   exact bad b1 er _ ab (by rw[<-aa]) q2
  have an:(er !=0)=false:=sU q2
  rw[if_neg (fun h=>h q2)]at ad
  simp[go_sem,an]
  refine xA [(4,0)] 12 rfl kR kR ?_
  simp[go_sem]
  refine pD a7 ?_
  simp[go_sem]
  refine zI om ?_
  simp[go_sem,af,aK,ej]
  exact zG (j+1,row.set k v) ⟨by show st.sets.length - (j+1)<st.sets.length - j;omega,⟨qj,by show(row.set k v).length=_;rw[List.length_set];exact af,ad⟩,at_n 10 (by simp[go_sem,out0,List.map_set]) rfl (ah b1 x _) dc (zF sg rfl)⟩
 rw[A9 om,setF]at ad
 subst ad
 simp only at aa ab
 rw[if_neg (fun h=>h rfl)]at aa ab
 have aR:=hlen x ae aj
 have a8: ∀v∈row,v.ok:=by
  have h1:=yd4 (T:=T) ae.ok (sets:=st.sets) (row:=x.v) (fun y hy=>(a6.2 y hy).2) ae.ok
  rw[hE]at h1
  exact(h1 rfl).2
 have al:=yE9 T row (by unfold maxLen;omega)
 have aA:wE (row.map GValue.row)=true:=by simp[wE,zC2,GValue.row]
 obtain⟨mr,ao⟩:=eX (mayT T.cols row)
 rw[ao]at aa al ab
 have aL:mr=0->LightR row:=fun h0=>zB7 ((by decide: ∀T∈tabsS,T.cols.length<=20) T (B7 hT)) a8 (ao.trans h0)
 have aq:=fun h0=>xr6 row (aL h0)
 obtain⟨w0,aB⟩: ∃w0,b1.at x.at=some w0:=by
  cases h:b1.at x.at with
  |none=>have:=ag x.at;rw[az,ak.at_none.1 h]at this;cases this
  |some w=>exact⟨w,rfl⟩
 have eB:b1.ob .str= .mp (kvE .str b1.W) b1.bs b1.clk:=rfl
 have aC:idxW (x.r,x.k) b1.W=some w0:=aB
 have aD:=xp4 (d:=yH row) (r:=x.r) (k:=x.k) aB
 have aE:mr=0->NowOk (b1.put x.at (yH row)) (putF l1 x.at row):=fun h0=>ak.turn x.at row (by rw[ag];exact az) ⟨⟨tn,T,aj,hT,ao.trans h0⟩,ae.err,a8⟩
 have aF:zb7 (row.map GValue.row) 0 x.v.length=row.map GValue.row:=by
  rw[<-af]
  unfold zb7
  rw[B1,Ap sM,Bh]
  exact Bk fun _ _=>rfl
 refine zA ?_
 simp[go_sem,qj]
 refine xH1 al cB (.step 9 3 (row.map GValue.row) rfl aA (.refl _ _)) (zN (by simp[frzS,frzA,frzC,frzK,aF,af,go_sem]) rfl) rfl ?_
 simp[go_sem]
 by_cases m0:mr=0
 rotate_left
 .have ar:(mr !=0)=true:=sU m0
  rw[if_pos m0]at aa ab
  simp[go_sem,ar,out0]
  exact bad b1 mr _ ab (by rw[<-aa]) m0
 have ar:(mr !=0)=false:=sU m0
 rw[if_neg (fun h=>h m0)]at aa ab
 simp[go_sem,ar]
 refine xA [(7,1)] 10 rfl kR kR ?_
 simp[go_sem]
 refine xH3 (aq m0) cB (fun s hs=>⟨_,_,.step 9 3 (row.map GValue.row) ((Kp.get (k:=Kp.pre 10) rfl hs).trans rfl) aA (.refl _ _),zN (by simp[frzS,frzA,frzC,frzK,aF,af,go_sem]) rfl⟩) rfl ?_
 simp[go_sem,eB,zb8,aC,zd8,ze5,aD,ei]
 exact zG (i+1,b1.put x.at (yH row),putF l1 x.at row) ⟨by show m.length - (i+1)<m.length - i;omega,⟨q,aE m0,fun p=>by show atF (putF l1 x.at row) p=_;rw[yF6];exact ag p,aa,ab⟩,at_n 8 (by simp[go_sem,out0];rfl) rfl (ax _) dc (zF sg rfl)⟩
theorem yG4 (l:List GValue) (hl:l.length<=10000) (hz:l≠ []):Pure prog 160 [.sl .ro (l.map GValue.row)] (.sl .ro (l.map GValue.row)):=by
 refine(yG5 l hl hz).frz fun r s h=> ?_
 obtain⟨rfl,rfl⟩:=h
 have aa:zb7 (l.map GValue.row) 0 l.length=l.map GValue.row:=by
  unfold zb7
  rw[B1,Ap sM,Bh]
  exact Bk fun _ _=>rfl
 refine⟨_,_,.step 0 3 (l.map GValue.row) rfl (by simp[wE,zC2,GValue.row]) (.refl _ _), ?_⟩
 simp only[frzS,frzA,frzC,frzK,An,Ae,A4,and_self,if_true,aa]
 exact zL
def selV (r:Ot×Int):V:= .tup [.agg r.1.row,.int .i64 r.2]
theorem xK9 (T:GTable) (name:List UInt8) (h:0<=colF T name): ∃k:Nat,colF T name=k/\k<T.cols.length:=by
 have:=xb1 T name
 exact⟨(colF T name).toNat,om,om⟩
theorem xP9 (T:GTable) (st:GStmt) (l:List Ln) (h:zs7 st.items=false):selF T st l=(if(zw8 T st.items (limF st.limit (if 0<=colF T st.order then zo2 (colF T st.order).toNat st.down l else l)) []).2≠0 then(⟨0,[]⟩,(zw8 T st.items (limF st.limit (if 0<=colF T st.order then zo2 (colF T st.order).toNat st.down l else l)) []).2)else(⟨0,(zw8 T st.items (limF st.limit (if 0<=colF T st.order then zo2 (colF T st.order).toNat st.down l else l)) []).1⟩,0)):=by
 unfold selF
 rw[if_neg (by rw[h];decide)]
theorem yX9 (c:Nat) (down:Bool) (l:List Ln):(zo2 c down l).Perm l:=by
 unfold zo2
 have h: ∀(m out:List Ln),(m.foldl (fun out x=>insB (fun y=>decide (0<cmpC c down y x)) out x) out).Perm (out++m):=by
  intro m
  induction m with
  |nil=>intro out;simp
  |cons x m ih=>
   intro out
   refine(ih _).trans ?_
   refine((yt0 _ out x).append_right m).trans ?_
   exact Di.symm
 exact h l []
def chL (T:GTable) (st:GStmt) (l:List Ln):List Ln:=if zs7 st.items=true then l else if 0<=colF T st.order then zo2 (colF T st.order).toNat st.down l else l
theorem yy7 (tn:Nat) (T:GTable) (hT:tabsS[tn]? =some T) (st:GStmt) (an:SOk st) (hit:st.items≠ []) (l:List Ln) (hl:l.length<=10000) (hok: ∀x∈l,LnOk x/\x.v.length=T.cols.length):
  VCalls prog 91 [.agg T.row,.agg st.row,.lsv 0 3 l.length 0 l.length] [.lst (l.map Ln.row) 3] (fun r s=>r=selV (selF T st l)/\s= [.lst ((chL T st l).map Ln.row) 3]):=by
 have ao:T.cols.length<=maxLen:=(by decide: ∀T∈tabsS,T.cols.length<=maxLen) T (B7 hT)
 have aT:T.cols.length<=20:=(by decide: ∀T∈tabsS,T.cols.length<=20) T (B7 hT)
 have ax:=xS4 st an
 have ae:=wf6 T ao st an l hl (fun x hx=>(hok x hx).1.ok)
 obtain⟨wb,af⟩:=eX (zs7 st.items)
 rw[af]at ax
 have ai:Pure prog 156 [.agg T.row,.str st.order] (.int .i64 (colF T st.order)):=yq5 T st.order ao
 obtain⟨M,hM⟩:=eX (selF T st l)
 rw[hM]
 obtain⟨C,hC⟩:=eX (chL T st l)
 rw[hC]
 have aH:wb=true->C=l:=fun h=>by rw[<-hC];unfold chL;rw[if_pos (af.trans h)]
 have aI:wb=false->C=if 0<=colF T st.order then zo2 (colF T st.order).toNat st.down l else l:=fun h=>by rw[<-hC];unfold chL;rw[if_neg (by rw[af,h];decide)]
 have ay:wb=true->oneV (zt3 T l st.items [])=selV M:=fun h=>by
  rw[<-hM]
  unfold oneV selV selF
  rw[if_pos (af.trans h)]
  by_cases q:(zt3 T l st.items []).2=0
  .rw[if_pos q,if_neg (fun h=>h q)]
  .rw[if_neg q,if_pos q]
 have az:=fun h:wb=false=>(xP9 T st l (af.trans h)).symm.trans hM
 clear hM
 refine iV 1 func91 ntmps91 results91 fun c hc hb=> ?_
 refine zP (zA ?_)
 simp[go_sem]
 refine zP (zA ?_)
 simp[go_sem]
 refine pC ax ?_
 refine(A7 wb).elim (fun w=> ?_) (fun w=> ?_)
 .rw[ay w]at ae
  simp[go_sem,w]
  refine zm2 0 ae cB rfl (by simp[ltOb,ltC,ltK,Ln.row]) ⟨zC rfl,zC rfl,.inl rfl,tV⟩ (by rintro r s ⟨rfl,rfl⟩;exact⟨_,rfl,by simp[ltOb,ltC,ltK,Ln.row]⟩) ?_
  rintro r o ⟨rfl,ho⟩
  cases ho
  simp[go_sem,selV,Ot.row]
  exact xM 1 (s:= [.lst (l.map Ln.row) 3]) (r:= .tup [.agg (Ot.row M.1),.int .i64 M.2]) rfl rfl (by simp[ltOb,ltC,ltK,Ln.row]) (A4 _) (xU ⟨zd0 ⟨yX,zU rfl,tV⟩,za1 rfl,tV⟩) ⟨rfl,by rw[aH w]⟩
 .have hM:=az w
  clear ay az ae
  obtain⟨m,hm⟩:=eX ((if 0<=colF T st.order then zo2 (colF T st.order).toNat st.down l else l))
  rw[hm]at hM
  have a1:C=m:=(aI w).trans hm
  have a6:m.Perm l:=by
   rw[<-hm]
   split
   .exact yX9 _ _ _
   .exact List.Perm.refl _
  have aq:=a6.length_eq
  have a7:0<=colF T st.order-> ∃k:Nat,colF T st.order=k/\VCalls prog 157 [.ifc 195 [.lsv 0 3 l.length 0 l.length],.fn 158 [.ptr 3 0,.ptr 5 0,.ptr 2 0]] (chS T st k (l.map Ln.row) l.length) (fun r s=>r= .tup []/\s=chS T st k (m.map Ln.row) l.length):=fun h0=>by
   obtain⟨k,hk,ag⟩:=xK9 T st.order h0
   have hs:=yq3 T st k om l hl (fun x hx=>by rw[(hok x hx).2];exact ag)
   rw[if_pos h0,hk,As]at hm
   rw[hm]at hs
   exact⟨k,hk,hs⟩
  have ak: ¬0<=colF T st.order->m=l:=fun h=>by rw[<-hm,if_neg h]
  clear hm
  simp[go_sem,w]
  refine zg2 (S:=Unit) [3,4,5,6] (fun _=> [.ptr 1 0,.ptr 2 0,.ptr 3 0,.ptr 4 0]) (fun _=>chS T st (colF T st.order) (m.map Ln.row) l.length) (fun _=>True) hc hb ?_ ?_
  .by_cases h0:0<=colF T st.order
   .obtain⟨k,hk,hs⟩:=a7 h0
    rw[hk]at ai⊢
    refine zA ?_
    simp[go_sem]
    refine pC ai ?_
    simp[go_sem,zZ2]
    refine zD2 (caps:= []) (args:= [.ifc 195 [.lsv 0 3 l.length 0 l.length],.fn 158 [.ptr 3 0,.ptr 5 0,.ptr 2 0]]) hs cB ?_
    rintro r s ⟨rfl,rfl⟩ _
    simp[go_sem]
    exact zG () ⟨tV,at_n 6 (by simp[go_sem,chS]) rfl (zH4 T st k m l.length) dc (zF sg rfl)⟩
   .rw[ak h0]
    refine zA ?_
    simp[go_sem]
    refine pC ai ?_
    simp[go_sem,h0]
    exact zG () ⟨tV,at_n 6 (by simp[go_sem,chS,out0]) rfl (zH4 T st _ l l.length) dc (zF sg rfl)⟩
  rintro _ _
  clear a7 ak ai
  generalize colF T st.order=ad at*
  obtain⟨k,a8,ag⟩: ∃k,limF st.limit m=m.take k/\k<=m.length/\(k=if 0<=st.limit/\st.limit<m.length then st.limit.toNat else m.length):=by
   unfold limF
   by_cases h0:0<=st.limit
   .rw[if_pos h0]
    by_cases h1:st.limit<m.length
    .exact⟨st.limit.toNat,rfl,om,by rw[if_pos ⟨h0,h1⟩]⟩
    .exact⟨m.length,by rw[Ap om,List.take_length],A4 _,by rw[if_neg (fun h=>h1 h.2)]⟩
   .rw[if_neg h0]
    exact⟨m.length,by rw[List.take_length],A4 _,by rw[if_neg (fun h=>h0 h.1)]⟩
  obtain⟨ag,ab⟩:=ag
  rw[a8]at hM
  rw[aq]at ag ab
  refine zg2 (S:=Unit) [3,4,5,6] (fun _=> [.ptr 1 0,.ptr 2 0,.ptr 3 0,.ptr 4 0]) (fun _=> [.lst (m.map Ln.row) 3,.box T.row,.box st.row,.box [.lsv 0 3 l.length 0 k],.box out0,.box [.int .i64 ad]]) (fun _=>True) hc hb ?_ ?_
  .have ar:([.lst (m.map Ln.row) 3,.box T.row,.box st.row,.box [.lsv 0 3 l.length 0 k],.box out0,.box [.int .i64 ad]]:St).all (ltOb 6)=true:=by simp[ltOb,ltC,ltK,Ln.row,GTable.row,GStmt.row,out0]
   by_cases h0:0<=st.limit
   .by_cases h1:st.limit<l.length
    .rw[if_pos ⟨h0,h1⟩]at ab
     refine zA ?_
     simp[go_sem,chS,h0,h1]
     refine zI om ?_
     simp[go_sem,<-ab]
     exact zG () ⟨tV,aN 6 ar⟩
    .rw[if_neg (fun h=>h1 h.2)]at ab
     subst ab
     refine zA ?_
     simp[go_sem,chS,h0,h1]
     exact zG () ⟨tV,aN 6 ar⟩
   .rw[if_neg (fun h=>h0 h.1)]at ab
    subst ab
    refine zA ?_
    simp[go_sem,chS,h0]
    exact zG () ⟨tV,aN 6 ar⟩
  rintro _ _
  clear ab a8
  refine zP (zA ?_)
  simp[go_sem]
  refine zJ8 6 0 1 _ dc rfl rfl ?_
  obtain⟨y0,ys,aA⟩: ∃y0 ys,st.items=y0::ys:=by
   cases h:st.items with
   |nil=>exact absurd h hit
   |cons y ys=>exact⟨y,ys,rfl⟩
  obtain⟨J,hJ⟩:=eX st.items
  obtain⟨aJ,aB⟩:=an.items
  rw[hJ]at aJ aB hM
  have aK:J.head?.map (·.kind)=some y0.kind:=by rw[<-hJ,aA];rfl
  have aj: ∃h:0<J.length,J[0]=y0:=by rw[<-hJ,aA];exact⟨Nat.succ_pos _,rfl⟩
  obtain⟨aC,aj⟩:=aj
  obtain⟨P,hP⟩:=eX (zw8 T J (m.take k) [])
  rw[hP]at hM
  have aL: ∀x∈m,LnOk x:=fun x hx=>(hok x (a6.mem_iff.1 hx)).1
  have fin: ∀(rows:List (List GValue)) (σl:St),P=(rows,0)->wret (some (.tup [.agg [.sl (.app 7) (rows.map fun r=> [V.sl .ro (r.map GValue.row)]),.int .i64 0],.int .i64 0])) 1 (fun r s=>r=selV M/\s= [.lst (C.map Ln.row) 3]) (.lst (m.map Ln.row) 3::σl):=fun rows σl h=>by
   rw[h,if_neg (fun h=>h rfl)]at hM
   exact xM 1 (s:= [.lst (m.map Ln.row) 3]) (r:= .tup [.agg (Ot.row ⟨0,rows⟩),.int .i64 0]) rfl rfl (by simp[ltOb,ltC,ltK,Ln.row]) (A4 _) (xU ⟨zd0 ⟨yX,zU rfl,tV⟩,za1 rfl,tV⟩) ⟨by rw[<-hM];rfl,by rw[a1]⟩
  have bad: ∀(er:Int) (σl:St),P.2=er->er≠0->wret (some (.tup [.agg [.sl .full [],.int .i64 0],.int .i64 er])) 1 (fun r s=>r=selV M/\s= [.lst (C.map Ln.row) 3]) (.lst (m.map Ln.row) 3::σl):=fun er σl h h0=>by
   rw[h,if_pos h0]at hM
   exact xM 1 (s:= [.lst (m.map Ln.row) 3]) (r:= .tup [.agg (Ot.row ⟨0,[]⟩),.int .i64 er]) rfl rfl (by simp[ltOb,ltC,ltK,Ln.row]) (A4 _) (xU ⟨zd0 ⟨yX,zU rfl,tV⟩,za1 rfl,tV⟩) ⟨by rw[<-hM];rfl,by rw[a1]⟩
  clear hM
  have au: ∀n:Nat,∀out:List (List GValue),([.lst (m.map Ln.row) 3,.box T.row,.box st.row,.box [.lsv 0 3 l.length 0 k],.box out0,.box [.int .i64 ad],.box [.sl (.app 7) (out.map fun r=> [V.sl .ro (r.map GValue.row)]),.int .i64 0],.app n 1]:St).all (ltOb 8)=true:=fun n out=>by simp[ltOb,ltC,ltK,Ln.row,GTable.row,GStmt.row,out0]
  refine zP (zA ?_)
  simp[go_sem]
  refine zH (S:=Nat×List (List GValue)) [3,4,6,9,49,50,51] (fun u=> [.ptr 1 0,.ptr 2 0,.ptr 4 0,.ptr 6 0,.lsv 0 3 l.length 0 k,.int .i64 k,.int .i64 u.1])
   (fun u=> [.lst (m.map Ln.row) 3,.box T.row,.box st.row,.box [.lsv 0 3 l.length 0 k],.box out0,.box [.int .i64 ad],.box [.sl (.app 7) (u.2.map fun r=> [V.sl .ro (r.map GValue.row)]),.int .i64 0],.app u.2.length 1]) (fun u=>k - u.1)
   (fun u=>u.1<=k/\u.2.length<=u.1/\zw8 T J ((m.take k).drop u.1) u.2=P) hc hb (0,[]) ⟨A3 _,A4 _,hP⟩ ?_ ?_
  .exact aN 8 (au 0 [])
  rintro⟨i,out⟩ ⟨hi,aP,hinv⟩
  simp only at hi aP hinv
  by_cases q:i<k
  rotate_left
  .rw[A9 (by rw[D4];omega),zw8]at hinv
   refine zA ?_
   simp[go_sem,q]
   refine zA ?_
   simp[go_sem,out0]
   exact fin out _ hinv.symm
  have ei:=zS q om
  have aD:i<m.length:=om
  have aE:i<l.length:=om
  obtain⟨x,hx⟩:=eX (m[i])
  have aU:m[i]? =some x:=by rw[A0 aD,hx]
  have aF:=aL x (hx▸Ab aD)
  have aG:=yK1 aF
  rw[A5 (by rw[D4];omega),List.getElem_take,hx,zw8,aK]at hinv
  by_cases k1:y0.kind=1
  .have av:(y0.kind==1)=true:=sU k1
   rw[if_pos (by rw[k1])]at hinv
   have aQ:=yG4 x.v om (fun h=>by rw[h]at aG;simp at aG)
   refine zA ?_
   simp[go_sem,q,aE,aq,hx,hJ,aC,aj,av]
   refine zc2 [(3,2),(4,0),(6,3)] 7 sM kR kR ?_
   simp[go_sem]
   refine pD aQ ?_
   simp[go_sem]
   refine zI ⟨om,zX rfl⟩ ?_
   simp[go_sem,ei]
   exact zG (i+1,out++ [x.v]) ⟨by show k - (i+1)<k - i;omega,⟨q,by show(out++ [x.v]).length<=i+1;simp;omega,hinv⟩,at_n 8 (by simp[go_sem,hJ]) rfl (au _ _) dc (zF sg rfl)⟩
  .have av:(y0.kind==1)=false:=sU k1
   rw[if_neg (fun h=>k1 (sU h))]at hinv
   obtain⟨E,hE⟩:=eX (evsX T x.v (J.map (·.e)) [])
   rw[hE]at hinv
   have al: ∀n:Nat,∀out:List (List GValue),([.lst (m.map Ln.row) 3,.box T.row,.box st.row,.box [.lsv 0 3 l.length 0 k],.box out0,.box [.int .i64 ad],.box [.sl (.app 7) (out.map fun r=> [V.sl .ro (r.map GValue.row)]),.int .i64 0],.app out.length 1,.box x.row,.app n 3]:St).all (ltOb 10)=true:=fun n out=>by simp[ltOb,ltC,ltK,Ln.row,GTable.row,GStmt.row,out0]
   refine zA ?_
   simp[go_sem,q,aE,aq,hx,hJ,aC,aj,av]
   refine zo5 12 3 dc sg ?_
   refine zH (S:=Nat×List GValue) [3,4,6,9,11,12,49,50,51,70,71,72] (fun u=> [.ptr 1 0,.ptr 2 0,.ptr 4 0,.ptr 6 0,.ptr 8 0,.sl (.app 9) (u.2.map GValue.row),.lsv 0 3 l.length 0 k,.int .i64 k,.int .i64 i,.sl .ro (J.map GItem.row),.int .i64 J.length,.int .i64 u.1])
    (fun u=> [.lst (m.map Ln.row) 3,.box T.row,.box st.row,.box [.lsv 0 3 l.length 0 k],.box out0,.box [.int .i64 ad],.box [.sl (.app 7) (out.map fun r=> [V.sl .ro (r.map GValue.row)]),.int .i64 0],.app out.length 1,.box x.row,.app u.2.length 3]) (fun u=>J.length - u.1)
    (fun u=>u.1<=J.length/\u.2.length<=u.1/\evsX T x.v ((J.drop u.1).map (·.e)) u.2=E) hc hb (0,[]) ⟨A3 _,A4 _,hE⟩ ?_ ?_
   .exact at_n 10 (by simp[go_sem,hJ]) rfl (al _ _) dc (zF sg rfl)
   rintro⟨j,acc⟩ ⟨hj,aR,aa⟩
   simp only at hj aR aa
   by_cases p:j<J.length
   .have ej:=zS p om
    obtain⟨y,hy⟩:=eX (J[j])
    have aS:=(aB y (hy▸Ab p)).2
    rw[A5 p,hy,Ai,evsX]at aa
    have ah:=yx2 T ao x.v aF.ok y.e aS
    obtain⟨⟨v,er⟩,hv⟩: ∃kv,evR T x.v y.e=kv:=⟨_,rfl⟩
    rw[hv]at aa ah
    simp only at aa
    refine zA ?_
    simp[go_sem,p,hy]
    refine zM ah cB ⟨zC rfl,zL,zQ1 y.e,tV⟩ rfl ?_
    simp[go_sem,valP]
    by_cases q2:er=0
    rotate_left
    .have aw:(er !=0)=true:=sU q2
     rw[if_pos q2]at aa
     subst aa
     simp only at hinv
     rw[if_pos q2]at hinv
     simp[go_sem,aw,out0]
     exact bad er _ (by rw[<-hinv]) q2
    have aw:(er !=0)=false:=sU q2
    rw[if_neg (fun h=>h q2)]at aa
    simp[go_sem,aw]
    refine zI ⟨om,zX rfl⟩ ?_
    simp[go_sem,ej]
    exact zG (j+1,acc++ [v]) ⟨by show J.length - (j+1)<J.length - j;omega,⟨p,by show(acc++ [v]).length<=j+1;simp;omega,aa⟩,aN 10 (al _ _)⟩
   .rw[A9 om,Bm,evsX]at aa
    subst aa
    simp only at hinv
    rw[if_neg (fun h=>h rfl)]at hinv
    refine zA ?_
    simp[go_sem,p]
    refine zI ⟨om,zX rfl⟩ ?_
    simp[go_sem,ei]
    exact zG (i+1,out++ [acc]) ⟨by show k - (i+1)<k - i;omega,⟨q,by show(out++ [acc]).length<=i+1;simp;omega,hinv⟩,aN 8 (au _ _)⟩
end Go.Proofs.YtefbicjgbaaieaaGreat
