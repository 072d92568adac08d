/-
  A stable sort, plainly: putting in one by one, and that whatever moves the places about and leaves them in the stable order is that; and the order of values. Used by the walk of exec.choose.
  Conditions: as each theorem states them.
-/
import Derived.Test.YtefbicjgbaaieaaGreatKAV
import Derived.Test.YtefbicjgbaaieaaGreatKAU
import Derived.Test.YtefbicjgbaaieaaGreatKAW
import Derived.Test.YtefbicjgbaaieaaGreatKAG
import Derived.Test.YtefbicjgbaaieaaGreatKAI
import Derived.Test.YtefbicjgbaaieaaGreatKAT
set_option maxHeartbeats 8000000
namespace Go.Proofs.YtefbicjgbaaieaaGreat
open Go Go.Vx R Go.Proofs.Tryz
set_option maxRecDepth 100000
def metR (a b:Mp (List UInt8)) (sn:Mp Int) (M:List Ln×Int) (r:V) (s:St):Prop:=
 (M.2≠0/\s=runS a b sn/\r= .tup [.sl .ro [],.int .i64 M.2])∨(M.2=0/\s=runS a b sn++ [.lst (M.1.map Ln.row) 3]/\r= .tup [.lsv 4 3 M.1.length 0 M.1.length,.int .i64 0])
theorem LnOk.light {x:Ln} (h:LnOk x):LightR x.v:=by
 obtain⟨tn,T,_,hT,hm⟩:=h.tab
 exact zB2 ((by decide: ∀T∈tabsS,T.cols.length<=20) T (As hT)) h.ok hm
theorem yF1 {nt:Nat} {d:Option Tmp} {K:KT} {e:Env} {σ:St} {i id clk:Nat} {seen:List Nat} {b:Mp (List UInt8)} {R0:Vx.R} (hR:R0=zh1 true σ (.ptr i 0)) (hi:σ[i]? =some (.it (some id) clk seen clk)) (hid:σ[id]? =some (.mp (kvE V.str b.W) b.bs clk)) (hb: ∀x∈b.bs,x<clk)
  (h0:ze4 seen b.W b.bs= []->wput nt d (.tup [.bool false]) K fx e σ) (h1: ∀p∈ze4 seen b.W b.bs,wput nt d (.tup [.bool true,plV p.1.1,.str p.1.2]) K fx e (σ.set i (.it (some id) clk (seen++ [p.2]) clk))):wfin nt d R0 K fx e σ:=by
 subst hR
 have aa:(b.bs.all fun x=>decide (x<clk))=true:=Af.2 fun x hx=>decide_eq_true (hb x hx)
 unfold zh1
 simp only[hi,hid,aa,A5,and_self,if_true,xe6]
 match hL:ze4 seen b.W b.bs with
 | []=>exact h0 hL
 | [p]=>exact h1 p (by rw[hL];exact Bl.2 rfl)
 |p::q::r=>
  simp only[Aj]
  rw[xJ6]
  refine xU9 fun x hx=> ?_
  have ab:x∈(p::q::r).map fun p:(Pl×List UInt8)×Nat=>((.tup [.bool true,plV p.1.1,.str p.1.2]:V),σ.set i (.it (some id) clk (seen++ [p.2]) clk)):=by
   simpa using hx
  obtain⟨y,hy,rfl⟩:=Ac.1 ab
  exact h1 y (by rw[hL];exact hy)
theorem xg0 {a b:Mp (List UInt8)} {sn:Mp Int} {m:List Ln} {k:Nat} {σ:St} (hk:4<=k) (h4:σ.take 4=runS a b sn) (hσ:σ[k]? =some (.lst (m.map Ln.row) 3)):wret (some (.tup [.lsv k 3 m.length 0 m.length,.int .i64 0])) 4 (metR a b sn (m,0)) σ:=by
 refine zQ1 [0,1,2,3,k] (s:=runS a b sn++ [.lst (m.map Ln.row) 3]) (r:= .tup [.lsv 4 3 m.length 0 m.length,.int .i64 0]) ?_ (fun i hi=> ?_) rfl (fun i j o aa ho=> ?_) (.inl (by simp[renS,renA,renC,renK,ren])) (.inr ⟨rfl,rfl,rfl⟩)
 .simp;omega
 .match i,hi with
  |0,_=>rfl
  |1,_=>rfl
  |2,_=>rfl
  |3,_=>rfl
 .by_cases q:i<4
  .have e:j=i:=by
    match i,q with
    |0,_=>simp at aa;omega
    |1,_=>simp at aa;omega
    |2,_=>simp at aa;omega
    |3,_=>simp at aa;omega
   subst e
   have h1:(runS a b sn)[j]? =some o:=by rw[Ah (by exact q)]at ho;exact ho
   have ab:ltOb 4 o=true:=Af.1 (xQ 4 dC a b sn) o (As h1)
   rw[xT (n:=4) (fun x hx=> ?_) ab]
   .rw[<-h4,Da q]at h1
    exact h1
   .rw[wM (by simp;omega)]
    match x,hx with
    |0,_=>rfl
    |1,_=>rfl
    |2,_=>rfl
    |3,_=>rfl
  .have e:i=4:=by
    have:=(A3.1 aa).1
    simp at this;omega
   subst e
   have e1:o= .lst (m.map Ln.row) 3:=by cases ho;rfl
   have e2:j=k:=by simp at aa;omega
   subst e1;subst e2
   rw[xT (n:=0) (fun _ h=>absurd h (Bc _)) (by simp[ltOb,ltC,ltK,Ln.row])]
   exact hσ
theorem xs5 (T:GTable) (st:GStmt) (acc:List Ln) (x:Ln) (l:List Ln):zw7 T st acc (x::l)=if(evR T x.v st.where_).2≠0 then([],(evR T x.v st.where_).2)else zw7 T st (if ya3 (evR T x.v st.where_).1=true then acc++ [x]else acc) l:=rfl
theorem wg7 (tn:Nat) (T:GTable) (hT:tabsS[tn]? =some T) (st:GStmt) (aI:SOk st) (hv:VOk st) (a b:Mp (List UInt8)) (sn:Mp Int) (l:List Ln) (aa:NowOk b l) (hl:l.length<=10000):
  VCalls prog 90 [.ptr 3 0,.int .i64 tn,.agg st.row] (runS a b sn) (metR a b sn (metF tn T st l)):=by
 obtain⟨a6,aJ⟩:=A3.1 hT
 have h3:tn<3:=a6
 have a7:=yF7 xG tabsS tn st dC dC (by have:=zK9 st;unfold maxLen;omega) hv
 have a8:=yp8 tn st (by have:=zK9 st;unfold maxLen;omega)
 obtain⟨⟨lo,hi⟩,ao⟩: ∃bd,zg4 tabsS tn st=bd:=⟨_,rfl⟩
 rw[ao]at a7
 obtain⟨G,hG⟩:=eX (xS tn st)
 have aK:=zS2 tn st
 have aA:=fun g (hg:g∈xS (tn:Int) st)=>xh8 tn h3 hg
 rw[hG]at a8 aK aA
 refine iV 4 func90 ntmps90 results90 fun c hc hb=> ?_
 refine zO (zA ?_)
 simp[go_sem,runS,runB]
 refine zO (zA ?_)
 simp[go_sem]
 refine yS [(6,0)] 5 rfl kR kR ?_
 simp[go_sem]
 refine pD a7 ?_
 simp[go_sem,xh5]
 refine zO (zA ?_)
 simp[go_sem]
 refine zM5 10 3 dC sg ?_
 refine zO (zA ?_)
 simp[go_sem]
 refine yS [(6,0)] 6 rfl kR kR ?_
 simp[go_sem]
 refine pD a8 ?_
 simp[go_sem]
 have aB: ∀(m:List Ln),([a.ob .str,b.ob .str,sn.ob (V.int .i64),.box [.sl .ro xG,.sl .ro (tabsS.map GTable.row),.mp 0,.mp 1,.mp 2],.box st.row,.lst (m.map Ln.row) 3]:St).all (ltOb 6)=true:=fun m=>by
  have h:=xQ 6 om a b sn
  simp only[runS,runB,Ar,Ch,Cm]at h⊢
  rw[A6,A6,A6]at h⊢
  refine⟨h.1,h.2.1,h.2.2.1, ?_⟩
  rw[A6]
  exact⟨h.2.2.2,by simp[ltOb,ltC,ltK,GStmt.row,Ln.row]⟩
 have eB:b.ob .str= .mp (kvE .str b.W) b.bs b.clk:=rfl
 have aL: ∀x∈b.bs,x<b.clk:=aa.ok.lt
 have ad: ∀(m:List Ln) (se:List Nat),([a.ob .str,b.ob .str,sn.ob (V.int .i64),.box [.sl .ro xG,.sl .ro (tabsS.map GTable.row),.mp 0,.mp 1,.mp 2],.box st.row,.lst (m.map Ln.row) 3,.it (some 1) b.clk se b.clk]:St).all (ltOb 7)=true:=fun m se=>by
  have h:=xQ 7 om a b sn
  simp only[runS,runB,Ar,Ch,Cm]at h⊢
  rw[A6,A6,A6]at h⊢
  refine⟨h.1,h.2.1,h.2.2.1, ?_⟩
  rw[A6]
  exact⟨h.2.2.2,by simp[ltOb,ltC,ltK,GStmt.row,Ln.row]⟩
 refine zH (S:=Nat×List Ln) [0,1,5,8,9,10,40,41,42] (fun u=> [.ptr 3 0,.int .i64 tn,.ptr 4 0,.str lo,.str hi,.lsv 5 3 u.2.length 0 u.2.length,.sl .ro (G.map yQ),.int .i64 G.length,.int .i64 u.1])
  (fun u=> [a.ob .str,b.ob .str,sn.ob (V.int .i64),.box [.sl .ro xG,.sl .ro (tabsS.map GTable.row),.mp 0,.mp 1,.mp 2],.box st.row,.lst (u.2.map Ln.row) 3]) (fun u=>G.length - u.1)
  (fun u=>u.1<=G.length/\u.2.Perm ((G.take u.1).flatMap fun g=>l.filter (inL (yV tn g).1 lo hi))/\u.2.length<=u.1*10000) hc hb (0,[]) ⟨A4 _,sm,A4 _⟩ ?_ ?_
 .exact aN 6 (aB [])
 rintro⟨i,acc⟩ ⟨aP,ae,aQ⟩
 simp only at aP ae aQ
 by_cases q:i<G.length
 .have ei:=zQ q om
  obtain⟨g,hg⟩:=eX (G[i])
  obtain⟨bb,aR,aC⟩:=aA g (hg▸Aa q)
  have aD:=zG6 tn g om om
  obtain⟨rng,al⟩:=eX ((yV tn g).1)
  have aS:yV tn g=(rng,0):=Et al aR
  rw[aS]at aD aC
  refine zA ?_
  simp[go_sem,q,hg,yQ]
  refine pC aD ?_
  simp[go_sem,zP0,eB]
  refine zH (S:=List Nat×List (Pl×List UInt8)) [0,1,5,8,9,10,13,40,41,42,60] (fun u=> [.ptr 3 0,.int .i64 tn,.ptr 4 0,.str lo,.str hi,.lsv 5 3 (acc++(u.2.filter (inE rng lo hi)).map (lnE tn)).length 0 (acc++(u.2.filter (inE rng lo hi)).map (lnE tn)).length,.int .i64 rng,.sl .ro (G.map yQ),.int .i64 G.length,.int .i64 i,.ptr 6 0])
   (fun u=> [a.ob .str,b.ob .str,sn.ob (V.int .i64),.box [.sl .ro xG,.sl .ro (tabsS.map GTable.row),.mp 0,.mp 1,.mp 2],.box st.row,.lst ((acc++(u.2.filter (inE rng lo hi)).map (lnE tn)).map Ln.row) 3,.it (some 1) b.clk u.1 b.clk]) (fun u=>(ze4 u.1 b.W b.bs).length)
   (fun u=>MetD u.1 b.W b.bs u.2) hc hb ([],[]) (MetD.start aa.ok.len) ?_ ?_
  .exact at_n 7 (by simp[go_sem];rfl) rfl (ad _ _) dC (zF sg rfl)
  rintro⟨se,D⟩ hD
  simp only at hD
  refine zr9 61 dC ?_
  refine zA ?_
  simp[go_sem,eB]
  have aE: ∀p∈ze4 se b.W b.bs,p.1.2.length<=maxB:=fun p hp=>by
   obtain⟨x,hx,aT⟩:=Ac.1 (aa.perm.mem_iff.1 (List.of_mem_zip (zL6 hp)).1)
   rw[<-aT]
   have:=zV2 (LnOk.light (aa.rows x hx)) x.v.length
   exact Ax this dC
  have bc:D.length<=10000:=by
   have h1:=hD.length_eq
   rw[aa.perm.length_eq]at h1
   simp only[Ak,B1]at h1
   omega
  have bf:((D.filter (inE rng lo hi)).map (lnE tn)).length<=D.length:=by rw[B1];exact Bo _ _
  refine yF1 (b:=b) (i:=6) (id:=1) (seen:=se) (clk:=b.clk) (by simp[go_sem,zh1]) rfl rfl aL (fun hL=> ?_) (fun p hp=> ?_)
  .have aq:=yP0 aa (hD.done hL) (t:=tn) (rng:=rng) (by rw[aC]) lo hi
   simp[go_sem,ei]
   exact zG (i+1,acc++(D.filter (inE rng lo hi)).map (lnE tn)) ⟨by show G.length - (i+1)<G.length - i;omega,⟨q,by
    show(acc++_).Perm _
    rw[C0 q,Ej,hg]
    refine ae.append ?_
    simp only[C1,List.flatMap_nil,Az,al]
    exact aq,by show(acc++_).length<=(i+1)*10000;rw[Ak];omega⟩,at_n 6 (by simp[go_sem];rfl) rfl (aB _) dC (zF sg rfl)⟩
  .have af:=yy1 (g:=V.str) aa.ok.nd (zL6 hp)
   have ag:=hD.next aa.ok.nd hp
   have ar:=(zE1 aa.ok.nd hp).length_eq
   have au:=aE p hp
   clear aE
   obtain⟨⟨⟨pr,pk⟩,data⟩,stamp⟩:=p
   simp only[plV]at af ag ar au
   have ab:(ze4 (se++ [stamp]) b.W b.bs).length<(ze4 se b.W b.bs).length:=by rw[ar];exact Es _
   have an:=xV8 xG tabsS tn data au dC
   have aF:lnE tn ((pr,pk),data)=⟨pr,pk,(rowF tabsS tn data).1⟩:=rfl
   obtain⟨rf,aU⟩:=eX (rowF tabsS tn data)
   rw[aU]at an aF
   have ak:inE rng lo hi ((pr,pk),data)=((pr==rng)&&(!Op.bytesLess pk lo&&Op.bytesLess pk hi)):=rfl
   clear ar hp au
   refine(A9 (pr==rng)).elim (fun r1=> ?_) (fun r1=> ?_)
   rotate_left
   .have hE:inE rng lo hi ((pr,pk),data)=false:=by rw[ak,r1];rfl
    simp[go_sem,plV,zi0,af,r1]
    exact zG (se++ [stamp],D++ [((pr,pk),data)]) ⟨ab,ag,at_n 7 (by simp[go_sem,hE];rfl) rfl (ad _ _) dC (zF (by simp[go_sem,hE]) rfl)⟩
   refine(A9 (Op.bytesLess pk lo)).elim (fun r2=> ?_) (fun r2=> ?_)
   .have hE:inE rng lo hi ((pr,pk),data)=false:=by rw[ak,r1,r2];rfl
    simp[go_sem,plV,zi0,af,r1,r2]
    exact zG (se++ [stamp],D++ [((pr,pk),data)]) ⟨ab,ag,at_n 7 (by simp[go_sem,hE];rfl) rfl (ad _ _) dC (zF (by simp[go_sem,hE]) rfl)⟩
   refine(A9 (Op.bytesLess pk hi)).elim (fun r3=> ?_) (fun r3=> ?_)
   rotate_left
   .have hE:inE rng lo hi ((pr,pk),data)=false:=by rw[ak,r1,r2,r3];rfl
    simp[go_sem,plV,zi0,af,r1,r2,r3]
    exact zG (se++ [stamp],D++ [((pr,pk),data)]) ⟨ab,ag,at_n 7 (by simp[go_sem,hE];rfl) rfl (ad _ _) dC (zF (by simp[go_sem,hE]) rfl)⟩
   have hE:inE rng lo hi ((pr,pk),data)=true:=by rw[ak,r1,r2,r3];rfl
   simp[go_sem,plV,zi0,af,r1,r2,r3]
   refine pC an ?_
   simp[go_sem,rowV,By]
   have bg:(D.filter (inE rng lo hi)).length<=D.length:=Bo _ _
   refine zI ⟨zV rfl,om⟩ ?_
   simp[go_sem]
   exact zG (se++ [stamp],D++ [((pr,pk),data)]) ⟨ab,ag,at_n 7 (by simp[go_sem,hE,aF];rfl) rfl (ad _ _) dC (zF (by simp[go_sem,hE,Ds]) rfl)⟩
 .have aV:i=G.length:=om
  have bh: ∀x:Ln,zi8 tn st x=((G.any fun g=>(yV tn g).1==x.r)&&(!Op.bytesLess x.k lo&&Op.bytesLess x.k hi)):=fun x=>by unfold zi8;rw[hG,ao]
  have ah:acc.Perm (l.filter (zi8 tn st)):=by
   have h:=yC9 tn h3 st l
   rw[hG,ao]at h
   rw[aV,Dz]at ae
   exact ae.trans h
  have hlen:acc.length<=l.length:=by rw[ah.length_eq];exact Bo _ _
  obtain⟨M,hM⟩:=eX (metF tn T st l)
  have av:st.filtered=false->M=(l.filter (zi8 tn st),0):=fun h=>by rw[<-hM];unfold metF;rw[if_neg (by rw[h];decide)]
  have aw:st.filtered=true->M=zw7 T st [] (l.filter (zi8 tn st)):=fun h=>by rw[<-hM];unfold metF;rw[if_pos h]
  rw[hM]
  clear hM
  refine zA ?_
  simp[go_sem,q]
  refine zO (zA ?_)
  simp[go_sem]
  refine yS0 Tryz.sortMet rfl cB dC Tryz.sortMet_agg Tryz.sortMet_sz cB yO2 xE5 (f:=Ln.row) (kx:=Ln.at) (fun x=>⟨_,rfl,rfl⟩) acc rfl om (fun l' ax aG=> ?_)
  have ay:=yW1 aa.rise (ax.symm.trans ah) aG
  have az:acc.length=l'.length:=ax.length_eq
  rw[<-ay]at av aw
  simp[go_sem,az]
  refine zO (zA ?_)
  simp[go_sem]
  refine zR (fun h=> ?_) (fun h=> ?_)
  .have hf:st.filtered=false:=by simpa using h
   rw[av hf]
   simp[go_sem]
   exact xg0 dC rfl rfl
  .have hf:st.filtered=true:=by simpa using h
   have hM:=aw hf
   have bj:l'.length<=10000:=om
   have aW: ∀x∈l',LnOk x:=fun x hx=>aa.rows x (by rw[ay]at hx;exact(Aw.1 hx).1)
   have aX:T.cols.length<=maxLen:=(by decide: ∀T∈tabsS,T.cols.length<=maxLen) T (As hT)
   clear av aw ay ax aG ae ah
   have ai: ∀(m:List Ln),([a.ob .str,b.ob .str,sn.ob (V.int .i64),.box [.sl .ro xG,.sl .ro (tabsS.map GTable.row),.mp 0,.mp 1,.mp 2],.box st.row,.lst (l'.map Ln.row) 3,.lst (m.map Ln.row) 3]:St).all (ltOb 7)=true:=fun m=>by
    have h:=xQ 7 om a b sn
    simp only[runS,runB,Ar,Ch,Cm]at h⊢
    rw[A6,A6,A6]at h⊢
    refine⟨h.1,h.2.1,h.2.2.1, ?_⟩
    rw[A6]
    exact⟨h.2.2.2,by simp[ltOb,ltC,ltK,GStmt.row,Ln.row]⟩
   refine zO (zA ?_)
   simp[go_sem]
   refine zM5 19 3 dC sg ?_
   refine zO (zA ?_)
   simp[go_sem]
   refine zH (S:=Nat×List Ln) [0,1,5,19,105,106,107] (fun u=> [.ptr 3 0,.int .i64 tn,.ptr 4 0,.lsv 6 3 u.2.length 0 u.2.length,.lsv 5 3 l'.length 0 l'.length,.int .i64 l'.length,.int .i64 u.1])
    (fun u=> [a.ob .str,b.ob .str,sn.ob (V.int .i64),.box [.sl .ro xG,.sl .ro (tabsS.map GTable.row),.mp 0,.mp 1,.mp 2],.box st.row,.lst (l'.map Ln.row) 3,.lst (u.2.map Ln.row) 3]) (fun u=>l'.length - u.1)
    (fun u=>u.1<=l'.length/\u.2.length<=u.1/\zw7 T st u.2 (l'.drop u.1)=M) hc hb (0,[]) ⟨A4 _,A5 _,hM.symm⟩ ?_ ?_
   .exact aN 7 (ai [])
   rintro⟨j,out⟩ ⟨hj,aY,hinv⟩
   simp only at hj aY hinv
   by_cases p:j<l'.length
   rotate_left
   .rw[Ab om,zw7]at hinv
    subst hinv
    refine zA ?_
    simp[go_sem,p]
    refine zA ?_
    simp[go_sem]
    exact xg0 dC rfl rfl
   have ej:=zQ p om
   obtain⟨x,hx⟩:=eX (l'[j])
   have aZ:=aW x (hx▸Aa p)
   rw[A8 p,hx,xs5]at hinv
   have aj:=yx0 T aX x.v aZ.ok st.where_ aI.where_
   obtain⟨⟨v,er⟩,hv⟩: ∃kv,evR T x.v st.where_=kv:=⟨_,rfl⟩
   rw[hv]at hinv aj
   simp only at hinv
   have aH:=xH9 v
   obtain⟨tv,ba⟩:=eX (ya3 v)
   rw[ba]at hinv aH
   refine zA ?_
   simp[go_sem,p,hx]
   refine yS [(12,0)] 8 rfl kR kR ?_
   simp[go_sem,a6,aJ]
   refine zh8 aj cB (fun _=>⟨zC rfl,zK,zQ2 st.where_,tV⟩) rfl ?_
   simp[go_sem,valP]
   by_cases q2:er=0
   rotate_left
   .have a1:(er !=0)=true:=by simpa using q2
    rw[if_pos q2]at hinv
    subst hinv
    simp[go_sem,a1]
    exact xA 4 (s:=runS a b sn) (r:= .tup [.sl .ro [],.int .i64 er]) rfl rfl (xQ 4 dC a b sn) (A5 _) (wD ⟨zx0,zb8 rfl,tV⟩) (.inl ⟨q2,rfl,rfl⟩)
   have a1:(er !=0)=false:=by simpa using q2
   rw[if_neg (fun h=>h q2)]at hinv
   simp[go_sem,a1]
   refine pC aH ?_
   refine(A9 tv).elim (fun t=> ?_) (fun t=> ?_)
   .rw[if_pos t]at hinv
    simp[go_sem,t,By]
    refine zI ⟨zV rfl,om⟩ ?_
    simp[go_sem,ej]
    exact zG (j+1,out++ [x]) ⟨by show l'.length - (j+1)<l'.length - j;omega,⟨p,by show(out++ [x]).length<=j+1;simp;omega,hinv⟩,aN 7 (ai (out++ [x]))⟩
   .rw[if_neg (by rw[t];decide)]at hinv
    simp[go_sem,t,ej]
    exact zG (j+1,out) ⟨by show l'.length - (j+1)<l'.length - j;omega,⟨p,by show out.length<=j+1;omega,hinv⟩,aN 7 (ai out)⟩
end Go.Proofs.YtefbicjgbaaieaaGreat
namespace Go.Proofs.YtefbicjgbaaieaaGreat
open Go Go.Vx Go.Proofs.Tryz
structure Ord (lt:Nat->Nat->Bool):Prop where
 irr: ∀i,lt i i=false
 tr: ∀i j k,lt i j=true->lt j k=true->lt i k=true
 nt: ∀i j k,lt i j=false->lt j k=false->lt i k=false
variable {a:Nat}{b:Nat}{i:Nat}{k:Nat}{m:Nat}{j:Nat}{lt:Nat->Nat->Bool}{f:Nat->Nat}{g:Nat->Nat}
def TO (lt:Nat->Nat->Bool) (i j:Nat):Prop:=lt i j=true∨lt j i=false/\i<j
theorem Ord.asym (o:Ord lt) (h:lt i j=true):lt j i=false:=by
 cases q:lt j i
 .rfl
 .have:=o.tr _ _ _ h q;rw[o.irr]at this;cases this
theorem TO.trans (o:Ord lt) (h:TO lt i j) (g:TO lt j k):TO lt i k:=by
 cases q:lt i k with
 |true=>exact .inl q
 |false=>
  rcases h with h|⟨h,h'⟩
  .rcases g with g|⟨g,g'⟩
   .rw[o.tr _ _ _ h g]at q;cases q
   .have:=o.nt _ _ _ q g;rw[h]at this;cases this
  .rcases g with g|⟨g,g'⟩
   .have:=o.nt _ _ _ h q;rw[g]at this;cases this
   .exact .inr ⟨o.nt _ _ _ g h,om⟩
theorem TO.irr (o:Ord lt) (h:TO lt i i):False:=by
 rcases h with h|⟨_,h⟩
 .rw[o.irr]at h;cases h
 .omega
theorem TO.fore (o:Ord lt) (h:j<i):TO lt j i↔lt i j=false:=
 ⟨fun q=>q.elim o.asym fun q=>q.1,fun q=> .inr ⟨q,h⟩⟩
def Srt (lt:Nat->Nat->Bool) (f:Nat->Nat) (a b:Nat):Prop:= ∀i j,a<=i->i<j->j<b->TO lt (f i) (f j)
def Mv (f f':Nat->Nat) (a b:Nat):Prop:=
 ∃π:Nat->Nat,(∀k,a<=k->k<b->a<=π k/\π k<b)/\(∀k,k<a∨b<=k->π k=k)/\(∀i j,π i=π j->i=j)/\ ∀k,f' k=f (π k)
theorem Mv.refl (f:Nat->Nat) (a b:Nat):Mv f f a b:=⟨id,fun _ h1 h2=>⟨h1,h2⟩,fun _ _=>rfl,fun _ _ h=>h,fun _=>rfl⟩
theorem Mv.mono {f':Nat->Nat} {c d:Nat} (h:Mv f f' a b) (h1:c<=a) (h2:b<=d):Mv f f' c d:=by
 obtain⟨π,p1,p2,p3,p4⟩:=h
 refine⟨π,fun k k1 k2=> ?_,fun k hk=>p2 k om,p3,p4⟩
 by_cases q:a<=k/\k<b
 .have:=p1 k q.1 q.2;omega
 .rw[p2 k om];exact⟨k1,k2⟩
theorem Mv.trans {h:Nat->Nat} (p:Mv f g a b) (q:Mv g h a b):Mv f h a b:=by
 obtain⟨π,p1,p2,p3,p4⟩:=p
 obtain⟨ρ,q1,q2,q3,q4⟩:=q
 refine⟨fun k=>π (ρ k),fun k k1 k2=> ?_,fun k hk=> ?_,fun i j e=>q3 _ _ (p3 _ _ e),fun k=>by rw[q4,p4]⟩
 .have:=q1 k k1 k2;exact p1 _ this.1 this.2
 .show π (ρ k)=k
  rw[q2 k hk,p2 k hk]
theorem Mv.out (p:Mv f g a b) (h:k<a∨b<=k):g k=f k:=by
 obtain⟨π,p1,p2,p3,p4⟩:=p
 rw[p4,p2 k h]
theorem Mv.at (p:Mv f g a b) (h1:a<=k) (h2:k<b): ∃j,a<=j/\j<b/\g k=f j:=by
 obtain⟨π,p1,p2,p3,p4⟩:=p
 exact⟨π k,(p1 k h1 h2).1,(p1 k h1 h2).2,p4 k⟩
def sw (f:Nat->Nat) (i j:Nat):Nat->Nat:=fun k=>if k=i then f j else if k=j then f i else f k
def swR (f:Nat->Nat) (a b n:Nat):Nat->Nat:=fun k=>if a<=k/\k<a+n then f (k - a+b)else if b<=k/\k<b+n then f (k - b+a)else f k
theorem wh8 (f:Nat->Nat) (a b:Nat):swR f a b 0=f:=by
 funext x
 unfold swR
 (repeat' split)<;>first|rfl|(exfalso;omega)|(congr 1;omega)
theorem xH4 (f:Nat->Nat) (h:a+i<b):sw (swR f a b i) (a+i) (b+i)=swR f a b (i+1):=by
 funext x
 unfold sw swR
 (repeat' split)<;>first|rfl|(exfalso;omega)|(congr 1;omega)
def rotF (f:Nat->Nat) (a m b:Nat):Nat->Nat:=fun k=>if a<=k/\k<a+(b - m)then f (k+(m - a))else if a+(b - m)<=k/\k<b then f (k - (b - m))else f k
theorem Mv.rot (f:Nat->Nat) (h1:a<=m) (h2:m<=b):Mv f (rotF f a m b) a b:=by
 refine⟨fun k=>if a<=k/\k<a+(b - m)then k+(m - a)else if a+(b - m)<=k/\k<b then k - (b - m)else k,fun k k1 k2=> ?_,fun k hk=> ?_,fun x y e=> ?_,fun k=> ?_⟩
 .dsimp only
  split
  .omega
  .split<;>omega
 .dsimp only
  rw[if_neg om,if_neg om]
 .dsimp only at e
  split at e<;>split at e<;>(try split at e)<;>(try split at e)<;>omega
 .unfold rotF
  simp only
  split
  .rfl
  .split<;>rfl
theorem wd3 (g:Nat->Nat) (h:j<i) (hi:i<=m):rotF (swR g (m - i) m j) (m - (i - j)) m (m+j)=rotF g (m - i) m (m+j):=by
 funext x
 unfold rotF swR
 (repeat' split)<;>first|rfl|(exfalso;omega)|(congr 1;omega)
theorem wd4 (g:Nat->Nat) (h:i<j) (hi:i<=m):rotF (swR g (m - i) (m+j - i) i) (m - i) m (m+(j - i))=rotF g (m - i) m (m+j):=by
 funext x
 unfold rotF swR
 (repeat' split)<;>first|rfl|(exfalso;omega)|(congr 1;omega)
theorem wd2 (g:Nat->Nat) (hi:i<=m):swR g (m - i) m i=rotF g (m - i) m (m+i):=by
 funext x
 unfold rotF swR
 (repeat' split)<;>first|rfl|(exfalso;omega)|(congr 1;omega)
theorem wh9 (f:Nat->Nat) (h:a<=k):sw (rotF f a (a+1) (k+1)) k (k+1)=rotF f a (a+1) (k+2):=by
 funext x
 unfold sw rotF
 (repeat' split)<;>first|rfl|(exfalso;omega)|(congr 1;omega)
theorem yP3 (f:Nat->Nat) (a m:Nat):rotF f a m m=f:=by
 funext x
 unfold rotF
 (repeat' split)<;>first|rfl|(exfalso;omega)|(congr 1;omega)
theorem xX6 (f:Nat->Nat) (h:k<=m) (hk:0<k):sw (rotF f k m (m+1)) k (k - 1)=rotF f (k - 1) m (m+1):=by
 funext x
 unfold sw rotF
 (repeat' split)<;>first|rfl|(exfalso;omega)|(congr 1;omega)
theorem yj3 (f:Nat->Nat) (m b:Nat):rotF f m m b=f:=by
 funext x
 unfold rotF
 (repeat' split)<;>first|rfl|(exfalso;omega)|(congr 1;omega)
theorem zJ0 (f:Nat->Nat) (h:a<=k/\k<a+(b - m)):rotF f a m b k=f (k+(m - a)):=by unfold rotF;rw[if_pos h]
theorem zJ1 (f:Nat->Nat) (h:a+(b - m)<=k/\k<b):rotF f a m b k=f (k - (b - m)):=by unfold rotF;rw[if_neg om,if_pos h]
theorem zz0 (f:Nat->Nat) (hm:m<=b) (h0:a<=m) (h:k<a∨b<=k):rotF f a m b k=f k:=by unfold rotF;rw[if_neg om,if_neg om]
section
variable {lt:Nat->Nat->Bool} {f:Nat->Nat}
theorem xP9 {a b i:Nat} (hs:Srt lt f (a+1) b) (h1:a+1<=i) (h2:i<=b) (hl: ∀x,a+1<=x->x<i->TO lt (f x) (f a)) (hr: ∀x,i<=x->x<b->TO lt (f a) (f x)):Srt lt (rotF f a (a+1) i) a b:=by
 intro x y hx aa hy
 rcases Br y (i - 1)with q|q|q
 .rw[zJ0 f om,zJ0 f om]
  exact hs _ _ om om om
 .rw[zJ0 f om,zJ1 f om,show y - (i - (a+1))=a by omega]
  exact hl _ om om
 .rw[zz0 f om om (k:=y) om]
  rcases Br x (i - 1)with p|p|p
  .rw[zJ0 f om]
   exact hs _ _ om om om
  .rw[zJ1 f om,show x - (i - (a+1))=a by omega]
   exact hr _ om om
  .rw[zz0 f om om (k:=x) om]
   exact hs _ _ om om om
theorem xf9 {a m i:Nat} (hs:Srt lt f a m) (h1:a<=i) (h2:i<=m) (hl: ∀x,a<=x->x<i->TO lt (f x) (f m)) (hr: ∀x,i<=x->x<m->TO lt (f m) (f x)):Srt lt (rotF f i m (m+1)) a (m+1):=by
 intro x y hx aa hy
 rcases Br x i with q|q|q
 .rw[zz0 f om om (k:=x) om]
  rcases Br y i with p|p|p
  .rw[zz0 f om om (k:=y) om]
   exact hs _ _ om om om
  .rw[zJ0 f om,show y+(m - i)=m by omega]
   exact hl _ om om
  .rw[zJ1 f om]
   exact hs _ _ om om om
 .rw[zJ0 f om,show x+(m - i)=m by omega,zJ1 f om]
  exact hr _ om om
 .rw[zJ1 f om,zJ1 f om]
  exact hs _ _ om om om
theorem xo9 (o:Ord lt) {a m b mid s e lo hi:Nat} (ha:a<m) (hb:m<b) (al:mid=(a+b)/2) (ad:Srt lt f a m) (ae:Srt lt f m b)
  (ai:lo=if mid<m then mid+m - b else a) (aj:hi=if mid<m then mid else m) (h1:lo<=s) (h2:s<=hi) (he:e=mid+m - s)
  (hl: ∀c,lo<=c->c<s->TO lt (f c) (f (mid+m - 1 - c))) (hr: ∀c,s<=c->c<hi->TO lt (f (mid+m - 1 - c)) (f c)):
  (a<=s/\s<=mid/\s<=m/\m<=e/\mid<=e/\e<=b/\s+(e - m)=mid)/\(∀x y,a<=x->x<mid->mid<=y->y<b->TO lt (rotF f s m e x) (rotF f s m e y))/\
  Srt lt (rotF f s m e) a s/\Srt lt (rotF f s m e) s mid/\Srt lt (rotF f s m e) mid e/\Srt lt (rotF f s m e) e b:=by
 have hm:mid*2<=a+b/\a+b<=mid*2+1:=om
 have ak:a<=s/\s<=mid/\s<=m/\m<=e/\mid<=e/\e<=b/\s+(e - m)=mid/\a<mid/\mid<b:=by
  split at ai<;>split at aj<;>omega
 obtain⟨r1,r2,r3,r4,r5,r6,r7,r8,r9⟩:=ak
 have k1: ∀x,a<=x->x<s-> ∀y,s<=y->y<m->TO lt (f x) (f y):=fun x aa ag y ah ab=>ad _ _ aa om ab
 have k2: ∀x,m<=x->x<e-> ∀y,e<=y->y<b->TO lt (f x) (f y):=fun x aa ag y ah ab=>ae _ _ aa om ab
 have k3: ∀x,a<=x->x<s-> ∀y,e<=y->y<b->TO lt (f x) (f y):=fun x aa ag y ah ab=>by
  have q:lo<=s - 1:=by split at ai<;>omega
  have h:=hl (s - 1) q om
  rw[show mid+m - 1 - (s - 1)=e by omega]at h
  have h3:TO lt (f x) (f e):=by
   by_cases hx:x=s - 1
   .rw[hx];exact h
   .exact(ad x (s - 1) aa om om).trans o h
  by_cases hy:y=e
  .rw[hy];exact h3
  .exact h3.trans o (ae _ _ om om ab)
 have k4: ∀x,m<=x->x<e-> ∀y,s<=y->y<m->TO lt (f x) (f y):=fun x aa ag y ah ab=>by
  have q:s<hi:=by split at aj<;>omega
  have h:=hr s (A5 _) q
  have h3:TO lt (f x) (f s):=by
   by_cases hx:x=mid+m - 1 - s
   .rw[hx];exact h
   .exact(ae x (mid+m - 1 - s) aa om om).trans o h
  by_cases hy:y=s
  .rw[hy];exact h3
  .exact h3.trans o (ad _ _ om om ab)
 refine⟨⟨r1,r2,r3,r4,r5,r6,r7⟩,fun x y aa ag ah ab=> ?_,fun x y hx af hy=> ?_,fun x y hx af hy=> ?_,fun x y hx af hy=> ?_,fun x y hx af hy=> ?_⟩
 .by_cases c1:x<s
  .rw[zz0 f r4 r3 (k:=x) om]
   by_cases c2:y<e
   .rw[zJ1 f om];exact k1 _ aa c1 _ om om
   .rw[zz0 f r4 r3 (k:=y) om];exact k3 _ aa c1 _ om ab
  .rw[zJ0 f om]
   by_cases c2:y<e
   .rw[zJ1 f om];exact k4 _ om om _ om om
   .rw[zz0 f r4 r3 (k:=y) om];exact k2 _ om om _ om ab
 .rw[zz0 f r4 r3 om,zz0 f r4 r3 om];exact ad _ _ hx af om
 .rw[zJ0 f om,zJ0 f om];exact ae _ _ om om om
 .rw[zJ1 f om,zJ1 f om];exact ad _ _ om om om
 .rw[zz0 f r4 r3 om,zz0 f r4 r3 om];exact ae _ _ om af hy
end
variable {f:Nat->Nat}{lt:Nat->Nat->Bool}{a:Nat}{b:Nat}{w:Nat}{f':Nat->Nat}{n:Nat}{t:Nat}{m:Nat}{mid:Nat}
def Grp (f:Nat->Nat) (a m b:Nat):Prop:= ∀x y,a<=x->x<m->m<=y->y<b->f x<f y
theorem Grp.rot_l {s e:Nat} (h:Grp f a m b) (h2:s<=m) (h3:m<=e) (h4:e<=b) (h5:s+(e - m)=mid):Grp (rotF f s m e) a s mid:=by
 intro x y aa ab ad ae
 rw[zz0 f h3 h2 om,zJ0 f om]
 exact h _ _ aa om om om
theorem Grp.rot_r {s e:Nat} (h:Grp f a m b) (h1:a<=s) (h2:s<=m) (h3:m<=e) (h5:s+(e - m)=mid):Grp (rotF f s m e) mid e b:=by
 intro x y aa ab ad ae
 rw[zJ1 f om,zz0 f h3 h2 (k:=y) om]
 exact h _ _ om om om om
def Mrg (lt:Nat->Nat->Bool) (f g:Nat->Nat) (a b:Nat):Prop:=Mv f g a b/\Srt lt g a b
theorem Mrg.both {g h1 h2:Nat->Nat} (h0:Mv f g a b) (hp: ∀x y,a<=x->x<mid->mid<=y->y<b->TO lt (g x) (g y)) (hm:a<=mid/\mid<=b) (q1:Mrg lt g h1 a mid) (q2:Mrg lt h1 h2 mid b):Mrg lt f h2 a b:=by
 refine⟨(h0.trans (q1.1.mono (A5 _) hm.2)).trans (q2.1.mono hm.1 (A5 _)),fun x y hx aa hy=> ?_⟩
 by_cases c1:y<mid
 .rw[q2.1.out om,q2.1.out om]
  exact q1.2 _ _ hx aa c1
 .by_cases c2:mid<=x
  .exact q2.2 _ _ c2 aa hy
  .rw[q2.1.out (k:=x) om]
   obtain⟨i,i1,i2,i3⟩:=q1.1.at hx om
   obtain⟨j,j1,j2,j3⟩:=q2.1.at (k:=y) om hy
   rw[i3,j3,q1.1.out (k:=j) om]
   exact hp _ _ i1 i2 j1 j2
theorem Mrg.id (h:Srt lt f a b):Mrg lt f f a b:=⟨.refl f a b,h⟩
def Blk (lt:Nat->Nat->Bool) (f:Nat->Nat) (a b:Nat):Prop:=(∀k,a<=k->k<b->a<=f k/\f k<b)/\Srt lt f a b
theorem Blk.grp (h:Blk lt f a m) (g:Blk lt f m b):Grp f a m b:=fun x y aa ab ad ae=>by
 have:=h.1 x aa ab;have:=g.1 y ad ae;omega
theorem Blk.merged (h:Blk lt f a m) (g:Blk lt f m b) (hm:a<=m/\m<=b) (q:Mrg lt f f' a b):Blk lt f' a b:=by
 refine⟨fun k h1 h2=> ?_,q.2⟩
 obtain⟨j,j1,j2,j3⟩:=q.1.at h1 h2
 rw[j3]
 by_cases c:j<m
 .have:=h.1 j j1 c;omega
 .have:=g.1 j om j2;omega
theorem Blk.away {c d:Nat} (h:Blk lt f c d) (q:Mv f f' a b) (hd:d<=a∨b<=c):Blk lt f' c d:=by
 refine⟨fun k h1 h2=> ?_,fun x y hx aa hy=> ?_⟩
 .rw[q.out om];exact h.1 k h1 h2
 .rw[q.out om,q.out om];exact h.2 x y hx aa hy
theorem Blk.sorted (h: ∀k,a<=k->f k=k) (q:Mrg lt f f' a b):Blk lt f' a b:=by
 refine⟨fun k h1 h2=> ?_,q.2⟩
 obtain⟨j,j1,j2,j3⟩:=q.1.at h1 h2
 rw[j3,h j j1];omega
def Blks (lt:Nat->Nat->Bool) (f:Nat->Nat) (w n:Nat):Prop:= ∀q,q*w<n->Blk lt f (q*w) (min (q*w+w) n)
def BlkM (lt:Nat->Nat->Bool) (f:Nat->Nat) (w n t:Nat):Prop:=(∀q,q<t->Blk lt f (q*(2*w)) (q*(2*w)+2*w))/\ ∀q,2*t<=q->q*w<n->Blk lt f (q*w) (min (q*w+w) n)
theorem BlkM.start (h:Blks lt f w n):BlkM lt f w n 0:=⟨fun q hq=>om,fun q _ h1=>h q h1⟩
theorem BlkM.pair (h:BlkM lt f w n t) (hw:0<w) (hm:t*(2*w)+w<n):Blk lt f (t*(2*w)) (t*(2*w)+w)/\Blk lt f (t*(2*w)+w) (min (t*(2*w)+2*w) n):=by
 have e1:2*t*w=t*(2*w):=by rw[Dh 2 t,El]
 have e2:(2*t+1)*w=t*(2*w)+w:=by rw[B4,e1,Cx]
 have h1:=h.2 (2*t) (A5 _) om
 have h2:=h.2 (2*t+1) om om
 rw[e1,show min (t*(2*w)+w) n=t*(2*w)+w by omega]at h1
 rw[e2,show t*(2*w)+w+w=t*(2*w)+2*w by omega]at h2
 exact⟨h1,h2⟩
theorem BlkM.next (h:BlkM lt f w n t) (hw:0<w) (hb:t*(2*w)+2*w<=n) (q:Mrg lt f f' (t*(2*w)) (t*(2*w)+2*w)):BlkM lt f' w n (t+1):=by
 have e1:2*t*w=t*(2*w):=by rw[Dh 2 t,El]
 have hp:=h.pair hw om
 refine⟨fun p aa=> ?_,fun p aa h1=> ?_⟩
 .by_cases c:p=t
  .subst c
   rw[show min (p*(2*w)+2*w) n=p*(2*w)+2*w by omega]at hp
   exact hp.1.merged hp.2 om q
  .have:=Ao (2*w) (show p+1<=t by omega)
   rw[B4,Cx]at this
   exact(h.1 p om).away q.1 (.inl this)
 .have:=Ao w (show 2*t+2<=p by omega)
  rw[B4,e1]at this
  exact(h.2 p om h1).away q.1 (.inr this)
theorem BlkM.last (h:BlkM lt f w n t) (hw:0<w) (hm:t*(2*w)+w<n) (hb:n<t*(2*w)+2*w) (q:Mrg lt f f' (t*(2*w)) n):Blks lt f' (2*w) n:=by
 have hp:=h.pair hw hm
 rw[show min (t*(2*w)+2*w) n=n by omega]at hp
 intro p h1
 rcases Br p t with c|c|c
 .have:=Ao (2*w) (show p+1<=t by omega)
  rw[B4,Cx]at this
  rw[show min (p*(2*w)+2*w) n=p*(2*w)+2*w by omega]
  exact(h.1 p c).away q.1 (.inl this)
 .subst c
  rw[show min (p*(2*w)+2*w) n=n by omega]
  exact hp.1.merged hp.2 om q
 .have:=Ao (2*w) (show t+1<=p by omega)
  rw[B4,Cx]at this
  omega
theorem BlkM.none (h:BlkM lt f w n t) (h0:t*(2*w)<=n) (hm:n<=t*(2*w)+w):Blks lt f (2*w) n:=by
 have e1:2*t*w=t*(2*w):=by rw[Dh 2 t,El]
 intro p h1
 rcases Br p t with c|c|c
 .have:=Ao (2*w) (show p+1<=t by omega)
  rw[B4,Cx]at this
  rw[show min (p*(2*w)+2*w) n=p*(2*w)+2*w by omega]
  exact h.1 p c
 .subst c
  have:=h.2 (2*p) (A5 _) om
  rw[e1]at this
  rw[show min (p*(2*w)+w) n=n by omega]at this
  rw[show min (p*(2*w)+2*w) n=n by omega]
  exact this
 .have:=Ao (2*w) (show t+1<=p by omega)
  rw[B4,Cx]at this
  omega
theorem Blks.all (h:Blks lt f w n) (hw:n<=w):Blk lt f 0 n:=by
 by_cases c:n=0
 .subst c;exact⟨fun k _ h=>om,fun x y _ _ h=>om⟩
 .have:=h 0 om
  rw[Dj,Ad,show min w n=n by omega]at this
  exact this
theorem yT6 (h1: ∀q,q<t->Blk lt f (q*w) (q*w+w)) (h2: ∀k,t*w<=k->f k=k) (ht:t*w<=n) (hn:n<t*w+w) (q:Mrg lt f f' (t*w) n):Blks lt f' w n:=by
 intro p hp
 rcases Br p t with c|c|c
 .have:=Ao w (show p+1<=t by omega)
  rw[B4,Cx]at this
  rw[show min (p*w+w) n=p*w+w by omega]
  exact(h1 p c).away q.1 (.inl this)
 .subst c
  rw[show min (p*w+w) n=n by omega]
  exact Blk.sorted h2 q
 .have:=Ao w (show t+1<=p by omega)
  rw[B4,Cx]at this
  omega
theorem xl4 (h1: ∀q,q<t->Blk lt f (q*w) (q*w+w)) (h2: ∀k,t*w<=k->f k=k) (q:Mrg lt f f' (t*w) (t*w+w)):
  (∀q,q<t+1->Blk lt f' (q*w) (q*w+w))/\ ∀k,(t+1)*w<=k->f' k=k:=by
 refine⟨fun p hp=> ?_,fun k hk=> ?_⟩
 .by_cases c:p=t
  .subst c;exact Blk.sorted h2 q
  .have:=Ao w (show p+1<=t by omega)
   rw[B4,Cx]at this
   exact(h1 p om).away q.1 (.inl this)
 .rw[B4,Cx]at hk
  rw[q.1.out om]
  exact h2 k om
end Go.Proofs.YtefbicjgbaaieaaGreat
namespace Go.Proofs.YtefbicjgbaaieaaGreat
open Go Go.Vx Go.Proofs.Tryz
set_option maxRecDepth 100000
@[go_sem] theorem szT_less:szT prog 215=some 1:=kR
@[go_sem] theorem aggT_less:aggT prog 215=some false:=kR
@[go_sem] theorem szT_swap:szT prog 306=some 1:=kR
@[go_sem] theorem aggT_swap:aggT prog 306=some false:=kR
def lsF (σ0:St) (id s n:Nat) (row:Nat->List V) (f:Nat->Nat):St:=σ0.set id (.lst ((List.range n).map fun k=>row (f k)) s)
theorem zy2 (σ0:St) (id s n:Nat) (row:Nat->List V) (f:Nat->Nat):(lsF σ0 id s n row f).length=σ0.length:=by simp[lsF]
structure SC (P:Program) (gl gs:FuncId) (cl cs:List V) (σ0:St) (id s n:Nat) (row:Nat->List V) (lt:Nat->Nat->Bool):Prop where
 here:id<σ0.length
 nn:n<=1000000
 cl_ok:cl.all (ltK σ0.length)=true
 cs_ok:cs.all (ltK σ0.length)=true
 st_ok:σ0.all (ltOb σ0.length)=true
 row_ok: ∀k,(row k).all (ltC σ0.length)=true
 less: ∀(c:Ctx) (τ:St) (f:Nat->Nat) (i j:Nat) (K:V->St->Prop),i<n->j<n->i≠j->K (.bool (lt (f i) (f j))) (lsF σ0 id s n row f++τ)->wVC P c (.fn gl cl) [.int .i64 i,.int .i64 j] (lsF σ0 id s n row f++τ) K fx
 swap: ∀(c:Ctx) (τ:St) (f:Nat->Nat) (i j:Nat) (K:V->St->Prop),i<n->j<n->i≠j->K (.tup []) (lsF σ0 id s n row (sw f i j)++τ)->wVC P c (.fn gs cs) [.int .i64 i,.int .i64 j] (lsF σ0 id s n row f++τ) K fx
section
variable {gl gs:FuncId} {cl cs:List V} {σ0:St} {id s n:Nat} {row:Nat->List V} {lt:Nat->Nat->Bool}
theorem SC.lt_ok (S:SC prog gl gs cl cs σ0 id s n row lt) (f:Nat->Nat):(lsF σ0 id s n row f).all (ltOb σ0.length)=true:=by
 unfold lsF
 rw[Af]
 intro o ho
 rcases Cq ho with h|rfl
 .exact Af.1 S.st_ok o h
 .simp only[ltOb,Af]
  intro r hr x hx
  obtain⟨k,_,rfl⟩:=Ac.1 hr
  exact Af.1 (S.row_ok (f k)) x hx
def datB (gl gs:FuncId) (cl cs:List V):Ob:= .box [.fn gl cl,.fn gs cs]
theorem yQ9 (S:SC prog gl gs cl cs σ0 id s n row lt) (f:Nat->Nat) (a b m:Nat) (h1:a+m<=b) (h2:b+m<=n):
  VCalls prog 359 [.agg [.fn gl cl,.fn gs cs],.int .i64 a,.int .i64 b,.int .i64 m] (lsF σ0 id s n row f) (fun r t=>r= .tup []/\t=lsF σ0 id s n row (swR f a b m)):=by
 have hn:=S.nn
 refine VCalls.introV (lsF σ0 id s n row f).length func359 ntmps359 results359 rfl rfl (Ci rfl) fun c hc hb=> ?_
 have hl: ∀g,(lsF σ0 id s n row g).length=σ0.length:=fun g=>zy2 ..
 refine zA ?_
 simp[go_sem,hl]
 refine zH (S:=Nat) [1,2,3,4,8] (fun i=> [.int .i64 a,.int .i64 b,.int .i64 m,.ptr σ0.length 0,.int .i64 i]) (fun i=>lsF σ0 id s n row (swR f a b i)++ [datB gl gs cl cs]) (fun i=>m - i) (fun i=>i<=m) (hc.trans (hl f)) hb 0 (A4 _) ?_ ?_
 .rw[wh8]
  exact zZ (by simp[hl]) sg
 rintro i hi
 have hd: ∀g,(lsF σ0 id s n row g++ [datB gl gs cl cs])[σ0.length]? =some (.box [.fn gl cl,.fn gs cs]):=fun g=>by
  rw[Am (by rw[hl];exact A5 _),hl];simp[datB]
 by_cases q:i<m
 rotate_left
 .have ab:i=m:=om
  subst ab
  refine zA ?_
  simp[go_sem]
  exact xA σ0.length (D5 (hl _)) (hl _) (S.lt_ok _) (D2 (hl f)) (zC rfl) ⟨rfl,rfl⟩
 have ea:IntKind.i64.wrap ((a:Int)+i)=((a+i:Nat):Int):=by rw[i64_id om om];omega
 have eb:IntKind.i64.wrap ((b:Int)+i)=((b+i:Nat):Int):=by rw[i64_id om om];omega
 have ei:=zQ q om
 have aa:=fun K=>S.swap c [datB gl gs cl cs] (swR f a b i) (a+i) (b+i) K om om om
 rw[xH4 f om]at aa
 refine zA ?_
 simp[go_sem,q,hd,ea,eb]
 refine aa _ ?_
 simp[go_sem,ei]
 exact zG (i+1) ⟨om,om,zZ (by simp[hl]) sg⟩
end
section
variable {gl gs:FuncId} {cl cs:List V} {σ0:St} {id s n:Nat} {row:Nat->List V} {lt:Nat->Nat->Bool}
theorem yB6 (f:Nat->Nat):(lsF σ0 id s n row f++ [datB gl gs cl cs])[σ0.length]? =some (.box [.fn gl cl,.fn gs cs]):=by
 rw[Am (by rw[zy2];exact A5 _),zy2];simp[datB]
theorem xA5 (o:Ord lt) {f g:Nat->Nat} {a b i j:Nat} (hi:i<b) (aa: ∀x y,a<=x->x<y->y<b->f x<f y) (hm:Mv f g a i) (hs:Srt lt g a i) (ab:a<=j) (ad:j<=i)
  (hl: ∀x,j<=x->x<i->lt (g i) (g x)=true) (he:j=a∨lt (g i) (g (j - 1))=false):Mv f (rotF g j i (i+1)) a (i+1)/\Srt lt (rotF g j i (i+1)) a (i+1):=by
 refine⟨(hm.mono (A5 _) (Nat.le_succ _)).trans ((Mv.rot g ad (Nat.le_succ _)).mono ab (A5 _)), ?_⟩
 refine xf9 hs ab ad (fun x h1 h2=> ?_) (fun x h1 h2=> .inl (hl x h1 h2))
 rcases he with he|he
 .omega
 have ae:g i=f i:=hm.out (.inr (A5 _))
 obtain⟨y,y1,y2,y3⟩:=hm.at (k:=j - 1) om om
 have af:g (j - 1)<g i:=by rw[y3,ae];exact aa y i y1 y2 hi
 have h3:TO lt (g (j - 1)) (g i):=(TO.fore o af).2 he
 by_cases q:x=j - 1
 .rw[q];exact h3
 .exact(hs x (j - 1) h1 om om).trans o h3
theorem zZ2 (S:SC prog gl gs cl cs σ0 id s n row lt) (o:Ord lt) (f:Nat->Nat) (a b:Nat) (ae:a<=b) (af:b<=n) (aa: ∀x y,a<=x->x<y->y<b->f x<f y):
  VCalls prog 301 [.agg [.fn gl cl,.fn gs cs],.int .i64 a,.int .i64 b] (lsF σ0 id s n row f) (fun r t=>r= .tup []/\ ∃g,t=lsF σ0 id s n row g/\Mrg lt f g a b):=by
 have hn:=S.nn
 refine VCalls.introV (lsF σ0 id s n row f).length func301 ntmps301 results301 rfl rfl (Ci rfl) fun c hc hb=> ?_
 have hl: ∀g,(lsF σ0 id s n row g).length=σ0.length:=fun g=>zy2 ..
 have ad:IntKind.i64.wrap ((a:Int)+1)=((a+1:Nat):Int):=by rw[i64_id om om];omega
 refine zA ?_
 simp[go_sem,hl,ad]
 refine zH (S:=Nat×(Nat->Nat)) [1,2,3,6] (fun u=> [.int .i64 a,.int .i64 b,.ptr σ0.length 0,.int .i64 u.1]) (fun u=>lsF σ0 id s n row u.2++ [datB gl gs cl cs]) (fun u=>b - u.1)
  (fun u=>a+1<=u.1/\Mv f u.2 a (min u.1 b)/\Srt lt u.2 a (min u.1 b)) (hc.trans (hl f)) hb (a+1,f) ⟨A5 _,Mv.refl _ _ _,fun x y h1 h2 h3=>om⟩ ?_ ?_
 .exact zZ (by simp[hl]) sg
 rintro⟨i,g⟩ ⟨hi,hm,hs⟩
 simp only at hi hm hs
 by_cases q:i<b
 rotate_left
 .rw[Nat.min_eq_right om]at hm hs
  refine zA ?_
  simp[go_sem,q]
  exact xA σ0.length (D5 (hl _)) (hl _) (S.lt_ok _) (D2 (hl f)) (zC rfl) ⟨rfl,g,rfl,hm,hs⟩
 rw[Cj om]at hm hs
 have ei:=zQ q om
 have hd:=yB6 (σ0:=σ0) (id:=id) (s:=s) (n:=n) (row:=row) (gl:=gl) (gs:=gs) (cl:=cl) (cs:=cs)
 refine zA ?_
 simp[go_sem,q]
 refine zH (S:=Nat) [1,2,3,6,7] (fun j=> [.int .i64 a,.int .i64 b,.ptr σ0.length 0,.int .i64 i,.int .i64 j]) (fun j=>lsF σ0 id s n row (rotF g j i (i+1))++ [datB gl gs cl cs]) (fun j=>j)
  (fun j=>a<=j/\j<=i/\ ∀x,j<=x->x<i->lt (g i) (g x)=true) (hc.trans (hl f)) hb i ⟨om,A5 _,fun x h1 h2=>om⟩ ?_ ?_
 .rw[yj3]
  exact zZ (by simp[hl]) sg
 rintro j ⟨h1,h2,h3⟩
 have fin: ∀(he:j=a∨lt (g i) (g (j - 1))=false),Mv f (rotF g j i (i+1)) a (min (i+1) b)/\Srt lt (rotF g j i (i+1)) a (min (i+1) b):=fun he=>by
  rw[Cj om]
  exact xA5 o q aa hm hs h1 h2 h3 he
 by_cases p:a<j
 rotate_left
 .have p': ¬((a:Int)<j):=om
  obtain⟨f1,f2⟩:=fin (.inl om)
  refine zA ?_
  simp[go_sem,p,ei]
  exact zG (i+1,rotF g j i (i+1)) ⟨by show b - (i+1)<b - i;omega,⟨by show a+1<=i+1;omega,f1,f2⟩,zZ (by simp[hl]) sg⟩
 have ej:IntKind.i64.wrap ((j:Int) - 1)=((j - 1:Nat):Int):=by rw[i64_id om om];omega
 have hle:=fun K=>S.less c [datB gl gs cl cs] (rotF g j i (i+1)) j (j - 1) K om om om
 have ab:=fun K=>S.swap c [datB gl gs cl cs] (rotF g j i (i+1)) j (j - 1) K om om om
 rw[xX6 g h2 om]at ab
 have e1:rotF g j i (i+1) j=g i:=by rw[zJ0 g om];congr 1;omega
 have e2:rotF g j i (i+1) (j - 1)=g (j - 1):=zz0 g om h2 om
 rw[e1,e2]at hle
 refine zA ?_
 simp[go_sem,p,hd,ej]
 refine hle _ ?_
 cases hL:lt (g i) (g (j - 1))with
 |false=>
  obtain⟨f1,f2⟩:=fin (.inr hL)
  simp[go_sem,ei]
  exact zG (i+1,rotF g j i (i+1)) ⟨by show b - (i+1)<b - i;omega,⟨by show a+1<=i+1;omega,f1,f2⟩,zZ (by simp[hl]) sg⟩
 |true=>
  simp[go_sem,hd,ej]
  refine ab _ ?_
  simp[go_sem,ej]
  exact zG (j - 1) ⟨om,⟨om,om,fun x x1 x2=>by
   by_cases c1:x=j - 1
   .rw[c1];exact hL
   .exact h3 x om x2⟩,zZ (by simp[hl]) sg⟩
end
section
variable {gl gs:FuncId} {cl cs:List V} {σ0:St} {id s n:Nat} {row:Nat->List V} {lt:Nat->Nat->Bool}
theorem SC.call (S:SC prog gl gs cl cs σ0 id s n row lt) {F:FuncId} {ints:List V} {g:Nat->Nat} {Q:(Nat->Nat)->Prop} {c:Ctx} {τ:St} {K:V->St->Prop}
  (hc:VCalls prog F (.agg [.fn gl cl,.fn gs cs]::ints) (lsF σ0 id s n row g) (fun r t=>r= .tup []/\ ∃g',t=lsF σ0 id s n row g'/\Q g')) (hb:wB prog F=true) (hi:ints.all noS=true)
  (hK: ∀g',Q g'->K (.tup []) (lsF σ0 id s n row g'++τ)):wVC prog c (.fn F []) (.agg [.fn gl cl,.fn gs cs]::ints) (lsF σ0 id s n row g++τ) K fx:=by
 have hl: ∀g,(lsF σ0 id s n row g).length=σ0.length:=fun g=>zy2 ..
 refine zo1 σ0.length hc hb (D5 (hl _)) (hl _) (S.lt_ok _) ?_ ?_ ?_
 .rw[Az]
  exact⟨zg2 (by simp[ltS,ltA,ltC,S.cl_ok,S.cs_ok]),yC hi⟩
 .rintro r t ⟨rfl,g',rfl,_⟩
  exact⟨hl _,S.lt_ok _,rfl⟩
 .rintro r t ⟨rfl,g',rfl,hq⟩
  rw[List.drop_left' (hl _)]
  exact hK g' hq
theorem xF6 (S:SC prog gl gs cl cs σ0 id s n row lt) (f:Nat->Nat) (a m b:Nat) (h1:a<m) (h2:m<b) (h3:b<=n):
  VCalls prog 345 [.agg [.fn gl cl,.fn gs cs],.int .i64 a,.int .i64 m,.int .i64 b] (lsF σ0 id s n row f) (fun r t=>r= .tup []/\ ∃g,t=lsF σ0 id s n row g/\g=rotF f a m b):=by
 have hn:=S.nn
 have ab: ∀g x y k,x+k<=y->y+k<=n->VCalls prog 359 [.agg [.fn gl cl,.fn gs cs],.int .i64 (x:Nat),.int .i64 (y:Nat),.int .i64 (k:Nat)] (lsF σ0 id s n row g) (fun r t=>r= .tup []/\ ∃g',t=lsF σ0 id s n row g'/\g'=swR g x y k):=fun g x y k q1 q2=>
  (yQ9 S g x y k q1 q2).mono fun r t h=>⟨h.1,_,h.2,rfl⟩
 refine VCalls.introV (lsF σ0 id s n row f).length func345 ntmps345 results345 rfl rfl (Ci rfl) fun c hc hb=> ?_
 have hl: ∀g,(lsF σ0 id s n row g).length=σ0.length:=fun g=>zy2 ..
 have hd:=yB6 (σ0:=σ0) (id:=id) (s:=s) (n:=n) (row:=row) (gl:=gl) (gs:=gs) (cl:=cl) (cs:=cs)
 have e1:IntKind.i64.wrap ((m:Int) - a)=((m - a:Nat):Int):=by rw[i64_id om om];omega
 have e2:IntKind.i64.wrap ((b:Int) - m)=((b - m:Nat):Int):=by rw[i64_id om om];omega
 refine zA ?_
 simp[go_sem,hl,e1,e2]
 refine zH (S:=Nat×Nat×(Nat->Nat)) [1,2,3,4,8,9] (fun u=> [.int .i64 a,.int .i64 m,.int .i64 b,.ptr σ0.length 0,.int .i64 u.1,.int .i64 u.2.1]) (fun u=>lsF σ0 id s n row u.2.2++ [datB gl gs cl cs]) (fun u=>u.1+u.2.1)
  (fun u=>0<u.1/\0<u.2.1/\u.1<=m/\m+u.2.1<=n/\rotF u.2.2 (m - u.1) m (m+u.2.1)=rotF f a m b) (hc.trans (hl f)) hb (m - a,b - m,f) ⟨by show 0<m - a;omega,by show 0<b - m;omega,by show m - a<=m;omega,by show m+(b - m)<=n;omega,by show rotF f (m - (m - a)) m (m+(b - m))=_;rw[show m - (m - a)=a by omega,show m+(b - m)=b by omega]⟩ ?_ ?_
 .exact zZ (by simp[hl]) sg
 rintro⟨i,j,g⟩ ⟨hi,hj,aa,ae,hg⟩
 simp only at hi hj aa ae hg
 have ad:IntKind.i64.wrap ((m:Int) - i)=((m - i:Nat):Int):=by rw[i64_id om om];omega
 rcases Br i j with q|q|q
 .have p1:((i:Int) !=j)=true:=by simp;omega
  have p2: ¬((j:Int)<i):=om
  have p3: ¬(j<i):=om
  have p4: ¬i=j:=om
  have ea:IntKind.i64.wrap ((m:Int)+j)=(m:Int)+j:=i64_id om om
  have eb:IntKind.i64.wrap ((m:Int)+j - i)=((m+j - i:Nat):Int):=by rw[i64_id om om];omega
  have ej:IntKind.i64.wrap ((j:Int) - i)=((j - i:Nat):Int):=by rw[i64_id om om];omega
  refine zA ?_
  simp[go_sem,p1,p2,hd,ad,ea,eb]
  refine S.call (ab g (m - i) (m+j - i) i om om) cB rfl ?_
  rintro g' rfl
  simp[go_sem,ej]
  exact zG (i,j - i,swR g (m - i) (m+j - i) i) ⟨by show i+(j - i)<i+j;omega,⟨hi,by show 0<j - i;omega,aa,by show m+(j - i)<=n;omega,by show rotF _ (m - i) m (m+(j - i))=_;rw[wd4 g q aa];exact hg⟩,zZ (by simp[hl]) sg⟩
 .subst q
  refine zA ?_
  simp[go_sem,hd,ad]
  refine S.call (ab g (m - i) m i om om) cB rfl ?_
  rintro g' rfl
  rw[wd2 g aa,hg]
  simp[go_sem]
  exact xA σ0.length (D5 (hl _)) (hl _) (S.lt_ok _) (D2 (hl f)) (zC rfl) ⟨rfl,rfl⟩
 .have p1:((i:Int) !=j)=true:=by simp;omega
  have p2:(j:Int)<i:=om
  have p4: ¬i=j:=om
  have ei:IntKind.i64.wrap ((i:Int) - j)=((i - j:Nat):Int):=by rw[i64_id om om];omega
  refine zA ?_
  simp[go_sem,p1,p2,hd,ad]
  refine S.call (ab g (m - i) m j om om) cB rfl ?_
  rintro g' rfl
  simp[go_sem,ei]
  exact zG (i - j,j,swR g (m - i) m j) ⟨by show i - j+j<i+j;omega,⟨by show 0<i - j;omega,hj,by show i - j<=m;omega,ae,by show rotF _ (m - (i - j)) m (m+j)=_;rw[wd3 g q aa];exact hg⟩,zZ (by simp[hl]) sg⟩
end
section
variable {lt:Nat->Nat->Bool}
variable {x:Nat}{h:Nat}{a:Nat}
theorem wg4 (o:Ord lt) (t:TO lt x h) (g:lt h a=true):lt x a=true:=by
 rcases t with t|⟨t,_⟩
 .exact o.tr _ _ _ t g
 .cases q:lt x a with
  |true=>rfl
  |false=>have:=o.nt _ _ _ t q;rw[g]at this;cases this
theorem wb7 (o:Ord lt) (t:TO lt h x) (g:lt h a=false):lt x a=false:=by
 cases q:lt x a with
 |false=>rfl
 |true=>
  rcases t with t|⟨t,_⟩
  .have:=o.tr _ _ _ t q;rw[g]at this;cases this
  .have:=o.nt _ _ _ t g;rw[q]at this;cases this
theorem wi2 (o:Ord lt) (t:TO lt h x) (g:lt a h=true):lt a x=true:=by
 rcases t with t|⟨t,_⟩
 .exact o.tr _ _ _ g t
 .cases q:lt a x with
  |true=>rfl
  |false=>have:=o.nt _ _ _ q t;rw[g]at this;cases this
theorem wd9 (o:Ord lt) (t:TO lt x h) (g:lt a h=false):lt a x=false:=by
 cases q:lt a x with
 |false=>rfl
 |true=>
  rcases t with t|⟨t,_⟩
  .have:=o.tr _ _ _ q t;rw[g]at this;cases this
  .have:=o.nt _ _ _ g t;rw[q]at this;cases this
end
theorem yA5 {i j:Nat} (h:i+j<4000000000):IntKind.i64.wrap ((IntKind.u64.wrap (IntKind.i64.wrap ((i:Int)+j))).fdiv 2)=(((i+j)/2:Nat):Int):=by
 have e1:IntKind.i64.wrap ((i:Int)+j)=(i:Int)+j:=i64_id om om
 have e2:IntKind.u64.wrap ((i:Int)+j)=(i:Int)+j:=u64_id om om
 rw[e1,e2,Cl _ om,i64_id om om]
 omega
section
variable {gl gs:FuncId} {cl cs:List V} {σ0:St} {id s n:Nat} {row:Nat->List V} {lt:Nat->Nat->Bool}
theorem yp4 (S:SC prog gl gs cl cs σ0 id s n row lt) (o:Ord lt) (f:Nat->Nat) (a m b:Nat) (h1:a<m) (h2:m<b) (h3:b<=n) (ag:Srt lt f a m) (af:Srt lt f m b) (ae:Grp f a m b)
  (ih: ∀f a' m b',b' - a'<b - a->a'<m->m<b'->b'<=n->Srt lt f a' m->Srt lt f m b'->Grp f a' m b'->VCalls prog 302 [.agg [.fn gl cl,.fn gs cs],.int .i64 (a':Nat),.int .i64 (m:Nat),.int .i64 (b':Nat)] (lsF σ0 id s n row f) (fun r t=>r= .tup []/\ ∃g,t=lsF σ0 id s n row g/\Mrg lt f g a' b')):
  VCalls prog 302 [.agg [.fn gl cl,.fn gs cs],.int .i64 a,.int .i64 m,.int .i64 b] (lsF σ0 id s n row f) (fun r t=>r= .tup []/\ ∃g,t=lsF σ0 id s n row g/\Mrg lt f g a b):=by
 have hn:=S.nn
 refine VCalls.introV (lsF σ0 id s n row f).length func302 ntmps302 results302 rfl rfl (Ci rfl) fun c hc hb=> ?_
 have hl: ∀g,(lsF σ0 id s n row g).length=σ0.length:=fun g=>zy2 ..
 have hd:=yB6 (σ0:=σ0) (id:=id) (s:=s) (n:=n) (row:=row) (gl:=gl) (gs:=gs) (cl:=cl) (cs:=cs)
 have e1:IntKind.i64.wrap ((m:Int) - a)=((m - a:Nat):Int):=by rw[i64_id om om];omega
 have e2:IntKind.i64.wrap ((b:Int) - m)=((b - m:Nat):Int):=by rw[i64_id om om];omega
 by_cases c1:m - a=1
 .have ar:(((m - a:Nat):Int)==1)=true:=by simp;omega
  refine zA ?_
  simp[go_sem,hl,e1,ar]
  refine zH (S:=Nat×Nat) [1,2,3,4,8,9] (fun u=> [.int .i64 a,.int .i64 m,.int .i64 b,.ptr σ0.length 0,.int .i64 u.1,.int .i64 u.2]) (fun _=>lsF σ0 id s n row f++ [datB gl gs cl cs]) (fun u=>u.2 - u.1)
   (fun u=>m<=u.1/\u.1<=u.2/\u.2<=b/\(∀x,m<=x->x<u.1->lt (f x) (f a)=true)/\ ∀x,u.2<=x->x<b->lt (f x) (f a)=false) (hc.trans (hl f)) hb (m,b) ⟨A5 _,by show m<=b;omega,A5 _,fun x q1 q2=>om,fun x q1 q2=>om⟩ ?_ ?_
  .exact zZ (by simp[hl]) sg
  rintro⟨i,j⟩ ⟨hi,ai,hj,hL,hR⟩
  simp only at hi ai hj hL hR
  by_cases q:i<j
  .obtain⟨h,hh⟩:=eX ((i+j)/2)
   have eh:=yA5 (i:=i) (j:=j) om
   rw[hh]at eh
   have ei:=zQ (show h<j by omega) om
   have hle:=fun K=>S.less c [datB gl gs cl cs] f h a K om om om
   refine zA ?_
   simp[go_sem,q,hd,eh]
   refine hle _ ?_
   cases aa:lt (f h) (f a)with
   |true=>
    simp[go_sem,ei]
    exact zG (h+1,j) ⟨by show j - (h+1)<j - i;omega,⟨by show m<=h+1;omega,by show h+1<=j;omega,hj,fun x q1 q2=>by
     by_cases c2:x=h
     .rw[c2];exact aa
     .exact wg4 o (af x h q1 (by have:x<h+1:=q2;omega) om) aa,hR⟩,zZ (by simp[hl]) sg⟩
   |false=>
    simp[go_sem]
    exact zG (i,h) ⟨by show h - i<j - i;omega,⟨hi,by show i<=h;omega,by show h<=b;omega,hL,fun x q1 q2=>by
     by_cases c2:x=h
     .rw[c2];exact aa
     .exact wb7 o (af h x om (by have:h<=x:=q1;omega) q2) aa⟩,zZ (by simp[hl]) sg⟩
  .have e3:IntKind.i64.wrap ((i:Int) - 1)=((i - 1:Nat):Int):=by rw[i64_id om om];omega
   have aj:i=j:=om
   have a6:m=a+1:=om
   refine zA ?_
   simp[go_sem,q]
   refine zH (S:=Nat) [1,2,3,4,8,11] (fun k=> [.int .i64 a,.int .i64 m,.int .i64 b,.ptr σ0.length 0,.int .i64 i,.int .i64 k]) (fun k=>lsF σ0 id s n row (rotF f a (a+1) (k+1))++ [datB gl gs cl cs]) (fun k=>i - k)
    (fun k=>a<=k/\k+1<=i) (hc.trans (hl f)) hb a ⟨A5 _,om⟩ ?_ ?_
   .rw[yP3]
    exact zZ (by simp[hl]) sg
   rintro k ⟨k1,k2⟩
   by_cases q2:k<i - 1
   .have a7:(k:Int)<((i - 1:Nat):Int):=om
    have ek:IntKind.i64.wrap ((k:Int)+1)=((k+1:Nat):Int):=by rw[i64_id om om];omega
    have ak:=fun K=>S.swap c [datB gl gs cl cs] (rotF f a (a+1) (k+1)) k (k+1) K om om om
    rw[wh9 f k1]at ak
    refine zA ?_
    simp[go_sem,e3,q2,hd,ek]
    refine ak _ ?_
    simp[go_sem,ek]
    exact zG (k+1) ⟨om,⟨om,om⟩,zZ (by simp[hl]) sg⟩
   .have a7: ¬(k:Int)<((i - 1:Nat):Int):=om
    have hk:k+1=i:=om
    refine zA ?_
    simp[go_sem,e3,q2]
    refine xA σ0.length (D5 (hl _)) (hl _) (S.lt_ok _) (D2 (hl f)) (zC rfl) ⟨rfl,_,rfl, ?_, ?_⟩
    .rw[hk]
     exact(Mv.rot f om om).mono (A5 _) om
    .rw[hk]
     rw[a6]at af hL
     refine xP9 af om om (fun x x1 x2=> .inl (hL x x1 x2)) (fun x x1 x2=> ?_)
     exact(TO.fore o (ae a x (A5 _) h1 om x2)).2 (hR x om x2)
 .have ar:(((m - a:Nat):Int)==1)=false:=by simp;omega
  refine zO (zA ?_)
  simp[go_sem,hl]
  refine zO (zA ?_)
  simp[go_sem,e1,ar]
  by_cases c2:b - m=1
  .have au:(((b - m:Nat):Int)==1)=true:=by simp;omega
   have a8:b=m+1:=om
   refine zA ?_
   simp[go_sem,e2,au]
   refine zH (S:=Nat×Nat) [1,2,3,4,12,13] (fun u=> [.int .i64 a,.int .i64 m,.int .i64 b,.ptr σ0.length 0,.int .i64 u.1,.int .i64 u.2]) (fun _=>lsF σ0 id s n row f++ [datB gl gs cl cs]) (fun u=>u.2 - u.1)
    (fun u=>a<=u.1/\u.1<=u.2/\u.2<=m/\(∀x,a<=x->x<u.1->lt (f m) (f x)=false)/\ ∀x,u.2<=x->x<m->lt (f m) (f x)=true) (hc.trans (hl f)) hb (a,m) ⟨A5 _,by show a<=m;omega,A5 _,fun x q1 q2=>om,fun x q1 q2=>om⟩ ?_ ?_
   .exact zZ (by simp[hl]) sg
   rintro⟨i,j⟩ ⟨hi,ai,hj,hL,hR⟩
   simp only at hi ai hj hL hR
   by_cases q:i<j
   .obtain⟨h,hh⟩:=eX ((i+j)/2)
    have eh:=yA5 (i:=i) (j:=j) om
    rw[hh]at eh
    have ei:=zQ (show h<j by omega) om
    have hle:=fun K=>S.less c [datB gl gs cl cs] f m h K om om om
    refine zA ?_
    simp[go_sem,q,hd,eh]
    refine hle _ ?_
    cases aa:lt (f m) (f h)with
    |false=>
     simp[go_sem,ei]
     exact zG (h+1,j) ⟨by show j - (h+1)<j - i;omega,⟨by show a<=h+1;omega,by show h+1<=j;omega,hj,fun x q1 q2=>by
      by_cases c2:x=h
      .rw[c2];exact aa
      .exact wd9 o (ag x h q1 (by have:x<h+1:=q2;omega) om) aa,hR⟩,zZ (by simp[hl]) sg⟩
    |true=>
     simp[go_sem]
     exact zG (i,h) ⟨by show h - i<j - i;omega,⟨hi,by show i<=h;omega,by show h<=m;omega,hL,fun x q1 q2=>by
      by_cases c2:x=h
      .rw[c2];exact aa
      .exact wi2 o (ag h x om (by have:h<=x:=q1;omega) q2) aa⟩,zZ (by simp[hl]) sg⟩
   .have aj:i=j:=om
    refine zA ?_
    simp[go_sem,q]
    refine zH (S:=Nat) [1,2,3,4,12,15] (fun k=> [.int .i64 a,.int .i64 m,.int .i64 b,.ptr σ0.length 0,.int .i64 i,.int .i64 k]) (fun k=>lsF σ0 id s n row (rotF f k m (m+1))++ [datB gl gs cl cs]) (fun k=>k)
     (fun k=>i<=k/\k<=m) (hc.trans (hl f)) hb m ⟨om,A5 _⟩ ?_ ?_
    .rw[yj3]
     exact zZ (by simp[hl]) sg
    rintro k ⟨k1,k2⟩
    by_cases q2:i<k
    .have ek:IntKind.i64.wrap ((k:Int) - 1)=((k - 1:Nat):Int):=by rw[i64_id om om];omega
     have ak:=fun K=>S.swap c [datB gl gs cl cs] (rotF f k m (m+1)) k (k - 1) K om om om
     rw[xX6 f k2 om]at ak
     refine zA ?_
     simp[go_sem,q2,hd,ek]
     refine ak _ ?_
     simp[go_sem,ek]
     exact zG (k - 1) ⟨om,⟨om,om⟩,zZ (by simp[hl]) sg⟩
    .have hk:k=i:=om
     refine zA ?_
     simp[go_sem,q2]
     refine xA σ0.length (D5 (hl _)) (hl _) (S.lt_ok _) (D2 (hl f)) (zC rfl) ⟨rfl,_,rfl, ?_, ?_⟩
     .rw[hk]
      exact(Mv.rot f om om).mono hi om
     .rw[hk,a8]
      refine xf9 ag hi om (fun x x1 x2=> ?_) (fun x x1 x2=> .inl (hR x om x2))
      exact(TO.fore o (ae x m x1 om (A5 _) h2)).2 (hL x x1 x2)
  .have au:(((b - m:Nat):Int)==1)=false:=by simp;omega
   refine zO (zA ?_)
   simp[go_sem,e2,au]
   obtain⟨mid,aq⟩:=eX ((a+b)/2)
   have eh:=yA5 (i:=a) (j:=b) om
   rw[aq]at eh
   have en:IntKind.i64.wrap ((mid:Int)+m)=(mid:Int)+m:=i64_id om om
   refine zO (zA ?_)
   simp[go_sem,eh]
   refine zO (zA ?_)
   simp[go_sem,en]
   refine zO (zA ?_)
   simp[go_sem]
   obtain⟨lo,al⟩:=eX ((if mid<m then mid+m - b else a))
   obtain⟨hi,ah⟩:=eX ((if mid<m then mid else m))
   have aE:mid*2<=a+b/\a+b<=mid*2+1:=om
   have aA:a<=lo/\lo<=hi/\hi<=m/\hi<=mid/\mid+m<=lo+b:=by
    split at al<;>split at ah<;>omega
   obtain⟨l1,l2,l3,l4,l5⟩:=aA
   refine ze9 (S:=Unit) [1,2,3,4,16,17,18,19] (fun _=> [.int .i64 a,.int .i64 m,.int .i64 b,.ptr σ0.length 0,.int .i64 mid,.int .i64 ((mid:Int)+m),.int .i64 lo,.int .i64 hi]) (fun _=>lsF σ0 id s n row f++ [datB gl gs cl cs]) (fun _=>True) (hc.trans (hl f)) hb ?_ ?_
   .by_cases c3:mid<m
    .rw[if_pos c3]at al ah
     have e4:IntKind.i64.wrap ((mid:Int)+m - b)=(lo:Int):=by rw[i64_id om om];omega
     refine zA ?_
     simp[go_sem,c3,e4]
     exact zG () ⟨tV,zZ (by simp[hl]) (by simp[go_sem,ah])⟩
    .rw[if_neg c3]at al ah
     refine zA ?_
     simp[go_sem,c3]
     exact zG () ⟨tV,zZ (by simp[hl]) (by simp[go_sem,al,ah])⟩
   rintro _ _
   obtain⟨p,hp⟩:=eX (mid+m - 1)
   have e5:IntKind.i64.wrap ((mid:Int)+m - 1)=(p:Int):=by rw[i64_id om om];omega
   refine zO (zA ?_)
   simp[go_sem,e5]
   refine zO (zA ?_)
   simp[go_sem]
   refine zH (S:=Nat×Nat) [1,2,3,4,16,17,18,19,20] (fun u=> [.int .i64 a,.int .i64 m,.int .i64 b,.ptr σ0.length 0,.int .i64 mid,.int .i64 ((mid:Int)+m),.int .i64 u.1,.int .i64 u.2,.int .i64 p]) (fun _=>lsF σ0 id s n row f++ [datB gl gs cl cs]) (fun u=>u.2 - u.1)
    (fun u=>lo<=u.1/\u.1<=u.2/\u.2<=hi/\(∀x,lo<=x->x<u.1->TO lt (f x) (f (p - x)))/\ ∀x,u.2<=x->x<hi->TO lt (f (p - x)) (f x)) (hc.trans (hl f)) hb (lo,hi) ⟨A5 _,l2,A5 _,fun x q1 q2=>om,fun x q1 q2=>om⟩ ?_ ?_
   .exact zZ (by simp[hl]) sg
   rintro⟨i,j⟩ ⟨av,ai,hj,hL,hR⟩
   simp only at av ai hj hL hR
   by_cases q:i<j
   .obtain⟨h,hh⟩:=eX ((i+j)/2)
    have eh:=yA5 (i:=i) (j:=j) om
    rw[hh]at eh
    have ei:=zQ (show h<j by omega) om
    have e6:IntKind.i64.wrap ((p:Int) - h)=((p - h:Nat):Int):=by rw[i64_id om om];omega
    have hle:=fun K=>S.less c [datB gl gs cl cs] f (p - h) h K om om om
    refine zA ?_
    simp[go_sem,q,hd,eh,e6]
    refine hle _ ?_
    cases aa:lt (f (p - h)) (f h)with
    |false=>
     simp[go_sem,ei]
     exact zG (h+1,j) ⟨by show j - (h+1)<j - i;omega,⟨by show lo<=h+1;omega,by show h+1<=j;omega,hj,fun x q1 q2=>by
      have q2:x<h+1:=q2
      have t1:TO lt (f h) (f (p - h)):=(TO.fore o (ae h (p - h) om om om om)).2 aa
      by_cases c2:x=h
      .rw[c2];exact t1
      .exact((ag x h om om om).trans o t1).trans o (af (p - h) (p - x) om om om),hR⟩,zZ (by simp[hl]) sg⟩
    |true=>
     simp[go_sem]
     exact zG (i,h) ⟨by show h - i<j - i;omega,⟨av,by show i<=h;omega,by show h<=hi;omega,hL,fun x q1 q2=>by
      have q1:h<=x:=q1
      by_cases c2:x=h
      .rw[c2];exact .inl aa
      .exact((af (p - x) (p - h) om om om).trans o (.inl aa)).trans o (ag h x om om om)⟩,zZ (by simp[hl]) sg⟩
   .have aj:i=j:=om
    subst aj
    obtain⟨e,he⟩:=eX (mid+m - i)
    have e7:IntKind.i64.wrap ((mid:Int)+m - i)=(e:Int):=by rw[i64_id om om];omega
    obtain⟨⟨r1,r2,r3,r4,r5,r6,r7⟩,ao,t1,t2,t3,t4⟩:=xo9 o (f:=f) (lo:=lo) (hi:=hi) (s:=i) (e:=e) h1 h2 aq.symm ag af al.symm ah.symm av hj he.symm (fun x q1 q2=>by rw[hp];exact hL x q1 q2) (fun x q1 q2=>by rw[hp];exact hR x q1 q2)
    have aB:=ae.rot_l r3 r4 r6 r7
    have aC:=ae.rot_r r1 r3 r4 r7
    have aD:Mv f (rotF f i m e) a b:=(Mv.rot f r3 r4).mono r1 r6
    have an: ¬(i<m/\m<e)->rotF f i m e=f:=fun hn=>by
     rcases Cf i m with c|c
     .have:e=m:=om
      rw[this];exact yP3 f i m
     .have:i=m:=om
      rw[this];exact yj3 f m e
    have ax:=fun c1 c2=>xF6 S f i m e c1 c2 om
    generalize rotF f i m e=g0 at*
    refine zA ?_
    simp[go_sem]
    refine zO (zA ?_)
    simp[go_sem,e7]
    refine ze9 (S:=Unit) [1,2,3,4,16,18,22] (fun _=> [.int .i64 a,.int .i64 m,.int .i64 b,.ptr σ0.length 0,.int .i64 mid,.int .i64 i,.int .i64 e]) (fun _=>lsF σ0 id s n row g0++ [datB gl gs cl cs]) (fun _=>True) (hc.trans (hl f)) hb ?_ ?_
    .by_cases k1:i<m
     .by_cases k2:m<e
      .have ab:=ax k1 k2
       refine zA ?_
       simp[go_sem,k1,k2,hd]
       refine S.call ab cB rfl ?_
       rintro g' rfl
       simp[go_sem]
       exact zG () ⟨tV,zZ (by simp[hl]) sg⟩
      .rw[an fun h=>k2 h.2]
       refine zA ?_
       simp[go_sem,k1,k2]
       exact zG () ⟨tV,zZ (by simp[hl]) sg⟩
     .rw[an fun h=>k1 h.1]
      refine zA ?_
      simp[go_sem,k1]
      exact zG () ⟨tV,zZ (by simp[hl]) sg⟩
    rintro _ _
    clear ax an hL hR
    refine ze9 (S:=Nat->Nat) [1,2,3,4,16,22] (fun _=> [.int .i64 a,.int .i64 m,.int .i64 b,.ptr σ0.length 0,.int .i64 mid,.int .i64 e]) (fun g=>lsF σ0 id s n row g++ [datB gl gs cl cs]) (fun g=>Mrg lt g0 g a mid) (hc.trans (hl f)) hb ?_ ?_
    .by_cases k1:a<i
     .by_cases k2:i<mid
      .have ab:=ih g0 a i mid om k1 k2 om t1 t2 aB
       refine zA ?_
       simp[go_sem,k1,k2,hd]
       refine S.call ab cB rfl ?_
       rintro g' aw
       simp[go_sem]
       exact zG g' ⟨aw,zZ (by simp[hl]) sg⟩
      .have hq:Srt lt g0 a mid:=by rw[show mid=i by omega];exact t1
       refine zA ?_
       simp[go_sem,k1,k2]
       exact zG g0 ⟨Mrg.id hq,zZ (by simp[hl]) sg⟩
     .have hq:Srt lt g0 a mid:=by rw[show a=i by omega];exact t2
      refine zA ?_
      simp[go_sem,k1]
      exact zG g0 ⟨Mrg.id hq,zZ (by simp[hl]) sg⟩
    rintro ad q1
    have same: ∀k,mid<=k->ad k=g0 k:=fun k hk=>q1.1.out (.inr hk)
    have ay:Srt lt ad mid e:=fun x y x1 x2 x3=>by rw[same x x1,same y om];exact t3 x y x1 x2 x3
    have az:Srt lt ad e b:=fun x y x1 x2 x3=>by rw[same x om,same y om];exact t4 x y x1 x2 x3
    have a1:Grp ad mid e b:=fun x y x1 x2 x3 x4=>by rw[same x x1,same y om];exact aC x y x1 x2 x3 x4
    have fin: ∀g2,Mrg lt ad g2 mid b->Mrg lt f g2 a b:=fun g2 q2=>Mrg.both aD ao ⟨om,om⟩ q1 q2
    by_cases k1:mid<e
    .by_cases k2:e<b
     .have ab:=ih ad mid e b om k1 k2 om ay az a1
      refine zA ?_
      simp[go_sem,k1,k2,hd]
      refine S.call ab cB rfl ?_
      rintro g' aw
      simp[go_sem]
      exact xA σ0.length (D5 (hl _)) (hl _) (S.lt_ok _) (D2 (hl f)) (zC rfl) ⟨rfl,_,rfl,fin g' aw⟩
     .have hq:Srt lt ad mid b:=by rw[show b=e by omega];exact ay
      refine zA ?_
      simp[go_sem,k1,k2]
      exact xA σ0.length (D5 (hl _)) (hl _) (S.lt_ok _) (D2 (hl f)) (zC rfl) ⟨rfl,_,rfl,fin ad (Mrg.id hq)⟩
    .have hq:Srt lt ad mid b:=by rw[show mid=e by omega];exact az
     refine zA ?_
     simp[go_sem,k1]
     exact xA σ0.length (D5 (hl _)) (hl _) (S.lt_ok _) (D2 (hl f)) (zC rfl) ⟨rfl,_,rfl,fin ad (Mrg.id hq)⟩
theorem zP9 (S:SC prog gl gs cl cs σ0 id s n row lt) (o:Ord lt): ∀(d:Nat) (f:Nat->Nat) (a m b:Nat),b - a<d->a<m->m<b->b<=n->Srt lt f a m->Srt lt f m b->Grp f a m b->
  VCalls prog 302 [.agg [.fn gl cl,.fn gs cs],.int .i64 a,.int .i64 m,.int .i64 b] (lsF σ0 id s n row f) (fun r t=>r= .tup []/\ ∃g,t=lsF σ0 id s n row g/\Mrg lt f g a b)
 |0,_,_,_,_,h,_,_,_,_,_,_=>absurd h (Bc _)
 |d+1,f,a,m,b,h,h1,h2,h3,aa,ab,hg=>yp4 S o f a m b h1 h2 h3 aa ab hg fun f' a' m' b' h' q1 q2 q3 q4 q5 q6=>zP9 S o d f' a' m' b' om q1 q2 q3 q4 q5 q6
end
section
variable {gl gs:FuncId} {cl cs:List V} {σ0:St} {id s n:Nat} {row:Nat->List V} {lt:Nat->Nat->Bool}
theorem xH1 (S:SC prog gl gs cl cs σ0 id s n row lt) (o:Ord lt):
  VCalls prog 234 [.agg [.fn gl cl,.fn gs cs],.int .i64 n] (lsF σ0 id s n row fun k=>k) (fun r t=>r= .tup []/\ ∃g,t=lsF σ0 id s n row g/\Mrg lt (fun k=>k) g 0 n):=by
 have hn:=S.nn
 refine VCalls.introV (lsF σ0 id s n row fun k=>k).length func234 ntmps234 results234 rfl rfl (Ci rfl) fun c hc hb=> ?_
 have hl: ∀g,(lsF σ0 id s n row g).length=σ0.length:=fun g=>zy2 ..
 have hd:=yB6 (σ0:=σ0) (id:=id) (s:=s) (n:=n) (row:=row) (gl:=gl) (gs:=gs) (cl:=cl) (cs:=cs)
 refine zO (zA ?_)
 simp[go_sem,hl]
 refine zO (zA ?_)
 simp[go_sem]
 refine zO (zA ?_)
 simp[go_sem]
 refine zO (zA ?_)
 simp[go_sem]
 refine zH (S:=Nat×Nat×(Nat->Nat)) [1,2,4,5,6] (fun u=> [.int .i64 n,.ptr σ0.length 0,.int .i64 20,.int .i64 u.2.1,.int .i64 ((u.2.1+20:Nat):Int)]) (fun u=>lsF σ0 id s n row u.2.2++ [datB gl gs cl cs]) (fun u=>n - u.2.1)
  (fun u=>u.2.1=u.1*20/\u.2.1<=n/\(∀q,q<u.1->Blk lt u.2.2 (q*20) (q*20+20))/\(∀k,u.2.1<=k->u.2.2 k=k)/\Mv (fun k=>k) u.2.2 0 n) (hc.trans (hl _)) hb (0,0,fun k=>k) ⟨rfl,A4 _,fun q hq=>absurd hq (Bc _),fun _ _=>rfl,Mv.refl _ _ _⟩ ?_ ?_
 .exact zZ (by simp[hl]) sg
 rintro⟨t,A,g⟩ ⟨hA,af,ah,hid,ab⟩
 simp only at hA af ah hid ab
 have ag: ∀b,∀x y,A<=x->x<y->y<b->g x<g y:=fun b x y x1 x2 x3=>by rw[hid x x1,hid y om];exact x2
 by_cases q:A+20<=n
 .have q':(A:Int)+20<=n:=om
  have e1:IntKind.i64.wrap ((A:Int)+20+20)=(A:Int)+20+20:=i64_id om om
  have aa:=zZ2 S o g A (A+20) om q (ag _)
  refine zA ?_
  simp[go_sem,q',hd]
  refine S.call aa cB rfl ?_
  rintro g' ad
  rw[hA]at ad
  rw[hA]at hid
  obtain⟨f1,f2⟩:=xl4 ah hid ad
  simp[go_sem,e1]
  exact zG (t+1,A+20,g') ⟨by show n - (A+20)<n - A;omega,⟨by show A+20=(t+1)*20;omega,q,f1,fun k hk=>f2 k (by have:A+20<=k:=hk;omega),ab.trans (ad.1.mono (A4 _) om)⟩,zZ (by simp[hl]) sg⟩
 .have q': ¬(A:Int)+20<=n:=om
  have aa:=zZ2 S o g A n af (A5 _) (ag _)
  refine zA ?_
  simp[go_sem,q']
  refine zO (zA ?_)
  simp[go_sem,hd]
  refine S.call aa cB rfl ?_
  rintro g' ad
  rw[hA]at ad hid
  have hB:=yT6 ah hid om om ad
  have ai:=ab.trans (ad.1.mono (A4 _) (A5 _))
  clear aa ad ag hid ah ab
  simp[go_sem]
  refine zA ?_
  simp[go_sem]
  refine zH (S:=Nat×(Nat->Nat)) [1,2,4] (fun u=> [.int .i64 n,.ptr σ0.length 0,.int .i64 u.1]) (fun u=>lsF σ0 id s n row u.2++ [datB gl gs cl cs]) (fun u=>n - u.1)
   (fun u=>20<=u.1/\u.1<=2000020/\Blks lt u.2 u.1 n/\Mv (fun k=>k) u.2 0 n) (hc.trans (hl _)) hb (20,g') ⟨A5 _,by show 20<=2000020;omega,hB,ai⟩ ?_ ?_
  .exact zZ (by simp[hl]) sg
  clear hB ai q q' hA af g' g t A
  rintro⟨w,g⟩ ⟨hw,ak,hB,ab⟩
  simp only at hw ak hB ab
  by_cases q:w<n
  rotate_left
  .refine zA ?_
   simp[go_sem,q]
   exact xA σ0.length (D5 (hl _)) (hl _) (S.lt_ok _) (D2 (hl _)) (zC rfl) ⟨rfl,g,rfl,ab,(hB.all om).2⟩
  have e2:IntKind.i64.wrap (2*(w:Int))=2*(w:Int):=i64_id om om
  have e3:IntKind.i64.wrap ((w:Int)*2)=(w:Int)*2:=i64_id om om
  refine zA ?_
  simp[go_sem,q,e2]
  refine zH (S:=Nat×Nat×(Nat->Nat)) [1,2,4,5,6] (fun u=> [.int .i64 n,.ptr σ0.length 0,.int .i64 w,.int .i64 u.2.1,.int .i64 ((u.2.1+2*w:Nat):Int)]) (fun u=>lsF σ0 id s n row u.2.2++ [datB gl gs cl cs]) (fun u=>n - u.2.1)
   (fun u=>u.2.1=u.1*(2*w)/\u.2.1<=n/\BlkM lt u.2.2 w n u.1/\Mv (fun k=>k) u.2.2 0 n) (hc.trans (hl _)) hb (0,0,g) ⟨sm,A4 _,BlkM.start hB,ab⟩ ?_ ?_
  .exact zZ (by simp[hl]) sg
  clear hB ab g
  rintro⟨t,A,g⟩ ⟨hA,af,hM,ab⟩
  simp only at hA af hM ab
  have e4:IntKind.i64.wrap ((A:Int)+w)=(A:Int)+w:=i64_id om om
  by_cases p:A+2*w<=n
  .have p':(A:Int)+2*w<=n:=om
   have e5:IntKind.i64.wrap ((A:Int)+2*w+2*w)=(A:Int)+2*w+2*w:=i64_id om om
   have ae:=hM.pair om (by rw[<-hA];omega)
   rw[<-hA,Cj p]at ae
   have aa:=zP9 S o (2*w+1) g A (A+w) (A+2*w) om om om p ae.1.2 ae.2.2 (ae.1.grp ae.2)
   refine zA ?_
   simp[go_sem,p',hd,e4]
   refine S.call aa cB rfl ?_
   rintro g' ad
   have hN:=hM.next om (by rw[<-hA];exact p) (hA▸ad)
   have em:(t+1)*(2*w)=t*(2*w)+2*w:=by rw[B4,Cx]
   simp[go_sem,e2,e5]
   exact zG (t+1,A+2*w,g') ⟨by show n - (A+2*w)<n - A;omega,⟨by show A+2*w=(t+1)*(2*w);rw[em,hA],p,hN,ab.trans (ad.1.mono (A4 _) p)⟩,zZ (by simp[hl]) sg⟩
  .have p': ¬(A:Int)+2*w<=n:=om
   by_cases p2:A+w<n
   .have aj:(A:Int)+w<n:=om
    have ae:=hM.pair om (by rw[<-hA];exact p2)
    rw[<-hA,Nat.min_eq_right om]at ae
    have aa:=zP9 S o (2*w+1) g A (A+w) n om om p2 (A5 _) ae.1.2 ae.2.2 (ae.1.grp ae.2)
    refine zA ?_
    simp[go_sem,p',aj,hd,e4]
    refine S.call aa cB rfl ?_
    rintro g' ad
    have hN:=hM.last om (by rw[<-hA];exact p2) (by rw[<-hA];omega) (hA▸ad)
    simp[go_sem,e3]
    exact zG (w*2,g') ⟨by show n - w*2<n - w;omega,⟨by show 20<=w*2;omega,by show w*2<=2000020;omega,by show Blks lt g' (w*2) n;rw[Dh];exact hN,ab.trans (ad.1.mono (A4 _) (A5 _))⟩,zZ (by simp[hl]) sg⟩
   .have aj: ¬(A:Int)+w<n:=om
    have hN:=hM.none (by rw[<-hA];exact af) (by rw[<-hA];omega)
    refine zA ?_
    simp[go_sem,p',aj,e4,e3]
    exact zG (w*2,g) ⟨by show n - w*2<n - w;omega,⟨by show 20<=w*2;omega,by show w*2<=2000020;omega,by show Blks lt g (w*2) n;rw[Dh];exact hN,ab⟩,zZ (by simp[hl]) sg⟩
end
end Go.Proofs.YtefbicjgbaaieaaGreat
namespace Go.Proofs.YtefbicjgbaaieaaGreat
open Go Go.Vx R Go.Proofs.Tryz
set_option maxRecDepth 100000
variable {α:Type}
def insG (gt:α->Bool) (out:List α) (x:α):List α:=(out.reverse.dropWhile gt).reverse++x::(out.reverse.takeWhile gt).reverse
theorem ys4 (gt:α->Bool) (out:List α) (x:α):(insG gt out x).Perm (x::out):=by
 unfold insG
 refine E0.trans (List.Perm.cons _ ?_)
 rw[<-List.reverse_append,Ce,List.reverse_reverse]
theorem xA2 {β:Type} (h:α->β) (gt:β->Bool) (out:List α) (x:α):(insG (fun y=>gt (h y)) out x).map h=insG gt (out.map h) (h x):=by
 unfold insG
 rw[Ca,Aj,List.map_reverse,List.map_reverse,<-List.map_reverse (l:=out),List.dropWhile_map,List.takeWhile_map]
 rfl
theorem yK9 {lt:Nat->Nat->Bool} (o:Ord lt) {out:List Nat} {x:Nat} (hs:out.Pairwise (TO lt)) (hx: ∀y∈out,y<x):(insG (fun y=>lt x y) out x).Pairwise (TO lt):=by
 have hl:out=(out.reverse.dropWhile (fun y=>lt x y)).reverse++(out.reverse.takeWhile (fun y=>lt x y)).reverse:=by
  rw[<-List.reverse_append,Ce,List.reverse_reverse]
 have aa: ∀y∈out.reverse.takeWhile (fun y=>lt x y),lt x y=true:=by
  intro y hy
  exact Af.1 List.all_takeWhile y hy
 have ab: ∀y∈out.reverse.dropWhile (fun y=>lt x y),lt x y=false:=by
  cases hd:out.reverse.dropWhile (fun y=>lt x y)with
  |nil=>intro y hy;cases hy
  |cons z d=>
   have hz:lt x z=false:=by
    have:=List.head?_dropWhile_not (fun y=>lt x y) out.reverse
    rw[hd]at this
    simpa using this
   intro y hy
   rcases Ae.1 hy with rfl|hy
   .exact hz
   .have hp:(out.reverse).Pairwise (fun a b=>TO lt b a):=List.pairwise_reverse.2 hs
    have ad:(z::d).Pairwise (fun a b=>TO lt b a):=hd▸hp.sublist (List.dropWhile_sublist _)
    have h3:=(Bw.1 ad).1 y hy
    cases q:lt x y with
    |false=>rfl
    |true=>
     rcases h3 with h3|⟨h3,_⟩
     .rw[o.tr _ _ _ q h3]at hz;cases hz
     .have:=o.nt _ _ _ hz h3;rw[q]at this;cases this
 unfold insG
 rw[hl,Cd]at hs
 have ae: ∀y∈out.reverse.dropWhile (fun y=>lt x y),y∈out:=fun y hy=>List.mem_reverse.1 ((List.dropWhile_sublist _).subset hy)
 rw[Cd,Bw]
 refine⟨hs.1,⟨fun y hy=> .inl (aa y (List.mem_reverse.1 hy)),hs.2.1⟩,fun y hy z hz=> ?_⟩
 rcases Ae.1 hz with rfl|hz
 .exact .inr ⟨ab y (List.mem_reverse.1 hy),hx y (ae y (List.mem_reverse.1 hy))⟩
 .exact hs.2.2 y hy z hz
def zB7 (lt:Nat->Nat->Bool) (n:Nat):List Nat:=(List.range n).foldl (fun out x=>insG (fun y=>lt x y) out x) []
theorem yQ7 {lt:Nat->Nat->Bool} (o:Ord lt): ∀n,(zB7 lt n).Perm (List.range n)/\(zB7 lt n).Pairwise (TO lt)
 |0=>⟨List.Perm.nil,List.Pairwise.nil⟩
 |n+1=>by
  obtain⟨h1,h2⟩:=yQ7 o n
  have e:zB7 lt (n+1)=insG (fun y=>lt n y) (zB7 lt n) n:=by
   unfold zB7;rw[List.range_succ,Dl];rfl
  rw[e]
  refine⟨(ys4 _ _ _).trans ?_,yK9 o h2 fun y hy=>C3.1 (h1.mem_iff.1 hy)⟩
  rw[List.range_succ]
  exact(h1.cons n).trans (List.perm_append_singleton _ _).symm
theorem xr5 {lt:Nat->Nat->Bool} (o:Ord lt) {f:Nat->Nat} {n:Nat} (hm:Mv id f 0 n) (hs:Srt lt f 0 n):(List.range n).map f=zB7 lt n:=by
 obtain⟨hp,hq⟩:=yQ7 o n
 obtain⟨π,p1,p2,p3,p4⟩:=hm
 have hf: ∀k,f k=π k:=p4
 have ad:((List.range n).map f).Nodup:=by
  rw[List.Nodup,C2]
  exact(Bm (n:=n)).imp fun{a b} h e=>h (p3 _ _ (by rw[<-hf,<-hf];exact e))
 have ab:((List.range n).map f).Perm (List.range n):=by
  rw[List.perm_ext_iff_of_nodup ad Bm]
  have aa: ∀y∈(List.range n).map f,y∈List.range n:=fun y hy=>by
   obtain⟨k,hk,rfl⟩:=Ac.1 hy
   rw[C3]at hk⊢
   rw[hf];exact(p1 k (A4 _) hk).2
  intro y
  refine⟨aa y,fun hy=>Eg fun hn=> ?_⟩
  have h1:(y::(List.range n).map f).Nodup:=C9.2 ⟨hn,ad⟩
  have:=h1.length_le_of_subset (l₂:=List.range n) fun z hz=>by
   rcases Ae.1 hz with rfl|hz
   .exact hy
   .exact aa z hz
  simp at this
  omega
 have ae:((List.range n).map f).Pairwise (TO lt):=by
  rw[C2]
  have:=List.pairwise_lt_range (n:=n)
  refine List.Pairwise.imp_of_mem (fun{a b} ha hb af=> ?_) this
  exact hs a b (A4 _) af (C3.1 hb)
 exact(ab.trans hp.symm).eq_of_pairwise (fun a b _ _ h1 h2=>absurd (h1.trans o h2) (fun h=>h.irr o)) ae hq
theorem yU9 (gt:α->α->Bool) (l:List α) (d:α):l.foldl (fun out x=>insG (fun y=>gt x y) out x) []=(zB7 (fun i j=>gt (l.getD i d) (l.getD j d)) l.length).map fun i=>l.getD i d:=by
 have key: ∀n,n<=l.length->(l.take n).foldl (fun out x=>insG (fun y=>gt x y) out x) []=(zB7 (fun i j=>gt (l.getD i d) (l.getD j d)) n).map fun i=>l.getD i d:=by
  intro n
  induction n with
  |zero=>intro _;simp[zB7]
  |succ n ih=>
   intro h
   have hn:n<l.length:=h
   rw[C0 hn,Dl,ih om]
   have e:zB7 (fun i j=>gt (l.getD i d) (l.getD j d)) (n+1)=insG (fun y=>gt (l.getD n d) (l.getD y d)) (zB7 (fun i j=>gt (l.getD i d) (l.getD j d)) n) n:=by
    unfold zB7;rw[List.range_succ,Dl];rfl
   rw[e,xA2 (fun i=>l.getD i d) (fun y=>gt (l.getD n d) y)]
   have e2:l.getD n d=l[n]:=by rw[A7,A0 hn];rfl
   simp only[Bb,Eq]
   rw[e2]
 have:=key l.length (A5 _)
 rwa [Dz]at this
def LTv (a b:GValue):Prop:=a.kind<b.kind∨a.kind=b.kind/\(a.n<b.n∨a.n=b.n/\Op.bytesLess a.s b.s=true)
theorem xW0 {a b:List UInt8} (h:Op.bytesLess a b=true):Op.bytesLess b a=false:=by
 cases q:Op.bytesLess b a
 .rfl
 .have:=zq0 _ _ _ h q;rw[zd8]at this;cases this
theorem yb6 (a b:GValue):(cmpV a b<0↔LTv a b)/\(0<cmpV a b↔LTv b a):=by
 unfold cmpV LTv
 simp only[orL,cmpI,cmpS]
 rcases Ee a.kind b.kind with h|h|h
 .have h2: ¬b.kind<a.kind:=om
  have h3: ¬b.kind=a.kind:=om
  simp[h,h2,h3]
 .rw[h]
  rcases Ee a.n b.n with g|g|g
  .have h2: ¬b.n<a.n:=om
   have h3: ¬b.n=a.n:=om
   simp[g,h2,h3]
  .rw[g]
   rcases zA3 a.s b.s with f|f|f
   .simp[f,xW0 f]
   .rw[f];simp[zd8]
   .simp[f,xW0 f]
  .have h2: ¬a.n<b.n:=om
   have h3: ¬a.n=b.n:=om
   simp[g,h2,h3]
 .have h2: ¬a.kind<b.kind:=om
  have h3: ¬a.kind=b.kind:=om
  simp[h,h2,h3]
theorem LTv.irr (a:GValue): ¬LTv a a:=by
 intro h
 rcases h with h|⟨_,h|⟨_,h⟩⟩
 .omega
 .omega
 .rw[zd8]at h;cases h
theorem LTv.trans {a b c:GValue} (h:LTv a b) (g:LTv b c):LTv a c:=by
 rcases h with h|⟨h,h|⟨h',h⟩⟩<;>rcases g with g|⟨g,g|⟨g',g⟩⟩
 .exact .inl om
 .exact .inl om
 .exact .inl om
 .exact .inl om
 .exact .inr ⟨om,.inl om⟩
 .exact .inr ⟨om,.inl om⟩
 .exact .inl om
 .exact .inr ⟨om,.inl om⟩
 .exact .inr ⟨om,.inr ⟨om,zq0 _ _ _ h g⟩⟩
theorem LTv.some {a c:GValue} (b:GValue) (h:LTv a c):LTv a b∨LTv b c:=by
 rcases Ee a.kind b.kind with k|k|k
 .exact .inl (.inl k)
 .rcases h with h|⟨h,h⟩
  .exact .inr (.inl om)
  .rcases Ee a.n b.n with m|m|m
   .exact .inl (.inr ⟨k,.inl m⟩)
   .rcases h with h|⟨h',h⟩
    .exact .inr (.inr ⟨om,.inl om⟩)
    .rcases zA3 a.s b.s with f|f|f
     .exact .inl (.inr ⟨k,.inr ⟨m,f⟩⟩)
     .exact .inr (.inr ⟨om,.inr ⟨om,f▸h⟩⟩)
     .exact .inr (.inr ⟨om,.inr ⟨om,zq0 _ _ _ f h⟩⟩)
   .rcases h with h|⟨h',h⟩
    .exact .inr (.inr ⟨om,.inl om⟩)
    .exact .inr (.inr ⟨om,.inl om⟩)
 .rcases h with h|⟨h,_⟩
  .exact .inr (.inl om)
  .exact .inr (.inl om)
def ltR (d:Ln) (c:Nat) (down:Bool) (l:List Ln) (i j:Nat):Bool:=decide (0<cmpC c down (l.getD j d) (l.getD i d))
theorem yV7 (d:Ln) (c:Nat) (down:Bool) (l:List Ln) (i j:Nat):ltR d c down l i j=true↔if down=true then LTv ((l.getD j d).v.getD c zeroV) ((l.getD i d).v.getD c zeroV)else LTv ((l.getD i d).v.getD c zeroV) ((l.getD j d).v.getD c zeroV):=by
 unfold ltR cmpC
 rw[decide_eq_true_eq]
 cases down with
 |true=>
  simp only[if_true]
  rw[<-(yb6 _ _).1]
  omega
 |false=>
  simp only[D0,if_false]
  exact(yb6 _ _).2
theorem xf5 (d:Ln) (c:Nat) (down:Bool) (l:List Ln):Ord (ltR d c down l):=by
 refine⟨fun i=> ?_,fun i j k h g=> ?_,fun i j k h g=> ?_⟩
 .cases q:ltR d c down l i i with
  |false=>rfl
  |true=>
   rw[yV7]at q
   split at q
   .exact absurd q (LTv.irr _)
   .exact absurd q (LTv.irr _)
 .rw[yV7]at h g⊢
  split at h
  .rename_i e0
   rw[if_pos e0]at g⊢
   exact g.trans h
  .rename_i e0
   rw[if_neg e0]at g⊢
   exact h.trans g
 .cases q:ltR d c down l i k with
  |false=>rfl
  |true=>
   exfalso
   have h': ¬ltR d c down l i j=true:=by rw[h];decide
   have g': ¬ltR d c down l j k=true:=by rw[g];decide
   rw[yV7]at h' g' q
   split at q
   .rename_i e0
    rw[if_pos e0]at h' g'
    exact(q.some ((l.getD j d).v.getD c zeroV)).elim g' h'
   .rename_i e0
    rw[if_neg e0]at h' g'
    exact(q.some ((l.getD j d).v.getD c zeroV)).elim h' g'
theorem xH0 (d:Ln) (c:Nat) (down:Bool) (l:List Ln):zw4 c down l=(zB7 (ltR d c down l) l.length).map fun i=>l.getD i d:=yU9 (fun x y=>decide (0<cmpC c down y x)) l d
theorem yZ4 {d:Ln} {c:Nat} {down:Bool} {l:List Ln} {f:Nat->Nat} (hm:Mv id f 0 l.length) (hs:Srt (ltR d c down l) f 0 l.length):((List.range l.length).map fun k=>l.getD (f k) d)=zw4 c down l:=by
 rw[xH0 d,<-xr5 (xf5 d c down l) hm hs,Bk]
 rfl
end Go.Proofs.YtefbicjgbaaieaaGreat
