/-
  The library's rotation of two neighbours over trees; used by the walk of exec.choose.
  Conditions: less and swap as `SC` states them.
-/
import Derived.Test.YtkigddpaonhmlaaGreatXBG
import Derived.Test.YtkigddpaonhmlaaGreatXBF
import Derived.Test.YtkigddpaonhmlaaGreatXBH
import Derived.Test.YtkigddpaonhmlaaGreatXAM
import Derived.Test.YtkigddpaonhmlaaGreatXAP
import Derived.Test.YtkigddpaonhmlaaGreatXAN
set_option maxHeartbeats 8000000
namespace Go.Proofs.YtkigddpaonhmlaaGreat
open Go Go.Vx R Go.Proofs.Tryz
set_option maxRecDepth 100000
def metR (a b:Mp (List UInt8)) (sn:Mp Int) (M:List Ln×Int) (r:V) (s:St):Prop:=
 (M.2≠0/\s=runS a b sn/\r= .tup [.sl .ro [],.int .i64 M.2])∨(M.2=0/\s=runS a b sn++ [.lst (M.1.map Ln.row) 3]/\r= .tup [.lsv 4 3 M.1.length 0 M.1.length,.int .i64 0])
theorem LnOk.light {x:Ln} (h:LnOk x):LightR x.v:=by
 obtain⟨tn,T,_,hT,hm⟩:=h.tab
 exact zz9 ((by decide: ∀T∈tabsS,T.cols.length<=20) T (B1 hT)) h.ok hm
theorem yz8 {nt:Nat} {d:Option Tmp} {K:KT} {e:Env} {σ:St} {i id clk:Nat} {seen:List Nat} {b:Mp (List UInt8)} {R0:Vx.R} (hR:R0=zh0 true σ (.ptr i 0)) (hi:σ[i]? =some (.it (some id) clk seen clk)) (hid:σ[id]? =some (.mp (kvE V.str b.W) b.bs clk)) (hb: ∀x∈b.bs,x<clk)
  (h0:ze4 seen b.W b.bs= []->wput nt d (.tup [.bool false]) K fx e σ) (h1: ∀p∈ze4 seen b.W b.bs,wput nt d (.tup [.bool true,plV p.1.1,.str p.1.2]) K fx e (σ.set i (.it (some id) clk (seen++ [p.2]) clk))):wfin nt d R0 K fx e σ:=by
 subst hR
 have hall:(b.bs.all fun x=>decide (x<clk))=true:=Af.2 fun x hx=>decide_eq_true (hb x hx)
 unfold zh0
 simp only[hi,hid,hall,A2,and_self,if_true,yW9]
 match hL:ze4 seen b.W b.bs with
 | []=>exact h0 hL
 | [p]=>exact h1 p (by rw[hL];exact Cq.2 rfl)
 |p::q::r=>
  simp only[Al]
  rw[xz9]
  refine xJ8 fun x hx=> ?_
  have hx2:x∈(p::q::r).map fun p:(Pl×List UInt8)×Nat=>((.tup [.bool true,plV p.1.1,.str p.1.2]:V),σ.set i (.it (some id) clk (seen++ [p.2]) clk)):=by
   simpa using hx
  obtain⟨y,hy,rfl⟩:=Ac.1 hx2
  exact h1 y (by rw[hL];exact hy)
theorem yY2 {a b:Mp (List UInt8)} {sn:Mp Int} {m:List Ln} {k:Nat} {σ:St} (hk:4<=k) (h4:σ.take 4=runS a b sn) (hσ:σ[k]? =some (.lst (m.map Ln.row) 3)):wret (some (.tup [.lsv k 3 m.length 0 m.length,.int .i64 0])) 4 (metR a b sn (m,0)) σ:=by
 refine yT5 [0,1,2,3,k] (s:=runS a b sn++ [.lst (m.map Ln.row) 3]) (r:= .tup [.lsv 4 3 m.length 0 m.length,.int .i64 0]) ?_ (fun i hi=> ?_) rfl (fun i j o hij ho=> ?_) (.inl (by simp[renS,renA,renC,renK,ren])) (.inr ⟨rfl,rfl,rfl⟩)
 .simp;omega
 .match i,hi with
  |0,_=>rfl
  |1,_=>rfl
  |2,_=>rfl
  |3,_=>rfl
 .by_cases q:i<4
  .have e:j=i:=by
    match i,q with
    |0,_=>simp at hij;omega
    |1,_=>simp at hij;omega
    |2,_=>simp at hij;omega
    |3,_=>simp at hij;omega
   subst e
   have h1:(runS a b sn)[j]? =some o:=by rw[Ab (by exact q)]at ho;exact ho
   have hol:ltOb 4 o=true:=Af.1 (xM 4 (by decide) a b sn) o (B1 h1)
   rw[wD (n:=4) (fun x hx=> ?_) hol]
   .rw[<-h4,Cz q]at h1
    exact h1
   .rw[wE (by simp;omega)]
    match x,hx with
    |0,_=>rfl
    |1,_=>rfl
    |2,_=>rfl
    |3,_=>rfl
  .have e:i=4:=by
    have:=(A1.1 hij).1
    simp at this;omega
   subst e
   have e1:o= .lst (m.map Ln.row) 3:=by cases ho;rfl
   have e2:j=k:=by simp at hij;omega
   subst e1;subst e2
   rw[wD (n:=0) (fun _ h=>absurd h (Bg _)) (by simp[ltOb,ltC,ltK,Ln.row])]
   exact hσ
theorem xk0 (T:GTable) (st:GStmt) (acc:List Ln) (x:Ln) (l:List Ln):zv8 T st acc (x::l)=if(evR T x.v st.where_).2≠0 then([],(evR T x.v st.where_).2)else zv8 T st (if zW9 (evR T x.v st.where_).1=true then acc++ [x]else acc) l:=rfl
theorem xV7 (tn:Nat) (T:GTable) (hT:tabsS[tn]? =some T) (st:GStmt) (hst:SOk st) (hv:VOk st) (a b:Mp (List UInt8)) (sn:Mp Int) (l:List Ln) (hnow:NowOk b l) (hl:l.length<=10000):
  VCalls prog 32 [.ptr 3 0,.int .i64 tn,.agg st.row] (runS a b sn) (metR a b sn (metF tn T st l)):=by
 obtain⟨htn,hTx⟩:=A1.1 hT
 have h3:tn<3:=htn
 have hbo:=xk4 xX tabsS tn st (by decide) (by decide) (by have:=yn1 st;unfold maxLen;omega) hv
 have hre:=xc4 tn st (by have:=yn1 st;unfold maxLen;omega)
 obtain⟨⟨lo,hi⟩,hbd⟩: ∃bd,zm0 tabsS tn st=bd:=⟨_,rfl⟩
 rw[hbd]at hbo
 obtain⟨G,hG⟩:=eX (za5 tn st)
 have hGl:=yx3 tn st
 have hGo:=fun g (hg:g∈za5 (tn:Int) st)=>yZ7 tn h3 hg
 rw[hG]at hre hGl hGo
 refine iV 4 func32 ntmps32 results32 fun c hc hb=> ?_
 refine zS (zA ?_)
 simp[go_sem,runS,runB]
 refine zS (zA ?_)
 simp[go_sem]
 refine yU [(6,0)] 5 rfl (by kernel_rfl) (by kernel_rfl) ?_
 simp[go_sem]
 refine zW hbo cB (fun _=>⟨zC rfl,zC rfl,zC rfl,trivial⟩) rfl ?_
 simp[go_sem,xv1]
 refine zS (zA ?_)
 simp[go_sem]
 refine zJ9 10 3 (by decide) (by simp[go_sem]) ?_
 refine zS (zA ?_)
 simp[go_sem]
 refine yU [(6,0)] 6 rfl (by kernel_rfl) (by kernel_rfl) ?_
 simp[go_sem]
 refine zW hre cB (fun _=>⟨zC rfl,zC rfl,zC rfl,trivial⟩) rfl ?_
 simp[go_sem]
 have ok6: ∀(m:List Ln),([a.ob .str,b.ob .str,sn.ob (V.int .i64),.box [.sl .ro xX,.sl .ro (tabsS.map GTable.row),.mp 0,.mp 1,.mp 2],.box st.row,.lst (m.map Ln.row) 3]:St).all (ltOb 6)=true:=fun m=>by
  have h:=xM 6 (by omega) a b sn
  simp only[runS,runB,Am,Cp,Cx]at h⊢
  rw[A4,A4,A4]at h⊢
  refine⟨h.1,h.2.1,h.2.2.1, ?_⟩
  rw[A4]
  exact⟨h.2.2.2,by simp[ltOb,ltC,ltK,GStmt.row,Ln.row]⟩
 have eB:b.ob .str= .mp (kvE .str b.W) b.bs b.clk:=rfl
 have hbs: ∀x∈b.bs,x<b.clk:=hnow.ok.lt
 have ok7: ∀(m:List Ln) (se:List Nat),([a.ob .str,b.ob .str,sn.ob (V.int .i64),.box [.sl .ro xX,.sl .ro (tabsS.map GTable.row),.mp 0,.mp 1,.mp 2],.box st.row,.lst (m.map Ln.row) 3,.it (some 1) b.clk se b.clk]:St).all (ltOb 7)=true:=fun m se=>by
  have h:=xM 7 (by omega) a b sn
  simp only[runS,runB,Am,Cp,Cx]at h⊢
  rw[A4,A4,A4]at h⊢
  refine⟨h.1,h.2.1,h.2.2.1, ?_⟩
  rw[A4]
  exact⟨h.2.2.2,by simp[ltOb,ltC,ltK,GStmt.row,Ln.row]⟩
 refine zL (S:=Nat×List Ln) [0,1,5,8,9,10,40,41,42] (fun u=> [.ptr 3 0,.int .i64 tn,.ptr 4 0,.str lo,.str hi,.lsv 5 3 u.2.length 0 u.2.length,.sl .ro (G.map yO),.int .i64 G.length,.int .i64 u.1])
  (fun u=> [a.ob .str,b.ob .str,sn.ob (V.int .i64),.box [.sl .ro xX,.sl .ro (tabsS.map GTable.row),.mp 0,.mp 1,.mp 2],.box st.row,.lst (u.2.map Ln.row) 3]) (fun u=>G.length - u.1)
  (fun u=>u.1<=G.length/\u.2.Perm ((G.take u.1).flatMap fun g=>l.filter (inL (wJ tn g).1 lo hi))/\u.2.length<=u.1*10000) hc hb (0,[]) ⟨A3 _,by simp,A3 _⟩ ?_ ?_
 .exact aN 6 (ok6 [])
 rintro⟨i,acc⟩ ⟨hi',hp',hal⟩
 simp only at hi' hp' hal
 by_cases q:i<G.length
 .have ei:=zV q (by omega)
  obtain⟨g,hg⟩:=eX (G[i])
  obtain⟨hg1,hg2,hg3⟩:=hGo g (hg▸A8 q)
  have hrg:=yA5 tn g (by omega) (by omega)
  obtain⟨rng,hrng⟩:=eX ((wJ tn g).1)
  have hrp:wJ tn g=(rng,0):=Prod.ext hrng hg2
  rw[hrp]at hrg hg3
  refine zA ?_
  simp[go_sem,q,hg,yO]
  refine zD hrg cB ⟨zC rfl,zC rfl,zC rfl,trivial⟩ rfl ?_
  simp[go_sem,yx2,eB]
  refine zL (S:=List Nat×List (Pl×List UInt8)) [0,1,5,8,9,10,13,40,41,42,60] (fun u=> [.ptr 3 0,.int .i64 tn,.ptr 4 0,.str lo,.str hi,.lsv 5 3 (acc++(u.2.filter (inE rng lo hi)).map (lnE tn)).length 0 (acc++(u.2.filter (inE rng lo hi)).map (lnE tn)).length,.int .i64 rng,.sl .ro (G.map yO),.int .i64 G.length,.int .i64 i,.ptr 6 0])
   (fun u=> [a.ob .str,b.ob .str,sn.ob (V.int .i64),.box [.sl .ro xX,.sl .ro (tabsS.map GTable.row),.mp 0,.mp 1,.mp 2],.box st.row,.lst ((acc++(u.2.filter (inE rng lo hi)).map (lnE tn)).map Ln.row) 3,.it (some 1) b.clk u.1 b.clk]) (fun u=>(ze4 u.1 b.W b.bs).length)
   (fun u=>MetD u.1 b.W b.bs u.2) hc hb ([],[]) (MetD.start hnow.ok.len) ?_ ?_
  .exact at_n 7 (by simp[go_sem];rfl) rfl (ok7 _ _) (by decide) (zG (by simp[go_sem]) rfl)
  rintro⟨se,D⟩ hD
  simp only at hD
  refine zv7 61 (by decide) ?_
  refine zA ?_
  simp[go_sem,eB]
  have hin: ∀p∈ze4 se b.W b.bs,p.1.2.length<=maxB:=fun p hp=>by
   obtain⟨x,hx,hxe⟩:=Ac.1 (hnow.perm.mem_iff.1 (List.of_mem_zip (zJ2 hp)).1)
   rw[<-hxe]
   have:=zR9 (LnOk.light (hnow.rows x hx)) x.v.length
   exact Ay this (by decide)
  have hDl:D.length<=10000:=by
   have h1:=hD.length_eq
   rw[hnow.perm.length_eq]at h1
   simp only[Aw,Aq]at h1
   omega
  have hXl:((D.filter (inE rng lo hi)).map (lnE tn)).length<=D.length:=by rw[Aq];exact Bk _ _
  refine yz8 (b:=b) (i:=6) (id:=1) (seen:=se) (clk:=b.clk) (by simp[go_sem,zh0]) rfl rfl hbs (fun hL=> ?_) (fun p hp=> ?_)
  .have hperm:=yI1 hnow (hD.done hL) (t:=tn) (rng:=rng) (by rw[hg3]) lo hi
   simp[go_sem,ei]
   exact zI (i+1,acc++(D.filter (inE rng lo hi)).map (lnE tn)) ⟨by show G.length - (i+1)<G.length - i;omega,⟨q,by
    show(acc++_).Perm _
    rw[Ci q,E4,hg]
    refine hp'.append ?_
    simp only[Bl,List.flatMap_nil,B7,hrng]
    exact hperm,by show(acc++_).length<=(i+1)*10000;rw[Aw];omega⟩,at_n 6 (by simp[go_sem];rfl) rfl (ok6 _) (by decide) (zG (by simp[go_sem]) rfl)⟩
  .have hek:=yt9 (g:=V.str) hnow.ok.nd (zJ2 hp)
   have hnx:=hD.next hnow.ok.nd hp
   have hms:=(zC4 hnow.ok.nd hp).length_eq
   have hdl:=hin p hp
   clear hin
   obtain⟨⟨⟨pr,pk⟩,data⟩,stamp⟩:=p
   simp only[plV]at hek hnx hms hdl
   have hmeas:(ze4 (se++ [stamp]) b.W b.bs).length<(ze4 se b.W b.bs).length:=by rw[hms];exact Ek _
   have hrow:=xK7 xX tabsS tn data hdl (by decide)
   have hlE:lnE tn ((pr,pk),data)=⟨pr,pk,(rowF tabsS tn data).1⟩:=rfl
   obtain⟨rf,hrf⟩:=eX (rowF tabsS tn data)
   rw[hrf]at hrow hlE
   have hEe:inE rng lo hi ((pr,pk),data)=((pr==rng)&&(!Op.bytesLess pk lo&&Op.bytesLess pk hi)):=rfl
   clear hms hp hdl
   refine(A7 (pr==rng)).elim (fun r1=> ?_) (fun r1=> ?_)
   rotate_left
   .have hE:inE rng lo hi ((pr,pk),data)=false:=by rw[hEe,r1];rfl
    simp[go_sem,plV,zh9,hek,r1]
    exact zI (se++ [stamp],D++ [((pr,pk),data)]) ⟨hmeas,hnx,at_n 7 (by simp[go_sem,hE];rfl) rfl (ok7 _ _) (by decide) (zG (by simp[go_sem,hE]) rfl)⟩
   refine(A7 (Op.bytesLess pk lo)).elim (fun r2=> ?_) (fun r2=> ?_)
   .have hE:inE rng lo hi ((pr,pk),data)=false:=by rw[hEe,r1,r2];rfl
    simp[go_sem,plV,zh9,hek,r1,r2]
    exact zI (se++ [stamp],D++ [((pr,pk),data)]) ⟨hmeas,hnx,at_n 7 (by simp[go_sem,hE];rfl) rfl (ok7 _ _) (by decide) (zG (by simp[go_sem,hE]) rfl)⟩
   refine(A7 (Op.bytesLess pk hi)).elim (fun r3=> ?_) (fun r3=> ?_)
   rotate_left
   .have hE:inE rng lo hi ((pr,pk),data)=false:=by rw[hEe,r1,r2,r3];rfl
    simp[go_sem,plV,zh9,hek,r1,r2,r3]
    exact zI (se++ [stamp],D++ [((pr,pk),data)]) ⟨hmeas,hnx,at_n 7 (by simp[go_sem,hE];rfl) rfl (ok7 _ _) (by decide) (zG (by simp[go_sem,hE]) rfl)⟩
   have hE:inE rng lo hi ((pr,pk),data)=true:=by rw[hEe,r1,r2,r3];rfl
   simp[go_sem,plV,zh9,hek,r1,r2,r3]
   refine zD hrow cB ⟨zC rfl,zC rfl,zC rfl,trivial⟩ rfl ?_
   simp[go_sem,rowV,Bu]
   have hFl:(D.filter (inE rng lo hi)).length<=D.length:=Bk _ _
   refine zJ ⟨yC rfl,by omega⟩ ?_
   simp[go_sem]
   exact zI (se++ [stamp],D++ [((pr,pk),data)]) ⟨hmeas,hnx,at_n 7 (by simp[go_sem,hE,hlE];rfl) rfl (ok7 _ _) (by decide) (zG (by simp[go_sem,hE,Bv]) rfl)⟩
 .have hig:i=G.length:=by omega
  have hbx: ∀x:Ln,zn4 tn st x=((G.any fun g=>(wJ tn g).1==x.r)&&(!Op.bytesLess x.k lo&&Op.bytesLess x.k hi)):=fun x=>by unfold zn4;rw[hG,hbd]
  have hall:acc.Perm (l.filter (zn4 tn st)):=by
   have h:=yx4 tn h3 st l
   rw[hG,hbd]at h
   rw[hig,Dp]at hp'
   exact hp'.trans h
  have hlen:acc.length<=l.length:=by rw[hall.length_eq];exact Bk _ _
  obtain⟨M,hM⟩:=eX (metF tn T st l)
  have hM1:st.filtered=false->M=(l.filter (zn4 tn st),0):=fun h=>by rw[<-hM];unfold metF;rw[if_neg (by rw[h];decide)]
  have hM2:st.filtered=true->M=zv8 T st [] (l.filter (zn4 tn st)):=fun h=>by rw[<-hM];unfold metF;rw[if_pos h]
  rw[hM]
  clear hM
  refine zA ?_
  simp[go_sem,q]
  refine zS (zA ?_)
  simp[go_sem]
  refine yL1 Tryz.sortMet rfl cB (by decide) Tryz.sortMet_agg Tryz.sortMet_sz cB yH6 xv0 (f:=Ln.row) (kx:=Ln.at) (fun x=>⟨_,rfl,rfl⟩) acc rfl (by omega) (fun l' hpl hsr=> ?_)
  have hl':=yP2 hnow.rise (hpl.symm.trans hall) hsr
  have hlen':acc.length=l'.length:=hpl.length_eq
  rw[<-hl']at hM1 hM2
  simp[go_sem,hlen']
  refine zS (zA ?_)
  simp[go_sem]
  refine zT (fun h=> ?_) (fun h=> ?_)
  .have hf:st.filtered=false:=by simpa using h
   rw[hM1 hf]
   simp[go_sem]
   exact yY2 (by decide) rfl rfl
  .have hf:st.filtered=true:=by simpa using h
   have hM:=hM2 hf
   have hl1:l'.length<=10000:=by omega
   have hlo: ∀x∈l',LnOk x:=fun x hx=>hnow.rows x (by rw[hl']at hx;exact(B9.1 hx).1)
   have hTc:T.cols.length<=maxLen:=(by decide: ∀T∈tabsS,T.cols.length<=maxLen) T (B1 hT)
   clear hM1 hM2 hl' hpl hsr hp' hall
   have ok7': ∀(m:List Ln),([a.ob .str,b.ob .str,sn.ob (V.int .i64),.box [.sl .ro xX,.sl .ro (tabsS.map GTable.row),.mp 0,.mp 1,.mp 2],.box st.row,.lst (l'.map Ln.row) 3,.lst (m.map Ln.row) 3]:St).all (ltOb 7)=true:=fun m=>by
    have h:=xM 7 (by omega) a b sn
    simp only[runS,runB,Am,Cp,Cx]at h⊢
    rw[A4,A4,A4]at h⊢
    refine⟨h.1,h.2.1,h.2.2.1, ?_⟩
    rw[A4]
    exact⟨h.2.2.2,by simp[ltOb,ltC,ltK,GStmt.row,Ln.row]⟩
   refine zS (zA ?_)
   simp[go_sem]
   refine zJ9 19 3 (by decide) (by simp[go_sem]) ?_
   refine zS (zA ?_)
   simp[go_sem]
   refine zL (S:=Nat×List Ln) [0,1,5,19,105,106,107] (fun u=> [.ptr 3 0,.int .i64 tn,.ptr 4 0,.lsv 6 3 u.2.length 0 u.2.length,.lsv 5 3 l'.length 0 l'.length,.int .i64 l'.length,.int .i64 u.1])
    (fun u=> [a.ob .str,b.ob .str,sn.ob (V.int .i64),.box [.sl .ro xX,.sl .ro (tabsS.map GTable.row),.mp 0,.mp 1,.mp 2],.box st.row,.lst (l'.map Ln.row) 3,.lst (u.2.map Ln.row) 3]) (fun u=>l'.length - u.1)
    (fun u=>u.1<=l'.length/\u.2.length<=u.1/\zv8 T st u.2 (l'.drop u.1)=M) hc hb (0,[]) ⟨A3 _,A2 _,hM.symm⟩ ?_ ?_
   .exact aN 7 (ok7' [])
   rintro⟨j,out⟩ ⟨hj,hol,hinv⟩
   simp only at hj hol hinv
   by_cases p:j<l'.length
   rotate_left
   .rw[A9 (by omega),zv8]at hinv
    subst hinv
    refine zA ?_
    simp[go_sem,p]
    refine zA ?_
    simp[go_sem]
    exact yY2 (by decide) rfl rfl
   have ej:=zV p (by omega)
   obtain⟨x,hx⟩:=eX (l'[j])
   have hxo:=hlo x (hx▸A8 p)
   rw[A6 p,hx,xk0]at hinv
   have hcall:=ys9 T hTc x.v hxo.ok st.where_ hst.where_
   obtain⟨⟨v,er⟩,hv⟩: ∃kv,evR T x.v st.where_=kv:=⟨_,rfl⟩
   rw[hv]at hinv hcall
   simp only at hinv
   have htr:=xy3 v
   obtain⟨tv,htv⟩:=eX (zW9 v)
   rw[htv]at hinv htr
   refine zA ?_
   simp[go_sem,p,hx]
   refine yU [(12,0)] 8 rfl (by kernel_rfl) (by kernel_rfl) ?_
   simp[go_sem,htn,hTx]
   refine zW hcall cB (fun _=>⟨zC rfl,zX,zN2 st.where_,trivial⟩) rfl ?_
   simp[go_sem,valP]
   by_cases q2:er=0
   rotate_left
   .have q2':(er !=0)=true:=by simpa using q2
    rw[if_pos q2]at hinv
    subst hinv
    simp[go_sem,q2']
    exact xJ 4 (s:=runS a b sn) (r:= .tup [.sl .ro [],.int .i64 er]) rfl rfl (xM 4 (by decide) a b sn) (A2 _) (xT ⟨zr9,za6 rfl,trivial⟩) (.inl ⟨q2,rfl,rfl⟩)
   have q2':(er !=0)=false:=by simpa using q2
   rw[if_neg (fun h=>h q2)]at hinv
   simp[go_sem,q2']
   refine zD htr cB ⟨zC rfl,trivial⟩ rfl ?_
   refine(A7 tv).elim (fun t=> ?_) (fun t=> ?_)
   .rw[if_pos t]at hinv
    simp[go_sem,t,Bu]
    refine zJ ⟨yC rfl,by omega⟩ ?_
    simp[go_sem,ej]
    exact zI (j+1,out++ [x]) ⟨by show l'.length - (j+1)<l'.length - j;omega,⟨p,by show(out++ [x]).length<=j+1;simp;omega,hinv⟩,aN 7 (ok7' (out++ [x]))⟩
   .rw[if_neg (by rw[t];decide)]at hinv
    simp[go_sem,t,ej]
    exact zI (j+1,out) ⟨by show l'.length - (j+1)<l'.length - j;omega,⟨p,by show out.length<=j+1;omega,hinv⟩,aN 7 (ok7' out)⟩
end Go.Proofs.YtkigddpaonhmlaaGreat
namespace Go.Proofs.YtkigddpaonhmlaaGreat
open Go Go.Vx Go.Proofs.Tryz
structure Ord (lt:Nat->Nat->Bool):Prop where
 irr: ∀i,lt i i=false
 tr: ∀i j k,lt i j=true->lt j k=true->lt i k=true
 nt: ∀i j k,lt i j=false->lt j k=false->lt i k=false
def TO (lt:Nat->Nat->Bool) (i j:Nat):Prop:=lt i j=true∨lt j i=false/\i<j
theorem Ord.asym {lt:Nat->Nat->Bool} (o:Ord lt) {i j:Nat} (h:lt i j=true):lt j i=false:=by
 cases q:lt j i
 .rfl
 .have:=o.tr _ _ _ h q;rw[o.irr]at this;cases this
theorem TO.trans {lt:Nat->Nat->Bool} (o:Ord lt) {i j k:Nat} (h:TO lt i j) (g:TO lt j k):TO lt i k:=by
 cases q:lt i k with
 |true=>exact .inl q
 |false=>
  rcases h with h|⟨h,h'⟩
  .rcases g with g|⟨g,g'⟩
   .rw[o.tr _ _ _ h g]at q;cases q
   .have:=o.nt _ _ _ q g;rw[h]at this;cases this
  .rcases g with g|⟨g,g'⟩
   .have:=o.nt _ _ _ h q;rw[g]at this;cases this
   .exact .inr ⟨o.nt _ _ _ g h,by omega⟩
theorem TO.irr {lt:Nat->Nat->Bool} (o:Ord lt) {i:Nat} (h:TO lt i i):False:=by
 rcases h with h|⟨_,h⟩
 .rw[o.irr]at h;cases h
 .omega
theorem TO.fore {lt:Nat->Nat->Bool} (o:Ord lt) {i j:Nat} (h:j<i):TO lt j i↔lt i j=false:=
 ⟨fun q=>q.elim o.asym fun q=>q.1,fun q=> .inr ⟨q,h⟩⟩
def Srt (lt:Nat->Nat->Bool) (f:Nat->Nat) (a b:Nat):Prop:= ∀i j,a<=i->i<j->j<b->TO lt (f i) (f j)
def Mv (f f':Nat->Nat) (a b:Nat):Prop:=
 ∃π:Nat->Nat,(∀k,a<=k->k<b->a<=π k/\π k<b)/\(∀k,k<a∨b<=k->π k=k)/\(∀i j,π i=π j->i=j)/\ ∀k,f' k=f (π k)
theorem Mv.refl (f:Nat->Nat) (a b:Nat):Mv f f a b:=⟨id,fun _ h1 h2=>⟨h1,h2⟩,fun _ _=>rfl,fun _ _ h=>h,fun _=>rfl⟩
theorem Mv.mono {f f':Nat->Nat} {a b c d:Nat} (h:Mv f f' a b) (h1:c<=a) (h2:b<=d):Mv f f' c d:=by
 obtain⟨π,p1,p2,p3,p4⟩:=h
 refine⟨π,fun k k1 k2=> ?_,fun k hk=>p2 k (by omega),p3,p4⟩
 by_cases q:a<=k/\k<b
 .have:=p1 k q.1 q.2;omega
 .rw[p2 k (by omega)];exact⟨k1,k2⟩
theorem Mv.trans {f g h:Nat->Nat} {a b:Nat} (p:Mv f g a b) (q:Mv g h a b):Mv f h a b:=by
 obtain⟨π,p1,p2,p3,p4⟩:=p
 obtain⟨ρ,q1,q2,q3,q4⟩:=q
 refine⟨fun k=>π (ρ k),fun k k1 k2=> ?_,fun k hk=> ?_,fun i j e=>q3 _ _ (p3 _ _ e),fun k=>by rw[q4,p4]⟩
 .have:=q1 k k1 k2;exact p1 _ this.1 this.2
 .show π (ρ k)=k
  rw[q2 k hk,p2 k hk]
theorem Mv.out {f g:Nat->Nat} {a b:Nat} (p:Mv f g a b) {k:Nat} (h:k<a∨b<=k):g k=f k:=by
 obtain⟨π,p1,p2,p3,p4⟩:=p
 rw[p4,p2 k h]
theorem Mv.at {f g:Nat->Nat} {a b:Nat} (p:Mv f g a b) {k:Nat} (h1:a<=k) (h2:k<b): ∃j,a<=j/\j<b/\g k=f j:=by
 obtain⟨π,p1,p2,p3,p4⟩:=p
 exact⟨π k,(p1 k h1 h2).1,(p1 k h1 h2).2,p4 k⟩
def sw (f:Nat->Nat) (i j:Nat):Nat->Nat:=fun k=>if k=i then f j else if k=j then f i else f k
def swR (f:Nat->Nat) (a b n:Nat):Nat->Nat:=fun k=>if a<=k/\k<a+n then f (k - a+b)else if b<=k/\k<b+n then f (k - b+a)else f k
theorem xW7 (f:Nat->Nat) (a b:Nat):swR f a b 0=f:=by
 funext x
 unfold swR
 (repeat' split)<;>first|rfl|(exfalso;omega)|(congr 1;omega)
theorem xx9 (f:Nat->Nat) {a b i:Nat} (h:a+i<b):sw (swR f a b i) (a+i) (b+i)=swR f a b (i+1):=by
 funext x
 unfold sw swR
 (repeat' split)<;>first|rfl|(exfalso;omega)|(congr 1;omega)
def rotF (f:Nat->Nat) (a m b:Nat):Nat->Nat:=fun k=>if a<=k/\k<a+(b - m)then f (k+(m - a))else if a+(b - m)<=k/\k<b then f (k - (b - m))else f k
theorem Mv.rot (f:Nat->Nat) {a m b:Nat} (h1:a<=m) (h2:m<=b):Mv f (rotF f a m b) a b:=by
 refine⟨fun k=>if a<=k/\k<a+(b - m)then k+(m - a)else if a+(b - m)<=k/\k<b then k - (b - m)else k,fun k k1 k2=> ?_,fun k hk=> ?_,fun x y e=> ?_,fun k=> ?_⟩
 .dsimp only
  split
  .omega
  .split<;>omega
 .dsimp only
  rw[if_neg (by omega),if_neg (by omega)]
 .dsimp only at e
  split at e<;>split at e<;>(try split at e)<;>(try split at e)<;>omega
 .unfold rotF
  simp only
  split
  .rfl
  .split<;>rfl
theorem xS0 (g:Nat->Nat) {m i j:Nat} (h:j<i) (hi:i<=m):rotF (swR g (m - i) m j) (m - (i - j)) m (m+j)=rotF g (m - i) m (m+j):=by
 funext x
 unfold rotF swR
 (repeat' split)<;>first|rfl|(exfalso;omega)|(congr 1;omega)
theorem xS1 (g:Nat->Nat) {m i j:Nat} (h:i<j) (hi:i<=m):rotF (swR g (m - i) (m+j - i) i) (m - i) m (m+(j - i))=rotF g (m - i) m (m+j):=by
 funext x
 unfold rotF swR
 (repeat' split)<;>first|rfl|(exfalso;omega)|(congr 1;omega)
theorem xR9 (g:Nat->Nat) {m i:Nat} (hi:i<=m):swR g (m - i) m i=rotF g (m - i) m (m+i):=by
 funext x
 unfold rotF swR
 (repeat' split)<;>first|rfl|(exfalso;omega)|(congr 1;omega)
theorem xW8 (f:Nat->Nat) {a k:Nat} (h:a<=k):sw (rotF f a (a+1) (k+1)) k (k+1)=rotF f a (a+1) (k+2):=by
 funext x
 unfold sw rotF
 (repeat' split)<;>first|rfl|(exfalso;omega)|(congr 1;omega)
theorem yI4 (f:Nat->Nat) (a m:Nat):rotF f a m m=f:=by
 funext x
 unfold rotF
 (repeat' split)<;>first|rfl|(exfalso;omega)|(congr 1;omega)
theorem xM4 (f:Nat->Nat) {m k:Nat} (h:k<=m) (hk:0<k):sw (rotF f k m (m+1)) k (k - 1)=rotF f (k - 1) m (m+1):=by
 funext x
 unfold sw rotF
 (repeat' split)<;>first|rfl|(exfalso;omega)|(congr 1;omega)
theorem yi0 (f:Nat->Nat) (m b:Nat):rotF f m m b=f:=by
 funext x
 unfold rotF
 (repeat' split)<;>first|rfl|(exfalso;omega)|(congr 1;omega)
theorem zG6 (f:Nat->Nat) {a m b k:Nat} (h:a<=k/\k<a+(b - m)):rotF f a m b k=f (k+(m - a)):=by unfold rotF;rw[if_pos h]
theorem zG7 (f:Nat->Nat) {a m b k:Nat} (h:a+(b - m)<=k/\k<b):rotF f a m b k=f (k - (b - m)):=by unfold rotF;rw[if_neg (by omega),if_pos h]
theorem zx8 (f:Nat->Nat) {a m b k:Nat} (hm:m<=b) (h0:a<=m) (h:k<a∨b<=k):rotF f a m b k=f k:=by unfold rotF;rw[if_neg (by omega),if_neg (by omega)]
section
variable {lt:Nat->Nat->Bool} {f:Nat->Nat}
theorem xF5 {a b i:Nat} (hs:Srt lt f (a+1) b) (h1:a+1<=i) (h2:i<=b) (hl: ∀x,a+1<=x->x<i->TO lt (f x) (f a)) (hr: ∀x,i<=x->x<b->TO lt (f a) (f x)):Srt lt (rotF f a (a+1) i) a b:=by
 intro x y hx hxy hy
 rcases Bi y (i - 1)with q|q|q
 .rw[zG6 f (by omega),zG6 f (by omega)]
  exact hs _ _ (by omega) (by omega) (by omega)
 .rw[zG6 f (by omega),zG7 f (by omega),show y - (i - (a+1))=a by omega]
  exact hl _ (by omega) (by omega)
 .rw[zx8 f (by omega) (by omega) (k:=y) (by omega)]
  rcases Bi x (i - 1)with p|p|p
  .rw[zG6 f (by omega)]
   exact hs _ _ (by omega) (by omega) (by omega)
  .rw[zG7 f (by omega),show x - (i - (a+1))=a by omega]
   exact hr _ (by omega) (by omega)
  .rw[zx8 f (by omega) (by omega) (k:=x) (by omega)]
   exact hs _ _ (by omega) (by omega) (by omega)
theorem yY1 {a m i:Nat} (hs:Srt lt f a m) (h1:a<=i) (h2:i<=m) (hl: ∀x,a<=x->x<i->TO lt (f x) (f m)) (hr: ∀x,i<=x->x<m->TO lt (f m) (f x)):Srt lt (rotF f i m (m+1)) a (m+1):=by
 intro x y hx hxy hy
 rcases Bi x i with q|q|q
 .rw[zx8 f (by omega) (by omega) (k:=x) (by omega)]
  rcases Bi y i with p|p|p
  .rw[zx8 f (by omega) (by omega) (k:=y) (by omega)]
   exact hs _ _ (by omega) (by omega) (by omega)
  .rw[zG6 f (by omega),show y+(m - i)=m by omega]
   exact hl _ (by omega) (by omega)
  .rw[zG7 f (by omega)]
   exact hs _ _ (by omega) (by omega) (by omega)
 .rw[zG6 f (by omega),show x+(m - i)=m by omega,zG7 f (by omega)]
  exact hr _ (by omega) (by omega)
 .rw[zG7 f (by omega),zG7 f (by omega)]
  exact hs _ _ (by omega) (by omega) (by omega)
theorem xg3 (o:Ord lt) {a m b mid s e lo hi:Nat} (ha:a<m) (hb:m<b) (hmid:mid=(a+b)/2) (hs1:Srt lt f a m) (hs2:Srt lt f m b)
  (hlo:lo=if mid<m then mid+m - b else a) (hhi:hi=if mid<m then mid else m) (h1:lo<=s) (h2:s<=hi) (he:e=mid+m - s)
  (hl: ∀c,lo<=c->c<s->TO lt (f c) (f (mid+m - 1 - c))) (hr: ∀c,s<=c->c<hi->TO lt (f (mid+m - 1 - c)) (f c)):
  (a<=s/\s<=mid/\s<=m/\m<=e/\mid<=e/\e<=b/\s+(e - m)=mid)/\(∀x y,a<=x->x<mid->mid<=y->y<b->TO lt (rotF f s m e x) (rotF f s m e y))/\
  Srt lt (rotF f s m e) a s/\Srt lt (rotF f s m e) s mid/\Srt lt (rotF f s m e) mid e/\Srt lt (rotF f s m e) e b:=by
 have hm:mid*2<=a+b/\a+b<=mid*2+1:=by omega
 have har:a<=s/\s<=mid/\s<=m/\m<=e/\mid<=e/\e<=b/\s+(e - m)=mid/\a<mid/\mid<b:=by
  split at hlo<;>split at hhi<;>omega
 obtain⟨r1,r2,r3,r4,r5,r6,r7,r8,r9⟩:=har
 have k1: ∀x,a<=x->x<s-> ∀y,s<=y->y<m->TO lt (f x) (f y):=fun x hx1 hx2 y hy1 hy2=>hs1 _ _ hx1 (by omega) hy2
 have k2: ∀x,m<=x->x<e-> ∀y,e<=y->y<b->TO lt (f x) (f y):=fun x hx1 hx2 y hy1 hy2=>hs2 _ _ hx1 (by omega) hy2
 have k3: ∀x,a<=x->x<s-> ∀y,e<=y->y<b->TO lt (f x) (f y):=fun x hx1 hx2 y hy1 hy2=>by
  have q:lo<=s - 1:=by split at hlo<;>omega
  have h:=hl (s - 1) q (by omega)
  rw[show mid+m - 1 - (s - 1)=e by omega]at h
  have h3:TO lt (f x) (f e):=by
   by_cases hx:x=s - 1
   .rw[hx];exact h
   .exact(hs1 x (s - 1) hx1 (by omega) (by omega)).trans o h
  by_cases hy:y=e
  .rw[hy];exact h3
  .exact h3.trans o (hs2 _ _ (by omega) (by omega) hy2)
 have k4: ∀x,m<=x->x<e-> ∀y,s<=y->y<m->TO lt (f x) (f y):=fun x hx1 hx2 y hy1 hy2=>by
  have q:s<hi:=by split at hhi<;>omega
  have h:=hr s (A2 _) q
  have h3:TO lt (f x) (f s):=by
   by_cases hx:x=mid+m - 1 - s
   .rw[hx];exact h
   .exact(hs2 x (mid+m - 1 - s) hx1 (by omega) (by omega)).trans o h
  by_cases hy:y=s
  .rw[hy];exact h3
  .exact h3.trans o (hs1 _ _ (by omega) (by omega) hy2)
 refine⟨⟨r1,r2,r3,r4,r5,r6,r7⟩,fun x y hx1 hx2 hy1 hy2=> ?_,fun x y hx hxy hy=> ?_,fun x y hx hxy hy=> ?_,fun x y hx hxy hy=> ?_,fun x y hx hxy hy=> ?_⟩
 .by_cases c1:x<s
  .rw[zx8 f r4 r3 (k:=x) (by omega)]
   by_cases c2:y<e
   .rw[zG7 f (by omega)];exact k1 _ hx1 c1 _ (by omega) (by omega)
   .rw[zx8 f r4 r3 (k:=y) (by omega)];exact k3 _ hx1 c1 _ (by omega) hy2
  .rw[zG6 f (by omega)]
   by_cases c2:y<e
   .rw[zG7 f (by omega)];exact k4 _ (by omega) (by omega) _ (by omega) (by omega)
   .rw[zx8 f r4 r3 (k:=y) (by omega)];exact k2 _ (by omega) (by omega) _ (by omega) hy2
 .rw[zx8 f r4 r3 (by omega),zx8 f r4 r3 (by omega)];exact hs1 _ _ hx hxy (by omega)
 .rw[zG6 f (by omega),zG6 f (by omega)];exact hs2 _ _ (by omega) (by omega) (by omega)
 .rw[zG7 f (by omega),zG7 f (by omega)];exact hs1 _ _ (by omega) (by omega) (by omega)
 .rw[zx8 f r4 r3 (by omega),zx8 f r4 r3 (by omega)];exact hs2 _ _ (by omega) hxy hy
end
def Grp (f:Nat->Nat) (a m b:Nat):Prop:= ∀x y,a<=x->x<m->m<=y->y<b->f x<f y
theorem Grp.rot_l {f:Nat->Nat} {a m b s e mid:Nat} (h:Grp f a m b) (h2:s<=m) (h3:m<=e) (h4:e<=b) (h5:s+(e - m)=mid):Grp (rotF f s m e) a s mid:=by
 intro x y hx1 hx2 hy1 hy2
 rw[zx8 f h3 h2 (by omega),zG6 f (by omega)]
 exact h _ _ hx1 (by omega) (by omega) (by omega)
theorem Grp.rot_r {f:Nat->Nat} {a m b s e mid:Nat} (h:Grp f a m b) (h1:a<=s) (h2:s<=m) (h3:m<=e) (h5:s+(e - m)=mid):Grp (rotF f s m e) mid e b:=by
 intro x y hx1 hx2 hy1 hy2
 rw[zG7 f (by omega),zx8 f h3 h2 (k:=y) (by omega)]
 exact h _ _ (by omega) (by omega) (by omega) (by omega)
def Mrg (lt:Nat->Nat->Bool) (f g:Nat->Nat) (a b:Nat):Prop:=Mv f g a b/\Srt lt g a b
theorem Mrg.both {lt:Nat->Nat->Bool} {f g h1 h2:Nat->Nat} {a mid b:Nat} (h0:Mv f g a b) (hp: ∀x y,a<=x->x<mid->mid<=y->y<b->TO lt (g x) (g y)) (hm:a<=mid/\mid<=b) (q1:Mrg lt g h1 a mid) (q2:Mrg lt h1 h2 mid b):Mrg lt f h2 a b:=by
 refine⟨(h0.trans (q1.1.mono (A2 _) hm.2)).trans (q2.1.mono hm.1 (A2 _)),fun x y hx hxy hy=> ?_⟩
 by_cases c1:y<mid
 .rw[q2.1.out (by omega),q2.1.out (by omega)]
  exact q1.2 _ _ hx hxy c1
 .by_cases c2:mid<=x
  .exact q2.2 _ _ c2 hxy hy
  .rw[q2.1.out (k:=x) (by omega)]
   obtain⟨i,i1,i2,i3⟩:=q1.1.at hx (by omega)
   obtain⟨j,j1,j2,j3⟩:=q2.1.at (k:=y) (by omega) hy
   rw[i3,j3,q1.1.out (k:=j) (by omega)]
   exact hp _ _ i1 i2 j1 j2
theorem Mrg.id {lt:Nat->Nat->Bool} {f:Nat->Nat} {a b:Nat} (h:Srt lt f a b):Mrg lt f f a b:=⟨.refl f a b,h⟩
def Blk (lt:Nat->Nat->Bool) (f:Nat->Nat) (a b:Nat):Prop:=(∀k,a<=k->k<b->a<=f k/\f k<b)/\Srt lt f a b
theorem Blk.grp {lt:Nat->Nat->Bool} {f:Nat->Nat} {a m b:Nat} (h:Blk lt f a m) (g:Blk lt f m b):Grp f a m b:=fun x y hx1 hx2 hy1 hy2=>by
 have:=h.1 x hx1 hx2;have:=g.1 y hy1 hy2;omega
theorem Blk.merged {lt:Nat->Nat->Bool} {f f':Nat->Nat} {a m b:Nat} (h:Blk lt f a m) (g:Blk lt f m b) (hm:a<=m/\m<=b) (q:Mrg lt f f' a b):Blk lt f' a b:=by
 refine⟨fun k h1 h2=> ?_,q.2⟩
 obtain⟨j,j1,j2,j3⟩:=q.1.at h1 h2
 rw[j3]
 by_cases c:j<m
 .have:=h.1 j j1 c;omega
 .have:=g.1 j (by omega) j2;omega
theorem Blk.away {lt:Nat->Nat->Bool} {f f':Nat->Nat} {a b c d:Nat} (h:Blk lt f c d) (q:Mv f f' a b) (hd:d<=a∨b<=c):Blk lt f' c d:=by
 refine⟨fun k h1 h2=> ?_,fun x y hx hxy hy=> ?_⟩
 .rw[q.out (by omega)];exact h.1 k h1 h2
 .rw[q.out (by omega),q.out (by omega)];exact h.2 x y hx hxy hy
theorem Blk.sorted {lt:Nat->Nat->Bool} {f f':Nat->Nat} {a b:Nat} (h: ∀k,a<=k->f k=k) (q:Mrg lt f f' a b):Blk lt f' a b:=by
 refine⟨fun k h1 h2=> ?_,q.2⟩
 obtain⟨j,j1,j2,j3⟩:=q.1.at h1 h2
 rw[j3,h j j1];omega
def Blks (lt:Nat->Nat->Bool) (f:Nat->Nat) (w n:Nat):Prop:= ∀q,q*w<n->Blk lt f (q*w) (min (q*w+w) n)
def BlkM (lt:Nat->Nat->Bool) (f:Nat->Nat) (w n t:Nat):Prop:=(∀q,q<t->Blk lt f (q*(2*w)) (q*(2*w)+2*w))/\ ∀q,2*t<=q->q*w<n->Blk lt f (q*w) (min (q*w+w) n)
theorem BlkM.start {lt:Nat->Nat->Bool} {f:Nat->Nat} {w n:Nat} (h:Blks lt f w n):BlkM lt f w n 0:=⟨fun q hq=>by omega,fun q _ h1=>h q h1⟩
theorem BlkM.pair {lt:Nat->Nat->Bool} {f:Nat->Nat} {w n t:Nat} (h:BlkM lt f w n t) (hw:0<w) (hm:t*(2*w)+w<n):Blk lt f (t*(2*w)) (t*(2*w)+w)/\Blk lt f (t*(2*w)+w) (min (t*(2*w)+2*w) n):=by
 have e1:2*t*w=t*(2*w):=by rw[Bw 2 t,E7]
 have e2:(2*t+1)*w=t*(2*w)+w:=by rw[An,e1,Bj]
 have h1:=h.2 (2*t) (A2 _) (by omega)
 have h2:=h.2 (2*t+1) (by omega) (by omega)
 rw[e1,show min (t*(2*w)+w) n=t*(2*w)+w by omega]at h1
 rw[e2,show t*(2*w)+w+w=t*(2*w)+2*w by omega]at h2
 exact⟨h1,h2⟩
theorem BlkM.next {lt:Nat->Nat->Bool} {f f':Nat->Nat} {w n t:Nat} (h:BlkM lt f w n t) (hw:0<w) (hb:t*(2*w)+2*w<=n) (q:Mrg lt f f' (t*(2*w)) (t*(2*w)+2*w)):BlkM lt f' w n (t+1):=by
 have e1:2*t*w=t*(2*w):=by rw[Bw 2 t,E7]
 have hp:=h.pair hw (by omega)
 refine⟨fun p hp'=> ?_,fun p hp' h1=> ?_⟩
 .by_cases c:p=t
  .subst c
   rw[show min (p*(2*w)+2*w) n=p*(2*w)+2*w by omega]at hp
   exact hp.1.merged hp.2 (by omega) q
  .have:=Ao (2*w) (show p+1<=t by omega)
   rw[An,Bj]at this
   exact(h.1 p (by omega)).away q.1 (.inl this)
 .have:=Ao w (show 2*t+2<=p by omega)
  rw[An,e1]at this
  exact(h.2 p (by omega) h1).away q.1 (.inr this)
theorem BlkM.last {lt:Nat->Nat->Bool} {f f':Nat->Nat} {w n t:Nat} (h:BlkM lt f w n t) (hw:0<w) (hm:t*(2*w)+w<n) (hb:n<t*(2*w)+2*w) (q:Mrg lt f f' (t*(2*w)) n):Blks lt f' (2*w) n:=by
 have hp:=h.pair hw hm
 rw[show min (t*(2*w)+2*w) n=n by omega]at hp
 intro p h1
 rcases Bi p t with c|c|c
 .have:=Ao (2*w) (show p+1<=t by omega)
  rw[An,Bj]at this
  rw[show min (p*(2*w)+2*w) n=p*(2*w)+2*w by omega]
  exact(h.1 p c).away q.1 (.inl this)
 .subst c
  rw[show min (p*(2*w)+2*w) n=n by omega]
  exact hp.1.merged hp.2 (by omega) q
 .have:=Ao (2*w) (show t+1<=p by omega)
  rw[An,Bj]at this
  omega
theorem BlkM.none {lt:Nat->Nat->Bool} {f:Nat->Nat} {w n t:Nat} (h:BlkM lt f w n t) (h0:t*(2*w)<=n) (hm:n<=t*(2*w)+w):Blks lt f (2*w) n:=by
 have e1:2*t*w=t*(2*w):=by rw[Bw 2 t,E7]
 intro p h1
 rcases Bi p t with c|c|c
 .have:=Ao (2*w) (show p+1<=t by omega)
  rw[An,Bj]at this
  rw[show min (p*(2*w)+2*w) n=p*(2*w)+2*w by omega]
  exact h.1 p c
 .subst c
  have:=h.2 (2*p) (A2 _) (by omega)
  rw[e1]at this
  rw[show min (p*(2*w)+w) n=n by omega]at this
  rw[show min (p*(2*w)+2*w) n=n by omega]
  exact this
 .have:=Ao (2*w) (show t+1<=p by omega)
  rw[An,Bj]at this
  omega
theorem Blks.all {lt:Nat->Nat->Bool} {f:Nat->Nat} {w n:Nat} (h:Blks lt f w n) (hw:n<=w):Blk lt f 0 n:=by
 by_cases c:n=0
 .subst c;exact⟨fun k _ h=>by omega,fun x y _ _ h=>by omega⟩
 .have:=h 0 (by omega)
  rw[Ca,Aa,show min w n=n by omega]at this
  exact this
theorem yM7 {lt:Nat->Nat->Bool} {f f':Nat->Nat} {w n t:Nat} (h1: ∀q,q<t->Blk lt f (q*w) (q*w+w)) (h2: ∀k,t*w<=k->f k=k) (ht:t*w<=n) (hn:n<t*w+w) (q:Mrg lt f f' (t*w) n):Blks lt f' w n:=by
 intro p hp
 rcases Bi p t with c|c|c
 .have:=Ao w (show p+1<=t by omega)
  rw[An,Bj]at this
  rw[show min (p*w+w) n=p*w+w by omega]
  exact(h1 p c).away q.1 (.inl this)
 .subst c
  rw[show min (p*w+w) n=n by omega]
  exact Blk.sorted h2 q
 .have:=Ao w (show t+1<=p by omega)
  rw[An,Bj]at this
  omega
theorem xc9 {lt:Nat->Nat->Bool} {f f':Nat->Nat} {w t:Nat} (h1: ∀q,q<t->Blk lt f (q*w) (q*w+w)) (h2: ∀k,t*w<=k->f k=k) (q:Mrg lt f f' (t*w) (t*w+w)):
  (∀q,q<t+1->Blk lt f' (q*w) (q*w+w))/\ ∀k,(t+1)*w<=k->f' k=k:=by
 refine⟨fun p hp=> ?_,fun k hk=> ?_⟩
 .by_cases c:p=t
  .subst c;exact Blk.sorted h2 q
  .have:=Ao w (show p+1<=t by omega)
   rw[An,Bj]at this
   exact(h1 p (by omega)).away q.1 (.inl this)
 .rw[An,Bj]at hk
  rw[q.1.out (by omega)]
  exact h2 k (by omega)
end Go.Proofs.YtkigddpaonhmlaaGreat
namespace Go.Proofs.YtkigddpaonhmlaaGreat
open Go Go.Vx Go.Proofs.Tryz
set_option maxRecDepth 100000
@[go_sem] theorem szT_less:szT prog 173=some 1:=by kernel_rfl
@[go_sem] theorem aggT_less:aggT prog 173=some false:=by kernel_rfl
@[go_sem] theorem szT_swap:szT prog 228=some 1:=by kernel_rfl
@[go_sem] theorem aggT_swap:aggT prog 228=some false:=by kernel_rfl
def lsF (σ0:St) (id s n:Nat) (row:Nat->List V) (f:Nat->Nat):St:=σ0.set id (.lst ((List.range n).map fun k=>row (f k)) s)
theorem zx0 (σ0:St) (id s n:Nat) (row:Nat->List V) (f:Nat->Nat):(lsF σ0 id s n row f).length=σ0.length:=by simp[lsF]
structure SC (P:Program) (gl gs:FuncId) (cl cs:List V) (σ0:St) (id s n:Nat) (row:Nat->List V) (lt:Nat->Nat->Bool):Prop where
 here:id<σ0.length
 nn:n<=1000000
 cl_ok:cl.all (ltK σ0.length)=true
 cs_ok:cs.all (ltK σ0.length)=true
 st_ok:σ0.all (ltOb σ0.length)=true
 row_ok: ∀k,(row k).all (ltC σ0.length)=true
 less: ∀(c:Ctx) (τ:St) (f:Nat->Nat) (i j:Nat) (K:V->St->Prop),i<n->j<n->i≠j->K (.bool (lt (f i) (f j))) (lsF σ0 id s n row f++τ)->wVC P c (.fn gl cl) [.int .i64 i,.int .i64 j] (lsF σ0 id s n row f++τ) K fx
 swap: ∀(c:Ctx) (τ:St) (f:Nat->Nat) (i j:Nat) (K:V->St->Prop),i<n->j<n->i≠j->K (.tup []) (lsF σ0 id s n row (sw f i j)++τ)->wVC P c (.fn gs cs) [.int .i64 i,.int .i64 j] (lsF σ0 id s n row f++τ) K fx
section
variable {gl gs:FuncId} {cl cs:List V} {σ0:St} {id s n:Nat} {row:Nat->List V} {lt:Nat->Nat->Bool}
theorem SC.lt_ok (S:SC prog gl gs cl cs σ0 id s n row lt) (f:Nat->Nat):(lsF σ0 id s n row f).all (ltOb σ0.length)=true:=by
 unfold lsF
 rw[Af]
 intro o ho
 rcases Cc ho with h|rfl
 .exact Af.1 S.st_ok o h
 .simp only[ltOb,Af]
  intro r hr x hx
  obtain⟨k,_,rfl⟩:=Ac.1 hr
  exact Af.1 (S.row_ok (f k)) x hx
def datB (gl gs:FuncId) (cl cs:List V):Ob:= .box [.fn gl cl,.fn gs cs]
theorem yK2 (S:SC prog gl gs cl cs σ0 id s n row lt) (f:Nat->Nat) (a b m:Nat) (h1:a+m<=b) (h2:b+m<=n):
  VCalls prog 245 [.agg [.fn gl cl,.fn gs cs],.int .i64 a,.int .i64 b,.int .i64 m] (lsF σ0 id s n row f) (fun r t=>r= .tup []/\t=lsF σ0 id s n row (swR f a b m)):=by
 have hn:=S.nn
 refine VCalls.introV (lsF σ0 id s n row f).length func245 ntmps245 results245 rfl rfl (Cy rfl) fun c hc hb=> ?_
 have hl: ∀g,(lsF σ0 id s n row g).length=σ0.length:=fun g=>zx0 ..
 refine zA ?_
 simp[go_sem,hl]
 refine zL (S:=Nat) [1,2,3,4,8] (fun i=> [.int .i64 a,.int .i64 b,.int .i64 m,.ptr σ0.length 0,.int .i64 i]) (fun i=>lsF σ0 id s n row (swR f a b i)++ [datB gl gs cl cs]) (fun i=>m - i) (fun i=>i<=m) (hc.trans (hl f)) hb 0 (A3 _) ?_ ?_
 .rw[xW7]
  exact yB (by simp[hl]) (by simp[go_sem])
 rintro i hi
 have hd: ∀g,(lsF σ0 id s n row g++ [datB gl gs cl cs])[σ0.length]? =some (.box [.fn gl cl,.fn gs cs]):=fun g=>by
  rw[Ai (by rw[hl];exact A2 _),hl];simp[datB]
 by_cases q:i<m
 rotate_left
 .have hie:i=m:=by omega
  subst hie
  refine zA ?_
  simp[go_sem]
  exact xJ σ0.length (Cs (hl _)) (hl _) (S.lt_ok _) (Cg (hl f)) (zC rfl) ⟨rfl,rfl⟩
 have ea:IntKind.i64.wrap ((a:Int)+i)=((a+i:Nat):Int):=by rw[i64_id (by omega) (by omega)];omega
 have eb:IntKind.i64.wrap ((b:Int)+i)=((b+i:Nat):Int):=by rw[i64_id (by omega) (by omega)];omega
 have ei:=zV q (by omega)
 have hsw:=fun K=>S.swap c [datB gl gs cl cs] (swR f a b i) (a+i) (b+i) K (by omega) (by omega) (by omega)
 rw[xx9 f (by omega)]at hsw
 refine zA ?_
 simp[go_sem,q,hd,ea,eb]
 refine hsw _ ?_
 simp[go_sem,ei]
 exact zI (i+1) ⟨by omega,by omega,yB (by simp[hl]) (by simp[go_sem])⟩
end
section
variable {gl gs:FuncId} {cl cs:List V} {σ0:St} {id s n:Nat} {row:Nat->List V} {lt:Nat->Nat->Bool}
theorem yv7 (f:Nat->Nat):(lsF σ0 id s n row f++ [datB gl gs cl cs])[σ0.length]? =some (.box [.fn gl cl,.fn gs cs]):=by
 rw[Ai (by rw[zx0];exact A2 _),zx0];simp[datB]
theorem xr5 (o:Ord lt) {f g:Nat->Nat} {a b i j:Nat} (hi:i<b) (hinc: ∀x y,a<=x->x<y->y<b->f x<f y) (hm:Mv f g a i) (hs:Srt lt g a i) (haj:a<=j) (hji:j<=i)
  (hl: ∀x,j<=x->x<i->lt (g i) (g x)=true) (he:j=a∨lt (g i) (g (j - 1))=false):Mv f (rotF g j i (i+1)) a (i+1)/\Srt lt (rotF g j i (i+1)) a (i+1):=by
 refine⟨(hm.mono (A2 _) (Nat.le_succ _)).trans ((Mv.rot g hji (Nat.le_succ _)).mono haj (A2 _)), ?_⟩
 refine yY1 hs haj hji (fun x h1 h2=> ?_) (fun x h1 h2=> .inl (hl x h1 h2))
 rcases he with he|he
 .omega
 have hgi:g i=f i:=hm.out (.inr (A2 _))
 obtain⟨y,y1,y2,y3⟩:=hm.at (k:=j - 1) (by omega) (by omega)
 have hlt:g (j - 1)<g i:=by rw[y3,hgi];exact hinc y i y1 y2 hi
 have h3:TO lt (g (j - 1)) (g i):=(TO.fore o hlt).2 he
 by_cases q:x=j - 1
 .rw[q];exact h3
 .exact(hs x (j - 1) h1 (by omega) (by omega)).trans o h3
theorem zV9 (S:SC prog gl gs cl cs σ0 id s n row lt) (o:Ord lt) (f:Nat->Nat) (a b:Nat) (hab:a<=b) (hb':b<=n) (hinc: ∀x y,a<=x->x<y->y<b->f x<f y):
  VCalls prog 198 [.agg [.fn gl cl,.fn gs cs],.int .i64 a,.int .i64 b] (lsF σ0 id s n row f) (fun r t=>r= .tup []/\ ∃g,t=lsF σ0 id s n row g/\Mrg lt f g a b):=by
 have hn:=S.nn
 refine VCalls.introV (lsF σ0 id s n row f).length func198 ntmps198 results198 rfl rfl (Cy rfl) fun c hc hb=> ?_
 have hl: ∀g,(lsF σ0 id s n row g).length=σ0.length:=fun g=>zx0 ..
 have ea1:IntKind.i64.wrap ((a:Int)+1)=((a+1:Nat):Int):=by rw[i64_id (by omega) (by omega)];omega
 refine zA ?_
 simp[go_sem,hl,ea1]
 refine zL (S:=Nat×(Nat->Nat)) [1,2,3,6] (fun u=> [.int .i64 a,.int .i64 b,.ptr σ0.length 0,.int .i64 u.1]) (fun u=>lsF σ0 id s n row u.2++ [datB gl gs cl cs]) (fun u=>b - u.1)
  (fun u=>a+1<=u.1/\Mv f u.2 a (min u.1 b)/\Srt lt u.2 a (min u.1 b)) (hc.trans (hl f)) hb (a+1,f) ⟨A2 _,Mv.refl _ _ _,fun x y h1 h2 h3=>by omega⟩ ?_ ?_
 .exact yB (by simp[hl]) (by simp[go_sem])
 rintro⟨i,g⟩ ⟨hi,hm,hs⟩
 simp only at hi hm hs
 by_cases q:i<b
 rotate_left
 .rw[Nat.min_eq_right (by omega)]at hm hs
  refine zA ?_
  simp[go_sem,q]
  exact xJ σ0.length (Cs (hl _)) (hl _) (S.lt_ok _) (Cg (hl f)) (zC rfl) ⟨rfl,g,rfl,hm,hs⟩
 rw[D8 (by omega)]at hm hs
 have ei:=zV q (by omega)
 have hd:=yv7 (σ0:=σ0) (id:=id) (s:=s) (n:=n) (row:=row) (gl:=gl) (gs:=gs) (cl:=cl) (cs:=cs)
 refine zA ?_
 simp[go_sem,q]
 refine zL (S:=Nat) [1,2,3,6,7] (fun j=> [.int .i64 a,.int .i64 b,.ptr σ0.length 0,.int .i64 i,.int .i64 j]) (fun j=>lsF σ0 id s n row (rotF g j i (i+1))++ [datB gl gs cl cs]) (fun j=>j)
  (fun j=>a<=j/\j<=i/\ ∀x,j<=x->x<i->lt (g i) (g x)=true) (hc.trans (hl f)) hb i ⟨by omega,A2 _,fun x h1 h2=>by omega⟩ ?_ ?_
 .rw[yi0]
  exact yB (by simp[hl]) (by simp[go_sem])
 rintro j ⟨h1,h2,h3⟩
 have fin: ∀(he:j=a∨lt (g i) (g (j - 1))=false),Mv f (rotF g j i (i+1)) a (min (i+1) b)/\Srt lt (rotF g j i (i+1)) a (min (i+1) b):=fun he=>by
  rw[D8 (by omega)]
  exact xr5 o q hinc hm hs h1 h2 h3 he
 by_cases p:a<j
 rotate_left
 .have p': ¬((a:Int)<j):=by omega
  obtain⟨f1,f2⟩:=fin (.inl (by omega))
  refine zA ?_
  simp[go_sem,p,ei]
  exact zI (i+1,rotF g j i (i+1)) ⟨by show b - (i+1)<b - i;omega,⟨by show a+1<=i+1;omega,f1,f2⟩,yB (by simp[hl]) (by simp[go_sem])⟩
 have ej:IntKind.i64.wrap ((j:Int) - 1)=((j - 1:Nat):Int):=by rw[i64_id (by omega) (by omega)];omega
 have hle:=fun K=>S.less c [datB gl gs cl cs] (rotF g j i (i+1)) j (j - 1) K (by omega) (by omega) (by omega)
 have hsw:=fun K=>S.swap c [datB gl gs cl cs] (rotF g j i (i+1)) j (j - 1) K (by omega) (by omega) (by omega)
 rw[xM4 g h2 (by omega)]at hsw
 have e1:rotF g j i (i+1) j=g i:=by rw[zG6 g (by omega)];congr 1;omega
 have e2:rotF g j i (i+1) (j - 1)=g (j - 1):=zx8 g (by omega) h2 (by omega)
 rw[e1,e2]at hle
 refine zA ?_
 simp[go_sem,p,hd,ej]
 refine hle _ ?_
 cases hL:lt (g i) (g (j - 1))with
 |false=>
  obtain⟨f1,f2⟩:=fin (.inr hL)
  simp[go_sem,ei]
  exact zI (i+1,rotF g j i (i+1)) ⟨by show b - (i+1)<b - i;omega,⟨by show a+1<=i+1;omega,f1,f2⟩,yB (by simp[hl]) (by simp[go_sem])⟩
 |true=>
  simp[go_sem,hd,ej]
  refine hsw _ ?_
  simp[go_sem,ej]
  exact zI (j - 1) ⟨by omega,⟨by omega,by omega,fun x x1 x2=>by
   by_cases c1:x=j - 1
   .rw[c1];exact hL
   .exact h3 x (by omega) x2⟩,yB (by simp[hl]) (by simp[go_sem])⟩
end
section
variable {gl gs:FuncId} {cl cs:List V} {σ0:St} {id s n:Nat} {row:Nat->List V} {lt:Nat->Nat->Bool}
theorem SC.call (S:SC prog gl gs cl cs σ0 id s n row lt) {F:FuncId} {ints:List V} {g:Nat->Nat} {Q:(Nat->Nat)->Prop} {c:Ctx} {τ:St} {K:V->St->Prop}
  (hc:VCalls prog F (.agg [.fn gl cl,.fn gs cs]::ints) (lsF σ0 id s n row g) (fun r t=>r= .tup []/\ ∃g',t=lsF σ0 id s n row g'/\Q g')) (hb:wS prog F=true) (hi:ints.all noS=true)
  (hK: ∀g',Q g'->K (.tup []) (lsF σ0 id s n row g'++τ)):wVC prog c (.fn F []) (.agg [.fn gl cl,.fn gs cs]::ints) (lsF σ0 id s n row g++τ) K fx:=by
 have hl: ∀g,(lsF σ0 id s n row g).length=σ0.length:=fun g=>zx0 ..
 refine ze9 σ0.length hc hb (Cs (hl _)) (hl _) (S.lt_ok _) ?_ ?_ ?_
 .rw[B7]
  exact⟨zo4 (by simp[ltS,ltA,ltC,S.cl_ok,S.cs_ok]),zH hi⟩
 .rintro r t ⟨rfl,g',rfl,_⟩
  exact⟨hl _,S.lt_ok _,rfl⟩
 .rintro r t ⟨rfl,g',rfl,hq⟩
  rw[List.drop_left' (hl _)]
  exact hK g' hq
theorem xw3 (S:SC prog gl gs cl cs σ0 id s n row lt) (f:Nat->Nat) (a m b:Nat) (h1:a<m) (h2:m<b) (h3:b<=n):
  VCalls prog 231 [.agg [.fn gl cl,.fn gs cs],.int .i64 a,.int .i64 m,.int .i64 b] (lsF σ0 id s n row f) (fun r t=>r= .tup []/\ ∃g,t=lsF σ0 id s n row g/\g=rotF f a m b):=by
 have hn:=S.nn
 have hsw: ∀g x y k,x+k<=y->y+k<=n->VCalls prog 245 [.agg [.fn gl cl,.fn gs cs],.int .i64 (x:Nat),.int .i64 (y:Nat),.int .i64 (k:Nat)] (lsF σ0 id s n row g) (fun r t=>r= .tup []/\ ∃g',t=lsF σ0 id s n row g'/\g'=swR g x y k):=fun g x y k q1 q2=>
  (yK2 S g x y k q1 q2).mono fun r t h=>⟨h.1,_,h.2,rfl⟩
 refine VCalls.introV (lsF σ0 id s n row f).length func231 ntmps231 results231 rfl rfl (Cy rfl) fun c hc hb=> ?_
 have hl: ∀g,(lsF σ0 id s n row g).length=σ0.length:=fun g=>zx0 ..
 have hd:=yv7 (σ0:=σ0) (id:=id) (s:=s) (n:=n) (row:=row) (gl:=gl) (gs:=gs) (cl:=cl) (cs:=cs)
 have e1:IntKind.i64.wrap ((m:Int) - a)=((m - a:Nat):Int):=by rw[i64_id (by omega) (by omega)];omega
 have e2:IntKind.i64.wrap ((b:Int) - m)=((b - m:Nat):Int):=by rw[i64_id (by omega) (by omega)];omega
 refine zA ?_
 simp[go_sem,hl,e1,e2]
 refine zL (S:=Nat×Nat×(Nat->Nat)) [1,2,3,4,8,9] (fun u=> [.int .i64 a,.int .i64 m,.int .i64 b,.ptr σ0.length 0,.int .i64 u.1,.int .i64 u.2.1]) (fun u=>lsF σ0 id s n row u.2.2++ [datB gl gs cl cs]) (fun u=>u.1+u.2.1)
  (fun u=>0<u.1/\0<u.2.1/\u.1<=m/\m+u.2.1<=n/\rotF u.2.2 (m - u.1) m (m+u.2.1)=rotF f a m b) (hc.trans (hl f)) hb (m - a,b - m,f) ⟨by show 0<m - a;omega,by show 0<b - m;omega,by show m - a<=m;omega,by show m+(b - m)<=n;omega,by show rotF f (m - (m - a)) m (m+(b - m))=_;rw[show m - (m - a)=a by omega,show m+(b - m)=b by omega]⟩ ?_ ?_
 .exact yB (by simp[hl]) (by simp[go_sem])
 rintro⟨i,j,g⟩ ⟨hi,hj,him,hjn,hg⟩
 simp only at hi hj him hjn hg
 have emi:IntKind.i64.wrap ((m:Int) - i)=((m - i:Nat):Int):=by rw[i64_id (by omega) (by omega)];omega
 rcases Bi i j with q|q|q
 .have p1:((i:Int) !=j)=true:=by simp;omega
  have p2: ¬((j:Int)<i):=by omega
  have p3: ¬(j<i):=by omega
  have p4: ¬i=j:=by omega
  have ea:IntKind.i64.wrap ((m:Int)+j)=(m:Int)+j:=i64_id (by omega) (by omega)
  have eb:IntKind.i64.wrap ((m:Int)+j - i)=((m+j - i:Nat):Int):=by rw[i64_id (by omega) (by omega)];omega
  have ej:IntKind.i64.wrap ((j:Int) - i)=((j - i:Nat):Int):=by rw[i64_id (by omega) (by omega)];omega
  refine zA ?_
  simp[go_sem,p1,p2,hd,emi,ea,eb]
  refine S.call (hsw g (m - i) (m+j - i) i (by omega) (by omega)) cB rfl ?_
  rintro g' rfl
  simp[go_sem,ej]
  exact zI (i,j - i,swR g (m - i) (m+j - i) i) ⟨by show i+(j - i)<i+j;omega,⟨hi,by show 0<j - i;omega,him,by show m+(j - i)<=n;omega,by show rotF _ (m - i) m (m+(j - i))=_;rw[xS1 g q him];exact hg⟩,yB (by simp[hl]) (by simp[go_sem])⟩
 .subst q
  refine zA ?_
  simp[go_sem,hd,emi]
  refine S.call (hsw g (m - i) m i (by omega) (by omega)) cB rfl ?_
  rintro g' rfl
  rw[xR9 g him,hg]
  simp[go_sem]
  exact xJ σ0.length (Cs (hl _)) (hl _) (S.lt_ok _) (Cg (hl f)) (zC rfl) ⟨rfl,rfl⟩
 .have p1:((i:Int) !=j)=true:=by simp;omega
  have p2:(j:Int)<i:=by omega
  have p4: ¬i=j:=by omega
  have ei:IntKind.i64.wrap ((i:Int) - j)=((i - j:Nat):Int):=by rw[i64_id (by omega) (by omega)];omega
  refine zA ?_
  simp[go_sem,p1,p2,hd,emi]
  refine S.call (hsw g (m - i) m j (by omega) (by omega)) cB rfl ?_
  rintro g' rfl
  simp[go_sem,ei]
  exact zI (i - j,j,swR g (m - i) m j) ⟨by show i - j+j<i+j;omega,⟨by show 0<i - j;omega,hj,by show i - j<=m;omega,hjn,by show rotF _ (m - (i - j)) m (m+j)=_;rw[xS0 g q him];exact hg⟩,yB (by simp[hl]) (by simp[go_sem])⟩
end
end Go.Proofs.YtkigddpaonhmlaaGreat
