/-
  Maps whose keys are places, as plain lists: what looking up, laying, striking and running through come to.
  No condition; lemmas for the walks of exec.
-/
import Derived.Test.YtplackkccmeioaaGreatKAAM
import Derived.Test.YtplackkccmeioaaGreatKAAK
import Derived.Lib.Bytealg
import Derived.Test.YtplackkccmeioaaGreatKAAJ
import Derived.Test.YtplackkccmeioaaGreatKAAF
set_option maxHeartbeats 8000000
namespace Go.Proofs.YtplackkccmeioaaGreat
open Go Go.Vx R Go.Proofs.Tryz
set_option maxRecDepth 100000
variable {a:Int}{I:St}
def nS:bL:=⟨[],[],0,0,0,⟨[],[],[],0,0,0⟩⟩
def Gj:List fy->List bJ->Int
 |c::cs,e::es=>if pf nS e c.kind≠0 then pf nS e c.kind else Gj cs es
 |_,_=>0
def Gk (T:bL) (r:List bJ):Int:=if r.length≠T.cm.length then 9 else Gj T.cm r
def Gl (T:bL):List (List bJ)->Int
 | []=>0
 |r::l=>if Gk T r≠0 then Gk T r else Gl T l
theorem wi3 {ρ:Nat->Nat} {g1 g2 g3 g4:Tag}:cP ρ (.agg nS.row) (.agg [.str [],.sl g1 [],.int .i64 0,.int .i64 0,.int .i64 0,.sl g2 [],.sl g3 [],.sl g4 [],.int .i64 0,.int .i64 0,.int .i64 0]):=
 wN ⟨zF rfl,zX,zF rfl,zF rfl,zF rfl,zX,zX,zX,zF rfl,zF rfl,zF rfl,tV⟩
theorem xi {ρ:Nat->Nat} (e:bJ):cP ρ (.agg e.row) (.agg [.int .i64 e.kind,.str e.s,.int .i64 e.v.kind,.int .i64 e.v.n,.str e.v.s,.sl .ro (e.args.map bJ.row)]):=by rw[bJ.bR];exact zC rfl
theorem pj (T:bL) (st:bW) (n:Nat):([.box T.row,.box st.row]:St).all (bT n)=true:=by simp[bT,cS,cN,bL.row,bW.row]
theorem xt8 (T:bL) (_hT:T.cm.length<=1000) (st:bW) (hs:k6 st):Pure prog 99 [.agg T.row,.agg st.row] (.int .i64 (Gl T st.rows)):=by
 obtain⟨R,hR⟩:=eX st.rows
 obtain⟨aj,ah⟩:=hs.rows
 rw[hR]at aj ah
 rw[hR]
 generalize hM:Gl T R=M
 refine iV 0 func99 ntmps99 results99 λc hc hb=> ?_
 refine zA ?_
 simp[go_sem,hR]
 refine zI (S:=Nat) [2,3,11,12,13] (λi=> [.ptr 0 0,.ptr 1 0,.sl .ro (R.map λr=> [V.sl .ro (r.map bJ.row)]),.int .i64 R.length,.int .i64 (i:Int)]) (λ_=> [.box T.row,.box st.row]) (λi=>R.length - i)
  (λi=>i<=R.length/\Gl T (R.drop i)=M) hc hb 0 ⟨A3 _,hM⟩ ?_ ?_
 .exact cc 2 (by simp[go_sem,hR]) rfl (pj T st 2) (A3 _) (zD sg rfl)
 rintro i ⟨hi,hinv⟩
 by_cases q:i<R.length
 rotate_left
 .rw[A9 om]at hinv
  refine zA ?_
  simp[go_sem,q]
  exact eS hinv
 have ei:=zU q om
 obtain⟨r,hr⟩:=eX (R[i])
 obtain⟨al,ak⟩:=ah r (hr▸A8 q)
 rw[A5 q,hr,Gl]at hinv
 by_cases q2:r.length=T.cm.length
 rotate_left
 .have ad:((r.length:Int) !=T.cm.length)=true:=by simp;omega
  have ae:Gk T r=9:=by unfold Gk;rw[ai2 q2]
  rw[ae,ai2 dC]at hinv
  refine zA ?_
  simp[go_sem,q,hr,ad]
  exact eS hinv
 have ad:((r.length:Int) !=T.cm.length)=false:=by simp;omega
 have ae:Gk T r=Gj T.cm r:=by unfold Gk;rw[ai1 (λh=>h q2)]
 rw[ae]at hinv
 obtain⟨C,hC⟩:=eX (Gj T.cm r)
 rw[hC]at hinv
 refine zA ?_
 simp[go_sem,q,hr,ad]
 refine zI (S:=Nat) [2,3,11,12,13,23,24,25] (λk=> [.ptr 0 0,.ptr 1 0,.sl .ro (R.map λr=> [V.sl .ro (r.map bJ.row)]),.int .i64 R.length,.int .i64 (i:Int),.sl .ro (r.map bJ.row),.int .i64 r.length,.int .i64 (k:Int)]) (λ_=> [.box T.row,.box st.row]) (λk=>r.length - k)
  (λk=>k<=r.length/\Gj (T.cm.drop k) (r.drop k)=C) hc hb 0 ⟨A3 _,hC⟩ ?_ ?_
 .exact cc 2 (by simp[go_sem,hR]) rfl (pj T st 2) (A3 _) (zD sg rfl)
 rintro k ⟨hk,aa⟩
 by_cases qk:k<r.length
 rotate_left
 .rw[A9 om,A9 om]at aa
  have aa:C=0:=aa.symm
  rw[ai1 (λh=>h aa)]at hinv
  refine zA ?_
  simp[go_sem,qk,ei]
  exact zJ (i+1) ⟨om,⟨om,hinv⟩,aN 2 (pj T st 2)⟩
 have ek:=zU qk om
 have qc:k<T.cm.length:=om
 obtain⟨e,he⟩:=eX (r[k])
 obtain⟨c1,ai⟩:=eX (T.cm[k])
 have hE:=ak e (he▸A8 qk)
 rw[A5 qk,A5 qc,he,ai,Gj]at aa
 have ab:=K3 nS dC e hE c1.kind
 generalize pf nS e c1.kind=kc at ab aa
 refine zA ?_
 simp[go_sem,qk,he]
 refine nv [(8,0)] 3 sm kR kR ?_
 simp[go_sem,qc,ai]
 refine wP ab cB (λ_=>⟨wi3,xi e,zC rfl,tV⟩) rfl ?_
 simp[go_sem]
 by_cases qe:kc=0
 .have af:(kc !=0)=false:=sU qe
  rw[ai1 (λh=>h qe)]at aa
  simp[go_sem,af,ek]
  exact zJ (k+1) ⟨om,⟨om,aa⟩,aN 2 (pj T st 2)⟩
 .have af:(kc !=0)=true:=sU qe
  rw[ai2 qe]at aa
  rw[ai2 (by rw[<-aa];exact qe)]at hinv
  simp[go_sem,af]
  exact eS (aa.trans hinv)
def ox (T:bL):List ct->List ct->Int
 |_,[]=>0
 |p,x::l=>
  if cU T x.name<0 then 14
  else if cU T x.name=T.key\/(cU T x.name=0/\T.place=0)then 18
  else if(p.any λy=>y.name==x.name)=true then 9
  else if pf T x.e (kS T (cU T x.name))≠0 then pf T x.e (kS T (cU T x.name))
  else ox T (p++ [x]) l
theorem nT (x:ct):bT 0 (.box x.row)=true:=by simp[bT,cS,cN,ct.row]
theorem xe4 (x y:ct):bN prog 144 [.agg y.row,.ptr 0 0] [.box x.row] (λr I=>r= .bool (y.name==x.name)/\I= [.box x.row]):=by
 refine iW 1 func144 ntmps144 results144 λc hc hb=>zM ?_
 simp[go_sem]
 exact yZ 1 rfl rfl (by simp[bT,cS,cN]) (A7 _) (zC rfl) ⟨rfl,rfl⟩
theorem wk0 (x:ct) (l:List ct) (hl:l.length<=12):bN prog 205 [.sl .ro (l.map ct.row),.fn 144 [.ptr 0 0]] [.box x.row] (λr I=>r= .int .i64 (xU (λy=>y.name==x.name) l 0)/\I= [.box x.row]):=by
 generalize hM:xU (λy:ct=>y.name==x.name) l 0=M
 have ret: ∀(r:Int) (I:St),r=M->cw (some (.int .i64 r)) 1 (λr s=>r= .int .i64 M/\s= [.box x.row]) (.box x.row::I):=λr I h=>by subst h;exact yZ 1 rfl rfl (by simp[bT,cS,cN,ct.row]) (A7 _) (zC rfl) ⟨rfl,rfl⟩
 refine iV 1 func205 ntmps205 results205 λc hc hb=> ?_
 refine zA ?_
 simp[go_sem]
 refine zI (S:=Nat) [0,1,6,7,8] (λi=> [.sl .ro (l.map ct.row),.fn 144 [.ptr 0 0],.sl .ro (l.map ct.row),.int .i64 l.length,.int .i64 (i:Int)]) (λ_=> [.box x.row]) (λi=>l.length - i)
  (λi=>i<=l.length/\xU (λy=>y.name==x.name) (l.drop i) i=M) hc hb 0 ⟨A3 _,hM⟩ ?_ ?_
 .exact aN 1 (by simp[bT,cS,cN,ct.row])
 rintro i ⟨hi,hinv⟩
 by_cases q:i<l.length
 rotate_left
 .rw[A9 om]at hinv
  refine zA ?_
  simp[go_sem,q]
  exact ret _ _ hinv
 have ei:=zU q om
 obtain⟨y,hy⟩:=eX (l[i])
 rw[A5 q,hy,xU]at hinv
 have aa:=xe4 x y
 generalize (y.name==x.name)=b at aa hinv
 refine zA ?_
 simp[go_sem,q,hy]
 refine mz 0 aa cB rfl (nT x) ⟨zC rfl,.inl rfl,tV⟩ (λr I h=>⟨_,h.2,nT x⟩) ?_
 rintro r o2 ⟨rfl,h2⟩
 obtain rfl:o2= .box x.row:=sU h2
 refine(A6 b).elim (λp=> ?_) (λp=> ?_)
 .rw[ai2 p]at hinv
  simp[go_sem,p]
  exact ret _ _ hinv
 .rw[ai1 (by rw[p];decide)]at hinv
  simp[go_sem,p,ei]
  exact zJ (i+1) ⟨om,⟨om,hinv⟩,aN 1 (by simp[bT,cS,cN])⟩
theorem wj5 (x:ct) (l:List ct) (hl:l.length<=12):bN prog 143 [.sl .ro (l.map ct.row),.fn 144 [.ptr 0 0]] [.box x.row] (λr I=>r= .bool (l.any λy=>y.name==x.name)/\I= [.box x.row]):=by
 have h:=wk0 x l hl
 have hg:=Er (λy:ct=>y.name==x.name) l 0
 rw[<-hg]
 generalize xU (λy:ct=>y.name==x.name) l 0=n at h⊢
 refine iW 1 func143 ntmps143 results143 λc hc hb=>zM ?_
 simp[go_sem]
 refine mz 0 h cB rfl (nT x) ⟨zC rfl,.inl (by simp[dH,dM,dj,dt,cK]),tV⟩ (λr I h=>⟨_,h.2,nT x⟩) ?_
 rintro r o2 ⟨rfl,h2⟩
 obtain rfl:o2= .box x.row:=sU h2
 simp[go_sem]
 exact yZ 1 rfl rfl (by simp[bT,cS,cN]) (A7 _) (zC rfl) ⟨rfl,rfl⟩
theorem wa8 (T:bL) (hT:T.cm.length<=1000) (st:bW) (hs:k6 st):Pure prog 100 [.agg T.row,.agg st.row] (.int .i64 (ox T [] st.cG)):=by
 obtain⟨L,hL⟩:=eX st.cG
 obtain⟨an,al⟩:=hs.cG
 rw[hL]at an al
 rw[hL]
 generalize hM:ox T [] L=M
 refine iV 0 func100 ntmps100 results100 λc hc hb=> ?_
 refine zA ?_
 simp[go_sem,hL]
 refine zI (S:=Nat) [2,3,10,11,12] (λi=> [.ptr 0 0,.ptr 1 0,.sl .ro (L.map ct.row),.int .i64 L.length,.int .i64 (i:Int)]) (λ_=> [.box T.row,.box st.row]) (λi=>L.length - i)
  (λi=>i<=L.length/\ox T (L.take i) (L.drop i)=M) hc hb 0 ⟨A3 _,hM⟩ ?_ ?_
 .exact cc 2 (by simp[go_sem,hL]) rfl (pj T st 2) (A3 _) (zD sg rfl)
 rintro i ⟨hi,hinv⟩
 by_cases q:i<L.length
 rotate_left
 .rw[A9 om,ox]at hinv
  refine zA ?_
  simp[go_sem,q]
  exact eS hinv
 have ei:=zU q om
 obtain⟨x,hx⟩:=eX (L[i])
 obtain⟨ar,hE⟩:=al x (hx▸A8 q)
 have aa:=Gd T x.name (by unfold maxLen;omega)
 rw[show iG (λc:fy=>c.name==x.name) T.cm 0=cU T x.name from rfl]at aa
 have ah:=wj5 x (L.take i) (by simp;omega)
 have ao:L.take (i+1)=L.take i++ [x]:=by rw[Cp,A0 q,hx];rfl
 rw[A5 q,hx,ox,<-ao]at hinv
 generalize ((L.take i).any λy=>y.name==x.name)=b at ah hinv
 by_cases qc:cU T x.name<0
 .have ae:decide (cU T x.name<0)=true:=ai4 qc
  rw[ai2 qc]at hinv
  refine zA ?_
  simp[go_sem,q,hx]
  refine zL aa cB (zP sg rfl) rfl ?_
  simp[go_sem,ae]
  exact eS hinv
 have ae:decide (cU T x.name<0)=false:=ai3 qc
 rw[ai1 qc]at hinv
 obtain⟨j,hj,aj⟩:=KX T x.name qc
 obtain⟨C,hC⟩:=eX (T.cm[j])
 have aq:kS T (cU T x.name)=C.kind:=by
  unfold kS
  rw[hj,B1,A0 aj,hC];rfl
 rw[aq]at hinv
 have ab:=K3 T (by unfold maxLen;omega) x.e hE C.kind
 generalize pf T x.e C.kind=kc at ab hinv
 rw[hj]at aa hinv ae
 by_cases qk:(j:Int)=T.key\/((j:Int)=0/\T.place=0)
 .rw[ai2 qk]at hinv
  refine zA ?_
  simp[go_sem,q,hx]
  refine zL aa cB (zP sg rfl) rfl ?_
  simp[go_sem,ae]
  by_cases k1:(j:Int)=T.key
  .have af:((j:Int)==T.key)=true:=sU k1
   simp[go_sem,af]
   exact eS hinv
  .have af:((j:Int)==T.key)=false:=sU k1
   obtain⟨k2,k3⟩:=qk.resolve_left k1
   have ai:((j:Int)==0)=true:=sU k2
   have ak:(T.place==0)=true:=sU k3
   simp[go_sem,af,ai,ak]
   exact eS hinv
 rw[ai1 qk]at hinv
 have af:((j:Int)==T.key)=false:=by simpa using λh=>qk (.inl h)
 have key:((j:Int)==0)=false\/(((j:Int)==0)=true/\(T.place==0)=false):=by
  by_cases k2:(j:Int)=0
  .exact .inr ⟨by simpa using k2,by simpa using λh=>qk (.inr ⟨k2,h⟩)⟩
  .exact .inl (sU k2)
 refine key.elim (λai=> ?_) (λ⟨ai,ak⟩=> ?_)
 .refine zA ?_
  simp[go_sem,q,hx]
  refine zL aa cB (zP sg rfl) rfl ?_
  simp[go_sem,ae,af,ai,hL]
  refine zH ⟨hi,my λ_=>rfl⟩ ?_
  simp[go_sem,<-List.map_take]
  refine mz 2 ah cB rfl (nT x) ⟨zK,.inl (by simp[dH,dM,dj,dt,cK]),tV⟩ (λr I h=>⟨_,h.2,nT x⟩) ?_
  rintro r o2 ⟨rfl,h2⟩
  obtain rfl:o2= .box x.row:=sU h2
  refine(A6 b).elim (λp=> ?_) (λp=> ?_)
  .rw[ai2 p]at hinv
   simp[go_sem,p]
   exact eS hinv
  rw[ai1 (by rw[p];decide)]at hinv
  simp[go_sem,p]
  refine nv [(9,0)] 3 sm kR kR ?_
  simp[go_sem,aj,hC]
  refine wP ab cB (λ_=>⟨zC rfl,xi x.e,zC rfl,tV⟩) rfl ?_
  simp[go_sem]
  by_cases qe:kc=0
  .have ad:(kc !=0)=false:=sU qe
   rw[ai1 (λh=>h qe)]at hinv
   simp[go_sem,ad,ei]
   exact zJ (i+1) ⟨om,⟨om,hinv⟩,cc 2 (by simp[go_sem,hL]) rfl (pj T st 2) (A3 _) (zD sg rfl)⟩
  .have ad:(kc !=0)=true:=sU qe
   rw[ai2 qe]at hinv
   simp[go_sem,ad]
   exact eS hinv
 .refine zA ?_
  simp[go_sem,q,hx]
  refine zL aa cB (zP sg rfl) rfl ?_
  simp[go_sem,ae,af,ai,ak,hL]
  refine zH ⟨hi,my λ_=>rfl⟩ ?_
  simp[go_sem,<-List.map_take]
  refine mz 2 ah cB rfl (nT x) ⟨zK,.inl (by simp[dH,dM,dj,dt,cK]),tV⟩ (λr I h=>⟨_,h.2,nT x⟩) ?_
  rintro r o2 ⟨rfl,h2⟩
  obtain rfl:o2= .box x.row:=sU h2
  refine(A6 b).elim (λp=> ?_) (λp=> ?_)
  .rw[ai2 p]at hinv
   simp[go_sem,p]
   exact eS hinv
  rw[ai1 (by rw[p];decide)]at hinv
  simp[go_sem,p]
  refine nv [(9,0)] 3 sm kR kR ?_
  simp[go_sem,aj,hC]
  refine wP ab cB (λ_=>⟨zC rfl,xi x.e,zC rfl,tV⟩) rfl ?_
  simp[go_sem]
  by_cases qe:kc=0
  .have ad:(kc !=0)=false:=sU qe
   rw[ai1 (λh=>h qe)]at hinv
   simp[go_sem,ad,ei]
   exact zJ (i+1) ⟨om,⟨om,hinv⟩,cc 2 (by simp[go_sem,hL]) rfl (pj T st 2) (A3 _) (zD sg rfl)⟩
  .have ad:(kc !=0)=true:=sU qe
   rw[ai2 qe]at hinv
   simp[go_sem,ad]
   exact eS hinv
def rj (st:bW):Int:=
 match bO[(xK st.table).toNat]? with
 |none=>14
 |some T=>if xK st.table<0 then 14 else if st.kind=1 then K4 T st else if st.kind=2 then Gl T st.rows else if st.kind=3 then(if ox T [] st.cG≠0 then ox T [] st.cG else AS T st)else AS T st
theorem xD1 (st:bW) (hs:k6 st):Pure prog 57 [dG bO,.agg st.row] (.int .i64 (rj st)):=by
 have ad:=Ov bO st.table dC
 rw[show iG (λt:bL=>t.name==st.table) bO 0=xK st.table from rfl]at ad
 generalize hM:rj st=M
 unfold rj at hM
 have an:=K7 st.table
 generalize xK st.table=t at ad an hM
 refine iW 0 func57 ntmps57 results57 λc hc hb=>zM ?_
 simp[go_sem,dG]
 refine zL ad cB (zP (by simp[go_sem,dG]) rfl) rfl ?_
 simp[go_sem]
 by_cases ai:t= -1
 .have hM:14=M:=by rw[<-hM,ai];rfl
  subst ai
  simp[go_sem]
  exact eS hM
 have aj: ¬t<0:=om
 have ak:decide (t<0)=false:=ai3 aj
 obtain⟨j,rfl⟩: ∃j:Nat,t=j:=⟨t.toNat,om⟩
 have ae:j<bO.length:=by show j<3;omega
 obtain⟨T,hT⟩:=eX (bO[j])
 have al:T.cm.length<=1000:=by
  rw[<-hT]
  match j,ae with
  |0,_=>exact(by decide:xg.cm.length<=1000)
  |1,_=>exact(by decide:Ek.cm.length<=1000)
  |2,_=>exact(by decide:El.cm.length<=1000)
 simp only[B1,A0 ae,hT]at hM
 rw[ai1 aj]at hM
 have h1:=xD3 T (by unfold maxLen;omega) st hs
 have h2:=xt8 T al st hs
 have h3:=wa8 T al st hs
 have h4:=TJ T (by unfold maxLen;omega) st hs
 simp[go_sem,ak,ae,hT]
 by_cases k1:st.kind=1
 .have aa:(st.kind==1)=true:=sU k1
  rw[ai2 k1]at hM
  simp[go_sem,aa]
  refine zL h1 cB (zP sg rfl) rfl ?_
  simp[go_sem]
  exact eS hM
 have aa:(st.kind==1)=false:=sU k1
 rw[ai1 k1]at hM
 by_cases k2:st.kind=2
 .have ab:(st.kind==2)=true:=sU k2
  rw[ai2 k2]at hM
  simp[go_sem,aa,ab]
  refine zL h2 cB (zP sg rfl) rfl ?_
  simp[go_sem]
  exact eS hM
 have ab:(st.kind==2)=false:=sU k2
 rw[ai1 k2]at hM
 by_cases k3:st.kind=3
 .have af:(st.kind==3)=true:=sU k3
  rw[ai2 k3]at hM
  generalize ox T [] st.cG=sc at h3 hM
  simp[go_sem,aa,ab,af]
  refine zL h3 cB (zP sg rfl) rfl ?_
  by_cases qe:sc=0
  .have ah:(sc !=0)=false:=sU qe
   rw[ai1 (λh=>h qe)]at hM
   simp[go_sem,ah]
   refine zL h4 cB (zP sg rfl) rfl ?_
   simp[go_sem]
   exact eS hM
  .have ah:(sc !=0)=true:=sU qe
   rw[ai2 qe]at hM
   simp[go_sem,ah]
   exact eS hM
 have af:(st.kind==3)=false:=sU k3
 rw[ai1 k3]at hM
 simp[go_sem,aa,ab,af]
 refine zL h4 cB (zP sg rfl) rfl ?_
 simp[go_sem]
 exact eS hM
def Es (mode:Int):List bW->Nat->Int×Int
 | [],_=>(0,0)
 |x::l,i=>if mode≠0/\x.kind≠1 then((i:Int),1)else if rj x≠0 then((i:Int),rj x)else Es mode l (i+1)
def oy (l:dZ):Int×Int:=if mK l=true then Es l.mode l.stmts 0 else(0,9)
theorem T9 (l:dZ) (hl:k7 l):Pure prog 23 [dG bO,.agg l.row] (wI (oy l)):=by
 have ad:=xz5 l hl
 obtain⟨L,hL⟩:=eX l.stmts
 obtain⟨ah,af⟩:=hl.stmts
 rw[hL]at ah af
 obtain⟨m,hm⟩:=eX l.mode
 generalize hM:oy l=M
 unfold oy at hM
 rw[hL,hm]at hM
 generalize mK l=b at ad hM
 refine iV 0 func23 ntmps23 results23 λc hc hb=> ?_
 refine zA ?_
 simp[go_sem,dG]
 refine zL ad cB (zP sg rfl) rfl ?_
 refine(A6 b).elim (λp=> ?_) (λp=> ?_)
 rotate_left
 .rw[ai1 (by rw[p];decide)]at hM
  simp[go_sem,p]
  exact Ep hM
 rw[ai2 p]at hM
 simp[go_sem,p,hL]
 refine zI (S:=Nat) [2,3,13,14,15] (λi=> [.ptr 0 0,.ptr 1 0,.sl .ro (L.map bW.row),.int .i64 L.length,.int .i64 (i:Int)]) (λ_=> [.box [.sl .ro xJ,.sl .ro (bO.map bL.row)],.box l.row]) (λi=>L.length - i)
  (λi=>i<=L.length/\Es m (L.drop i) i=M) hc hb 0 ⟨A3 _,hM⟩ ?_ ?_
 .exact cc 2 (by simp[go_sem,hL]) rfl (by simp[bT,cS,cN,dZ.row]) (A3 _) (zD sg rfl)
 rintro i ⟨hi,hinv⟩
 by_cases q:i<L.length
 rotate_left
 .rw[A9 om,Es]at hinv
  refine zA ?_
  simp[go_sem,q]
  exact Ep hinv
 have ei:=zU q om
 obtain⟨st,ae⟩:=eX (L[i])
 have aa:=xD1 st (af st (ae▸A8 q))
 rw[A5 q,ae,Es]at hinv
 generalize rj st=ce at aa hinv
 refine zA ?_
 simp[go_sem,q,ae,hm]
 by_cases q1:m≠0/\st.kind≠1
 .rw[ai2 q1]at hinv
  have ai:(m !=0)=true:=sU q1.1
  have aj:(st.kind !=1)=true:=sU q1.2
  simp[go_sem,ai,aj]
  exact Ep hinv
 rw[ai1 q1]at hinv
 have key:(m !=0)=false\/((m !=0)=true/\(st.kind !=1)=false):=by
  by_cases h:m=0
  .exact .inl (sU h)
  .refine .inr ⟨by simpa using h, ?_⟩
   simp only[bne_eq_false_iff_eq]
   exact Classical.byContradiction λg=>q1 ⟨h,g⟩
 refine key.elim (λa1=> ?_) (λ⟨a1,a2⟩=> ?_)
 .simp[go_sem,a1]
  refine zL aa cB (zP (by simp[go_sem,dG]) rfl) rfl ?_
  by_cases qe:ce=0
  .have ab:(ce !=0)=false:=sU qe
   rw[ai1 (λh=>h qe)]at hinv
   simp[go_sem,ab,ei]
   exact zJ (i+1) ⟨om,⟨om,hinv⟩,cc 2 (by simp[go_sem,hL,hm]) rfl (by simp[bT,cS,cN]) (A3 _) (zD sg rfl)⟩
  .have ab:(ce !=0)=true:=sU qe
   rw[ai2 qe]at hinv
   simp[go_sem,ab]
   exact Ep hinv
 .simp[go_sem,a1,a2]
  refine zL aa cB (zP (by simp[go_sem,dG]) rfl) rfl ?_
  by_cases qe:ce=0
  .have ab:(ce !=0)=false:=sU qe
   rw[ai1 (λh=>h qe)]at hinv
   simp[go_sem,ab,ei]
   exact zJ (i+1) ⟨om,⟨om,hinv⟩,cc 2 (by simp[go_sem,hL,hm]) rfl (by simp[bT,cS,cN]) (A3 _) (zD sg rfl)⟩
  .have ab:(ce !=0)=true:=sU qe
   rw[ai2 qe]at hinv
   simp[go_sem,ab]
   exact Ep hinv
abbrev gz (n:Int):Prop:= -9223372036854775808<=n/\n<=9223372036854775807
def fk (n:Int):Int×Int:=if gz n then(n,0)else(0,5)
theorem vq {n:Int} (h:gz n):IntKind.i64.wrap n=n:=Vx.bX h.1 h.2
theorem OG (a b:Int) (ha:gz a) (aa:gz b):Pure prog 270 [.int .i64 a,.int .i64 b] (wI (fk (a+b))):=by
 generalize hM:fk (a+b)=M
 unfold fk at hM
 have q:(0<b/\decide (0<b)=true/\decide (b<0)=false)\/(b<0/\decide (0<b)=false/\decide (b<0)=true)\/(b=0/\decide (0<b)=false/\decide (b<0)=false):=by
  simp only[ai7,ai9];omega
 unfold gz at ha aa hM
 refine iW 0 func270 ntmps270 results270 λc hc hb=>zM ?_
 rcases q with ⟨q,q1,q2⟩|⟨q,q1,q2⟩|⟨q,q1,q2⟩
 .have w1:IntKind.i64.wrap (9223372036854775807 - b)=9223372036854775807 - b:=vq ⟨om,om⟩
  by_cases r:9223372036854775807 - b<a
  .have r':decide (9223372036854775807 - b<a)=true:=ai4 r
   simp[go_sem,q1,w1,r']
   exact wZ (by rw[<-hM,ai1 om])
  .have r':decide (9223372036854775807 - b<a)=false:=ai3 r
   have w2:IntKind.i64.wrap (a+b)=a+b:=vq ⟨om,om⟩
   simp[go_sem,q1,q2,w1,r',w2]
   exact wZ (by rw[<-hM,ai2 om])
 .have w1:IntKind.i64.wrap (-9223372036854775808 - b)= -9223372036854775808 - b:=vq ⟨om,om⟩
  by_cases r:a< -9223372036854775808 - b
  .have r':decide (a< -9223372036854775808 - b)=true:=ai4 r
   simp[go_sem,q1,q2,w1,r']
   exact wZ (by rw[<-hM,ai1 om])
  .have r':decide (a< -9223372036854775808 - b)=false:=ai3 r
   have w2:IntKind.i64.wrap (a+b)=a+b:=vq ⟨om,om⟩
   simp[go_sem,q1,q2,w1,r',w2]
   exact wZ (by rw[<-hM,ai2 om])
 .have w2:IntKind.i64.wrap (a+b)=a+b:=vq ⟨om,om⟩
  simp[go_sem,q1,q2,w2]
  exact wZ (by rw[<-hM,ai2 om])
theorem OH (x:Nat) (hx:x<18446744073709551616):jo .and .u64 (x:Int) 4294967295=((x%4294967296:Nat):Int):=by
 unfold jo
 have h1:(BitVec.ofInt IntKind.u64.bits (x:Int)).toNat=x:=by
  rw[BitVec.toNat_ofInt]
  show((x:Int)%(18446744073709551616:Nat)).toNat=x
  omega
 have h2:(BitVec.ofInt IntKind.u64.bits 4294967295).toNat=4294967295:=dC
 simp only[BitVec.toNat_and,h1,h2]
 have h3:=Nat.and_two_pow_sub_one_eq_mod x 32
 have h4:(2:Nat)^32 - 1=4294967295:=dC
 have h5:(2:Nat)^32=4294967296:=dC
 rw[h4,h5]at h3
 rw[h3]
 exact Vx.cW om om
theorem Ih (x:Nat):(x:Int).fdiv 4294967296=((x/4294967296:Nat):Int):=by
 rw[Dn _ dC]
 rfl
theorem ws8 (n:Nat):IntKind.u64.wrap (n:Int)=((n%18446744073709551616:Nat):Int):=by
 unfold IntKind.wrap
 simp[IntKind.bits,IntKind.signed]
theorem nU {n:Nat} (h:n<18446744073709551616):IntKind.u64.wrap (n:Int)=(n:Int):=Vx.cW om om
theorem xw3 (a b c d:Nat) (ha:a<4294967296) (hb:b<4294967296) (hc:c<4294967296) (hd:d<4294967296):
  a*d<=18446744065119617025/\b*c<=18446744065119617025/\a*c<=18446744065119617025/\b*d<=18446744065119617025/\
  (a*4294967296+b)*(c*4294967296+d)=(a*c)*18446744073709551616+(a*d)*4294967296+(b*c)*4294967296+b*d:=by
 have m: ∀x y:Nat,x<4294967296->y<4294967296->x*y<=18446744065119617025:=λx y hx hy=>by
  have:=Nat.mul_le_mul (show x<=4294967295 by omega) (show y<=4294967295 by omega)
  simpa using this
 refine⟨m _ _ ha hd,m _ _ hb hc,m _ _ ha hc,m _ _ hb hd, ?_⟩
 rw[B3,Nat.mul_add,Nat.mul_add]
 have e1:a*4294967296*(c*4294967296)=(a*c)*18446744073709551616:=by
  rw[Nat.mul_mul_mul_comm]
 have e2:a*4294967296*d=(a*d)*4294967296:=by rw[Nat.mul_right_comm]
 have e3:b*(c*4294967296)=(b*c)*4294967296:=by rw[Nat.mul_assoc]
 rw[e1,e2,e3]
 omega
theorem xj (x y:Nat):(x:Int)*(y:Int)=((x*y:Nat):Int):=sm
theorem K9 (x y:Nat):(x:Int)+(y:Int)=((x+y:Nat):Int):=sm
theorem xT5 (x y:Nat) (hx:x<18446744073709551616) (hy:y<18446744073709551616):Pure prog 333 [.int .u64 x,.int .u64 y] (.cz [.int .u64 ((x*y/18446744073709551616:Nat):Int),.int .u64 ((x*y%18446744073709551616:Nat):Int)]):=by
 obtain⟨m1,m2,m3,m4,m5⟩:=xw3 (x/4294967296) (x%4294967296) (y/4294967296) (y%4294967296) om om om om
 have ex:x/4294967296*4294967296+x%4294967296=x:=Nat.div_add_mod' x 4294967296
 have ey:y/4294967296*4294967296+y%4294967296=y:=Nat.div_add_mod' y 4294967296
 rw[ex,ey]at m5
 have a1:=OH x hx
 have a2:=OH y hy
 have a3:=Ih x
 have a4:=Ih y
 generalize aa:x/4294967296=x1 at*
 generalize ab:x%4294967296=x0 at*
 generalize ad:y/4294967296=y1 at*
 generalize ae:y%4294967296=y0 at*
 obtain⟨p,hp⟩: ∃p,p=x1*y1:=⟨_,rfl⟩
 obtain⟨q,hq⟩: ∃q,q=x1*y0:=⟨_,rfl⟩
 obtain⟨r,hr⟩: ∃r,r=x0*y1:=⟨_,rfl⟩
 obtain⟨s,hs⟩: ∃s,s=x0*y0:=⟨_,rfl⟩
 rw[<-hq]at m1 m5
 rw[<-hr]at m2 m5
 rw[<-hp]at m3 m5
 rw[<-hs]at m4 m5
 refine iW 0 func333 ntmps333 results333 λc hc hb=>zM ?_
 simp[go_sem,a1,a2,a3,a4]
 refine zW (zC rfl) ⟨?_,rfl⟩
 rw[xj x1 y1,<-hp,xj x1 y0,<-hq,xj x0 y1,<-hr,xj x0 y0,<-hs,nU (n:=s) om,nU (n:=p) om,nU (n:=q) om,nU (n:=r) om,Ih s,
  K9,nU (n:=q+s/4294967296) om,Ih,OH _ om,K9,K9,nU (n:=p+(q+s/4294967296)/4294967296) om,nU (n:=(q+s/4294967296)%4294967296+r) om,Ih,K9,nU om,xj,ws8]
 have e:p+(q+s/4294967296)/4294967296+((q+s/4294967296)%4294967296+r)/4294967296=x*y/18446744073709551616:=by
  rw[m5]
  omega
 rw[e]
 rfl
theorem xS5 (h:a<0) (h2: -9223372036854775808<=a):IntKind.u64.wrap (-IntKind.u64.wrap a)=(a.natAbs:Int):=by
 have e:IntKind.u64.wrap a=a+18446744073709551616:=by
  unfold IntKind.wrap
  simp[IntKind.bits,IntKind.signed]
  omega
 rw[e]
 unfold IntKind.wrap
 simp[IntKind.bits,IntKind.signed]
 omega
theorem Ua (a:Int) (ha:gz a):Pure prog 334 [.int .i64 a] (.int .u64 (a.natAbs:Int)):=by
 unfold gz at ha
 refine iW 0 func334 ntmps334 results334 λc hc hb=>zM ?_
 simp[go_sem]
 by_cases q:a<0
 .have q1:decide (a<0)=true:=ai4 q
  simp[go_sem,q1]
  refine zW (zC rfl) ⟨?_,rfl⟩
  rw[xS5 q ha.1]
 .have q1:decide (a<0)=false:=ai3 q
  simp[go_sem,q1]
  refine zW (zC rfl) ⟨?_,rfl⟩
  rw[Vx.cW om om]
  congr 1
  omega
def Et (a b:Int):Nat:=if decide (a<0)=decide (b<0)then 9223372036854775807 else 9223372036854775808
theorem wl0 (a b:Int):gz (a*b)↔a.natAbs*b.natAbs<=Et a b:=by
 obtain⟨n,hn⟩:=Int.eq_nat_or_neg a
 obtain⟨m,hm⟩:=Int.eq_nat_or_neg b
 have e:a.natAbs=n/\b.natAbs=m:=⟨om,om⟩
 rw[e.1,e.2]
 have z1:n=0->n*m=0:=λh=>by subst h;exact Cw m
 have z2:m=0->n*m=0:=λh=>by subst h;exact Nat.mul_zero n
 unfold Et gz
 rcases hn with rfl|rfl<;>rcases hm with rfl|rfl
 .rw[xj,ai3 om,ai3 om,ai2 rfl]
  generalize n*m=p at*
  omega
 .rw[Int.mul_neg,xj]
  generalize n*m=p at*
  rw[ai3 om]
  by_cases q: -(m:Int)<0
  .rw[ai4 q,ai1 sm];omega
  .rw[ai3 q,ai2 rfl]
   have:=z2 om
   omega
 .rw[Int.neg_mul,xj]
  generalize n*m=p at*
  rw[ai3 (p:=(m:Int)<0) om]
  by_cases q: -(n:Int)<0
  .rw[ai4 q,ai1 sm];omega
  .rw[ai3 q,ai2 rfl]
   have:=z1 om
   omega
 .rw[Int.neg_mul_neg,xj]
  generalize n*m=p at*
  by_cases q: -(n:Int)<0<;>by_cases q2: -(m:Int)<0
  .rw[ai4 q,ai4 q2,ai2 rfl];omega
  .have:=z2 om
   rw[ai4 q,ai3 q2,ai1 sm];omega
  .have:=z1 om
   rw[ai3 q,ai4 q2,ai1 sm];omega
  .have:=z1 om
   rw[ai3 q,ai3 q2,ai2 rfl];omega
theorem wk9 (a b:Int):((!(decide (a<0)==decide (b<0)))=true->Et a b=9223372036854775808)/\((!(decide (a<0)==decide (b<0)))=false->Et a b=9223372036854775807):=by
 unfold Et
 generalize decide (a<0)=x
 generalize decide (b<0)=y
 cases x<;>cases y<;>simp
theorem wo9 (a b:Int) (ha:gz a) (ab:gz b):Pure prog 326 [.int .i64 a,.int .i64 b] (wI (fk (a*b))):=by
 have af:=Ua a ha
 have ah:=Ua b ab
 have ad:a.natAbs<18446744073709551616/\b.natAbs<18446744073709551616:=by unfold gz at ha ab;omega
 have hm:=xT5 a.natAbs b.natAbs ad.1 ad.2
 have db:=wl0 a b
 have ai:Et a b<=9223372036854775808:=by unfold Et;split<;>omega
 have ae:=wk9 a b
 generalize hP:a.natAbs*b.natAbs=p at*
 have aj:p/18446744073709551616*18446744073709551616+p%18446744073709551616=p:=Nat.div_add_mod' _ _
 have ak:p%18446744073709551616<18446744073709551616:=Cs _ dC
 generalize p/18446744073709551616=hi at*
 generalize p%18446744073709551616=lo at*
 generalize hM:fk (a*b)=M
 unfold fk at hM
 refine iW 0 func326 ntmps326 results326 λc hc hb=>zM ?_
 simp[go_sem]
 refine pC af ?_
 simp[go_sem]
 refine pC ah ?_
 simp[go_sem]
 refine pC hm ?_
 simp[go_sem]
 have u1:IntKind.u64.wrap 9223372036854775808=9223372036854775808:=dC
 refine zV (λv2=> ?_) (λv2=> ?_)
 .rw[ae.1 v2]at db
  by_cases q:p<=9223372036854775808
  .have f1:decide (0<hi)=false:=ai3 om
   have f3:decide ((9223372036854775808:Int)<(lo:Int))=false:=ai3 om
   have w:=vq (db.2 q)
   simp[go_sem,f1,f3,w,u1]
   exact wZ (by rw[<-hM,ai2 (db.2 q)])
  .have aa: ¬gz (a*b):=λh=>q (db.1 h)
   have f4:decide (0<hi)=true\/(decide (0<hi)=false/\decide ((9223372036854775808:Int)<(lo:Int))=true):=by
    simp only[ai7,ai9];omega
   rcases f4 with f4|⟨f4,f5⟩
   .simp[go_sem,f4]
    exact wZ (by rw[<-hM,ai1 aa])
   .simp[go_sem,f4,f5,u1]
    exact wZ (by rw[<-hM,ai1 aa])
 .rw[ae.2 v2]at db
  by_cases q:p<=9223372036854775807
  .have f1:decide (0<hi)=false:=ai3 om
   have f3:decide ((9223372036854775807:Int)<(lo:Int))=false:=ai3 om
   have w:=vq (db.2 q)
   simp[go_sem,f1,f3,w]
   exact wZ (by rw[<-hM,ai2 (db.2 q)])
  .have aa: ¬gz (a*b):=λh=>q (db.1 h)
   have f4:decide (0<hi)=true\/(decide (0<hi)=false/\decide ((9223372036854775807:Int)<(lo:Int))=true):=by
    simp only[ai7,ai9];omega
   rcases f4 with f4|⟨f4,f5⟩
   .simp[go_sem,f4]
    exact wZ (by rw[<-hM,ai1 aa])
   .simp[go_sem,f4,f5]
    exact wZ (by rw[<-hM,ai1 aa])
theorem OI (a b:Int) (ha:gz a) (ab:gz b):Pure prog 308 [.int .i64 a,.int .i64 b] (wI (fk (a - b))):=by
 by_cases q:b= -9223372036854775808
 .generalize hM:fk (a - b)=M
  unfold fk at hM
  unfold gz at ha
  have q1:(b != -9223372036854775808)=false:=sU q
  refine iW 0 func308 ntmps308 results308 λc hc hb=>zM ?_
  simp[go_sem,q1]
  by_cases r:0<=a
  .have r1:decide (0<=a)=true:=ai4 r
   simp[go_sem,r1]
   exact wZ (by rw[<-hM,ai1 om])
  .have r1:decide (0<=a)=false:=ai3 r
   have w:IntKind.i64.wrap (a - b)=a - b:=vq ⟨om,om⟩
   simp[go_sem,r1,w]
   exact wZ (by rw[<-hM,ai2 (by unfold gz;omega)])
 .have hn:gz (-b):=by unfold gz at*;omega
  have w:IntKind.i64.wrap (-b)= -b:=vq hn
  have q1:(b != -9223372036854775808)=true:=sU q
  have aa:=OG a (-b) ha hn
  have e:a+ -b=a - b:=om
  rw[e]at aa
  generalize fk (a - b)=M at*
  refine iW 0 func308 ntmps308 results308 λc hc hb=>zM ?_
  simp[go_sem,q1,w]
  refine pC aa ?_
  simp[go_sem,wI]
  exact wR
def AT (s:aiA) (a b:Int):Int×Int:=
 if s= [43]then fk (a+b)else if s= [45]then fk (a - b)else if s= [42]then fk (a*b)
 else if b=0 then(0,17)else if s= [37]then(a.tmod b,0)else fk (a.tdiv b)
theorem wc0 {b:Int} (ha:gz a) (hb:gz b):gz (a.tmod b):=by
 unfold gz at*
 by_cases q:b=0
 .subst q;rw[Int.tmod_zero];exact ha
 .have h2:(a.tmod b).natAbs=a.natAbs%b.natAbs:=Int.natAbs_tmod a b
  have h3:a.natAbs%b.natAbs<=a.natAbs:=Nat.mod_le _ _
  have h4:(a.tmod b).natAbs<b.natAbs:=by
   rw[h2];exact Cs _ om
  omega
theorem wb9 {b:Int} (ha:gz a) (_hb:gz b) (h:b≠ -1):gz (a.tdiv b):=by
 unfold gz at*
 have h2:(a.tdiv b).natAbs=a.natAbs/b.natAbs:=Int.natAbs_tdiv a b
 by_cases q:b.natAbs<=1
 .have:b=0\/b=1:=om
  rcases this with rfl|rfl
  .rw[Int.tdiv_zero];omega
  .rw[Int.tdiv_one];exact ha
 .have h3:a.natAbs/b.natAbs<=a.natAbs/2:=Nat.div_le_div_left om om
  omega
theorem xN0 (s:aiA) (a b:Int) (ha:gz a) (aa:gz b):Pure prog 310 [.str s,.int .i64 a,.int .i64 b] (wI (AT s a b)):=by
 have c1:=OG a b ha aa
 have c2:=OI a b ha aa
 have c3:=wo9 a b ha aa
 have c4:=OI 0 a dC ha
 have e4:fk (0 - a)=fk (-a):=by congr 1;omega
 rw[e4]at c4
 have wr: ∀{x:Int×Int} {M:Int×Int} {I:St},x=M->cw (some (.cz [.int .i64 x.1,.int .i64 x.2])) 0 (λv s=>v=wI M/\s= []) I:=λh=>wZ h.symm
 generalize hM:AT s a b=M
 unfold AT at hM
 refine iW 0 func310 ntmps310 results310 λc hc hb=>zM ?_
 simp[go_sem]
 by_cases s1:s= [43]
 .simp only[s1,ai2]at hM
  simp[go_sem,s1]
  refine pC c1 ?_
  simp[go_sem,wI]
  exact wr hM
 by_cases s2:s= [45]
 .rw[ai1 s1,ai2 s2]at hM
  simp[go_sem,s2]
  refine pC c2 ?_
  simp[go_sem,wI]
  exact wr hM
 by_cases s3:s= [42]
 .rw[ai1 s1,ai1 s2,ai2 s3]at hM
  simp[go_sem,s3]
  refine pC c3 ?_
  simp[go_sem,wI]
  exact wr hM
 rw[ai1 s1,ai1 s2,ai1 s3]at hM
 have af:(s== [43])=false:=sU s1
 have ah:(s== [45])=false:=sU s2
 have ai:(s== [42])=false:=sU s3
 simp[go_sem,af,ah,ai]
 by_cases b0:b=0
 .rw[ai2 b0]at hM
  have ab:(b==0)=true:=sU b0
  simp[go_sem,ab]
  exact wZ hM.symm
 rw[ai1 b0]at hM
 have ab:(b==0)=false:=sU b0
 simp[go_sem,ab]
 by_cases s4:s= [37]
 .rw[ai2 s4]at hM
  have ad:(s== [37])=true:=sU s4
  simp[go_sem,ad]
  refine zH b0 ?_
  simp[go_sem]
  exact wZ hM.symm
 rw[ai1 s4]at hM
 have ad:(s== [37])=false:=sU s4
 simp[go_sem,ad]
 by_cases b1:b= -1
 .rw[b1,Int.tdiv_neg,Int.tdiv_one]at hM
  have ae:(b== -1)=true:=sU b1
  simp[go_sem,ae]
  refine pC c4 ?_
  simp[go_sem,wI]
  exact wr hM
 have ae:(b== -1)=false:=sU b1
 have ok:=wb9 ha aa b1
 unfold fk at hM
 rw[ai2 ok]at hM
 simp[go_sem,ae,vq ok]
 refine zH b0 ?_
 simp[go_sem]
 exact wZ hM.symm
def jb (a b:aiA):Int:=if Op.bytesLess a b=true then -1 else if Op.bytesLess b a=true then 1 else 0
theorem Ub: ∀a b:aiA,Lib.compareBytes a b=jb a b
 | [],[]=>rfl
 | [],_::_=>rfl
 |_::_,[]=>rfl
 |x::a,y::b=>by
  have ih:=Ub a b
  rw[Lib.compareBytes]
  unfold jb at ih⊢
  rw[KQ,KQ]
  have h1:(x<y)↔x.toNat<y.toNat:=UInt8.lt_iff_toNat_lt
  have h2:(y<x)↔y.toNat<x.toNat:=UInt8.lt_iff_toNat_lt
  by_cases q:x<y
  .have:=h1.1 q
   rw[ai2 q,ai2 this]
   rfl
  by_cases q2:y<x
  .have:=h2.1 q2
   have n1: ¬x.toNat<y.toNat:=λh=>q (h1.2 h)
   rw[ai1 q,ai2 q2,ai1 n1,ai2 this,ai2 this]
   rfl
  .have n1:=λh=>q (h1.2 h)
   have n2:=λh=>q2 (h2.2 h)
   rw[ai1 q,ai1 q2,ai1 n1,ai1 n2,ai1 n2,ai1 n1]
   exact ih
theorem yM5 {a b:aiA} {c:Ctx} {K:V->St->Prop} {e:Fx K} (hk:K (.int .i64 (jb a b)) I):jk prog c (.fn 288 []) [.str a,.str b] I K e:=by
 refine⟨_,[],rfl,.inr λw L J aa hm ha=> ?_⟩
 match aa,ha with
 | [v1,v2],⟨h1,h2,_⟩=>
  rw[lk h1,lk h2]
  refine⟨.int .i64 (jb a b),.int .i64 (jb a b),w,L,I,J, ?_,hk,hm,Le.refl _ _,Ext.refl _ _,cF.int _ _⟩
  rw[run_callFunc_extern func288 kR kR kR (e:=Extern.BytealgCompare.compare) kR,Lib.run_compareString]
  rw[List.toList_toArray,List.toList_toArray,Ub]
  rfl
theorem xs6 (a b:aiA):Pure prog 237 [.str a,.str b] (.int .i64 (jb a b)):=by
 refine iW 0 func237 ntmps237 results237 λc hc hb=>zM ?_
 simp[go_sem]
 refine yM5 ?_
 simp[go_sem]
 exact wR
theorem Uc (a b:aiA):Pure prog 166 [.str a,.str b] (.int .i64 (jb a b)):=by
 refine iW 0 func166 ntmps166 results166 λc hc hb=>zM ?_
 simp[go_sem]
 refine pC (xs6 a b) ?_
 simp[go_sem]
 exact wR
theorem Ud (x:Int):Pure prog 282 [.int .i64 x] (.bool false):=by
 refine iW 0 func282 ntmps282 results282 λc hc hb=>zM ?_
 simp[go_sem]
 exact wR
theorem yZ0 (x y:Int):Pure prog 225 [.int .i64 x,.int .i64 y] (.int .i64 (gx x y)):=by
 generalize hM:gx x y=M
 have ret: ∀(r:Int) (I:St),r=M->cw (some (.int .i64 r)) 0 (λr s=>r= .int .i64 M/\s= []) I:=λr I h=>by subst h;exact wR
 unfold gx at hM
 refine iW 0 func225 ntmps225 results225 λc hc hb=>zM ?_
 simp[go_sem]
 refine pC (Ud x) ?_
 simp[go_sem]
 refine pC (Ud y) ?_
 simp[go_sem]
 repeat' (first|(refine zV (λq=> ?_) (λq=> ?_)<;>simp[go_sem,q]))
 all_goals exact ret _ _ (by rw[<-hM];simp only[ai7,ai9]at*;(repeat' split)<;>omega)
def tZ:aiD->Int
 | []=>0
 |x::l=>if x=0 then tZ l else x
theorem Ii (l:aiD) (hl:l.length<=maxLen):Pure prog 164 [.sl .ro (l.map λn=> [V.int .i64 n])] (.int .i64 (tZ l)):=by
 generalize hM:tZ l=M
 have ret: ∀(r:Int) (I:St),r=M->cw (some (.int .i64 r)) 0 (λr s=>r= .int .i64 M/\s= []) I:=λr I h=>by subst h;exact wR
 refine iV 0 func164 ntmps164 results164 λc hc hb=> ?_
 refine zA ?_
 simp[go_sem]
 refine zI (S:=Nat) [3,6,7,8] (λi=> [.int .i64 0,.sl .ro (l.map λn=> [V.int .i64 n]),.int .i64 l.length,.int .i64 i]) (λ_=> []) (λi=>l.length - i) (λi=>i<=l.length/\tZ (l.drop i)=M) hc hb 0 ⟨A3 _,hM⟩ ?_ ?_
 .exact aO
 rintro i ⟨hi,hinv⟩
 by_cases q:i<l.length
 rotate_left
 .have e:l.drop i= []:=A9 om
  rw[e]at hinv
  refine zA ?_
  simp[go_sem,q]
  exact ret _ _ hinv
 have ei:=zU q (by unfold maxLen at hl;omega)
 obtain⟨r,hr⟩:=eX (l[i])
 rw[A5 q,tZ,hr]at hinv
 refine zA ?_
 simp[go_sem,q,hr]
 by_cases w1:r=0
 .rw[ai2 w1]at hinv
  have aa:(r !=0)=false:=by simp[w1]
  simp[go_sem,aa,ei]
  exact zJ (i+1) ⟨om,⟨q,hinv⟩,aO⟩
 rw[ai1 w1]at hinv
 have aa:(r !=0)=true:=sU w1
 simp[go_sem,aa]
 exact ret _ _ hinv
def jx (a b:bK):Int:=tZ [gx a.kind b.kind,gx a.n b.n,jb a.s b.s]
theorem Ue (a b:bK):Pure prog 161 [.agg a.row,.agg b.row] (.int .i64 (jx a b)):=by
 have h:=Ii [gx a.kind b.kind,gx a.n b.n,jb a.s b.s] (by simp[maxLen])
 have h1:=OA a.kind b.kind
 have h2:=yZ0 a.n b.n
 have h3:=Uc a.s b.s
 unfold jx
 generalize tZ [gx a.kind b.kind,gx a.n b.n,jb a.s b.s]=M at*
 refine iW 0 func161 ntmps161 results161 λc hc hb=>zM ?_
 simp[go_sem]
 refine yI [(4,0),(9,0),(14,0),(16,0)] 2 rfl kR kR ?_
 simp[go_sem]
 refine pD h1 ?_
 simp[go_sem]
 refine pD h2 ?_
 simp[go_sem]
 refine pD h3 ?_
 simp[go_sem]
 refine pD h ?_
 simp[go_sem]
 exact wR
def fm (x:bK×Int):V:= .cz [.agg x.1.row,.int .i64 x.2]
def zeroV:bK:=⟨0,0,[]⟩
def xk (r:Int×Int):bK×Int:=if r.2=0 then(⟨2,r.1,[]⟩,0)else(zeroV,r.2)
theorem Uf {x:bK×Int} {k n e:Int} {s:aiA} (h:x=(⟨k,n,s⟩,e)):cw (some (.cz [.agg [.int .i64 k,.int .i64 n,.str s],.int .i64 e])) 0 (λv s=>v=fm x/\s= []) I:=by
 subst h
 exact wR
theorem Ug (r:Int×Int):Pure prog 307 [.int .i64 r.1,.int .i64 r.2] (fm (xk r)):=by
 generalize hM:xk r=M
 unfold xk at hM
 refine iW 0 func307 ntmps307 results307 λc hc hb=>zM ?_
 simp[go_sem]
 by_cases q:r.2=0
 .rw[ai2 q]at hM
  have q1:(r.2 !=0)=false:=sU q
  simp[go_sem,q1]
  exact Uf hM.symm
 .rw[ai1 q]at hM
  have q1:(r.2 !=0)=true:=sU q
  simp[go_sem,q1]
  exact Uf hM.symm
def Gm (s:aiA) (c:Int):Bool:=
 if s= [61]then c==0 else if s= [60,62]then c !=0 else if s= [60]then decide (c<0)else if s= [60,61]then decide (c<=0)else if s= [62]then decide (0<c)else decide (0<=c)
theorem xW9 (s:aiA) (x:Int):Pure prog 309 [.str s,.int .i64 x] (.bool (Gm s x)):=by
 generalize hM:Gm s x=M
 have ret: ∀(r:Bool) (I:St),r=M->cw (some (.bool r)) 0 (λr s=>r= .bool M/\s= []) I:=λr I h=>by subst h;exact wR
 unfold Gm at hM
 refine iW 0 func309 ntmps309 results309 λc hc hb=>zM ?_
 simp[go_sem]
 repeat' (first|(refine zV (λq=> ?_) (λq=> ?_)<;>simp[go_sem,q]))
 all_goals exact ret _ _ (by rw[<-hM];simp only[ai8,beq_eq_false_iff_ne,ne_eq]at*;simp_all)
def Eu (v:bK):Bool:=v.kind==1&&(v.n==1&&v.s.isEmpty)
theorem Uh (v:bK):Pure prog 156 [.agg v.row] (.bool (Eu v)):=by
 have h:=FU true
 refine iW 0 func156 ntmps156 results156 λc hc hb=>zM ?_
 simp[go_sem]
 refine yI [(1,0)] 1 rfl kR kR ?_
 simp[go_sem]
 refine pD h ?_
 simp[go_sem,uT]
 exact wR
def su (xm:Int):List bK->Bool->bK
 | [],b=>if b=true then zeroV else uT (xm==0)
 |v::l,b=>if v.kind=0 then su xm l true else if v.n=xm then v else su xm l b
theorem Ui (l:List bK) (aa:Int) (hl:l.length<=maxLen):Pure prog 306 [.sl .ro (l.map bK.row),.int .i64 aa] (.agg (su aa l false).row):=by
 generalize hM:su aa l false=M
 have ret: ∀(v:bK) (I:St),v=M->cw (some (.agg v.row)) 0 (λr s=>r= .agg M.row/\s= []) I:=λv I h=>by subst h;exact wR
 refine iV 0 func306 ntmps306 results306 λc hc hb=> ?_
 refine zA ?_
 simp[go_sem]
 refine zI (S:=Nat×Bool) [1,4,5,8,9,10] (λu=> [.int .i64 aa,.ptr 0 0,.bool u.2,.sl .ro (l.map bK.row),.int .i64 l.length,.int .i64 u.1]) (λ_=> [.box [.int .i64 0,.int .i64 0,.str []]]) (λu=>l.length - u.1)
  (λu=>u.1<=l.length/\su aa (l.drop u.1) u.2=M) hc hb (0,false) ⟨A3 _,hM⟩ ?_ ?_
 .exact aN 1 (by simp[bT,cS,cN])
 rintro⟨i,b⟩ ⟨hi,hinv⟩
 simp only at hi hinv
 by_cases q:i<l.length
 rotate_left
 .have e:l.drop i= []:=A9 om
  rw[e,su]at hinv
  refine zA ?_
  simp[go_sem,q]
  by_cases w1:b=true
  .rw[ai2 w1]at hinv
   simp[go_sem,w1]
   exact ret zeroV _ hinv
  .rw[ai1 w1]at hinv
   have ab:b=false:=sU w1
   simp[go_sem,ab]
   refine pC (FU (aa==0)) ?_
   simp[go_sem]
   exact ret _ _ hinv
 have ei:=zU q (by unfold maxLen at hl;omega)
 obtain⟨r,hr⟩:=eX (l[i])
 rw[A5 q,su,hr]at hinv
 refine zA ?_
 simp[go_sem,q,hr]
 refine pC (Kh r) ?_
 simp[go_sem]
 by_cases w1:r.kind=0
 .rw[ai2 w1]at hinv
  have ab:(r.kind==0)=true:=sU w1
  simp[go_sem,ab,ei]
  exact zJ (i+1,true) ⟨by simp only;omega,⟨q,hinv⟩,aN 1 (by simp[bT,cS,cN])⟩
 rw[ai1 w1]at hinv
 have ab:(r.kind==0)=false:=sU w1
 by_cases w2:r.n=aa
 .rw[ai2 w2]at hinv
  have ad:(r.n==aa)=true:=sU w2
  simp[go_sem,ab,ad]
  exact ret r _ hinv
 rw[ai1 w2]at hinv
 have ad:(r.n==aa)=false:=sU w2
 simp[go_sem,ab,ad,ei]
 exact zJ (i+1,b) ⟨by simp only;omega,⟨q,hinv⟩,aN 1 (by simp[bT,cS,cN])⟩
def mL:List aiA:= [[61],[60,62],[60],[60,61],[62],[62,61]]
def ua (s:aiA) (l:List bK):bK×Int:=
 let x:=l.getD 0 zeroV
 let y:=l.getD 1 zeroV
 if s= [73,83,78,85,76,76]then(uT (x.kind==0),0)
 else if s= [78,79,84,78,85,76,76]then(uT (!(x.kind==0)),0)
 else if s= [65,78,68]then(su 0 l false,0)
 else if s= [79,82]then(su 1 l false,0)
 else if(l.any λv=>v.kind==0)=true then(zeroV,0)
 else if s= [78,79,84]then(uT (!Eu x),0)
 else if s= [78,69,71]then xk (fk (-x.n))
 else if mL.contains s=true then(uT (Gm s (jx x y)),0)
 else xk (AT s x.n y.n)
theorem xn {x:bK×Int} {M:bK×Int} (h:x=M):cw (some (.cz [.agg x.1.row,.int .i64 x.2])) 0 (λv s=>v=fm M/\s= []) I:=by
 subst h
 exact wR
theorem wj0 (s:aiA) (l:List bK) (h1:1<=l.length) (h2:l.length<=2) (hn: ∀v∈l,gz v.n) (hs:l.length=1->s= [73,83,78,85,76,76]\/s= [78,79,84,78,85,76,76]\/s= [78,79,84]\/s= [78,69,71]):
  Pure prog 258 [.str s,.sl .ro (l.map bK.row)] (fm (ua s l)):=by
 obtain⟨x,hx⟩:=eX (l[0]'h1)
 have ah:l.getD 0 zeroV=x:=by rw[Al,A0 h1,hx];rfl
 have ao:l[0]? =some x:=by rw[A0 h1,hx]
 have aa:0<l.length:=h1
 have ad:gz x.n:=hn x (hx▸A8 h1)
 generalize hM:ua s l=M
 have ret: ∀(v:bK) (e:Int) (I:St),(v,e)=M->cw (some (.cz [.agg v.row,.int .i64 e])) 0 (λr s=>r=fm M/\s= []) I:=λv e I h=>xn h
 unfold ua at hM
 simp only[ah]at hM
 refine iV 0 func258 ntmps258 results258 λc hc hb=> ?_
 by_cases a1:s= [73,83,78,85,76,76]
 .rw[ai2 a1]at hM
  refine zA ?_
  simp[go_sem,a1,aa,hx]
  refine pC (Kh x) ?_
  simp[go_sem]
  refine pC (FU (x.kind==0)) ?_
  simp[go_sem]
  exact ret _ _ _ hM
 by_cases a2:s= [78,79,84,78,85,76,76]
 .rw[ai1 a1,ai2 a2]at hM
  refine zA ?_
  simp[go_sem,a2,aa,hx]
  refine pC (Kh x) ?_
  simp[go_sem]
  refine pC (FU (!(x.kind==0))) ?_
  simp[go_sem]
  exact ret _ _ _ hM
 by_cases a3:s= [65,78,68]
 .rw[ai1 a1,ai1 a2,ai2 a3]at hM
  refine zA ?_
  simp[go_sem,a3]
  refine pC (Ui l 0 (by unfold maxLen;omega)) ?_
  simp[go_sem]
  exact ret _ _ _ hM
 by_cases a4:s= [79,82]
 .rw[ai1 a1,ai1 a2,ai1 a3,ai2 a4]at hM
  refine zA ?_
  simp[go_sem,a4]
  refine pC (Ui l 1 (by unfold maxLen;omega)) ?_
  simp[go_sem]
  exact ret _ _ _ hM
 rw[ai1 a1,ai1 a2,ai1 a3,ai1 a4]at hM
 have b1:(s== [73,83,78,85,76,76])=false:=sU a1
 have b2:(s== [78,79,84,78,85,76,76])=false:=sU a2
 have b3:(s== [65,78,68])=false:=sU a3
 have b4:(s== [79,82])=false:=sU a4
 refine zA ?_
 simp[go_sem,b1,b2,b3,b4]
 refine zI (S:=Nat) [0,1,4,5,32,33,34] (λi=> [.str s,.sl .ro (l.map bK.row),.ptr 0 0,.int .i64 0,.sl .ro (l.map bK.row),.int .i64 l.length,.int .i64 i]) (λ_=> [.box [.int .i64 0,.int .i64 0,.str []]]) (λi=>l.length - i)
  (λi=>i<=l.length/\((l.drop i).any λv=>v.kind==0)=(l.any λv=>v.kind==0)) hc hb 0 ⟨A3 _,rfl⟩ ?_ ?_
 .exact aN 1 (by simp[bT,cS,cN])
 rintro i ⟨hi,hinv⟩
 by_cases q:i<l.length
 .have ei:=zU q om
  obtain⟨r,hr⟩:=eX (l[i])
  rw[A5 q,aiy,hr]at hinv
  refine zA ?_
  simp[go_sem,q,hr]
  refine pC (Kh r) ?_
  simp[go_sem]
  by_cases w1:r.kind=0
  .have ab:(r.kind==0)=true:=sU w1
   rw[ab,Dh]at hinv
   rw[ai2 hinv.symm]at hM
   simp[go_sem,ab]
   exact ret zeroV 0 _ hM
  .have ab:(r.kind==0)=false:=sU w1
   rw[ab,C5]at hinv
   simp[go_sem,ab,ei]
   exact zJ (i+1) ⟨om,⟨q,hinv⟩,aN 1 (by simp[bT,cS,cN])⟩
 have e:l.drop i= []:=A9 om
 rw[e,List.any_nil]at hinv
 rw[ai1 (by rw[<-hinv];exact Bool.false_ne_true)]at hM
 by_cases a5:s= [78,79,84]
 .rw[ai2 a5]at hM
  refine zA ?_
  simp[go_sem,q,a5,aa,hx]
  refine pC (Uh x) ?_
  simp[go_sem]
  refine pC (FU (!Eu x)) ?_
  simp[go_sem]
  exact ret _ _ _ hM
 by_cases a6:s= [78,69,71]
 .rw[ai1 a5,ai2 a6]at hM
  refine zA ?_
  simp[go_sem,q,a6,aa,hx]
  refine pC (OI 0 x.n dC ad) ?_
  simp[go_sem,wI]
  refine pC (Ug (fk (-x.n))) ?_
  simp[go_sem,fm]
  exact xn hM
 rw[ai1 a5,ai1 a6]at hM
 have h3:1<l.length:=by
  by_cases q:1<l.length
  .exact q
  .rcases hs om with h|h|h|h
   .exact absurd h a1
   .exact absurd h a2
   .exact absurd h a5
   .exact absurd h a6
 obtain⟨y,hy⟩:=eX (l[1]'h3)
 have ai:l.getD 1 zeroV=y:=by rw[Al,A0 h3,hy];rfl
 have aj:gz y.n:=hn y (hy▸A8 h3)
 rw[ai]at hM
 have b5:(s== [78,79,84])=false:=sU a5
 have b6:(s== [78,69,71])=false:=sU a6
 have ak:=Ue x y
 have ae:=xW9 s (jx x y)
 have af:=FU (Gm s (jx x y))
 have al:=xN0 s x.n y.n ad aj
 have an:=Ug (AT s x.n y.n)
 by_cases a7:mL.contains s=true
 .rw[ai2 a7]at hM
  have a8:s= [61]\/s= [60,62]\/s= [60]\/s= [60,61]\/s= [62]\/s= [62,61]:=by
   simpa[mL]using a7
  rcases a8 with a8|a8|a8|a8|a8|a8
  all_goals
   rw[a8]at ae af hM
   refine zA ?_
   simp[go_sem,q,a8]
   refine yI [(7,0),(8,0),(9,0)] 1 rfl kR kR ?_
   simp[go_sem,aa,hx,h3,hy]
   refine zH om ?_
   simp[go_sem]
   refine pD ak ?_
   simp[go_sem]
   refine pD ae ?_
   simp[go_sem]
   refine pD af ?_
   simp[go_sem]
   exact ret _ _ _ hM
 rw[ai1 a7]at hM
 have a8: ¬s= [61]/\ ¬s= [60,62]/\ ¬s= [60]/\ ¬s= [60,61]/\ ¬s= [62]/\ ¬s= [62,61]:=by
  simpa[mL]using a7
 have c1:(s== [61])=false:=sU a8.1
 have c2:(s== [60,62])=false:=sU a8.2.1
 have c3:(s== [60])=false:=sU a8.2.2.1
 have c4:(s== [60,61])=false:=sU a8.2.2.2.1
 have c5:(s== [62])=false:=sU a8.2.2.2.2.1
 have c6:(s== [62,61])=false:=sU a8.2.2.2.2.2
 refine zA ?_
 simp[go_sem,q,b5,b6,c1,c2,c3,c4,c5,c6]
 refine yI [(9,0),(12,0)] 1 rfl kR kR ?_
 simp[go_sem,aa,hx,h3,hy]
 refine zH om ?_
 simp[go_sem]
 refine pD al ?_
 simp[go_sem,wI]
 refine pD an ?_
 simp[go_sem,fm]
 exact xn hM
mutual
def nV (T:bL) (row:List bK):bJ->bK×Int
 | .mk k s v args=>
  if k=1 then(v,0)else if k=2 then(row.getD (cU T s).toNat zeroV,0)
  else if(gr T row args).2≠0 then(zeroV,(gr T row args).2)else ua s (gr T row args).1
def gr (T:bL) (row:List bK):List bJ->List bK×Int
 | []=>([],0)
 |e::l=>if(nV T row e).2≠0 then([],(nV T row e).2)else((nV T row e).1::(gr T row l).1,(gr T row l).2)
end
theorem Uj (T:bL) (row:List bK) (e:bJ):nV T row e=
  if e.kind=1 then(e.v,0)else if e.kind=2 then(row.getD (cU T e.s).toNat zeroV,0)
  else if(gr T row e.args).2≠0 then(zeroV,(gr T row e.args).2)else ua e.s (gr T row e.args).1:=by cases e;rfl
structure VK (v:bK) (k:Int):Prop where
 may:eD v=true
 n:gz v.n
 kind:v.kind=k\/v.kind=0
theorem Gn (k:Int):VK zeroV k:=⟨dC,dC,.inr rfl⟩
theorem Lb (b:Bool):VK (uT b) 1:=by cases b<;>exact⟨dC,dC,.inl rfl⟩
theorem OJ (n:Int):gz (fk n).1:=by
 grind[fk]
theorem xd2 {s:aiA} {a b:Int} (ha:gz a) (hb:gz b):gz (AT s a b).1:=by
 unfold AT
 repeat' split
 all_goals first|exact OJ _|exact wc0 ha hb|decide
theorem Uk {r:Int×Int} (h:gz r.1):VK (xk r).1 2:=by
 unfold xk
 split
 .exact⟨rfl,h,.inl rfl⟩
 grind[Gn]
theorem Lc (w:Int): ∀(l:List bK) (b:Bool),(∀v∈l,VK v 1)->VK (su w l b) 1
 | [],b,_=>by
  grind[su,Gn,Lb]
 |v::l,b,h=>by
  rw[su]
  split
  .exact Lc w l true λx hx=>h x (B5 _ hx)
  .split
   .exact h v (Av ..)
   .exact Lc w l b λx hx=>h x (B5 _ hx)
theorem Gp {m s:Bool} {k k':Int} (h:wz m s k=(k',0)):m=true/\s=true/\k'=k:=by
 unfold wz at h
 grind
inductive OpK (s:aiA) (ks:aiD) (k:Int):Prop
 |null (hs:s= [73,83,78,85,76,76]\/s= [78,79,84,78,85,76,76]) (hl:ks.length=1) (hk:k=1)
 |not (hs:s= [78,79,84]) (hl:ks.length=1) (ha:iz ks 1) (hk:k=1)
 |neg (hs:s= [78,69,71]) (hl:ks.length=1) (ha:iz ks 2) (hk:k=2)
 |both (hs:s= [79,82]\/s= [65,78,68]) (hl:ks.length=2) (ha:iz ks 1) (hk:k=1)
 |sum (hs:s= [43]\/s= [45]\/s= [42]\/s= [47]\/s= [37]) (hl:ks.length=2) (ha:iz ks 2) (hk:k=2)
 |cmp (hs:s= [61]\/s= [60,62]\/s= [60]\/s= [60,61]\/s= [62]\/s= [62,61]) (hl:ks.length=2) (hk:k=1)
theorem xL6 {s:aiA} {ks:aiD} {k:Int} (h:oW s ks=(k,0)):OpK s ks k:=by
 have one:((ks.length:Int)==1)=true->ks.length=1:=(by grind)
 have two:((ks.length:Int)==2)=true->ks.length=2:=(by grind)
 unfold oW at h
 split at h
 .obtain⟨h1,_,h3⟩:=Gp h;exact .null om (one h1) h3
 split at h
 .obtain⟨h1,h2,h3⟩:=Gp h;exact .not om (one h1) h2 h3
 split at h
 .obtain⟨h1,h2,h3⟩:=Gp h;exact .neg om (one h1) h2 h3
 split at h
 .obtain⟨h1,h2,h3⟩:=Gp h;exact .both om (two h1) h2 h3
 split at h
 .obtain⟨h1,h2,h3⟩:=Gp h;exact .sum om (two h1) h2 h3
 split at h
 .obtain⟨h1,_,h3⟩:=Gp h;exact .cmp om (two h1) h3
 grind
theorem Ul {R:bK->Int->Prop}: ∀{l:List bK} {ks:aiD},bP R l ks->l.length=ks.length
 | [],[],_=>rfl
 |_::_,_::_,⟨_,h⟩=>by rw[Af,Af,Ul h]
theorem OK {k:Int}: ∀{l:List bK} {ks:aiD},bP VK l ks->iz ks k=true-> ∀v∈l,VK v k
 | [],[],_,_,v,hv=>by cases hv
 |x::l,y::ks,⟨h1,h2⟩,ha,v,hv=>by
  unfold iz at ha
  rw[Bt,Ac,Ce,ai8,ai8]at ha
  rcases Ae.1 hv with rfl|hv
  .exact⟨h1.may,h1.n,by
    rcases h1.kind with q|q
    all_goals omega⟩
  .exact OK h2 ha.2 v hv
theorem Um {R:bK->Int->Prop} (hR: ∀v k,R v k->gz v.n): ∀{l:List bK} {ks:aiD},bP R l ks-> ∀v∈l,gz v.n
 | [],[],_,v,hv=>by cases hv
 |x::l,y::ks,⟨h1,h2⟩,v,hv=>by
  rcases Ae.1 hv with rfl|hv
  .grind
  .exact Um hR h2 v hv
theorem xt0 (l:List bK):ua [78,79,84] l=if(l.any λv=>v.kind==0)=true then(zeroV,0)else(uT (!Eu (l.getD 0 zeroV)),0):=rfl
theorem xs9 (l:List bK):ua [78,69,71] l=if(l.any λv=>v.kind==0)=true then(zeroV,0)else xk (fk (-(l.getD 0 zeroV).n)):=rfl
theorem xs8 {s:aiA} (hs:s= [61]\/s= [60,62]\/s= [60]\/s= [60,61]\/s= [62]\/s= [62,61]) (l:List bK):
  ua s l=if(l.any λv=>v.kind==0)=true then(zeroV,0)else(uT (Gm s (jx (l.getD 0 zeroV) (l.getD 1 zeroV))),0):=by
 rcases hs with rfl|rfl|rfl|rfl|rfl|rfl<;>rfl
theorem xt1 {s:aiA} (hs:s= [43]\/s= [45]\/s= [42]\/s= [47]\/s= [37]) (l:List bK):
  ua s l=if(l.any λv=>v.kind==0)=true then(zeroV,0)else xk (AT s (l.getD 0 zeroV).n (l.getD 1 zeroV).n):=by
 rcases hs with rfl|rfl|rfl|rfl|rfl<;>rfl
theorem Un {s:aiA} {l:List bK} {ks:aiD} {k:Int} (ho:oW s ks=(k,0)) (ha:bP VK l ks):
  VK (ua s l).1 k/\1<=l.length/\l.length<=2/\(∀v∈l,gz v.n)/\(l.length=1->s= [73,83,78,85,76,76]\/s= [78,79,84,78,85,76,76]\/s= [78,79,84]\/s= [78,69,71]):=by
 have hlen:=Ul ha
 have hn:=Um (λ_ _ h=>VK.n h) ha
 have hx: ∀j,gz (l.getD j zeroV).n:=λj=>by
  rw[Al]
  cases hj:l[j]? with
  |none=>decide
  |some v=>grind
 have ab: ∀n:Int,gz (fk n).1:=OJ
 cases xL6 ho with
 |null hs hl hk=>
  subst hk
  refine⟨?_,om,om,hn,(by grind)⟩
  rcases hs with rfl|rfl<;>exact Lb _
 |not hs hl aa hk=>
  grind[xt0,Gn,Lb]
 |neg hs hl aa hk=>
  grind[xs9,Gn,Uk]
 |both hs hl aa hk=>
  subst hk
  refine⟨?_,om,om,hn,om⟩
  rcases hs with rfl|rfl
  .exact Lc 1 l false (OK ha aa)
  .exact Lc 0 l false (OK ha aa)
 |sum hs hl aa hk=>
  grind[xt1,Gn,Uk,xd2]
 |cmp hs hl hk=>
  grind[xs8,Gn,Lb]
structure nW (T:bL) (row:List bK):Prop where
 len:row.length=T.cm.length
 cell: ∀(j:Nat) (C:fy) (v:bK),T.cm[j]? =some C->row[j]? =some v->VK v C.kind
theorem Ld {T:bL} {row:List bK} (hr:nW T row): ∀(n:Nat) (e:bJ),ig e<=n->Good e->(lI T e).2=0->(nV T row e).2=0->VK (nV T row e).1 (lI T e).1
 |0,e,h,_,_,_=>by grind[KH]
 |n+1,e,h,hg,hk,he=>by
  have ih:=Ld hr n
  have ad:=uW e
  rw[Uj]at he⊢
  rw[Ow]at hk⊢
  by_cases q1:e.kind=1
  .rw[ai2 q1]at hk⊢
   rw[ai2 q1]
   by_cases w:e.s.isEmpty=false\/e.args.isEmpty=false\/eD e.v=false
   .grind
   .rw[ai1 w]
    refine⟨by grind,⟨hg.v.n.1,hg.v.n.2⟩,.inl rfl⟩
  rw[ai1 q1]at hk he⊢
  rw[ai1 q1]
  by_cases q2:e.kind=2
  .rw[ai2 q2]at hk⊢
   rw[ai2 q2]
   by_cases w:cU T e.s<0
   .grind
   rw[ai1 w]at hk⊢
   by_cases w2:e.args.isEmpty=false\/nQ e.v=false
   .grind
   rw[ai1 w2]
   obtain⟨j,hj,aa⟩:=KX T e.s w
   have ab:j<row.length:=by rw[hr.len];omega
   simp only
   rw[hj,B1,Al,A0 ab]
   unfold kS
   rw[B1,A0 aa]
   exact hr.cell j _ _ sm sm
  rw[ai1 q2]at hk he⊢
  rw[ai1 q2]
  by_cases q3:e.kind=3
  rotate_left
  .grind
  rw[ai2 q3]at hk⊢
  have ae:=hg.sub
  have list: ∀args:List bJ,(∀x∈args,x∈e.args)->(wU T args).2=0->(gr T row args).2=0->bP VK (gr T row args).1 (wU T args).1:=by
   intro args
   induction args with
   |nil=>intro _ _ _;trivial
   |cons x l af=>
    intro hm hk he
    rw[wU]at hk⊢
    rw[gr]at he⊢
    by_cases w1:(lI T x).2=0
    rotate_left
    .grind
    by_cases w2:(nV T row x).2=0
    rotate_left
    .grind
    have n1: ¬(lI T x).2≠0:=om
    have n2: ¬(nV T row x).2≠0:=om
    rw[ai1 n1]at hk⊢
    rw[ai1 n2]at he⊢
    have hx:=hm x (Av ..)
    have ah:=DS e.args x hx
    exact⟨(by grind),(by grind)⟩
  by_cases w1:(wU T e.args).2=0
  rotate_left
  .grind
  by_cases w2:(gr T row e.args).2=0
  rotate_left
  .grind
  have n1: ¬(wU T e.args).2≠0:=om
  have n2: ¬(gr T row e.args).2≠0:=om
  rw[ai1 n1]at hk⊢
  rw[ai1 n2]at he⊢
  by_cases w3:nQ e.v=false
  .grind
  rw[ai1 w3]at hk⊢
  exact(Un (Prod.ext rfl hk) (by grind)).1
theorem Uo {T:bL}: ∀{args:List bJ},(wU T args).2=0-> ∀x∈args,(lI T x).2=0
 | [],_,x,hx=>by cases hx
 |y::l,h,x,hx=>by
  rw[wU]at h
  by_cases w:(lI T y).2=0
  .have n1: ¬(lI T y).2≠0:=λh=>h w
   rw[ai1 n1]at h
   rcases Ae.1 hx with rfl|hx
   .exact w
   .exact Uo h x hx
  .rw[ai2 w]at h;exact absurd h w
theorem Up {T:bL} {row:List bK} (hr:nW T row) (n:Nat): ∀{args:List bJ},(∀x∈args,ig x<=n/\Good x)->(wU T args).2=0->(gr T row args).2=0->bP VK (gr T row args).1 (wU T args).1
 | [],_,_,_=>trivial
 |x::l,hm,hk,he=>by
  rw[wU]at hk⊢
  rw[gr]at he⊢
  by_cases w1:(lI T x).2=0
  rotate_left
  .rw[ai2 w1]at hk;exact absurd hk w1
  by_cases w2:(nV T row x).2=0
  rotate_left
  .rw[ai2 w2]at he;exact absurd he w2
  have n1: ¬(lI T x).2≠0:=λh=>h w1
  have n2: ¬(nV T row x).2≠0:=λh=>h w2
  rw[ai1 n1]at hk⊢
  rw[ai1 n2]at he⊢
  have hx:=hm x (Av ..)
  exact⟨Ld hr n x hx.1 hx.2 w1 w2,Up hr n (λy hy=>hm y (B5 _ hy)) hk he⟩
theorem OL {T:bL} {row:List bK} (hr:nW T row) (hT:T.cm.length<=maxLen): ∀(n:Nat) (e:bJ),ig e<=n->fB e->Good e->(lI T e).2=0->Pure prog 213 [.agg T.row,.sl .ro (row.map bK.row),.agg e.row] (fm (nV T row e))
 |0,e,h,_,_,_=>by have:=KH e;omega
 |n+1,e,h,hw,hg,hk=>by
  have ih:=OL hr hT n
  have db:= @Up _ _ hr n
  have aw:=uW e
  have hlen:=hw.len
  have aj:=hw.sub
  have al:=hg.sub
  have af:=Gd T e.s hT
  rw[show iG (λc:fy=>c.name==e.s) T.cm 0=cU T e.s from rfl]at af
  obtain⟨M,hM⟩:=eX (nV T row e)
  rw[hM]
  rw[Uj]at hM
  rw[Ow]at hk
  have ret: ∀(v:bK) (e:Int) (I:St),(v,e)=M->cw (some (.cz [.agg v.row,.int .i64 e])) 0 (λr s=>r=fm M/\s= []) I:=λv e I h=>xn h
  refine iV 0 func213 ntmps213 results213 λc hc hb=> ?_
  refine zA ?_
  simp[go_sem]
  by_cases q1:e.kind=1
  .have ah:(e.kind==1)=true:=sU q1
   rw[ai2 q1]at hM
   simp[go_sem,ah]
   exact ret _ _ _ hM
  rw[ai1 q1]at hM hk
  have ah:(e.kind==1)=false:=sU q1
  by_cases q2:e.kind=2
  .have an:(e.kind==2)=true:=sU q2
   rw[ai2 q2]at hM hk
   by_cases w:cU T e.s<0
   .rw[ai2 w]at hk;cases hk
   obtain⟨j,hj,ax⟩:=KX T e.s w
   have aq:j<row.length:=by rw[hr.len];exact ax
   obtain⟨v,hv⟩:=eX (row[j])
   rw[hj,B1,Al,A0 aq,hv]at hM
   rw[hj]at af
   simp[go_sem,ah,an]
   refine zL af cB (zP sg rfl) rfl ?_
   simp[go_sem,aq,hv]
   exact ret _ _ _ hM
  rw[ai1 q2]at hM hk
  have an:(e.kind==2)=false:=sU q2
  by_cases q3:e.kind=3
  rotate_left
  .rw[ai1 q3]at hk;cases hk
  rw[ai2 q3]at hk
  obtain⟨args,ab⟩:=eX e.args
  rw[ab]at aw hlen aj al hM hk
  by_cases w1:(wU T args).2=0
  rotate_left
  .rw[ai2 w1]at hk;exact absurd hk w1
  have n1: ¬(wU T args).2≠0:=λh=>h w1
  rw[ai1 n1]at hk
  by_cases w3:nQ e.v=false
  .rw[ai2 w3]at hk;cases hk
  rw[ai1 w3]at hk
  have ay:oW e.s (wU T args).1=((oW e.s (wU T args).1).1,0):=Prod.ext rfl hk
  have ar:=Uo w1
  have ak:(gr T row args).2=0->bP VK (gr T row args).1 (wU T args).1:=λh=>
   db (λx hx=>⟨by have:=DS args x hx;omega,al x hx⟩) w1 h
  obtain⟨K,hK⟩:=eX (gr T row args)
  rw[hK]at hM ak
  simp[go_sem,ah,an,ab]
  refine l7 8 3 dC sg ?_
  refine zI (S:=Nat×List bK) [1,3,5,6,8,29,30,31] (λu=> [.sl .ro (row.map bK.row),.ptr 0 0,.ptr 1 0,.ptr 2 0,.sl (.app 3) (u.2.map bK.row),.sl .ro (args.map bJ.row),.int .i64 args.length,.int .i64 (u.1:Int)])
   (λu=> [.box T.row,.box e.row,.box [.int .i64 0,.int .i64 0,.str []],.app u.2.length 3]) (λu=>args.length - u.1)
   (λu=>u.1<=args.length/\u.2.length=u.1/\(gr T row (args.drop u.1)).2=K.2/\(K.2=0->u.2++(gr T row (args.drop u.1)).1=K.1)) hc hb (0,[])
   ⟨A3 _,rfl,by simp only[Bj];rw[hK],λ_=>by simp only[Bj];rw[hK];rfl⟩ ?_ ?_
  .exact cc 4 (by simp[go_sem,ab]) rfl (by simp[bT,cS,cN,bJ.bR,bL.row]) (A3 _) (zD sg rfl)
  rintro⟨i,l⟩ ⟨hi,hl,hinv,aa⟩
  simp only at hi hl hinv aa
  by_cases q:i<args.length
  rotate_left
  .rw[A9 om,gr]at hinv aa
   have ae:K.2=0:=hinv.symm
   have au:l=K.1:=by have:=aa ae;simpa using this
   have n2: ¬K.2≠0:=λh=>h ae
   rw[ai1 n2,<-au]at hM
   have hA:=ak ae
   rw[<-au]at hA
   obtain⟨_,d1,d2,d3,d4⟩:=Un ay hA
   have av:=wj0 e.s l d1 d2 d3 d4
   generalize ua e.s l=o at av hM
   refine zA ?_
   simp[go_sem,q]
   refine pC av ?_
   simp[go_sem,fm]
   exact xn hM
  have ei:=zU q om
  obtain⟨x,hx⟩:=eX (args[i])
  have ai:x∈args:=hx▸A8 q
  have az:=DS args x ai
  rw[A5 q,hx,gr]at hinv aa
  have ad:=ih x om (aj x ai) (al x ai) (ar x ai)
  generalize nV T row x=kx at ad hinv aa
  by_cases q4:kx.2=0
  .have n3: ¬kx.2≠0:=λh=>h q4
   rw[ai1 n3]at hinv aa
   have ao:(kx.2 !=0)=false:=sU q4
   refine zA ?_
   simp[go_sem,q,hx]
   refine zL ad cB (zP sg (by rw[bJ.bR];rfl)) rfl ?_
   simp[go_sem,fm,ao]
   refine zH ⟨om,by unfold eK;simp⟩ ?_
   simp[go_sem,ei]
   refine zJ (i+1,l++ [kx.1]) ⟨by simp only;omega,⟨by simp only;omega,by simp;omega,hinv,λh=>by have:=aa h;simpa using this⟩, ?_⟩
   exact aN 4 (by simp[bT,cS,cN,bJ.bR])
  .rw[ai2 q4]at hinv
   have ao:(kx.2 !=0)=true:=sU q4
   have ae:kx.2=K.2:=hinv
   rw[ai2 (by rw[<-ae];exact q4),<-ae]at hM
   refine zA ?_
   simp[go_sem,q,hx]
   refine zL ad cB (zP sg (by rw[bJ.bR];rfl)) rfl ?_
   simp[go_sem,fm,ao]
   exact ret zeroV _ _ hM
def eQ:bL:=⟨[],[],0,0,0,⟨[],[],[],0,0,0⟩⟩
theorem Uq:nW eQ []:=⟨rfl,λj C v h=>by simp[eQ]at h⟩
theorem xK1:eQ.cm= []:=rfl
def kA (e:bJ):bK×Int:=if(iL eQ e).2≠0 then(zeroV,(iL eQ e).2)else nV eQ [] e
theorem Ur {e:bJ} (he:jl e) (h:(kA e).2=0):VK (kA e).1 (iL eQ e).1:=by
 unfold kA at h⊢
 by_cases q:(iL eQ e).2=0
 rotate_left
 .rw[ai2 q]at h;exact absurd h q
 have n1: ¬(iL eQ e).2≠0:=λh=>h q
 rw[ai1 n1]at h⊢
 have hs:=he.size
 unfold iL at q⊢
 by_cases d:ig e<=64
 .rw[ai2 d]at q⊢
  exact Ld Uq 64 e d he.dV q h
 .rw[ai1 d]at q;cases q
theorem OM (e:bJ) (he:jl e):Pure prog 152 [.agg eQ.row,.sl .ro [],.agg e.row] (fm (kA e)):=by
 have ab:=KY eQ (by simp[eQ,maxLen]) e he
 have ad:=λ(d:ig e<=64) (k:(lI eQ e).2=0)=>OL Uq (by simp[eQ,maxLen]) 64 e d he.wide he.dV k
 generalize hM:kA e=M
 unfold kA at hM
 have ret: ∀(v:bK) (e:Int) (I:St),(v,e)=M->cw (some (.cz [.agg v.row,.int .i64 e])) 0 (λr s=>r=fm M/\s= []) I:=λv e I h=>xn h
 refine iV 0 func152 ntmps152 results152 λc hc hb=> ?_
 refine zA ?_
 simp[go_sem]
 refine zL ab cB (zP sg (by rw[bJ.bR];rfl)) rfl ?_
 simp[go_sem,wI]
 by_cases q:(iL eQ e).2=0
 rotate_left
 .have q':((iL eQ e).2 !=0)=true:=sU q
  rw[ai2 q]at hM
  simp[go_sem,q']
  exact ret zeroV _ _ hM
 have q':((iL eQ e).2 !=0)=false:=sU q
 have n1: ¬(iL eQ e).2≠0:=λh=>h q
 rw[ai1 n1]at hM
 have aa:Pure prog 213 [.agg eQ.row,.sl .ro [],.agg e.row] (fm (nV eQ [] e)):=by
  unfold iL at q
  by_cases d:ig e<=64
  .rw[ai2 d]at q;exact ad d q
  .rw[ai1 d]at q;cases q
 rw[hM]at aa
 simp[go_sem,q',xK1]
 refine zI (S:=Unit) [1,3,5,6,29,30,31] (λ_=> [.sl .ro [],.ptr 0 0,.ptr 1 0,.ptr 2 0,.sl .ro [],.int .i64 0,.int .i64 0])
   (λ_=> [.box eQ.row,.box e.row,.box [.int .i64 0,.int .i64 0,.str []]]) (λ_=>0) (λ_=>True) hc hb () trivial ?_ ?_
 .exact cc 3 (by simp[go_sem,eQ]) rfl (by simp[bT,cS,cN,bJ.bR,bL.row]) (A3 _) (zD sg rfl)
 rintro u _
 refine zA ?_
 simp[go_sem]
 refine zL aa cB (zP sg (by rw[bJ.bR];rfl)) rfl ?_
 simp[go_sem,fm]
 exact xn rfl
end Go.Proofs.YtplackkccmeioaaGreat
namespace Go.Proofs.YtplackkccmeioaaGreat.R
open Go Go.Vx Go.Proofs.Tryz
set_option maxRecDepth 100000
variable {cm:List fy}
def AU:List fy->List bK->Int
 |c::cs,v::vs=>if eD v=false then 9 else if v.kind=0/\c.null=false then 16 else if v.kind≠0/\v.kind≠c.kind then 15 else AU cs vs
 |_,_=>0
def ff (cm:List fy) (row:List bK):Int:=if row.length≠cm.length then 9 else AU cm row
theorem Us (t:bL) (row:List bK) (hr:row.length<=maxLen):Pure prog 150 [.agg t.row,.sl .ro (row.map bK.row)] (.int .i64 (ff t.cm row)):=by
 obtain⟨name,cm,key,place,region,mA⟩:=t
 refine iV 0 func150 ntmps150 results150 λc hc hb=> ?_
 refine zA ?_
 have ret: ∀(r:Int) (I:St),r=ff cm row->cw (some (.int .i64 r)) 0 (λr s=>r= .int .i64 (ff cm row)/\s= []) I:=λr I h=>by subst h;exact wR
 simp[go_sem]
 refine zV (λh=> ?_) (λh=> ?_)
 .have h:row.length≠cm.length:=by simp at h;omega
  simp[go_sem]
  exact ret _ _ (by rw[ff,ai2 h])
 have h:row.length=cm.length:=by simp at h;omega
 rw[ff,ai1 om]at ret⊢
 simp[go_sem]
 refine zI (S:=Nat) [2,13,14,15] (λi=> [.ptr 0 0,.sl .ro (row.map bK.row),.int .i64 row.length,.int .i64 i]) (λ_=> [.box (bL.row ⟨name,cm,key,place,region,mA⟩)]) (λi=>row.length - i) (λi=>i<=row.length/\AU (cm.drop i) (row.drop i)=AU cm row) hc hb 0 ⟨A3 _,rfl⟩ ?_ ?_
 .exact aN 1 rfl
 rintro i ⟨hi,hinv⟩
 refine zA ?_
 simp[go_sem]
 refine zV (λq=> ?_) (λq=> ?_)
 .have q:i<row.length:=sU q
  have q2:i<cm.length:=om
  have ei:=zU q (by unfold maxLen at hr;omega)
  rw[A5 q,A5 q2]at hinv
  obtain⟨⟨k,n,s⟩,hv⟩: ∃v,row[i]=v:=⟨_,rfl⟩
  obtain⟨⟨cn,ck,cb⟩,ab⟩: ∃v,cm[i]=v:=⟨_,rfl⟩
  rw[hv,ab,AU]at hinv
  simp only at hinv
  simp[go_sem,q,hv]
  refine pC (F8 ⟨k,n,s⟩) ?_
  simp[go_sem]
  refine zV (λh1=> ?_) (λh1=> ?_)
  .have h1:eD ⟨k,n,s⟩=false:=sU h1
   rw[ai2 h1]at hinv
   simp[go_sem]
   exact ret _ _ hinv
  have h1: ¬eD ⟨k,n,s⟩=false:=sU h1
  rw[ai1 h1]at hinv
  simp[go_sem]
  refine xD (λh2=> ?_) (λh2=> ?_)
  .have aa:k=0:=sU h2
   simp[go_sem,h2,q2,ab]
   refine zV (λh3=> ?_) (λh3=> ?_)
   .have h3:cb=false:=sU h3
    rw[ai2 ⟨aa,h3⟩]at hinv
    simp[go_sem]
    exact ret _ _ hinv
   have h3: ¬cb=false:=sU h3
   rw[ai1 (λw=>h3 w.2),ai1 (λw=>w.1 aa)]at hinv
   simp[go_sem]
   refine yI [] 2 rfl kR kR ?_
   simp[go_sem,aa,ei]
   exact zJ (i+1) ⟨om,⟨q,hinv⟩,aM 1 rfl (zD (by simp[go_sem]) rfl)⟩
  .have aa: ¬k=0:=sU h2
   rw[ai1 (λw=>aa w.1)]at hinv
   simp[go_sem,h2]
   refine yI [] 2 rfl kR kR ?_
   have ad:(k !=0)=true:=sU aa
   simp[go_sem,ad,q2,ab]
   refine zV (λh4=> ?_) (λh4=> ?_)
   .have h4: ¬k=ck:=sU h4
    rw[ai2 ⟨aa,h4⟩]at hinv
    simp[go_sem]
    exact ret _ _ hinv
   have h4:k=ck:=sU h4
   rw[ai1 (λw=>w.2 h4)]at hinv
   simp[go_sem,ei]
   exact zJ (i+1) ⟨om,⟨q,hinv⟩,aM 1 rfl (zD (by simp[go_sem]) rfl)⟩
 .have q:i=row.length:=by
   have: ¬i<row.length:=sU q
   omega
  subst q
  rw[Ci,h,Ci]at hinv
  simp[go_sem]
  exact ret _ _ hinv
def ub (n j:Nat) (t:bL) (row:List bK) (rg:Int->Int×Int):Int×aiA×Int:=
 if ff t.cm row≠0 then(0,[],ff t.cm row)
 else
  let r:=rg (if t.place=0 then min (max (row.headD v0).n (-1)) 4 else 0)
  if r.2≠0 then(0,[],r.2)else(r.1,nK n j (row.getD t.key.toNat v0),0)
def uc (r:Int×aiA×Int):V:= .cz [.int .i64 r.1,.str r.2.1,.int .i64 r.2.2]
theorem Ij {r:Int×aiA×Int} {a e:Int} {s:aiA} {I:St} (h:r=(a,s,e)):cw (some (.cz [.int .i64 a,.str s,.int .i64 e])) 0 (λv s=>v=uc r/\s= []) I:=by
 subst h
 exact wR
theorem xo {row:List bK} (h:ff cm row=0):row.length=cm.length:=by
 unfold ff at h
 split at h
 .cases h
 .rename_i h2;omega
theorem xA9 (ae:List (List V)) (ts:List bL) (j:Nat) (hj:j<ts.length) (t:bL) (ht:ts[j]=t) (row:List bK) (hr:row.length<=maxLen) (hL:ff t.cm row=0->iY row) (hn:ts.length<=cH) (hk:0<=t.key/\t.key<t.cm.length) (rg:Int->Int×Int)
  (ah: ∀r,-1<=r->r<=4->(t.place≠0->r=0)->Pure prog 114 [.agg [.sl .ro ae,.sl .ro (ts.map bL.row)],.int .i64 j,.int .i64 r] (.cz [.int .i64 (rg r).1,.int .i64 (rg r).2])):
  Pure prog 104 [.agg [.sl .ro ae,.sl .ro (ts.map bL.row)],.int .i64 j,.sl .ro (row.map bK.row)] (uc (ub ts.length j t row rg)):=by
 have af:=Us t row hr
 have hbound: ∀v:bK,v.ok->v.s.length<=500->_:=λv h1 h2=>Tf ae (ts.map bL.row) j v (sU hn) h1 h2
 simp only[Ai]at hbound
 generalize aa:ub ts.length j t row rg=res
 unfold ub at aa
 obtain⟨m,hm⟩:=eX (ff t.cm row)
 have hlen:m=0->row.length=t.cm.length:=λh=>xo (hm.trans h)
 rw[hm]at af hL aa
 obtain⟨name,cm,key,place,region,mA⟩:=t
 simp only at hk hlen aa
 obtain⟨q,rfl⟩: ∃q:Nat,key=q:=⟨key.toNat,om⟩
 refine iV 0 func104 ntmps104 results104 λc hc hb=> ?_
 refine zA ?_
 simp[go_sem]
 refine pC (jt ae (ts.map bL.row) j) ?_
 simp[go_sem,hj,ht]
 refine zL af cB (zP sg rfl) rfl ?_
 simp[go_sem]
 refine zV (λh=> ?_) (λh=> ?_)
 .have h:m≠0:=sU h
  simp[go_sem]
  exact Ij (by rw[<-aa,ai2 h])
 have h:m=0:=sU h
 have hl:=hlen h
 have hq:q<row.length:=om
 have h0:0<row.length:=om
 have ai:=hL h
 obtain⟨v,hv⟩:=eX (row[q])
 obtain⟨v1,aj⟩: ∃v,row[0]=v:=⟨_,rfl⟩
 have ak:v∈row:=hv▸A8 hq
 have e1:row.headD v0=v1:=by
  rw[<-aj]
  cases row with
  |nil=>simp at h0
  |cons a l=>rfl
 have e2:row.getD q v0=v:=by rw[Al,A0 hq,hv];rfl
 rw[ai1 om,e1,B1,e2]at aa
 have al:=hbound v (ai.ok v ak) (ai.s v ak)
 have fin: ∀(x:Int) (I:St),(if place=0 then min (max v1.n (-1)) 4 else 0)=x->((rg x).2≠0->res=(0,[],(rg x).2))/\((rg x).2=0->res=((rg x).1,nK ts.length j v,0)):=λx I hx=>by
  rw[hx]at aa
  exact⟨λw=>by rw[<-aa];exact ai2 w,λw=>by rw[<-aa];exact ai1 (λq=>q w)⟩
 simp[go_sem]
 refine zV (λhp=> ?_) (λhp=> ?_)
 .have hp:place=0:=sU hp
  simp[go_sem,h0,aj]
  obtain⟨x,hx⟩:=eX ((if 4<if v1.n< -1 then -1 else v1.n then 4 else if v1.n< -1 then -1 else v1.n))
  have an:x=min (max v1.n (-1)) 4:=by rw[<-hx];split<;>split<;>omega
  rw[hx]
  have ab:=fin x [] (by rw[ai2 hp,an])
  have ad:=ah x om om (λw=>absurd hp w)
  revert ab ad
  generalize rg x=o
  obtain⟨oa,oe⟩:=o
  intro ab ad
  simp only at ab ad
  refine pC ad ?_
  simp[go_sem]
  refine zV (λw=> ?_) (λw=> ?_)
  .have w:oe≠0:=sU w
   simp[go_sem]
   exact Ij (ab.1 w)
  have w:oe=0:=sU w
  simp[go_sem]
  refine yI [(8,0)] 2 rfl kR kR ?_
  simp[go_sem,hq,hv]
  refine pD al ?_
  simp[go_sem]
  exact Ij (ab.2 w)
 .have hp: ¬place=0:=sU hp
  have ab:=fin 0 [] (by rw[ai1 hp])
  have ad:=ah 0 om om (λ_=>rfl)
  revert ab ad
  generalize rg 0=o
  obtain⟨oa,oe⟩:=o
  intro ab ad
  simp only at ab ad
  simp[go_sem]
  refine pC ad ?_
  simp[go_sem]
  refine zV (λw=> ?_) (λw=> ?_)
  .have w:oe≠0:=sU w
   simp[go_sem]
   exact Ij (ab.1 w)
  have w:oe=0:=sU w
  simp[go_sem]
  refine yI [(8,0)] 2 rfl kR kR ?_
  simp[go_sem,hq,hv]
  refine pD al ?_
  simp[go_sem]
  exact Ij (ab.2 w)
theorem Ut {n:Nat} (h:n<256):(UInt8.ofNat n).toNat=n:=by
 simp_all
theorem Lf: ∀a:aiA,Op.bytesLess a a=false
 | []=>rfl
 |a::l=>by simp[Op.bytesLess,Lf l]
theorem Ik: ∀a b c:aiA,Op.bytesLess a b=true->Op.bytesLess b c=true->Op.bytesLess a c=true
 |_,[],_,h,_=>by grind[Op.bytesLess]
 |_,_::_,[],_,h=>by trivial
 | [],_::_,_::_,_,_=>rfl
 |a::l,b::m,d::n,h1,h2=>by
  simp only[Op.bytesLess,Ce,ai7,Ac,ai8]at*
  rcases h1 with h1|⟨rfl,h1⟩
  .grind
  .rcases h2 with h2|⟨rfl,h2⟩
   .grind
   .exact .inr ⟨rfl,Ik l m n h1 h2⟩
theorem ON: ∀a b:aiA,Op.bytesLess a b=true\/a=b\/Op.bytesLess b a=true
 | [],[]=>sm
 | [],_::_=> .inl rfl
 |_::_,[]=> .inr (.inr rfl)
 |a::l,b::m=>by
  simp only[Op.bytesLess,Ce,ai7,Ac,ai8,List.cons.injEq]
  by_cases h:a<b
  .grind
  .by_cases h2:b<a
   .grind
   .have he:a=b:=(by grind)
    subst he
    rcases ON l m with q|rfl|q
    all_goals grind
theorem OO: ∀(n i v:Nat) (rest:aiA),n<18446744073709551616->(n*128^i<18446744073709551616)->(0<i->0<n)->ik (eJ n++rest) i v=(v+n*128^i,i+(eJ n).length,0):=by
 intro n
 induction n using Nat.strongRecOn with
 |_ n ih=>
  intro i v rest hn hb h0
  have h9:i=9->n<=1:=(by grind)
  by_cases h:n<128
  .have e:(UInt8.ofNat n).toNat=n:=Ut om
   rw[F7 h]
   show ik (UInt8.ofNat n::rest) i v=_
   rw[ik,e,ai1 om,ai2 h,ai1 om,Cx h]
   rfl
  .have e:(UInt8.ofNat (n%128+128)).toNat=n%128+128:=Ut om
   rw[HW h]
   show ik (UInt8.ofNat (n%128+128)::(eJ (n/128)++rest)) i v=_
   rw[ik,e,ai1 om,ai1 om]
   have hdiv:n/128*128^(i+1)<=n*128^i:=by
    rw[E4,Dr (128^i) 128,<-Nat.mul_assoc]
    simp[Aj,Nat.div_mul_le_self]
   rw[ih (n/128) om (i+1) _ rest om om om]
   have e2:(n%128+128)%128=n%128:=om
   rw[e2,Af]
   have e3:n%128*128^i+n/128*128^(i+1)=n*128^i:=by
    rw[E4,Dr (128^i) 128,<-Nat.mul_assoc,<-B3]
    grind
   grind
theorem we4 (n:Int):kN (gI n)=n:=by
 unfold kN gI
 grind
theorem OP {v:bK} (h:eD v):(v.kind=0/\v.n=0/\v.s= [])\/(v.kind=1/\(v.n=0\/v.n=1)/\v.s= [])\/(v.kind=2/\v.s= [])\/(v.kind=3/\v.n=0/\v.s.length<=64):=by
 grind[eD]
theorem yW4 {v:bK} (h:eD v) (ho:v.ok) (rest:aiA):lG (kz v++rest)=⟨v,(kz v).length,0⟩:=by
 have hp:=OP h
 have hi:=ho.n
 obtain⟨k,n,s⟩:=v
 simp only at hp hi
 unfold kz
 rw[ai2 h]
 simp only
 rcases hp with ⟨rfl,rfl,rfl⟩|⟨rfl,hn,rfl⟩|⟨rfl,rfl⟩|⟨rfl,rfl,hl⟩
 .rfl
 .rcases hn with rfl|rfl<;>simp[lG,pd,vj]
 .grind[OO,gI,lG,pd,we4]
 .have ht:=OO s.length 0 0 (s++rest) om om (λh=>om)
  have aa:tO (eJ s.length++(s++rest))=(s,(eJ s.length).length+s.length,0):=by
   unfold tO
   rw[ht]
   have e1:(eJ s.length++(s++rest)).take ((eJ s.length).length+s.length)=eJ s.length++s:=by
    grind
   simp_all[wS,ai1];omega
  grind[lG,pd]
theorem Uu: ∀(l:List bK),(∀v∈l,eD v=true)->(∀v∈l,v.ok)->iA l.length (l.flatMap kz)=some l
 | [],_,_=>by rfl
 |v::l,h,ho=>by
  have h1:=yW4 (h v sm) (ho v sm) (l.flatMap kz)
  have h2:=Uu l (λx hx=>h x (by simp[hx])) (λx hx=>ho x (by simp[hx]))
  rw[Af,iA,Bw,h1]
  simp[h2]
theorem Uv: ∀(cs:List fy) (vs:List bK),vs.length=cs.length->AU cs vs=0-> ∀i (hi:i<cs.length) (hj:i<vs.length),eD vs[i]=true/\(cs[i].null=false->vs[i].kind=cs[i].kind)
 | [],[],_,_,i,hi,_=>by grind
 |c::cs,v::vs,hl,h,i,hi,hj=>by
  unfold AU at h
  split at h
  .cases h
  .rename_i h1
   split at h
   .cases h
   .rename_i h2
    split at h
    .cases h
    .rename_i h3
     cases i with
     |zero=>
      refine⟨by simpa using h1,λhn=> ?_⟩
      have hn:c.null=false:=hn
      have:v.kind≠0:=λq=>h2 ⟨q,hn⟩
      exact Decidable.not_not.1 λq=>h3 ⟨this,q⟩
     |succ i=>exact Uv cs vs (sU hl) h i (sU hi) (sU hj)
 | [],_::_,hl,_,_,_,_=>by grind
 |_::_,[],hl,_,_,_,_=>by grind
theorem xv5 {row:List bK} (h:ff cm row=0):AU cm row=0:=by
 grind[ff]
theorem Uw {row:List bK} (h:ff cm row=0): ∀v∈row,eD v=true:=λv hv=>by
 obtain⟨i,hi,rfl⟩:=Ch.1 hv
 exact(Uv cm row (xo h) (xv5 h) i (by grind[xo]) hi).1
theorem xO0 {row:List bK} (h:ff cm row=0) (hL:iY row):jP cm.length (xL row)=(row,0):=by
 have hl:=xo h
 have aa:=hL.len
 have ht:=OO row.length 0 0 (row.flatMap kz) om om (λh=>om)
 have hd:xL row=eJ row.length++row.flatMap kz:=by grind[xL,si]
 unfold jP
 rw[hd,ht]
 simp[<-hl,Uu row (Uw h) hL.ok,tP]
end Go.Proofs.YtplackkccmeioaaGreat.R
namespace Go.Proofs.YtplackkccmeioaaGreat
open Go Go.Vx R Go.Proofs.Tryz
set_option maxRecDepth 100000
end Go.Proofs.YtplackkccmeioaaGreat
namespace Go.Vx
open Go
end Go.Vx
namespace Go.Proofs.YtplackkccmeioaaGreat
open Go Go.Vx R Go.Proofs.Tryz
set_option maxRecDepth 100000
end Go.Proofs.YtplackkccmeioaaGreat
namespace Go.Proofs.YtplackkccmeioaaGreat
open Go Go.Vx R Go.Proofs.Tryz
set_option maxRecDepth 100000
def Im (v:bK) (C:fy):Bool:=eD v&&(v.kind==0||v.kind==C.kind)
def Ev (cs:List fy) (row:List bK):Bool:=decide (row.length=cs.length)&&(row.zip cs).all λp=>Im p.1 p.2
theorem Ux {T:bL} {row:List bK} (h:Ev T.cm row) (hv: ∀v∈row,v.ok):nW T row:=by
 unfold Ev at h
 rw[Ac,ai7]at h
 refine⟨h.1,λj C v hC hV=> ?_⟩
 have hz:(row.zip T.cm)[j]? =some (v,C):=by rw[List.getElem?_zip_eq_some];exact⟨hV,hC⟩
 have h2:=Am.1 h.2 _ (Bk hz)
 unfold Im at h2
 simp only[Ac,Ce,ai8]at h2
 have aa:=hv v (Bk hV)
 exact⟨h2.1,⟨aa.n.1,aa.n.2⟩,h2.2.elim .inr .inl⟩
def gN (T:bL) (row:List bK) (e:bJ):bK×Int:=if(iL T e).2≠0 then(zeroV,(iL T e).2)else if Ev T.cm row=false then(zeroV,9)else nV T row e
theorem OQ (e:bJ):gN eQ [] e=kA e:=rfl
def kU (n:Int):Int:=if 4<(if n< -1 then -1 else n)then 4 else if n< -1 then -1 else n
theorem xZ7 (n:Int):kU n= -1\/kU n=0\/kU n=1\/kU n=2\/kU n=3\/kU n=4:=by
 unfold kU
 repeat' split
 all_goals omega
def ud (T:bL) (r:List bJ):Option Int:=
 if T.place=0 then(if(kA (r.getD 0 de)).2≠0\/(kA (r.getD 0 de)).1.kind≠2 then none else some (kU (kA (r.getD 0 de)).1.n))else some 0
def kh (t:Int) (r:List bJ) (uJ:US):US:=
 match bO[t.toNat]? with
 |none=>uJ
 |some T=>
  if r.length<=T.key.toNat then uJ else
  if(kA (r.getD T.key.toNat de)).2≠0\/(kA (r.getD T.key.toNat de)).1.kind=0 then uJ else
  match ud T r with
  |none=>uJ
  |some g=>if(xF t g).2≠0 then uJ else l9 (xF t g).1 ⟨nK 3 t (kA (r.getD T.key.toNat de)).1,nK 3 t (kA (r.getD T.key.toNat de)).1++ [0]⟩ uJ
theorem wa2 (t:Int) (r:List bJ) (n:Nat) (uJ:US) (h:Bd n uJ):Bd (n+1) (kh t r uJ):=by
 unfold kh
 split
 .exact⟨by have:=h.1;omega,λy hy=>by have:=h.2 y hy;omega⟩
 .split
  .exact⟨by have:=h.1;omega,λy hy=>by have:=h.2 y hy;omega⟩
  .split
   .exact⟨by have:=h.1;omega,λy hy=>by have:=h.2 y hy;omega⟩
   .split
    .exact⟨by have:=h.1;omega,λy hy=>by have:=h.2 y hy;omega⟩
    .split
     .exact⟨by have:=h.1;omega,λy hy=>by have:=h.2 y hy;omega⟩
     .exact Bd.ez h _ _
section
variable {b:List V} {rows:List (List V)} {A:aiB} {τ:St}
theorem xG5:(gS b rows A++τ).take (A.length+2)=gS b rows A:=by rw[<-yK (b:=b) (rows:=rows),List.take_left]
end
theorem Uy {v:bK} {k:Int} (h:VK v k):v.ok/\v.s.length<=500:=by
 have hm:=h.may
 have hn:=h.n
 unfold eD at hm
 have:cZ v.kind/\v.s.length<=64:=by
  unfold cZ
  split at hm
  .rename_i q;rw[q];simp at hm;exact⟨dC,by rw[hm.2];decide⟩
  split at hm
  .rename_i q;rw[q];simp at hm;exact⟨dC,by rw[hm.2];decide⟩
  split at hm
  .rename_i q;rw[q];simp at hm;exact⟨dC,by rw[hm];decide⟩
  split at hm
  .rename_i q;rw[q];simp at hm;exact⟨dC,hm.2⟩
  .cases hm
 exact⟨⟨this.1,hn,by unfold maxLen;omega⟩,om⟩
theorem wr6 (tn:Nat) (T:bL) (hT:bO[tn]? =some T) (r:List bJ) (hr:r.length<=1000) (he: ∀e∈r,jl e) (N:List (Int×List ca×Nat)) (A:aiB) (h:k9 N A) (hB:Bd 1000 (eV N)):
  bN prog 111 [.ptr 0 0,dG bO,.int .i64 tn,.sl .ro (r.map bJ.row)] (iM N A) (λx s=>x= .cz []/\ ∃N' A',s=iM N' A'/\k9 N' A'/\eV N'=kh tn r (eV N)):=by
 have av: ∃kk:Nat,T.key=(kk:Int):=by
  match tn,hT with
  |0,h=>simp[bO]at h;subst h;exact⟨1,rfl⟩
  |1,h=>simp[bO]at h;subst h;exact⟨0,rfl⟩
  |2,h=>simp[bO]at h;subst h;exact⟨0,rfl⟩
  |n+3,h=>simp[bO]at h
 obtain⟨kk,aw⟩:=av
 generalize hM:kh tn r (eV N)=M
 unfold kh at hM
 rw[B1,hT]at hM
 simp only at hM
 rw[aw,B1]at hM
 have done: ∀(τ:St),eV N=M->cw (some (.cz [])) (A.length+2) (λx s=>x= .cz []/\ ∃N' A',s=iM N' A'/\k9 N' A'/\eV N'=M) (gS [.cL 1 2 N.length 0 N.length] (N.map e9) A++τ):=λτ hM=>
  yZ (A.length+2) (s:=gS [.cL 1 2 N.length 0 N.length] (N.map e9) A) xG5 yK (Gh _ _ h) (A7 _) (zC rfl) ⟨rfl,N,A,rfl,h,hM⟩
 have ak:tn<bO.length:=(A4.1 hT).1
 have ax:(tn:Int)=0\/(tn:Int)=1\/(tn:Int)=2:=by have:tn<3:=ak;omega
 have a8:bO[tn]'ak=T:=(A4.1 hT).2
 have aA:decide ((kk:Int)<0)=false:=ai3 om
 refine bN.iv (A.length+2) func111 ntmps111 results111 rfl (by simp[iM,gS]) (C4 rfl) λc hc hb=> ?_
 refine zA ?_
 unfold iM
 rw[<-Az (gS _ _ _)]
 simp[go_sem,yK,dG,ak,a8,aw,aA]
 have ret: ∀(τ:St),eV N=M->cw (some (.cz [])) (A.length+2) (λx s=>x= .cz []/\ ∃N' A',s=gS [.cL 1 2 N'.length 0 N'.length] (N'.map e9) A'/\k9 N' A'/\eV N'=M) (gS [.cL 1 2 N.length 0 N.length] (N.map e9) A++τ):=done
 by_cases q1:r.length<=kk
 .rw[ai2 q1]at hM
  have al:decide (r.length<=kk)=true:=ai4 q1
  simp[go_sem,al]
  exact ret _ hM
 rw[ai1 q1]at hM
 have al:decide (r.length<=kk)=false:=ai3 q1
 have qk:kk<r.length:=om
 obtain⟨x,hx⟩:=eX (r[kk])
 have aB:r.getD kk de=x:=by rw[Al,A0 qk,hx];rfl
 have ay:=he x (hx▸A8 qk)
 have aC:=OM x ay
 rw[aB]at hM
 simp[go_sem,al,yK,qk,hx]
 refine zL aC cB ⟨wN ⟨zF rfl,zX,zF rfl,zF rfl,zF rfl,zX,zX,zX,zF rfl,zF rfl,zF rfl,tV⟩,zK,zP sg (by rw[bJ.bR];rfl)⟩ rfl ?_
 have az:(kA x).2=0->VK (kA x).1 (iL eQ x).1:=Ur ay
 generalize kA x=kv at hM az⊢
 simp[go_sem,fm,yK]
 by_cases q2:kv.2=0
 rotate_left
 .rw[ai2 (.inl q2)]at hM
  have ah:(kv.2 !=0)=true:=sU q2
  simp[go_sem,ah]
  exact ret _ hM
 have ah:(kv.2 !=0)=false:=sU q2
 by_cases q3:kv.1.kind=0
 .rw[ai2 (.inr q3)]at hM
  have an:(kv.1.kind==0)=true:=sU q3
  simp[go_sem,ah,an,yK]
  exact ret _ hM
 have an:(kv.1.kind==0)=false:=sU q3
 rw[ai1 (λh=>h.elim (λh=>h q2) q3)]at hM
 obtain⟨aD,aE⟩:=Uy (az q2)
 have ai:=Tf xJ (bO.map bL.row) tn kv.1 dC aD aE
 rw[show(bO.map bL.row).length=3 from rfl]at ai
 obtain⟨bd,a1⟩:=eX (nK 3 (tn:Int) kv.1)
 have a6:bd.length<=9223372036854775806:=by
  have:=S6 (v:=kv.1)
  rw[<-a1];unfold nK;split
  .simp only[Af];omega
  .simp
 rw[a1]at ai hM
 simp[go_sem,ah,an,yK]
 have af:=T8 hB
 by_cases q4:T.place=0
 .have ao:(T.place==0)=true:=sU q4
  have q5:0<r.length:=om
  obtain⟨y,hy⟩:=eX (r[0])
  have aF:r.getD 0 de=y:=by rw[Al,A0 q5,hy];rfl
  have aG:=he y (hy▸A8 q5)
  have a7:=OM y aG
  unfold ud at hM
  rw[ai2 q4,aF]at hM
  simp[go_sem,ao,q5,hy]
  refine zL a7 cB ⟨wN ⟨zF rfl,zX,zF rfl,zF rfl,zF rfl,zX,zX,zX,zF rfl,zF rfl,zF rfl,tV⟩,zK,zP sg (by rw[bJ.bR];rfl)⟩ rfl ?_
  generalize kA y=rv at hM⊢
  simp[go_sem,fm,yK]
  by_cases q6:rv.2=0
  rotate_left
  .rw[ai2 (.inl q6)]at hM
   have aj:(rv.2 !=0)=true:=sU q6
   simp[go_sem,aj]
   exact ret _ hM
  have aj:(rv.2 !=0)=false:=sU q6
  by_cases q7:rv.1.kind=2
  rotate_left
  .rw[ai2 (.inr q7)]at hM
   have aq:(rv.1.kind !=2)=true:=sU q7
   simp[go_sem,aj,aq,yK]
   exact ret _ hM
  have aq:(rv.1.kind !=2)=false:=sU q7
  rw[ai1 (λh=>h.elim (λh=>h q6) (λh=>h q7))]at hM
  simp only at hM
  have ae:=H0 tn (kU rv.1.n) ax (xZ7 _)
  obtain⟨⟨g,ge⟩,hg⟩: ∃g,xF tn (kU rv.1.n)=g:=⟨_,rfl⟩
  rw[hg]at ae hM
  simp only at hM
  unfold kU at ae
  simp[go_sem,aj,aq,yK]
  refine zL ae cB (zP (by simp[go_sem,dG]) rfl) rfl ?_
  simp[go_sem,En]
  by_cases q8:ge=0
  rotate_left
  .rw[ai2 q8]at hM
   have ab:(ge !=0)=true:=sU q8
   simp[go_sem,ab]
   exact ret _ hM
  have ab:(ge !=0)=false:=sU q8
  rw[ai1 (λh=>h q8)]at hM
  have ad:=OC N A h g ⟨bd,bd++ [0]⟩ om (λy hy=>by have:=af.2 y hy;omega)
  simp[go_sem,ab,yK]
  refine zL ai cB (zP sg rfl) rfl ?_
  simp[go_sem]
  refine zH a6 ?_
  simp[go_sem]
  refine J0 ad cB (vp h) (by simp[bT,cS,cN]) ⟨xQ (n:=(iM N A).length) (by simp[iS,jC,cS,cN,tY]),zC rfl,zC rfl,tV⟩ (λr s h=>by
   obtain⟨rfl,N2,A2,rfl,h2,_⟩:=h
   exact⟨rfl,vp h2⟩) ?_
  rintro r' s ⟨rfl,N2,A2,rfl,aa,ar⟩ hle I' pick au
  simp[go_sem]
  exact Rl au (by rw[yK];exact A7 _) (vp aa) hle rfl ⟨rfl,N2,A2,rfl,aa,ar.trans hM⟩
 have ao:(T.place==0)=false:=sU q4
 unfold ud at hM
 rw[ai1 q4]at hM
 simp only at hM
 have ae:=H0 tn 0 ax om
 obtain⟨⟨g,ge⟩,hg⟩: ∃g,xF tn 0=g:=⟨_,rfl⟩
 rw[hg]at ae hM
 simp only at hM
 simp[go_sem,ao,yK]
 refine zL ae cB (zP (by simp[go_sem,dG]) rfl) rfl ?_
 simp[go_sem,En]
 by_cases q8:ge=0
 rotate_left
 .rw[ai2 q8]at hM
  have ab:(ge !=0)=true:=sU q8
  simp[go_sem,ab]
  exact ret _ hM
 have ab:(ge !=0)=false:=sU q8
 rw[ai1 (λh=>h q8)]at hM
 have ad:=OC N A h g ⟨bd,bd++ [0]⟩ om (λy hy=>by have:=af.2 y hy;omega)
 simp[go_sem,ab,yK]
 refine zL ai cB (zP sg rfl) rfl ?_
 simp[go_sem]
 refine zH a6 ?_
 simp[go_sem]
 refine J0 ad cB (vp h) (by simp[bT,cS,cN]) ⟨xQ (n:=(iM N A).length) (by simp[iS,jC,cS,cN,tY]),zC rfl,zC rfl,tV⟩ (λr s h=>by
  obtain⟨rfl,N2,A2,rfl,h2,_⟩:=h
  exact⟨rfl,vp h2⟩) ?_
 rintro r' s ⟨rfl,N2,A2,rfl,aa,ar⟩ hle I' pick au
 simp[go_sem]
 exact Rl au (by rw[yK];exact A7 _) (vp aa) hle rfl ⟨rfl,N2,A2,rfl,aa,ar.trans hM⟩
def lJ (l:dZ):US:=l.stmts.foldl (ri kh) []
theorem OR: ∀(n:Nat) (q l:List bJ),(∀e∈q,Good e)->(∀e∈l,Good e)-> ∀e∈tM n q l,Good e
 |0,_,_,_,hl=>hl
 |n+1,[],_,_,hl=>by rw[tM];exact hl
 |n+1,x::q,l,hq,hl=>by
  have hx:=hq x (Av ..)
  have aa: ∀e∈q,Good e:=λe he=>hq e (B5 _ he)
  rw[tM]
  split
  .exact OR n _ _ (λe he=>by
    rcases Ak.1 he with he|he
    .exact aa e he
    .exact hx.sub e he) hl
  .exact OR n _ _ aa (λe he=>by
    rcases Ak.1 he with he|he
    .exact hl e he
    .rw[B7]at he;subst he;exact hx)
theorem Uz {st:bW} (h:Good st.cE):K8 st:=λe he name s v ha=>by
 have hg:Good e:=by
  unfold nI at he
  split at he
  .exact OR 4096 [st.cE] [] (λe he=>by rw[B7]at he;subst he;exact h) (λe he=>by cases he) e he
  .cases he
 have aa: ∃a∈e.args,a.v=v:=by
  unfold ow at ha
  split at ha
  .rename_i a b heq ab
   rw[ab]
   split at ha
   .split at ha
    .cases ha;exact⟨a,sm,rfl⟩
    .cases ha
   .split at ha
    .cases ha;exact⟨b,sm,rfl⟩
    .cases ha
  .cases ha
 obtain⟨a,ad,rfl⟩:=aa
 exact(hg.sub a ad).v
theorem xK0 (l:dZ) (hl:l.stmts.length<=24) (hs: ∀st∈l.stmts,k6 st):Pure prog 62 [dG bO,.agg l.row] (.sl .ro ((lJ l).map pg)):=by
 refine xT6 kh (λt r n uJ h=>wa2 t r n uJ h) l (by unfold maxLen;omega) (λst aa=>Uz (hs st aa).cE.dV) ?_ (λst aa=>by have:=(hs st aa).rows.1;unfold maxLen;omega) (λst aa hk ht=> ?_)
 .have: ∀L:List bW,(∀st∈L,k6 st)->(L.map kT).sum<=20*L.length:=by
   intro L
   induction L with
   |nil=>intro _;exact A7 _
   |cons x L ih=>
    intro h
    have h1:=ih (λst aa=>h st (B5 _ aa))
    have h2:=(h x (Av ..)).rows.1
    rw[Ah,List.sum_cons,Af]
    have:kT x<=20:=by unfold kT;split<;>omega
    omega
  have:=this _ hs
  omega
 .intro r hr N A hN hB
  obtain⟨ah,ab⟩:=(hs st aa).rows.2 r hr
  have ad:=K7 st.table
  obtain⟨tn,ae⟩: ∃tn:Nat,xK st.table=(tn:Int):=⟨(xK st.table).toNat,om⟩
  rw[ae]at ad⊢
  have af:tn<bO.length:=by show tn<3;omega
  exact wr6 tn _ (A0 af) r om ab N A hN hB
theorem UA: ∀a b:aiA,Op.bytesLess a b=true\/a=b\/Op.bytesLess b a=true
 | [],[]=> .inr (.inl rfl)
 | [],_::_=> .inl rfl
 |_::_,[]=> .inr (.inr rfl)
 |x::a,y::b=>by
  rw[KQ,KQ]
  by_cases q:x.toNat<y.toNat
  .rw[ai2 q];exact .inl rfl
  by_cases q2:y.toNat<x.toNat
  .rw[ai1 q,ai2 q2,ai2 q2];exact .inr (.inr rfl)
  rw[ai1 q,ai1 q2,ai1 q2,ai1 q]
  have e:x=y:=E5.1 om
  rcases UA a b with h|h|h
  .exact .inl h
  .exact .inr (.inl (by rw[e,h]))
  .exact .inr (.inr h)
structure AV (uJ:US):Prop where
 rh:(uJ.map (·.1)).Pairwise (· < ·)
 cI: ∀y∈uJ,y.2≠ []/\y.2.Nodup/\ ∀x∈y.2,Op.bytesLess x.lo x.hi=true
def Has (uJ:US) (dw:Int) (x:ca):Prop:= ∃y∈uJ,y.1=dw/\x∈y.2
theorem xr3 {uJ:US} (h:AV uJ) (dw:Int) (x:ca) (hx:Op.bytesLess x.lo x.hi):
  AV (ja dw x uJ)/\Has (ja dw x uJ) dw x/\(∀r z,Has uJ r z->Has (ja dw x uJ) r z)/\(Has uJ dw x->ja dw x uJ=uJ):=by
 obtain⟨k,hk⟩:=eX (jR (uJ.map (·.1)) dw)
 obtain⟨ax,aq,ar,aa⟩:=TY h.rh hk
 cases af:(uJ.map (·.1)).contains dw with
 |true=>
  rw[af]at aa
  have ab:k<uJ.length:=by
   split at aa
   .rename_i h1;simpa using h1
   .cases aa
  rw[dif_pos (sU ab)]at aa
  obtain⟨⟨r0,sp⟩,hU⟩: ∃y,uJ[k]=y:=⟨_,rfl⟩
  have au:r0=dw:=by
   have:(uJ.map (·.1))[k]'(sU ab)=r0:=by rw[Cz,hU]
   rw[this]at aa
   simpa using aa
  subst au
  have aj:uJ[k]? =some (r0,sp):=by rw[A0 ab,hU]
  have ah:(r0,sp)∈uJ:=hU▸A8 ab
  have ak:=h.cI _ ah
  have uniq: ∀y∈uJ,y.1=r0->y=(r0,sp):=λy hy hr=>by
   obtain⟨j,hj,rfl⟩:=Dt hy
   have ha:=Cu.1 h.rh
   rcases Be j k with q|q|q
   .have:=ha j k (sU hj) (sU ab) q
    rw[Cz,Cz,hr,hU]at this
    exact absurd this (Int.lt_irrefl _)
   .subst q;exact hU
   .have:=ha k j (sU ab) (sU hj) q
    rw[Cz,Cz,hr,hU]at this
    exact absurd this (Int.lt_irrefl _)
  cases hc:sp.contains x with
  |true=>
   have e:=TZ hk af aj hc
   rw[e]
   exact⟨h,⟨_,ah,rfl,by simpa using hc⟩,λ_ _ h=>h,λ_=>rfl⟩
  |false=>
   have e:=T0 hk af aj hc
   have al:x∉sp:=sU hc
   rw[e]
   refine⟨⟨?_,λy hy=> ?_⟩,⟨(r0,sp++ [x]),List.mem_set ab _,rfl,sm⟩,λr z hz=> ?_,λhz=> ?_⟩
   .have:(uJ.set k (r0,sp++ [x])).map (·.1)=uJ.map (·.1):=by
     rw[Cy]
     refine List.ext_getElem sm λj h1 h2=> ?_
     rw[List.getElem_set]
     split
     .rename_i q;subst q;rw[Cz,hU]
     .rfl
    rw[this];exact h.rh
   .rcases List.mem_or_eq_of_mem_set hy with hy|rfl
    .exact h.cI y hy
    .refine⟨sm, ?_,λz hz=> ?_⟩
     .simp only
      rw[Co]
      exact⟨ak.2.1,sm,λa ha b hb=>by rw[B7]at hb;subst hb;exact λe=>al (e▸ha)⟩
     .rcases Ak.1 hz with hz|hz
      .exact ak.2.2 z hz
      .rw[B7]at hz;subst hz;exact hx
   .obtain⟨y,hy,ad,ae⟩:=hz
    by_cases q:y.1=r0
    .have:=uniq y hy q
     subst this
     exact⟨(r0,sp++ [x]),List.mem_set ab _,ad,ain _ ae⟩
    .obtain⟨j,hj,ai⟩:=Dt hy
     refine⟨y, ?_,ad,ae⟩
     have av:k≠j:=λe=>by subst e;rw[hU]at ai;exact q (by rw[<-ai])
     have:(uJ.set k (r0,sp++ [x]))[j]'(sU hj)=y:=by rw[List.getElem_set,ai1 av];exact ai
     exact this▸A8 _
   .obtain⟨y,hy,ad,ae⟩:=hz
    have:=uniq y hy ad
    subst this
    exact absurd ae al
 |false=>
  have an: ∀y∈uJ,y.1≠dw:=λy hy hr=>by
   have:dw∈uJ.map (·.1):=Ab.2 ⟨y,hy,hr⟩
   rw[<-aim,af]at this
   cases this
  have e:ja dw x uJ=uJ.take k++(dw,[x])::uJ.drop k:=by unfold ja;rw[ai1 (by rw[af];exact Bool.false_ne_true),hk]
  have aw: ∀y∈uJ,y∈uJ.take k++(dw,[x])::uJ.drop k:=λy hy=>by
   rw[<-B8 k uJ]at hy
   rcases Ak.1 hy with hy|hy
   .exact ain _ hy
   .exact List.mem_append_right _ (B5 _ hy)
  have ao: ∀y∈uJ.take k++(dw,[x])::uJ.drop k,y∈uJ\/y=(dw,[x]):=λy hy=>by
   rcases Ak.1 hy with hy|hy
   .exact .inl (B4 hy)
   .rcases Ae.1 hy with rfl|hy
    .exact .inr rfl
    .exact .inl (Bx hy)
  rw[e]
  refine⟨⟨?_,λy hy=> ?_⟩,⟨(dw,[x]),sm,rfl,sm⟩,λr z ⟨y,hy,ad,ae⟩=>⟨y,aw y hy,ad,ae⟩,λ⟨y,hy,ad,_⟩=>absurd ad (an y hy)⟩
  .rw[Ca,Ah,List.map_take,aix,Br]
   refine⟨h.rh.sublist (List.take_sublist _ _),C9.2 ⟨λb hb=> ?_,h.rh.sublist (List.drop_sublist _ _)⟩,λa ha b hb=> ?_⟩
   .obtain⟨j,hj,rfl⟩:=Dt hb
    rw[List.getElem_drop]
    have h1:=ar (k+j) (by rw[D6]at hj;omega) om
    have h2:(uJ.map (·.1))[k+j]'(by rw[D6]at hj;omega)≠dw:=λe=>by
     rw[Cz]at e
     exact an _ (A8 _) e
    show dw<_
    omega
   .obtain⟨j,hj,rfl⟩:=Dt ha
    rw[B0]at hj
    have h1:=aq j om om
    rw[aiv]
    rcases Ae.1 hb with rfl|hb
    .exact h1
    .obtain⟨i,hi,rfl⟩:=Dt hb
     rw[D6]at hi
     rw[List.getElem_drop]
     exact Cu.1 h.rh j (k+i) om om om
  .rcases ao y hy with hy|rfl
   .exact h.cI y hy
   .exact⟨sm,sm,λz hz=>by rw[B7]at hz;subst hz;exact hx⟩
def nX (ps:List (Int×ca)) (uJ:US):US:=ps.foldl (λuJ p=>l9 p.1 p.2 uJ) uJ
def Lg (x:ca):Bool:=Op.bytesLess x.hi x.lo||x.hi==x.lo
theorem xb9 {uJ:US} (h:AV uJ) (dw:Int) (x:ca):
  AV (l9 dw x uJ)/\(Lg x=true\/Has (l9 dw x uJ) dw x)/\(∀r z,Has uJ r z->Has (l9 dw x uJ) r z)/\(Lg x=true\/Has uJ dw x->l9 dw x uJ=uJ):=by
 unfold l9
 cases q:Lg x with
 |true=>
  have q':(Op.bytesLess x.hi x.lo||x.hi==x.lo)=true:=q
  rw[ai2 q']
  exact⟨h,.inl rfl,λ_ _ h=>h,λ_=>rfl⟩
 |false=>
  have q':(Op.bytesLess x.hi x.lo||x.hi==x.lo)=false:=q
  rw[ai1 (by rw[q'];exact Bool.false_ne_true)]
  have hx:Op.bytesLess x.lo x.hi:=by
   rw[Bool.or_eq_false_iff]at q'
   rcases UA x.lo x.hi with h|h|h
   .exact h
   .rw[h]at q';simp at q'
   .rw[h]at q';simp at q'
  obtain⟨h1,h2,h3,h4⟩:=xr3 h dw x hx
  exact⟨h1,.inr h2,h3,λh=>h4 (h.resolve_left sm)⟩
theorem UB: ∀(ps:List (Int×ca)) {uJ:US},AV uJ->AV (nX ps uJ)/\(∀p∈ps,Lg p.2=true\/Has (nX ps uJ) p.1 p.2)/\(∀r z,Has uJ r z->Has (nX ps uJ) r z)
 | [],_,h=>⟨h,λp hp=>(by cases hp),λ_ _ h=>h⟩
 |p::ps,uJ,h=>by
  obtain⟨h1,h2,h3,_⟩:=xb9 h p.1 p.2
  obtain⟨g1,g2,g3⟩:=UB ps h1
  refine⟨g1,λq hq=> ?_,λr z hz=>g3 r z (h3 r z hz)⟩
  rcases Ae.1 hq with rfl|hq
  .exact h2.imp id (g3 _ _)
  .exact g2 q hq
theorem wc8:AV []:=⟨List.Pairwise.nil,λy hy=>by cases hy⟩
def pn (t:Int) (r:List bJ):List (Int×ca):=
 match bO[t.toNat]? with
 |none=> []
 |some T=>
  if r.length<=T.key.toNat then []else
  if(kA (r.getD T.key.toNat de)).2≠0\/(kA (r.getD T.key.toNat de)).1.kind=0 then []else
  match ud T r with
  |none=> []
  |some g=>if(xF t g).2≠0 then []else [((xF t g).1,⟨nK 3 t (kA (r.getD T.key.toNat de)).1,nK 3 t (kA (r.getD T.key.toNat de)).1++ [0]⟩)]
theorem wa3 (t:Int) (r:List bJ) (uJ:US):kh t r uJ=nX (pn t r) uJ:=by
 unfold kh pn
 cases bO[t.toNat]? with
 |none=>rfl
 |some T=>
  simp only
  generalize kA (r.getD T.key.toNat de)=kv
  by_cases a:r.length<=T.key.toNat
  .rw[ai2 a,ai2 a];rfl
  rw[ai1 a,ai1 a]
  by_cases b:kv.2≠0\/kv.1.kind=0
  .rw[ai2 b,ai2 b];rfl
  rw[ai1 b,ai1 b]
  cases ud T r with
  |none=>rfl
  |some g=>
   simp only
   by_cases d:(xF t g).2≠0
   .rw[ai2 d,ai2 d];rfl
   .rw[ai1 d,ai1 d];rfl
def p0 (st:bW):List (Int×ca):=
 if xK st.table<0 then []else if st.kind=2 then st.rows.flatMap (pn (xK st.table))
 else(wA (xK st.table) st).map λrg=>((xF (xK st.table) rg).1,⟨(nP bO (xK st.table) st).1,(nP bO (xK st.table) st).2⟩)
theorem UC (ps qs:List (Int×ca)) (uJ:US):nX (ps++qs) uJ=nX qs (nX ps uJ):=Cc ..
theorem xP4 (uJ:US) (st:bW):ri kh uJ st=nX (p0 st) uJ:=by
 unfold ri p0
 split
 .rfl
 .split
  .have: ∀(rs:List (List bJ)) (uJ:US),rs.foldl (λuJ r=>kh (xK st.table) r uJ) uJ=nX (rs.flatMap (pn (xK st.table))) uJ:=by
    intro rs
    induction rs with
    |nil=>intro uJ;rfl
    |cons r rs ih=>intro uJ;rw[Bm,Bw,UC,ih,wa3]
   exact this _ _
  .unfold nX
   rw[List.foldl_map]
   rfl
theorem Io: ∀(l:List bW) (uJ:US),l.foldl (ri kh) uJ=nX (l.flatMap p0) uJ
 | [],_=>rfl
 |x::l,uJ=>by rw[Bm,Bw,UC,Io l,xP4]
theorem UD (l:dZ):AV (lJ l):=by
 unfold lJ
 rw[Io]
 exact(UB _ wc8).1
def OS (r:Int) (e:bJ):Bool:=match ow e [82]with|none=>true|some (s,v)=> !(s== [61]&&(v.kind==2&& !(v.n==r)))
theorem OT: ∀(l:List bJ) (rs:aiD),iZ l rs=rs.filter λr=>l.all (OS r)
 | [],rs=>(D3.2 sm).symm
 |e::l,rs=>by
  have ih:=OT l
  have h:iZ (e::l) rs=iZ l (match ow e [82]with|none=>rs|some (s,v)=>if s= [61]/\v.kind=2 then kQ v.n rs else rs):=rfl
  rw[h,ih]
  have h2:(match ow e [82]with|none=>rs|some (s,v)=>if s= [61]/\v.kind=2 then kQ v.n rs else rs)=rs.filter (OS · e):=by
   unfold OS
   cases ow e [82]with
   |none=>exact(D3.2 sm).symm
   |some p=>
    obtain⟨s,v⟩:=p
    simp only
    by_cases q:s= [61]/\v.kind=2
    .rw[ai2 q]
     unfold kQ
     grind
    .rw[ai1 q]
     refine(D3.2 λr _=> ?_).symm
     grind
  simp_all[Bool.and_comm]
def g1 (r:Int) (f:Int->List ca):US:=if(f r).isEmpty=true then []else [(r,f r)]
def Gq (tn:Nat) (row:List bK):Int:=if tn=0 then(row.getD 0 zeroV).n else if tn=1 then -1 else 1
def fo (tn:Nat) (T:bL) (row:List bK):Int×aiA×Int:=
 if ff T.cm row≠0 then(0,[],ff T.cm row)else if tn=0/\ ¬((row.getD 0 zeroV).n=0\/(row.getD 0 zeroV).n=1)then(0,[],19)else((xF tn (Gq tn row)).1,nK 3 tn (row.getD T.key.toNat zeroV),0)
end Go.Proofs.YtplackkccmeioaaGreat
namespace Go.Proofs.YtplackkccmeioaaGreat
open Go Go.Vx Go.Proofs.Tryz
set_option maxRecDepth 100000
variable {U:Type}
abbrev Pl:=Int×aiA
def ia (p:Pl):V:= .agg [.int .i64 p.1,.str p.2]
abbrev ue:Kk:= .st [.i .i64,.s]
def gA {U:Type} (g:U->V):List (Pl×U)->List V
 | []=> []
 |e::W=>ia e.1::g e.2::gA g W
structure Mp (U:Type) where
 W:List (Pl×U)
 bs:aiB
 cV:Nat
def Mp.ob (g:U->V) (m:Mp U):Ob:= .mp (gA g m.W) m.bs m.cV
structure Mp.ok {U:Type} (m:Mp U):Prop where
 len:m.bs.length=m.W.length
 nd:m.bs.Nodup
 lt: ∀b∈m.bs,b<m.cV
 keys:(m.W.map (·.1)).Nodup
def vt (U:Type):Mp U:=⟨[],[],0⟩
theorem UE (U:Type):(vt U).ok:=⟨rfl,C0,λb hb=>(by cases hb),C0⟩
def dQ {U:Type} (p:Pl):List (Pl×U)->Option (Nat×U)
 | []=>none
 |e::W=>if e.1=p then some (0,e.2)else(dQ p W).map λq=>(q.1+1,q.2)
def Mp.at (m:Mp U) (p:Pl):Option (Nat×U):=dQ p m.W
def Mp.get (m:Mp U) (p:Pl):Option U:=(m.at p).map (·.2)
def Mp.put (m:Mp U) (p:Pl) (v:U):Mp U:=match m.at p with
 |some (i,_)=>⟨m.W.set i (p,v),m.bs,m.cV⟩
 |none=>⟨m.W++ [(p,v)],m.bs++ [m.cV],m.cV+1⟩
def Mp.del (m:Mp U) (p:Pl):Mp U:=match m.at p with
 |some (i,_)=>⟨m.W.eraseIdx i,m.bs.eraseIdx i,m.cV⟩
 |none=>m
theorem OU (p q:Pl):kG ue (ia p) (ia q)=some (decide (p=q)):=by
 obtain⟨a,b⟩:=p
 obtain⟨c,d⟩:=q
 simp only[kG,ia,lq,jH,and_self,aib,Ay,Ba,Db,ai5]
 grind
theorem UF (p:Pl):mT ue (ia p)=true:=by rfl
section
variable {U:Type} {g:U->V}
variable {m:Mp U}{p:Pl}{I:St}{z:U}{i:Nat}{r:Int}{k:aiA}
theorem OV (p:Pl): ∀(W:List (Pl×U)) (i:Nat),oo ue (ia p) (gA g W) i=some ((dQ p W).map λq=>(i+q.1,g q.2))
 | [],_=>rfl
 |e::W,i=>by
  rw[gA,oo,OU,dQ]
  by_cases h:e.1=p
  .grind
  .rw[ai1 h]
   have:decide (p=e.1)=false:=(by grind)
   rw[this]
   simp only
   rw[OV p W (i+1)]
   cases dQ p W<;>grind
theorem UG (m:Mp U) (p:Pl):oo ue (ia p) (gA g m.W) 0=some ((m.at p).map λq=>(q.1,g q.2)):=by
 grind[OV,Mp.at]
theorem xp {p:Pl} {i:Nat} {v:U}: ∀{W:List (Pl×U)},dQ p W=some (i,v)->W[i]? =some (p,v)
 | [],h=>by trivial
 |e::W,h=>by
  rw[dQ]at h
  by_cases q:e.1=p
  .grind
  .rw[ai1 q]at h
   simp only[Aw,aic]at h
   obtain⟨⟨j,u⟩,h1,rfl,rfl⟩:=h
   simpa using xp h1
theorem Lh {p:Pl}: ∀{W:List (Pl×U)},dQ p W=none-> ∀e∈W,e.1≠p
 | [],_,e,he=>by cases he
 |e::W,h,x,hx=>by
  rw[dQ]at h
  by_cases q:e.1=p
  .grind
  .rw[ai1 q]at h
   simp only[Option.map_eq_none_iff]at h
   rcases Ae.1 hx with rfl|hx
   .exact q
   .exact Lh h x hx
theorem UH {p:Pl} {v:U}: ∀{W:List (Pl×U)},(W.map (·.1)).Nodup->(p,v)∈W-> ∃i,dQ p W=some (i,v)
 | [],_,h=>by cases h
 |e::W,hn,h=>by
  rw[Ah,C1]at hn
  rw[dQ]
  rcases Ae.1 h with rfl|h
  .simp
  .have:e.1≠p:=(by grind)
   obtain⟨i,hi⟩:=UH hn.2 h
   grind
theorem Mp.get_mem (hm:m.ok) {v:U}:m.get p=some v↔(p,v)∈m.W:=by
 constructor
 .intro h
  unfold Mp.get Mp.at at h
  rw[Aw]at h
  obtain⟨⟨i,u⟩,h1,rfl⟩:=h
  exact Bk (xp h1)
 .intro h
  obtain⟨i,hi⟩:=UH hm.keys h
  unfold Mp.get Mp.at
  grind
theorem UJ (W:List (Pl×U)) (p:Pl) (v:U):gA g W++ [ia p,g v]=gA g (W++ [(p,v)]):=by
 induction W with
 |nil=>rfl
 |cons e W ih=>rw[gA,Bs,Bs,ih];rfl
theorem UK (p:Pl) (v:U): ∀(W:List (Pl×U)) (i:Nat),qo (gA g W) i (ia p) (g v)=gA g (W.set i (p,v))
 | [],i=>by rfl
 |e::W,0=>by rfl
 |e::W,i+1=>by
  have ih:=UK p v W i
  unfold qo at ih⊢
  rw[show 2*(i+1)=2*i+1+1 by omega,gA]
  simp only[By]
  rw[ih]
  rfl
theorem OW (v:U): ∀(W:List (Pl×U)) (i:Nat) (p:Pl) (u:U),W[i]? =some (p,u)->(gA g W).set (2*i+1) (g v)=gA g (W.set i (p,v))
 | [],i,_,_,h=>by rfl
 |e::W,0,p,u,h=>by grind[gA]
 |e::W,i+1,p,u,h=>by
  have ih:=OW v W i p u (sU h)
  rw[show 2*(i+1)+1=2*i+1+1+1 by omega,gA]
  simp only[By]
  rw[ih]
  rfl
theorem UL: ∀(W:List (Pl×U)) (i:Nat),i<W.length->yp (gA g W) i=gA g (W.eraseIdx i)
 | [],i,h=>by grind
 |e::W,0,_=>by rfl
 |e::W,i+1,h=>by
  have ih:=UL W i (sU h)
  unfold yp at ih⊢
  rw[show 2*(i+1)=2*i+1+1 by omega,show 2*i+1+1+2=2*i+2+1+1 by omega,gA]
  simp only[Cr,Ds,Bs]
  rw[ih]
  rfl
theorem Li {z:V} {id:Nat} (cJ:I[id]? =some (m.ob g)) (p:Pl) (ok:Bool):
  xZ (some (ue,z)) I (.mp id) (ia p) ok= .ok (match m.get p with
   |some v=>if ok then .cz [g v,.bool true]else g v
   |none=>if ok then .cz [z,.bool false]else z):=by
 unfold xZ
 simp only[UF,aib,cJ,Mp.ob,UG]
 unfold Mp.get
 cases m.at p<;>rfl
def Mp.mM {U:Type} (m:Mp U) (p:Pl) (z:U):Mp U:=match m.at p with
 |some _=>m
 |none=>⟨m.W++ [(p,z)],m.bs++ [m.cV],m.cV+1⟩
def Mp.ef {U:Type} (m:Mp U) (p:Pl):Nat:=match m.at p with
 |some (i,_)=>m.bs.getD i 0
 |none=>m.cV
theorem UM {id:Nat} (hm:m.ok) (cJ:I[id]? =some (m.ob g)) (p:Pl):
  wD (some (ue,g z)) I (.mp id) (ia p)=(match m.at p with
   |some (_,v)=> .ok (.cz [g v,.int .i64 (m.ef p:Int)])
   |none=> .st (.cz [g z,.int .i64 (m.ef p:Int)]) (I.set id ((m.mM p z).ob g))):=by
 unfold wD Mp.ef Mp.mM
 simp only[UF,aib,cJ,Mp.ob,UG]
 cases h:m.at p with
 |none=>grind[UJ]
 |some q=>
  have:=(A4.1 (xp (W:=m.W) (i:=q.1) (v:=q.2) h)).1
  have hb:m.bs[q.1]? =some (m.bs.getD q.1 0):=by
   rw[Al,A0 (by rw[hm.len];omega)]
   rfl
  grind
theorem UN {bs:aiB} (hn:bs.Nodup) {b:Nat} (h:bs[i]? =some b):bs.findIdx? (λ(x:Nat)=>((x:Int)==(b:Int)))=some i:=by
 obtain⟨hi,rfl⟩:=A4.1 h
 rw[List.findIdx?_eq_some_iff_getElem]
 refine⟨hi,sm,λj hj=> ?_⟩
 intro q
 rw[ai8]at q
 grind[List.getElem_inj]
theorem UO {id:Nat} (hm:m.ok) (hg: ∀v,na (g v)) (p:Pl) (cJ:I[id]? =some ((m.mM p z).ob g)) (v:U):
  xT I (.mp id) (.int .i64 (m.ef p:Int)) (g v)= .st .u (I.set id ((m.put p v).ob g)):=by
 unfold xT
 simp only[hg,aib,cJ]
 unfold Mp.ob Mp.mM Mp.ef Mp.put
 cases h:m.at p with
 |none=>
  have hf:(m.bs++ [m.cV]).findIdx? (λ(b:Nat)=>((b:Int)==(m.cV:Int)))=some m.W.length:=by
   refine UN ?_ ?_
   .rw[Co]
    refine⟨hm.nd,sm,λa ha b hb=> ?_⟩
    have:=hm.lt a ha
    grind
   .rw[<-hm.len];simp
  grind[OW]
 |some q=>
  have h1:=xp (W:=m.W) (i:=q.1) (v:=q.2) h
  have hl:=(A4.1 h1).1
  have hb:m.bs[q.1]? =some (m.bs.getD q.1 0):=by
   rw[Al,A0 (by rw[hm.len];exact hl)]
   rfl
  simp only[UN hm.nd hb]
  grind[OW]
theorem Mp.mh (hm:m.ok) (p:Pl) (z:U):(m.mM p z).ok:=by
 unfold Mp.mM
 cases h:m.at p with
 |some q=>exact hm
 |none=>
  refine⟨by simp[hm.len], ?_,λb hb=> ?_, ?_⟩
  .rw[Co]
   refine⟨hm.nd,sm,λa ha b hb=> ?_⟩
   have:=hm.lt a ha
   grind
  .rcases Ak.1 hb with hb|hb
   .have:=hm.lt b hb;grind
   grind
  .rw[Ca,Co]
   refine⟨hm.keys,sm,λa ha b hb=> ?_⟩
   obtain⟨e,he,rfl⟩:=Ab.1 ha
   simp at hb
   subst hb
   exact Lh h e he
theorem Mp.jc (hm:m.ok) (p:Pl) (v:U):(m.put p v).ok:=by
 unfold Mp.put
 cases h:m.at p with
 |some q=>
  have h1:=xp (W:=m.W) (i:=q.1) (v:=q.2) h
  have:((m.W.set q.1 (p,v)).map (·.1))=m.W.map (·.1):=by
   rw[Cy]
   exact yN _ _ _ (by grind)
  exact⟨by simp[hm.len],hm.nd,hm.lt,by rw[this];exact hm.keys⟩
 |none=>
  have:=Mp.mh hm p v
  unfold Mp.mM at this
  grind
theorem Mp.Ew (hm:m.ok) (p:Pl):(m.del p).ok:=by
 unfold Mp.del
 cases h:m.at p with
 |some q=>
  refine⟨?_,aie (by grind) hm.nd,λb hb=>hm.lt b (List.mem_of_mem_eraseIdx hb), ?_⟩
  .simp only[List.length_eraseIdx,hm.len]
  .exact aie (by grind) hm.keys
 |none=>exact hm
theorem Mp.uf {q:Nat×U} (h:m.at p=some q):m.mM p z=m:=by grind[Mp.mM]
theorem Lj {p:Pl} {v:U}: ∀{W:List (Pl×U)},dQ p W=none->dQ p (W++ [(p,v)])=some (W.length,v)
 | [],_=>by simp[dQ]
 |e::W,h=>by
  rw[dQ]at h
  by_cases q:e.1=p
  .grind
  .rw[ai1 q,Option.map_eq_none_iff]at h
   rw[Bs,dQ,ai1 q,Lj h]
   rfl
theorem Mp.xq (h:m.at p=none):(m.mM p z).get p=some z:=by
 unfold Mp.get Mp.at Mp.mM
 rw[h]
 simp only
 unfold Mp.at at h
 rw[Lj h];rfl
theorem Mp.get_none (h:m.at p=none):m.get p=none:=by unfold Mp.get;grind
theorem Mp.get_some {v:U} (h:m.at p=some (i,v)):m.get p=some v:=by unfold Mp.get;grind
theorem xE3 {md:Option (Kk×V)} (hz:md=some (ue,g z)) (h:m.at p=none):xZ md [(m.mM p z).ob g] (.mp 0) (ia p) false=xZ md [m.ob g] (.mp 0) (ia p) false:=by
 subst hz
 rw[Li (m:=m.mM p z) rfl,Li (m:=m) rfl,Mp.xq h,Mp.get_none h]
 rfl
theorem UP {p:Pl} {v u:U}: ∀{W:List (Pl×U)} {i:Nat},dQ p W=some (i,u)->dQ p (W.set i (p,v))=some (i,v)
 | [],_,h=>by trivial
 |e::W,i,h=>by
  rw[dQ]at h
  by_cases q:e.1=p
  .rw[ai2 q]at h
   simp only[ai5,aic]at h
   obtain⟨rfl,rfl⟩:=h
   rw[Cf,dQ,ai2 rfl]
  .rw[ai1 q,Aw]at h
   obtain⟨⟨j,w⟩,h1,h2⟩:=h
   simp only[aic]at h2
   obtain⟨rfl,rfl⟩:=h2
   rw[By,dQ,ai1 q,UP h1]
   rfl
theorem Mp.ug (m:Mp U) (p:Pl) (v:U): ∃i,dQ p (m.put p v).W=some (i,v):=by
 unfold Mp.put
 cases h:m.at p with
 |none=>exact⟨_,Lj h⟩
 |some q=>exact⟨q.1,UP (u:=q.2) h⟩
theorem po {W:List (Pl×U)}:oo (.st [.i .i64,.s]) (.agg [.int .i64 r,.str k]) (gA g W) 0=some ((dQ (r,k) W).map λq=>(q.1,g q.2)):=by
 show oo ue (ia (r,k)) (gA g W) 0=_
 simp[OV]
theorem UQ {id:Nat} (hm:m.ok) (cJ:I[id]? =some (m.ob g)) (h:m.at p=none):
  wD (some (ue,g z)) I (.mp id) (ia p)= .st (.cz [g z,.int .i64 (m.ef p:Int)]) (I.set id ((m.mM p z).ob g)):=by
 have:=UM hm (z:=z) cJ p
 grind
theorem xE2 {id:Nat} (hm:m.ok) {v:U} (cJ:I[id]? =some (m.ob g)) (h:m.at p=some (i,v)):
  wD (some (ue,g z)) I (.mp id) (ia p)= .ok (.cz [g v,.int .i64 (m.ef p:Int)]):=by
 have:=UM hm (z:=z) cJ p
 grind
theorem UR {id:Nat} {m:Mp Int} (hm:m.ok) (h:m.at (r,k)=none) (cJ:I[id]? =some (m.ob (V.int .i64))):
  wD (some (.st [.i .i64,.s],.int .i64 0)) I (.mp id) (.agg [.int .i64 r,.str k])= .st (.cz [.int .i64 0,.int .i64 (m.ef (r,k):Int)]) (I.set id ((m.mM (r,k) 0).ob (V.int .i64))):=UQ (g:=V.int .i64) hm (z:=0) cJ h
theorem UT {id:Nat} {m:Mp Int} {v:Int} (hm:m.ok) (h:m.at (r,k)=some (i,v)) (cJ:I[id]? =some (m.ob (V.int .i64))):
  wD (some (.st [.i .i64,.s],.int .i64 0)) I (.mp id) (.agg [.int .i64 r,.str k])= .ok (.cz [.int .i64 v,.int .i64 (m.ef (r,k):Int)]):=xE2 (g:=V.int .i64) hm (z:=0) cJ h
theorem Lk {id:Nat} {m:Mp aiA} (hm:m.ok) (h:m.at (r,k)=none) (cJ:I[id]? =some (m.ob V.str)):
  wD (some (.st [.i .i64,.s],.str [])) I (.mp id) (.agg [.int .i64 r,.str k])= .st (.cz [.str [],.int .i64 (m.ef (r,k):Int)]) (I.set id ((m.mM (r,k) []).ob V.str)):=UQ (g:=V.str) hm (z:= []) cJ h
theorem UU {id:Nat} {m:Mp Int} {v:Int} (hm:m.ok) (cJ:I[id]? =some ((m.mM p 0).ob (V.int .i64))):
  xT I (.mp id) (.int .i64 (m.ef p:Int)) (.int .i64 v)= .st .u (I.set id ((m.put p v).ob (V.int .i64))):=UO (g:=V.int .i64) hm (λ_=>rfl) p cJ v
theorem Ll {id:Nat} {m:Mp aiA} {v:aiA} (hm:m.ok) (cJ:I[id]? =some ((m.mM p []).ob V.str)):
  xT I (.mp id) (.int .i64 (m.ef p:Int)) (.str v)= .st .u (I.set id ((m.put p v).ob V.str)):=UO (g:=V.str) hm (λ_=>rfl) p cJ v
theorem yC2 {id:Nat} {m:Mp Int} {q:Nat×Int} {v:Int} (hm:m.ok) (h:m.at p=some q) (cJ:I[id]? =some (m.ob (V.int .i64))):
  xT I (.mp id) (.int .i64 (m.ef p:Int)) (.int .i64 v)= .st .u (I.set id ((m.put p v).ob (V.int .i64))):=(by grind[UU,Mp.uf])
end
end Go.Proofs.YtplackkccmeioaaGreat
