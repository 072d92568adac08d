/-
  Maps whose keys are places, as plain lists: what looking up, laying, striking and running through come to.
  No condition; lemmas for the walks of exec.
-/
import Derived.Test.YtplackkccmeioaaGreatKCAM
import Derived.Test.YtplackkccmeioaaGreatKCAK
import Derived.Lib.Bytealg
import Derived.Test.YtplackkccmeioaaGreatKCAJ
import Derived.Test.YtplackkccmeioaaGreatKCAF
set_option maxHeartbeats 8000000
namespace Go.Proofs.YtplackkccmeioaaGreat
open Go Go.Vx R Go.Proofs.Tryz
set_option maxRecDepth 100000
variable {a:Int}{I:St}
def nU:bL:=⟨[],[],0,0,0,⟨[],[],[],0,0,0⟩⟩
def Gm:List fw->List bJ->Int
 |c::cs,e::es=>if pg nU e c.kind≠0 then pg nU e c.kind else Gm cs es
 |_,_=>0
def Gn (T:bL) (r:List bJ):Int:=if r.length≠T.cm.length then 9 else Gm T.cm r
def Gp (T:bL):List (List bJ)->Int
 | []=>0
 |r::l=>if Gn T r≠0 then Gn T r else Gp T l
theorem wk4 {ρ:Nat->Nat} {g1 g2 g3 g4:Tag}:cT ρ (.agg nU.row) (.agg [.str [],.sl g1 [],.int .i64 0,.int .i64 0,.int .i64 0,.sl g2 [],.sl g3 [],.sl g4 [],.int .i64 0,.int .i64 0,.int .i64 0]):=
 wN ⟨zF rfl,zX,zF rfl,zF rfl,zF rfl,zX,zX,zX,zF rfl,zF rfl,zF rfl,tV⟩
theorem xf {ρ:Nat->Nat} (e:bJ):cT ρ (.agg e.row) (.agg [.int .i64 e.kind,.str e.s,.int .i64 e.v.kind,.int .i64 e.v.n,.str e.v.s,.sl .ro (e.args.map bJ.row)]):=by rw[bJ.bQ];exact zC rfl
theorem pj (T:bL) (st:bW) (n:Nat):([.box T.row,.box st.row]:St).all (bS n)=true:=by simp[bS,cN,cL,bL.row,bW.row]
theorem xu4 (T:bL) (_hT:T.cm.length<=1000) (st:bW) (hs:kM st):Pure prog 99 [.agg T.row,.agg st.row] (.int .i64 (Gp T st.rows)):=by
 obtain⟨R,hR⟩:=eX st.rows
 obtain⟨aj,ah⟩:=hs.rows
 rw[hR]at aj ah
 rw[hR]
 generalize hM:Gp T R=M
 refine iV 0 func99 ntmps99 results99 λc hc hb=> ?_
 refine zA ?_
 simp[go_sem,hR]
 refine zH (S:=Nat) [2,3,11,12,13] (λi=> [.ptr 0 0,.ptr 1 0,.sl .ro (R.map λr=> [V.sl .ro (r.map bJ.row)]),.int .i64 R.length,.int .i64 (i:Int)]) (λ_=> [.box T.row,.box st.row]) (λi=>R.length - i)
  (λi=>i<=R.length/\Gp T (R.drop i)=M) hc hb 0 ⟨A3 _,hM⟩ ?_ ?_
 .exact cc 2 (by simp[go_sem,hR]) rfl (pj T st 2) (A3 _) (zD sg rfl)
 rintro i ⟨hi,hinv⟩
 by_cases q:i<R.length
 rotate_left
 .rw[A9 om]at hinv
  refine zA ?_
  simp[go_sem,q]
  exact eS hinv
 have ei:=zQ q om
 obtain⟨r,hr⟩:=eX (R[i])
 obtain⟨al,ak⟩:=ah r (hr▸A8 q)
 rw[A5 q,hr,Gp]at hinv
 by_cases q2:r.length=T.cm.length
 rotate_left
 .have ad:((r.length:Int) !=T.cm.length)=true:=by simp;omega
  have ae:Gn T r=9:=by unfold Gn;rw[aiv q2]
  rw[ae,aiv dC]at hinv
  refine zA ?_
  simp[go_sem,q,hr,ad]
  exact eS hinv
 have ad:((r.length:Int) !=T.cm.length)=false:=by simp;omega
 have ae:Gn T r=Gm T.cm r:=by unfold Gn;rw[aiu (λh=>h q2)]
 rw[ae]at hinv
 obtain⟨C,hC⟩:=eX (Gm T.cm r)
 rw[hC]at hinv
 refine zA ?_
 simp[go_sem,q,hr,ad]
 refine zH (S:=Nat) [2,3,11,12,13,23,24,25] (λk=> [.ptr 0 0,.ptr 1 0,.sl .ro (R.map λr=> [V.sl .ro (r.map bJ.row)]),.int .i64 R.length,.int .i64 (i:Int),.sl .ro (r.map bJ.row),.int .i64 r.length,.int .i64 (k:Int)]) (λ_=> [.box T.row,.box st.row]) (λk=>r.length - k)
  (λk=>k<=r.length/\Gm (T.cm.drop k) (r.drop k)=C) hc hb 0 ⟨A3 _,hC⟩ ?_ ?_
 .exact cc 2 (by simp[go_sem,hR]) rfl (pj T st 2) (A3 _) (zD sg rfl)
 rintro k ⟨hk,aa⟩
 by_cases qk:k<r.length
 rotate_left
 .rw[A9 om,A9 om]at aa
  have aa:C=0:=aa.symm
  rw[aiu (λh=>h aa)]at hinv
  refine zA ?_
  simp[go_sem,qk,ei]
  exact zI (i+1) ⟨om,⟨om,hinv⟩,aN 2 (pj T st 2)⟩
 have ek:=zQ qk om
 have qc:k<T.cm.length:=om
 obtain⟨e,he⟩:=eX (r[k])
 obtain⟨c1,ai⟩:=eX (T.cm[k])
 have hE:=ak e (he▸A8 qk)
 rw[A5 qk,A5 qc,he,ai,Gm]at aa
 have ab:=K8 nU dC e hE c1.kind
 generalize pg nU e c1.kind=kc at ab aa
 refine zA ?_
 simp[go_sem,qk,he]
 refine ny [(8,0)] 3 sm kR kR ?_
 simp[go_sem,qc,ai]
 refine wZ ab cB (λ_=>⟨wk4,xf e,zC rfl,tV⟩) rfl ?_
 simp[go_sem]
 by_cases qe:kc=0
 .have af:(kc !=0)=false:=sU qe
  rw[aiu (λh=>h qe)]at aa
  simp[go_sem,af,ek]
  exact zI (k+1) ⟨om,⟨om,aa⟩,aN 2 (pj T st 2)⟩
 .have af:(kc !=0)=true:=sU qe
  rw[aiv qe]at aa
  rw[aiv (by rw[<-aa];exact qe)]at hinv
  simp[go_sem,af]
  exact eS (aa.trans hinv)
def oz (T:bL):List cp->List cp->Int
 |_,[]=>0
 |p,x::l=>
  if cV T x.name<0 then 14
  else if cV T x.name=T.key\/(cV T x.name=0/\T.place=0)then 18
  else if(p.any λy=>y.name==x.name)=true then 9
  else if pg T x.e (kT T (cV T x.name))≠0 then pg T x.e (kT T (cV T x.name))
  else oz T (p++ [x]) l
theorem nV (x:cp):bS 0 (.box x.row)=true:=by simp[bS,cN,cL,cp.row]
theorem xd7 (x y:cp):bN prog 144 [.agg y.row,.ptr 0 0] [.box x.row] (λr I=>r= .bool (y.name==x.name)/\I= [.box x.row]):=by
 refine iW 1 func144 ntmps144 results144 λc hc hb=>zM ?_
 simp[go_sem]
 exact yZ 1 rfl rfl (by simp[bS,cN,cL]) (A7 _) (zC rfl) ⟨rfl,rfl⟩
theorem wm2 (x:cp) (l:List cp) (hl:l.length<=12):bN prog 205 [.sl .ro (l.map cp.row),.fn 144 [.ptr 0 0]] [.box x.row] (λr I=>r= .int .i64 (xU (λy=>y.name==x.name) l 0)/\I= [.box x.row]):=by
 generalize hM:xU (λy:cp=>y.name==x.name) l 0=M
 have ret: ∀(r:Int) (I:St),r=M->cx (some (.int .i64 r)) 1 (λr s=>r= .int .i64 M/\s= [.box x.row]) (.box x.row::I):=λr I h=>by subst h;exact yZ 1 rfl rfl (by simp[bS,cN,cL,cp.row]) (A7 _) (zC rfl) ⟨rfl,rfl⟩
 refine iV 1 func205 ntmps205 results205 λc hc hb=> ?_
 refine zA ?_
 simp[go_sem]
 refine zH (S:=Nat) [0,1,6,7,8] (λi=> [.sl .ro (l.map cp.row),.fn 144 [.ptr 0 0],.sl .ro (l.map cp.row),.int .i64 l.length,.int .i64 (i:Int)]) (λ_=> [.box x.row]) (λi=>l.length - i)
  (λi=>i<=l.length/\xU (λy=>y.name==x.name) (l.drop i) i=M) hc hb 0 ⟨A3 _,hM⟩ ?_ ?_
 .exact aN 1 (by simp[bS,cN,cL,cp.row])
 rintro i ⟨hi,hinv⟩
 by_cases q:i<l.length
 rotate_left
 .rw[A9 om]at hinv
  refine zA ?_
  simp[go_sem,q]
  exact ret _ _ hinv
 have ei:=zQ q om
 obtain⟨y,hy⟩:=eX (l[i])
 rw[A5 q,hy,xU]at hinv
 have aa:=xd7 x y
 generalize (y.name==x.name)=b at aa hinv
 refine zA ?_
 simp[go_sem,q,hy]
 refine mw 0 aa cB rfl (nV x) ⟨zC rfl,.inl rfl,tV⟩ (λr I h=>⟨_,h.2,nV x⟩) ?_
 rintro r o2 ⟨rfl,h2⟩
 obtain rfl:o2= .box x.row:=sU h2
 refine(A6 b).elim (λp=> ?_) (λp=> ?_)
 .rw[aiv p]at hinv
  simp[go_sem,p]
  exact ret _ _ hinv
 .rw[aiu (by rw[p];decide)]at hinv
  simp[go_sem,p,ei]
  exact zI (i+1) ⟨om,⟨om,hinv⟩,aN 1 (by simp[bS,cN,cL])⟩
theorem wl7 (x:cp) (l:List cp) (hl:l.length<=12):bN prog 143 [.sl .ro (l.map cp.row),.fn 144 [.ptr 0 0]] [.box x.row] (λr I=>r= .bool (l.any λy=>y.name==x.name)/\I= [.box x.row]):=by
 have h:=wm2 x l hl
 have hg:=Ev (λy:cp=>y.name==x.name) l 0
 rw[<-hg]
 generalize xU (λy:cp=>y.name==x.name) l 0=n at h⊢
 refine iW 1 func143 ntmps143 results143 λc hc hb=>zM ?_
 simp[go_sem]
 refine mw 0 h cB rfl (nV x) ⟨zC rfl,.inl (by simp[dI,dN,dj,du,cK]),tV⟩ (λr I h=>⟨_,h.2,nV x⟩) ?_
 rintro r o2 ⟨rfl,h2⟩
 obtain rfl:o2= .box x.row:=sU h2
 simp[go_sem]
 exact yZ 1 rfl rfl (by simp[bS,cN,cL]) (A7 _) (zC rfl) ⟨rfl,rfl⟩
theorem wc8 (T:bL) (hT:T.cm.length<=1000) (st:bW) (hs:kM st):Pure prog 100 [.agg T.row,.agg st.row] (.int .i64 (oz T [] st.cD)):=by
 obtain⟨L,hL⟩:=eX st.cD
 obtain⟨an,al⟩:=hs.cD
 rw[hL]at an al
 rw[hL]
 generalize hM:oz T [] L=M
 refine iV 0 func100 ntmps100 results100 λc hc hb=> ?_
 refine zA ?_
 simp[go_sem,hL]
 refine zH (S:=Nat) [2,3,10,11,12] (λi=> [.ptr 0 0,.ptr 1 0,.sl .ro (L.map cp.row),.int .i64 L.length,.int .i64 (i:Int)]) (λ_=> [.box T.row,.box st.row]) (λi=>L.length - i)
  (λi=>i<=L.length/\oz T (L.take i) (L.drop i)=M) hc hb 0 ⟨A3 _,hM⟩ ?_ ?_
 .exact cc 2 (by simp[go_sem,hL]) rfl (pj T st 2) (A3 _) (zD sg rfl)
 rintro i ⟨hi,hinv⟩
 by_cases q:i<L.length
 rotate_left
 .rw[A9 om,oz]at hinv
  refine zA ?_
  simp[go_sem,q]
  exact eS hinv
 have ei:=zQ q om
 obtain⟨x,hx⟩:=eX (L[i])
 obtain⟨ar,hE⟩:=al x (hx▸A8 q)
 have aa:=Gg T x.name (by unfold maxLen;omega)
 rw[show iG (λc:fw=>c.name==x.name) T.cm 0=cV T x.name from rfl]at aa
 have ah:=wl7 x (L.take i) (by simp;omega)
 have ao:L.take (i+1)=L.take i++ [x]:=by rw[Cp,A0 q,hx];rfl
 rw[A5 q,hx,oz,<-ao]at hinv
 generalize ((L.take i).any λy=>y.name==x.name)=b at ah hinv
 by_cases qc:cV T x.name<0
 .have ae:decide (cV T x.name<0)=true:=aix qc
  rw[aiv qc]at hinv
  refine zA ?_
  simp[go_sem,q,hx]
  refine zL aa cB (zP sg rfl) rfl ?_
  simp[go_sem,ae]
  exact eS hinv
 have ae:decide (cV T x.name<0)=false:=aiw qc
 rw[aiu qc]at hinv
 obtain⟨j,hj,aj⟩:=K4 T x.name qc
 obtain⟨C,hC⟩:=eX (T.cm[j])
 have aq:kT T (cV T x.name)=C.kind:=by
  unfold kT
  rw[hj,B0,A0 aj,hC];rfl
 rw[aq]at hinv
 have ab:=K8 T (by unfold maxLen;omega) x.e hE C.kind
 generalize pg T x.e C.kind=kc at ab hinv
 rw[hj]at aa hinv ae
 by_cases qk:(j:Int)=T.key\/((j:Int)=0/\T.place=0)
 .rw[aiv qk]at hinv
  refine zA ?_
  simp[go_sem,q,hx]
  refine zL aa cB (zP sg rfl) rfl ?_
  simp[go_sem,ae]
  by_cases k1:(j:Int)=T.key
  .have af:((j:Int)==T.key)=true:=sU k1
   simp[go_sem,af]
   exact eS hinv
  .have af:((j:Int)==T.key)=false:=sU k1
   obtain⟨k2,k3⟩:=qk.resolve_left k1
   have ai:((j:Int)==0)=true:=sU k2
   have ak:(T.place==0)=true:=sU k3
   simp[go_sem,af,ai,ak]
   exact eS hinv
 rw[aiu qk]at hinv
 have af:((j:Int)==T.key)=false:=by simpa using λh=>qk (.inl h)
 have key:((j:Int)==0)=false\/(((j:Int)==0)=true/\(T.place==0)=false):=by
  by_cases k2:(j:Int)=0
  .exact .inr ⟨by simpa using k2,by simpa using λh=>qk (.inr ⟨k2,h⟩)⟩
  .exact .inl (sU k2)
 refine key.elim (λai=> ?_) (λ⟨ai,ak⟩=> ?_)
 .refine zA ?_
  simp[go_sem,q,hx]
  refine zL aa cB (zP sg rfl) rfl ?_
  simp[go_sem,ae,af,ai,hL]
  refine zJ ⟨hi,mu λ_=>rfl⟩ ?_
  simp[go_sem,<-List.map_take]
  refine mw 2 ah cB rfl (nV x) ⟨zK,.inl (by simp[dI,dN,dj,du,cK]),tV⟩ (λr I h=>⟨_,h.2,nV x⟩) ?_
  rintro r o2 ⟨rfl,h2⟩
  obtain rfl:o2= .box x.row:=sU h2
  refine(A6 b).elim (λp=> ?_) (λp=> ?_)
  .rw[aiv p]at hinv
   simp[go_sem,p]
   exact eS hinv
  rw[aiu (by rw[p];decide)]at hinv
  simp[go_sem,p]
  refine ny [(9,0)] 3 sm kR kR ?_
  simp[go_sem,aj,hC]
  refine wZ ab cB (λ_=>⟨zC rfl,xf x.e,zC rfl,tV⟩) rfl ?_
  simp[go_sem]
  by_cases qe:kc=0
  .have ad:(kc !=0)=false:=sU qe
   rw[aiu (λh=>h qe)]at hinv
   simp[go_sem,ad,ei]
   exact zI (i+1) ⟨om,⟨om,hinv⟩,cc 2 (by simp[go_sem,hL]) rfl (pj T st 2) (A3 _) (zD sg rfl)⟩
  .have ad:(kc !=0)=true:=sU qe
   rw[aiv qe]at hinv
   simp[go_sem,ad]
   exact eS hinv
 .refine zA ?_
  simp[go_sem,q,hx]
  refine zL aa cB (zP sg rfl) rfl ?_
  simp[go_sem,ae,af,ai,ak,hL]
  refine zJ ⟨hi,mu λ_=>rfl⟩ ?_
  simp[go_sem,<-List.map_take]
  refine mw 2 ah cB rfl (nV x) ⟨zK,.inl (by simp[dI,dN,dj,du,cK]),tV⟩ (λr I h=>⟨_,h.2,nV x⟩) ?_
  rintro r o2 ⟨rfl,h2⟩
  obtain rfl:o2= .box x.row:=sU h2
  refine(A6 b).elim (λp=> ?_) (λp=> ?_)
  .rw[aiv p]at hinv
   simp[go_sem,p]
   exact eS hinv
  rw[aiu (by rw[p];decide)]at hinv
  simp[go_sem,p]
  refine ny [(9,0)] 3 sm kR kR ?_
  simp[go_sem,aj,hC]
  refine wZ ab cB (λ_=>⟨zC rfl,xf x.e,zC rfl,tV⟩) rfl ?_
  simp[go_sem]
  by_cases qe:kc=0
  .have ad:(kc !=0)=false:=sU qe
   rw[aiu (λh=>h qe)]at hinv
   simp[go_sem,ad,ei]
   exact zI (i+1) ⟨om,⟨om,hinv⟩,cc 2 (by simp[go_sem,hL]) rfl (pj T st 2) (A3 _) (zD sg rfl)⟩
  .have ad:(kc !=0)=true:=sU qe
   rw[aiv qe]at hinv
   simp[go_sem,ad]
   exact eS hinv
def rh (st:bW):Int:=
 match bO[(xK st.table).toNat]? with
 |none=>14
 |some T=>if xK st.table<0 then 14 else if st.kind=1 then K9 T st else if st.kind=2 then Gp T st.rows else if st.kind=3 then(if oz T [] st.cD≠0 then oz T [] st.cD else AX T st)else AX T st
theorem xE4 (st:bW) (hs:kM st):Pure prog 57 [dJ bO,.agg st.row] (.int .i64 (rh st)):=by
 have ad:=OA bO st.table dC
 rw[show iG (λt:bL=>t.name==st.table) bO 0=xK st.table from rfl]at ad
 generalize hM:rh st=M
 unfold rh at hM
 have an:=Ld st.table
 generalize xK st.table=t at ad an hM
 refine iW 0 func57 ntmps57 results57 λc hc hb=>zM ?_
 simp[go_sem,dJ]
 refine zL ad cB (zP (by simp[go_sem,dJ]) rfl) rfl ?_
 simp[go_sem]
 by_cases ai:t= -1
 .have hM:14=M:=by rw[<-hM,ai];rfl
  subst ai
  simp[go_sem]
  exact eS hM
 have aj: ¬t<0:=om
 have ak:decide (t<0)=false:=aiw aj
 obtain⟨j,rfl⟩: ∃j:Nat,t=j:=⟨t.toNat,om⟩
 have ae:j<bO.length:=by show j<3;omega
 obtain⟨T,hT⟩:=eX (bO[j])
 have al:T.cm.length<=1000:=by
  rw[<-hT]
  match j,ae with
  |0,_=>exact(by decide:xd.cm.length<=1000)
  |1,_=>exact(by decide:Eo.cm.length<=1000)
  |2,_=>exact(by decide:Ep.cm.length<=1000)
 simp only[B0,A0 ae,hT]at hM
 rw[aiu aj]at hM
 have h1:=xE6 T (by unfold maxLen;omega) st hs
 have h2:=xu4 T al st hs
 have h3:=wc8 T al st hs
 have h4:=TZ T (by unfold maxLen;omega) st hs
 simp[go_sem,ak,ae,hT]
 by_cases k1:st.kind=1
 .have aa:(st.kind==1)=true:=sU k1
  rw[aiv k1]at hM
  simp[go_sem,aa]
  refine zL h1 cB (zP sg rfl) rfl ?_
  simp[go_sem]
  exact eS hM
 have aa:(st.kind==1)=false:=sU k1
 rw[aiu k1]at hM
 by_cases k2:st.kind=2
 .have ab:(st.kind==2)=true:=sU k2
  rw[aiv k2]at hM
  simp[go_sem,aa,ab]
  refine zL h2 cB (zP sg rfl) rfl ?_
  simp[go_sem]
  exact eS hM
 have ab:(st.kind==2)=false:=sU k2
 rw[aiu k2]at hM
 by_cases k3:st.kind=3
 .have af:(st.kind==3)=true:=sU k3
  rw[aiv k3]at hM
  generalize oz T [] st.cD=sc at h3 hM
  simp[go_sem,aa,ab,af]
  refine zL h3 cB (zP sg rfl) rfl ?_
  by_cases qe:sc=0
  .have ah:(sc !=0)=false:=sU qe
   rw[aiu (λh=>h qe)]at hM
   simp[go_sem,ah]
   refine zL h4 cB (zP sg rfl) rfl ?_
   simp[go_sem]
   exact eS hM
  .have ah:(sc !=0)=true:=sU qe
   rw[aiv qe]at hM
   simp[go_sem,ah]
   exact eS hM
 have af:(st.kind==3)=false:=sU k3
 rw[aiu k3]at hM
 simp[go_sem,aa,ab,af]
 refine zL h4 cB (zP sg rfl) rfl ?_
 simp[go_sem]
 exact eS hM
def Ew (mode:Int):List bW->Nat->Int×Int
 | [],_=>(0,0)
 |x::l,i=>if mode≠0/\x.kind≠1 then((i:Int),1)else if rh x≠0 then((i:Int),rh x)else Ew mode l (i+1)
def oA (l:dU):Int×Int:=if mH l=true then Ew l.mode l.stmts 0 else(0,9)
theorem Un (l:dU) (hl:kN l):Pure prog 23 [dJ bO,.agg l.row] (wI (oA l)):=by
 have ad:=xA4 l hl
 obtain⟨L,hL⟩:=eX l.stmts
 obtain⟨ah,af⟩:=hl.stmts
 rw[hL]at ah af
 obtain⟨m,hm⟩:=eX l.mode
 generalize hM:oA l=M
 unfold oA at hM
 rw[hL,hm]at hM
 generalize mH l=b at ad hM
 refine iV 0 func23 ntmps23 results23 λc hc hb=> ?_
 refine zA ?_
 simp[go_sem,dJ]
 refine zL ad cB (zP sg rfl) rfl ?_
 refine(A6 b).elim (λp=> ?_) (λp=> ?_)
 rotate_left
 .rw[aiu (by rw[p];decide)]at hM
  simp[go_sem,p]
  exact Eu hM
 rw[aiv p]at hM
 simp[go_sem,p,hL]
 refine zH (S:=Nat) [2,3,13,14,15] (λi=> [.ptr 0 0,.ptr 1 0,.sl .ro (L.map bW.row),.int .i64 L.length,.int .i64 (i:Int)]) (λ_=> [.box [.sl .ro xJ,.sl .ro (bO.map bL.row)],.box l.row]) (λi=>L.length - i)
  (λi=>i<=L.length/\Ew m (L.drop i) i=M) hc hb 0 ⟨A3 _,hM⟩ ?_ ?_
 .exact cc 2 (by simp[go_sem,hL]) rfl (by simp[bS,cN,cL,dU.row]) (A3 _) (zD sg rfl)
 rintro i ⟨hi,hinv⟩
 by_cases q:i<L.length
 rotate_left
 .rw[A9 om,Ew]at hinv
  refine zA ?_
  simp[go_sem,q]
  exact Eu hinv
 have ei:=zQ q om
 obtain⟨st,ae⟩:=eX (L[i])
 have aa:=xE4 st (af st (ae▸A8 q))
 rw[A5 q,ae,Ew]at hinv
 generalize rh st=ce at aa hinv
 refine zA ?_
 simp[go_sem,q,ae,hm]
 by_cases q1:m≠0/\st.kind≠1
 .rw[aiv q1]at hinv
  have ai:(m !=0)=true:=sU q1.1
  have aj:(st.kind !=1)=true:=sU q1.2
  simp[go_sem,ai,aj]
  exact Eu hinv
 rw[aiu q1]at hinv
 have key:(m !=0)=false\/((m !=0)=true/\(st.kind !=1)=false):=by
  by_cases h:m=0
  .exact .inl (sU h)
  .refine .inr ⟨by simpa using h, ?_⟩
   simp only[bne_eq_false_iff_eq]
   exact Classical.byContradiction λg=>q1 ⟨h,g⟩
 refine key.elim (λa1=> ?_) (λ⟨a1,a2⟩=> ?_)
 .simp[go_sem,a1]
  refine zL aa cB (zP (by simp[go_sem,dJ]) rfl) rfl ?_
  by_cases qe:ce=0
  .have ab:(ce !=0)=false:=sU qe
   rw[aiu (λh=>h qe)]at hinv
   simp[go_sem,ab,ei]
   exact zI (i+1) ⟨om,⟨om,hinv⟩,cc 2 (by simp[go_sem,hL,hm]) rfl (by simp[bS,cN,cL]) (A3 _) (zD sg rfl)⟩
  .have ab:(ce !=0)=true:=sU qe
   rw[aiv qe]at hinv
   simp[go_sem,ab]
   exact Eu hinv
 .simp[go_sem,a1,a2]
  refine zL aa cB (zP (by simp[go_sem,dJ]) rfl) rfl ?_
  by_cases qe:ce=0
  .have ab:(ce !=0)=false:=sU qe
   rw[aiu (λh=>h qe)]at hinv
   simp[go_sem,ab,ei]
   exact zI (i+1) ⟨om,⟨om,hinv⟩,cc 2 (by simp[go_sem,hL,hm]) rfl (by simp[bS,cN,cL]) (A3 _) (zD sg rfl)⟩
  .have ab:(ce !=0)=true:=sU qe
   rw[aiv qe]at hinv
   simp[go_sem,ab]
   exact Eu hinv
abbrev gv (n:Int):Prop:= -9223372036854775808<=n/\n<=9223372036854775807
def fj (n:Int):Int×Int:=if gv n then(n,0)else(0,5)
theorem vj {n:Int} (h:gv n):IntKind.i64.wrap n=n:=Vx.bX h.1 h.2
theorem OL (a b:Int) (ha:gv a) (aa:gv b):Pure prog 270 [.int .i64 a,.int .i64 b] (wI (fj (a+b))):=by
 generalize hM:fj (a+b)=M
 unfold fj at hM
 have q:(0<b/\decide (0<b)=true/\decide (b<0)=false)\/(b<0/\decide (0<b)=false/\decide (b<0)=true)\/(b=0/\decide (0<b)=false/\decide (b<0)=false):=by
  simp only[aiA,aiC];omega
 unfold gv at ha aa hM
 refine iW 0 func270 ntmps270 results270 λc hc hb=>zM ?_
 rcases q with ⟨q,q1,q2⟩|⟨q,q1,q2⟩|⟨q,q1,q2⟩
 .have w1:IntKind.i64.wrap (9223372036854775807 - b)=9223372036854775807 - b:=vj ⟨om,om⟩
  by_cases r:9223372036854775807 - b<a
  .have r':decide (9223372036854775807 - b<a)=true:=aix r
   simp[go_sem,q1,w1,r']
   exact wY (by rw[<-hM,aiu om])
  .have r':decide (9223372036854775807 - b<a)=false:=aiw r
   have w2:IntKind.i64.wrap (a+b)=a+b:=vj ⟨om,om⟩
   simp[go_sem,q1,q2,w1,r',w2]
   exact wY (by rw[<-hM,aiv om])
 .have w1:IntKind.i64.wrap (-9223372036854775808 - b)= -9223372036854775808 - b:=vj ⟨om,om⟩
  by_cases r:a< -9223372036854775808 - b
  .have r':decide (a< -9223372036854775808 - b)=true:=aix r
   simp[go_sem,q1,q2,w1,r']
   exact wY (by rw[<-hM,aiu om])
  .have r':decide (a< -9223372036854775808 - b)=false:=aiw r
   have w2:IntKind.i64.wrap (a+b)=a+b:=vj ⟨om,om⟩
   simp[go_sem,q1,q2,w1,r',w2]
   exact wY (by rw[<-hM,aiv om])
 .have w2:IntKind.i64.wrap (a+b)=a+b:=vj ⟨om,om⟩
  simp[go_sem,q1,q2,w2]
  exact wY (by rw[<-hM,aiv om])
theorem OM (x:Nat) (hx:x<18446744073709551616):jr .and .u64 (x:Int) 4294967295=((x%4294967296:Nat):Int):=by
 unfold jr
 have h1:(BitVec.ofInt IntKind.u64.bits (x:Int)).toNat=x:=by
  rw[BitVec.toNat_ofInt]
  show((x:Int)%(18446744073709551616:Nat)).toNat=x
  omega
 have h2:(BitVec.ofInt IntKind.u64.bits 4294967295).toNat=4294967295:=dC
 simp only[BitVec.toNat_and,h1,h2]
 have h3:=Nat.and_two_pow_sub_one_eq_mod x 32
 have h4:(2:Nat)^32 - 1=4294967295:=dC
 have h5:(2:Nat)^32=4294967296:=dC
 rw[h4,h5]at h3
 rw[h3]
 exact Vx.db om om
theorem Im (x:Nat):(x:Int).fdiv 4294967296=((x/4294967296:Nat):Int):=by
 rw[Dp _ dC]
 rfl
theorem wv0 (n:Nat):IntKind.u64.wrap (n:Int)=((n%18446744073709551616:Nat):Int):=by
 unfold IntKind.wrap
 simp[IntKind.bits,IntKind.signed]
theorem nW {n:Nat} (h:n<18446744073709551616):IntKind.u64.wrap (n:Int)=(n:Int):=Vx.db om om
theorem xx0 (a b c d:Nat) (ha:a<4294967296) (hb:b<4294967296) (hc:c<4294967296) (hd:d<4294967296):
  a*d<=18446744065119617025/\b*c<=18446744065119617025/\a*c<=18446744065119617025/\b*d<=18446744065119617025/\
  (a*4294967296+b)*(c*4294967296+d)=(a*c)*18446744073709551616+(a*d)*4294967296+(b*c)*4294967296+b*d:=by
 have m: ∀x y:Nat,x<4294967296->y<4294967296->x*y<=18446744065119617025:=λx y hx hy=>by
  have:=Nat.mul_le_mul (show x<=4294967295 by omega) (show y<=4294967295 by omega)
  simpa using this
 refine⟨m _ _ ha hd,m _ _ hb hc,m _ _ ha hc,m _ _ hb hd, ?_⟩
 rw[B4,Nat.mul_add,Nat.mul_add]
 have e1:a*4294967296*(c*4294967296)=(a*c)*18446744073709551616:=by
  rw[Nat.mul_mul_mul_comm]
 have e2:a*4294967296*d=(a*d)*4294967296:=by rw[Nat.mul_right_comm]
 have e3:b*(c*4294967296)=(b*c)*4294967296:=by rw[Nat.mul_assoc]
 rw[e1,e2,e3]
 omega
theorem xg (x y:Nat):(x:Int)*(y:Int)=((x*y:Nat):Int):=sm
theorem Lg (x y:Nat):(x:Int)+(y:Int)=((x+y:Nat):Int):=sm
theorem xV3 (x y:Nat) (hx:x<18446744073709551616) (hy:y<18446744073709551616):Pure prog 333 [.int .u64 x,.int .u64 y] (.cy [.int .u64 ((x*y/18446744073709551616:Nat):Int),.int .u64 ((x*y%18446744073709551616:Nat):Int)]):=by
 obtain⟨m1,m2,m3,m4,m5⟩:=xx0 (x/4294967296) (x%4294967296) (y/4294967296) (y%4294967296) om om om om
 have ex:x/4294967296*4294967296+x%4294967296=x:=Nat.div_add_mod' x 4294967296
 have ey:y/4294967296*4294967296+y%4294967296=y:=Nat.div_add_mod' y 4294967296
 rw[ex,ey]at m5
 have a1:=OM x hx
 have a2:=OM y hy
 have a3:=Im x
 have a4:=Im y
 generalize aa:x/4294967296=x1 at*
 generalize ab:x%4294967296=x0 at*
 generalize ad:y/4294967296=y1 at*
 generalize ae:y%4294967296=y0 at*
 obtain⟨p,hp⟩: ∃p,p=x1*y1:=⟨_,rfl⟩
 obtain⟨q,hq⟩: ∃q,q=x1*y0:=⟨_,rfl⟩
 obtain⟨r,hr⟩: ∃r,r=x0*y1:=⟨_,rfl⟩
 obtain⟨s,hs⟩: ∃s,s=x0*y0:=⟨_,rfl⟩
 rw[<-hq]at m1 m5
 rw[<-hr]at m2 m5
 rw[<-hp]at m3 m5
 rw[<-hs]at m4 m5
 refine iW 0 func333 ntmps333 results333 λc hc hb=>zM ?_
 simp[go_sem,a1,a2,a3,a4]
 refine zW (zC rfl) ⟨?_,rfl⟩
 rw[xg x1 y1,<-hp,xg x1 y0,<-hq,xg x0 y1,<-hr,xg x0 y0,<-hs,nW (n:=s) om,nW (n:=p) om,nW (n:=q) om,nW (n:=r) om,Im s,
  Lg,nW (n:=q+s/4294967296) om,Im,OM _ om,Lg,Lg,nW (n:=p+(q+s/4294967296)/4294967296) om,nW (n:=(q+s/4294967296)%4294967296+r) om,Im,Lg,nW om,xg,wv0]
 have e:p+(q+s/4294967296)/4294967296+((q+s/4294967296)%4294967296+r)/4294967296=x*y/18446744073709551616:=by
  rw[m5]
  omega
 rw[e]
 rfl
theorem xU2 (h:a<0) (h2: -9223372036854775808<=a):IntKind.u64.wrap (-IntKind.u64.wrap a)=(a.natAbs:Int):=by
 have e:IntKind.u64.wrap a=a+18446744073709551616:=by
  unfold IntKind.wrap
  simp[IntKind.bits,IntKind.signed]
  omega
 rw[e]
 unfold IntKind.wrap
 simp[IntKind.bits,IntKind.signed]
 omega
theorem Uo (a:Int) (ha:gv a):Pure prog 334 [.int .i64 a] (.int .u64 (a.natAbs:Int)):=by
 unfold gv at ha
 refine iW 0 func334 ntmps334 results334 λc hc hb=>zM ?_
 simp[go_sem]
 by_cases q:a<0
 .have q1:decide (a<0)=true:=aix q
  simp[go_sem,q1]
  refine zW (zC rfl) ⟨?_,rfl⟩
  rw[xU2 q ha.1]
 .have q1:decide (a<0)=false:=aiw q
  simp[go_sem,q1]
  refine zW (zC rfl) ⟨?_,rfl⟩
  rw[Vx.db om om]
  congr 1
  omega
def Ex (a b:Int):Nat:=if decide (a<0)=decide (b<0)then 9223372036854775807 else 9223372036854775808
theorem wn2 (a b:Int):gv (a*b)↔a.natAbs*b.natAbs<=Ex a b:=by
 obtain⟨n,hn⟩:=Int.eq_nat_or_neg a
 obtain⟨m,hm⟩:=Int.eq_nat_or_neg b
 have e:a.natAbs=n/\b.natAbs=m:=⟨om,om⟩
 rw[e.1,e.2]
 have z1:n=0->n*m=0:=λh=>by subst h;exact Cv m
 have z2:m=0->n*m=0:=λh=>by subst h;exact Nat.mul_zero n
 unfold Ex gv
 rcases hn with rfl|rfl<;>rcases hm with rfl|rfl
 .rw[xg,aiw om,aiw om,aiv rfl]
  generalize n*m=p at*
  omega
 .rw[Int.mul_neg,xg]
  generalize n*m=p at*
  rw[aiw om]
  by_cases q: -(m:Int)<0
  .rw[aix q,aiu sm];omega
  .rw[aiw q,aiv rfl]
   have:=z2 om
   omega
 .rw[Int.neg_mul,xg]
  generalize n*m=p at*
  rw[aiw (p:=(m:Int)<0) om]
  by_cases q: -(n:Int)<0
  .rw[aix q,aiu sm];omega
  .rw[aiw q,aiv rfl]
   have:=z1 om
   omega
 .rw[Int.neg_mul_neg,xg]
  generalize n*m=p at*
  by_cases q: -(n:Int)<0<;>by_cases q2: -(m:Int)<0
  .rw[aix q,aix q2,aiv rfl];omega
  .have:=z2 om
   rw[aix q,aiw q2,aiu sm];omega
  .have:=z1 om
   rw[aiw q,aix q2,aiu sm];omega
  .have:=z1 om
   rw[aiw q,aiw q2,aiv rfl];omega
theorem wn1 (a b:Int):((!(decide (a<0)==decide (b<0)))=true->Ex a b=9223372036854775808)/\((!(decide (a<0)==decide (b<0)))=false->Ex a b=9223372036854775807):=by
 unfold Ex
 generalize decide (a<0)=x
 generalize decide (b<0)=y
 cases x<;>cases y<;>simp
theorem wr1 (a b:Int) (ha:gv a) (ab:gv b):Pure prog 326 [.int .i64 a,.int .i64 b] (wI (fj (a*b))):=by
 have af:=Uo a ha
 have ah:=Uo b ab
 have ad:a.natAbs<18446744073709551616/\b.natAbs<18446744073709551616:=by unfold gv at ha ab;omega
 have hm:=xV3 a.natAbs b.natAbs ad.1 ad.2
 have cQ:=wn2 a b
 have ai:Ex a b<=9223372036854775808:=by unfold Ex;split<;>omega
 have ae:=wn1 a b
 generalize hP:a.natAbs*b.natAbs=p at*
 have aj:p/18446744073709551616*18446744073709551616+p%18446744073709551616=p:=Nat.div_add_mod' _ _
 have ak:p%18446744073709551616<18446744073709551616:=Cr _ dC
 generalize p/18446744073709551616=hi at*
 generalize p%18446744073709551616=lo at*
 generalize hM:fj (a*b)=M
 unfold fj at hM
 refine iW 0 func326 ntmps326 results326 λc hc hb=>zM ?_
 simp[go_sem]
 refine pC af ?_
 simp[go_sem]
 refine pC ah ?_
 simp[go_sem]
 refine pC hm ?_
 simp[go_sem]
 have u1:IntKind.u64.wrap 9223372036854775808=9223372036854775808:=dC
 refine zV (λv2=> ?_) (λv2=> ?_)
 .rw[ae.1 v2]at cQ
  by_cases q:p<=9223372036854775808
  .have f1:decide (0<hi)=false:=aiw om
   have f3:decide ((9223372036854775808:Int)<(lo:Int))=false:=aiw om
   have w:=vj (cQ.2 q)
   simp[go_sem,f1,f3,w,u1]
   exact wY (by rw[<-hM,aiv (cQ.2 q)])
  .have aa: ¬gv (a*b):=λh=>q (cQ.1 h)
   have f4:decide (0<hi)=true\/(decide (0<hi)=false/\decide ((9223372036854775808:Int)<(lo:Int))=true):=by
    simp only[aiA,aiC];omega
   rcases f4 with f4|⟨f4,f5⟩
   .simp[go_sem,f4]
    exact wY (by rw[<-hM,aiu aa])
   .simp[go_sem,f4,f5,u1]
    exact wY (by rw[<-hM,aiu aa])
 .rw[ae.2 v2]at cQ
  by_cases q:p<=9223372036854775807
  .have f1:decide (0<hi)=false:=aiw om
   have f3:decide ((9223372036854775807:Int)<(lo:Int))=false:=aiw om
   have w:=vj (cQ.2 q)
   simp[go_sem,f1,f3,w]
   exact wY (by rw[<-hM,aiv (cQ.2 q)])
  .have aa: ¬gv (a*b):=λh=>q (cQ.1 h)
   have f4:decide (0<hi)=true\/(decide (0<hi)=false/\decide ((9223372036854775807:Int)<(lo:Int))=true):=by
    simp only[aiA,aiC];omega
   rcases f4 with f4|⟨f4,f5⟩
   .simp[go_sem,f4]
    exact wY (by rw[<-hM,aiu aa])
   .simp[go_sem,f4,f5]
    exact wY (by rw[<-hM,aiu aa])
theorem ON (a b:Int) (ha:gv a) (ab:gv b):Pure prog 308 [.int .i64 a,.int .i64 b] (wI (fj (a - b))):=by
 by_cases q:b= -9223372036854775808
 .generalize hM:fj (a - b)=M
  unfold fj at hM
  unfold gv at ha
  have q1:(b != -9223372036854775808)=false:=sU q
  refine iW 0 func308 ntmps308 results308 λc hc hb=>zM ?_
  simp[go_sem,q1]
  by_cases r:0<=a
  .have r1:decide (0<=a)=true:=aix r
   simp[go_sem,r1]
   exact wY (by rw[<-hM,aiu om])
  .have r1:decide (0<=a)=false:=aiw r
   have w:IntKind.i64.wrap (a - b)=a - b:=vj ⟨om,om⟩
   simp[go_sem,r1,w]
   exact wY (by rw[<-hM,aiv (by unfold gv;omega)])
 .have hn:gv (-b):=by unfold gv at*;omega
  have w:IntKind.i64.wrap (-b)= -b:=vj hn
  have q1:(b != -9223372036854775808)=true:=sU q
  have aa:=OL a (-b) ha hn
  have e:a+ -b=a - b:=om
  rw[e]at aa
  generalize fj (a - b)=M at*
  refine iW 0 func308 ntmps308 results308 λc hc hb=>zM ?_
  simp[go_sem,q1,w]
  refine pC aa ?_
  simp[go_sem,wI]
  exact wR
def AY (s:aiZ) (a b:Int):Int×Int:=
 if s= [43]then fj (a+b)else if s= [45]then fj (a - b)else if s= [42]then fj (a*b)
 else if b=0 then(0,17)else if s= [37]then(a.tmod b,0)else fj (a.tdiv b)
theorem we1 {b:Int} (ha:gv a) (hb:gv b):gv (a.tmod b):=by
 unfold gv at*
 by_cases q:b=0
 .subst q;rw[Int.tmod_zero];exact ha
 .have h2:(a.tmod b).natAbs=a.natAbs%b.natAbs:=Int.natAbs_tmod a b
  have h3:a.natAbs%b.natAbs<=a.natAbs:=Nat.mod_le _ _
  have h4:(a.tmod b).natAbs<b.natAbs:=by
   rw[h2];exact Cr _ om
  omega
theorem wd9 {b:Int} (ha:gv a) (_hb:gv b) (h:b≠ -1):gv (a.tdiv b):=by
 unfold gv at*
 have h2:(a.tdiv b).natAbs=a.natAbs/b.natAbs:=Int.natAbs_tdiv a b
 by_cases q:b.natAbs<=1
 .have:b=0\/b=1:=om
  rcases this with rfl|rfl
  .rw[Int.tdiv_zero];omega
  .rw[Int.tdiv_one];exact ha
 .have h3:a.natAbs/b.natAbs<=a.natAbs/2:=Nat.div_le_div_left om om
  omega
theorem xO4 (s:aiZ) (a b:Int) (ha:gv a) (aa:gv b):Pure prog 310 [.str s,.int .i64 a,.int .i64 b] (wI (AY s a b)):=by
 have c1:=OL a b ha aa
 have c2:=ON a b ha aa
 have c3:=wr1 a b ha aa
 have c4:=ON 0 a dC ha
 have e4:fj (0 - a)=fj (-a):=by congr 1;omega
 rw[e4]at c4
 have wr: ∀{x:Int×Int} {M:Int×Int} {I:St},x=M->cx (some (.cy [.int .i64 x.1,.int .i64 x.2])) 0 (λv s=>v=wI M/\s= []) I:=λh=>wY h.symm
 generalize hM:AY s a b=M
 unfold AY at hM
 refine iW 0 func310 ntmps310 results310 λc hc hb=>zM ?_
 simp[go_sem]
 by_cases s1:s= [43]
 .simp only[s1,aiv]at hM
  simp[go_sem,s1]
  refine pC c1 ?_
  simp[go_sem,wI]
  exact wr hM
 by_cases s2:s= [45]
 .rw[aiu s1,aiv s2]at hM
  simp[go_sem,s2]
  refine pC c2 ?_
  simp[go_sem,wI]
  exact wr hM
 by_cases s3:s= [42]
 .rw[aiu s1,aiu s2,aiv s3]at hM
  simp[go_sem,s3]
  refine pC c3 ?_
  simp[go_sem,wI]
  exact wr hM
 rw[aiu s1,aiu s2,aiu s3]at hM
 have af:(s== [43])=false:=sU s1
 have ah:(s== [45])=false:=sU s2
 have ai:(s== [42])=false:=sU s3
 simp[go_sem,af,ah,ai]
 by_cases b0:b=0
 .rw[aiv b0]at hM
  have ab:(b==0)=true:=sU b0
  simp[go_sem,ab]
  exact wY hM.symm
 rw[aiu b0]at hM
 have ab:(b==0)=false:=sU b0
 simp[go_sem,ab]
 by_cases s4:s= [37]
 .rw[aiv s4]at hM
  have ad:(s== [37])=true:=sU s4
  simp[go_sem,ad]
  refine zJ b0 ?_
  simp[go_sem]
  exact wY hM.symm
 rw[aiu s4]at hM
 have ad:(s== [37])=false:=sU s4
 simp[go_sem,ad]
 by_cases b1:b= -1
 .rw[b1,Int.tdiv_neg,Int.tdiv_one]at hM
  have ae:(b== -1)=true:=sU b1
  simp[go_sem,ae]
  refine pC c4 ?_
  simp[go_sem,wI]
  exact wr hM
 have ae:(b== -1)=false:=sU b1
 have ok:=wd9 ha aa b1
 unfold fj at hM
 rw[aiv ok]at hM
 simp[go_sem,ae,vj ok]
 refine zJ b0 ?_
 simp[go_sem]
 exact wY hM.symm
def je (a b:aiZ):Int:=if Op.bytesLess a b=true then -1 else if Op.bytesLess b a=true then 1 else 0
theorem Up: ∀a b:aiZ,Lib.compareBytes a b=je a b
 | [],[]=>rfl
 | [],_::_=>rfl
 |_::_,[]=>rfl
 |x::a,y::b=>by
  have ih:=Up a b
  rw[Lib.compareBytes]
  unfold je at ih⊢
  rw[KX,KX]
  have h1:(x<y)↔x.toNat<y.toNat:=UInt8.lt_iff_toNat_lt
  have h2:(y<x)↔y.toNat<x.toNat:=UInt8.lt_iff_toNat_lt
  by_cases q:x<y
  .have:=h1.1 q
   rw[aiv q,aiv this]
   rfl
  by_cases q2:y<x
  .have:=h2.1 q2
   have n1: ¬x.toNat<y.toNat:=λh=>q (h1.2 h)
   rw[aiu q,aiv q2,aiu n1,aiv this,aiv this]
   rfl
  .have n1:=λh=>q (h1.2 h)
   have n2:=λh=>q2 (h2.2 h)
   rw[aiu q,aiu q2,aiu n1,aiu n2,aiu n2,aiu n1]
   exact ih
theorem yJ1 {a b:aiZ} {c:Ctx} {K:V->St->Prop} {e:Fx K} (hk:K (.int .i64 (je a b)) I):jm prog c (.fn 288 []) [.str a,.str b] I K e:=by
 refine⟨_,[],rfl,.inr λw L J aa hm ha=> ?_⟩
 match aa,ha with
 | [v1,v2],⟨h1,h2,_⟩=>
  rw[lh h1,lh h2]
  refine⟨.int .i64 (je a b),.int .i64 (je a b),w,L,I,J, ?_,hk,hm,Le.refl _ _,Ext.refl _ _,cF.int _ _⟩
  rw[run_callFunc_extern func288 kR kR kR (e:=Extern.BytealgCompare.compare) kR,Lib.run_compareString]
  rw[List.toList_toArray,List.toList_toArray,Up]
  rfl
theorem xt2 (a b:aiZ):Pure prog 237 [.str a,.str b] (.int .i64 (je a b)):=by
 refine iW 0 func237 ntmps237 results237 λc hc hb=>zM ?_
 simp[go_sem]
 refine yJ1 ?_
 simp[go_sem]
 exact wR
theorem Uq (a b:aiZ):Pure prog 166 [.str a,.str b] (.int .i64 (je a b)):=by
 refine iW 0 func166 ntmps166 results166 λc hc hb=>zM ?_
 simp[go_sem]
 refine pC (xt2 a b) ?_
 simp[go_sem]
 exact wR
theorem Ur (x:Int):Pure prog 282 [.int .i64 x] (.bool false):=by
 refine iW 0 func282 ntmps282 results282 λc hc hb=>zM ?_
 simp[go_sem]
 exact wR
theorem yY2 (x y:Int):Pure prog 225 [.int .i64 x,.int .i64 y] (.int .i64 (gu x y)):=by
 generalize hM:gu x y=M
 have ret: ∀(r:Int) (I:St),r=M->cx (some (.int .i64 r)) 0 (λr s=>r= .int .i64 M/\s= []) I:=λr I h=>by subst h;exact wR
 unfold gu at hM
 refine iW 0 func225 ntmps225 results225 λc hc hb=>zM ?_
 simp[go_sem]
 refine pC (Ur x) ?_
 simp[go_sem]
 refine pC (Ur y) ?_
 simp[go_sem]
 repeat' (first|(refine zV (λq=> ?_) (λq=> ?_)<;>simp[go_sem,q]))
 all_goals exact ret _ _ (by rw[<-hM];simp only[aiA,aiC]at*;(repeat' split)<;>omega)
def tU:aj2->Int
 | []=>0
 |x::l=>if x=0 then tU l else x
theorem Io (l:aj2) (hl:l.length<=maxLen):Pure prog 164 [.sl .ro (l.map λn=> [V.int .i64 n])] (.int .i64 (tU l)):=by
 generalize hM:tU l=M
 have ret: ∀(r:Int) (I:St),r=M->cx (some (.int .i64 r)) 0 (λr s=>r= .int .i64 M/\s= []) I:=λr I h=>by subst h;exact wR
 refine iV 0 func164 ntmps164 results164 λc hc hb=> ?_
 refine zA ?_
 simp[go_sem]
 refine zH (S:=Nat) [3,6,7,8] (λi=> [.int .i64 0,.sl .ro (l.map λn=> [V.int .i64 n]),.int .i64 l.length,.int .i64 i]) (λ_=> []) (λi=>l.length - i) (λi=>i<=l.length/\tU (l.drop i)=M) hc hb 0 ⟨A3 _,hM⟩ ?_ ?_
 .exact aO
 rintro i ⟨hi,hinv⟩
 by_cases q:i<l.length
 rotate_left
 .have e:l.drop i= []:=A9 om
  rw[e]at hinv
  refine zA ?_
  simp[go_sem,q]
  exact ret _ _ hinv
 have ei:=zQ q (by unfold maxLen at hl;omega)
 obtain⟨r,hr⟩:=eX (l[i])
 rw[A5 q,tU,hr]at hinv
 refine zA ?_
 simp[go_sem,q,hr]
 by_cases w1:r=0
 .rw[aiv w1]at hinv
  have aa:(r !=0)=false:=by simp[w1]
  simp[go_sem,aa,ei]
  exact zI (i+1) ⟨om,⟨q,hinv⟩,aO⟩
 rw[aiu w1]at hinv
 have aa:(r !=0)=true:=sU w1
 simp[go_sem,aa]
 exact ret _ _ hinv
def jA (a b:bK):Int:=tU [gu a.kind b.kind,gu a.n b.n,je a.s b.s]
theorem Us (a b:bK):Pure prog 161 [.agg a.row,.agg b.row] (.int .i64 (jA a b)):=by
 have h:=Io [gu a.kind b.kind,gu a.n b.n,je a.s b.s] (by simp[maxLen])
 have h1:=OF a.kind b.kind
 have h2:=yY2 a.n b.n
 have h3:=Uq a.s b.s
 unfold jA
 generalize tU [gu a.kind b.kind,gu a.n b.n,je a.s b.s]=M at*
 refine iW 0 func161 ntmps161 results161 λc hc hb=>zM ?_
 simp[go_sem]
 refine yE [(4,0),(9,0),(14,0),(16,0)] 2 rfl kR kR ?_
 simp[go_sem]
 refine pD h1 ?_
 simp[go_sem]
 refine pD h2 ?_
 simp[go_sem]
 refine pD h3 ?_
 simp[go_sem]
 refine pD h ?_
 simp[go_sem]
 exact wR
def fk (x:bK×Int):V:= .cy [.agg x.1.row,.int .i64 x.2]
def zeroV:bK:=⟨0,0,[]⟩
def xh (r:Int×Int):bK×Int:=if r.2=0 then(⟨2,r.1,[]⟩,0)else(zeroV,r.2)
theorem Ut {x:bK×Int} {k n e:Int} {s:aiZ} (h:x=(⟨k,n,s⟩,e)):cx (some (.cy [.agg [.int .i64 k,.int .i64 n,.str s],.int .i64 e])) 0 (λv s=>v=fk x/\s= []) I:=by
 subst h
 exact wR
theorem Uu (r:Int×Int):Pure prog 307 [.int .i64 r.1,.int .i64 r.2] (fk (xh r)):=by
 generalize hM:xh r=M
 unfold xh at hM
 refine iW 0 func307 ntmps307 results307 λc hc hb=>zM ?_
 simp[go_sem]
 by_cases q:r.2=0
 .rw[aiv q]at hM
  have q1:(r.2 !=0)=false:=sU q
  simp[go_sem,q1]
  exact Ut hM.symm
 .rw[aiu q]at hM
  have q1:(r.2 !=0)=true:=sU q
  simp[go_sem,q1]
  exact Ut hM.symm
def Gq (s:aiZ) (c:Int):Bool:=
 if s= [61]then c==0 else if s= [60,62]then c !=0 else if s= [60]then decide (c<0)else if s= [60,61]then decide (c<=0)else if s= [62]then decide (0<c)else decide (0<=c)
theorem xY8 (s:aiZ) (x:Int):Pure prog 309 [.str s,.int .i64 x] (.bool (Gq s x)):=by
 generalize hM:Gq s x=M
 have ret: ∀(r:Bool) (I:St),r=M->cx (some (.bool r)) 0 (λr s=>r= .bool M/\s= []) I:=λr I h=>by subst h;exact wR
 unfold Gq at hM
 refine iW 0 func309 ntmps309 results309 λc hc hb=>zM ?_
 simp[go_sem]
 repeat' (first|(refine zV (λq=> ?_) (λq=> ?_)<;>simp[go_sem,q]))
 all_goals exact ret _ _ (by rw[<-hM];simp only[aiB,beq_eq_false_iff_ne,ne_eq]at*;simp_all)
def Ey (v:bK):Bool:=v.kind==1&&(v.n==1&&v.s.isEmpty)
theorem Uv (v:bK):Pure prog 156 [.agg v.row] (.bool (Ey v)):=by
 have h:=FY true
 refine iW 0 func156 ntmps156 results156 λc hc hb=>zM ?_
 simp[go_sem]
 refine yE [(1,0)] 1 rfl kR kR ?_
 simp[go_sem]
 refine pD h ?_
 simp[go_sem,uO]
 exact wR
def sq (xi:Int):List bK->Bool->bK
 | [],b=>if b=true then zeroV else uO (xi==0)
 |v::l,b=>if v.kind=0 then sq xi l true else if v.n=xi then v else sq xi l b
theorem Uw (l:List bK) (aa:Int) (hl:l.length<=maxLen):Pure prog 306 [.sl .ro (l.map bK.row),.int .i64 aa] (.agg (sq aa l false).row):=by
 generalize hM:sq aa l false=M
 have ret: ∀(v:bK) (I:St),v=M->cx (some (.agg v.row)) 0 (λr s=>r= .agg M.row/\s= []) I:=λv I h=>by subst h;exact wR
 refine iV 0 func306 ntmps306 results306 λc hc hb=> ?_
 refine zA ?_
 simp[go_sem]
 refine zH (S:=Nat×Bool) [1,4,5,8,9,10] (λu=> [.int .i64 aa,.ptr 0 0,.bool u.2,.sl .ro (l.map bK.row),.int .i64 l.length,.int .i64 u.1]) (λ_=> [.box [.int .i64 0,.int .i64 0,.str []]]) (λu=>l.length - u.1)
  (λu=>u.1<=l.length/\sq aa (l.drop u.1) u.2=M) hc hb (0,false) ⟨A3 _,hM⟩ ?_ ?_
 .exact aN 1 (by simp[bS,cN,cL])
 rintro⟨i,b⟩ ⟨hi,hinv⟩
 simp only at hi hinv
 by_cases q:i<l.length
 rotate_left
 .have e:l.drop i= []:=A9 om
  rw[e,sq]at hinv
  refine zA ?_
  simp[go_sem,q]
  by_cases w1:b=true
  .rw[aiv w1]at hinv
   simp[go_sem,w1]
   exact ret zeroV _ hinv
  .rw[aiu w1]at hinv
   have ab:b=false:=sU w1
   simp[go_sem,ab]
   refine pC (FY (aa==0)) ?_
   simp[go_sem]
   exact ret _ _ hinv
 have ei:=zQ q (by unfold maxLen at hl;omega)
 obtain⟨r,hr⟩:=eX (l[i])
 rw[A5 q,sq,hr]at hinv
 refine zA ?_
 simp[go_sem,q,hr]
 refine pC (Km r) ?_
 simp[go_sem]
 by_cases w1:r.kind=0
 .rw[aiv w1]at hinv
  have ab:(r.kind==0)=true:=sU w1
  simp[go_sem,ab,ei]
  exact zI (i+1,true) ⟨by simp only;omega,⟨q,hinv⟩,aN 1 (by simp[bS,cN,cL])⟩
 rw[aiu w1]at hinv
 have ab:(r.kind==0)=false:=sU w1
 by_cases w2:r.n=aa
 .rw[aiv w2]at hinv
  have ad:(r.n==aa)=true:=sU w2
  simp[go_sem,ab,ad]
  exact ret r _ hinv
 rw[aiu w2]at hinv
 have ad:(r.n==aa)=false:=sU w2
 simp[go_sem,ab,ad,ei]
 exact zI (i+1,b) ⟨by simp only;omega,⟨q,hinv⟩,aN 1 (by simp[bS,cN,cL])⟩
def mI:List aiZ:= [[61],[60,62],[60],[60,61],[62],[62,61]]
def tW (s:aiZ) (l:List bK):bK×Int:=
 let x:=l.getD 0 zeroV
 let y:=l.getD 1 zeroV
 if s= [73,83,78,85,76,76]then(uO (x.kind==0),0)
 else if s= [78,79,84,78,85,76,76]then(uO (!(x.kind==0)),0)
 else if s= [65,78,68]then(sq 0 l false,0)
 else if s= [79,82]then(sq 1 l false,0)
 else if(l.any λv=>v.kind==0)=true then(zeroV,0)
 else if s= [78,79,84]then(uO (!Ey x),0)
 else if s= [78,69,71]then xh (fj (-x.n))
 else if mI.contains s=true then(uO (Gq s (jA x y)),0)
 else xh (AY s x.n y.n)
theorem xj {x:bK×Int} {M:bK×Int} (h:x=M):cx (some (.cy [.agg x.1.row,.int .i64 x.2])) 0 (λv s=>v=fk M/\s= []) I:=by
 subst h
 exact wR
theorem wl2 (s:aiZ) (l:List bK) (h1:1<=l.length) (h2:l.length<=2) (hn: ∀v∈l,gv v.n) (hs:l.length=1->s= [73,83,78,85,76,76]\/s= [78,79,84,78,85,76,76]\/s= [78,79,84]\/s= [78,69,71]):
  Pure prog 258 [.str s,.sl .ro (l.map bK.row)] (fk (tW s l)):=by
 obtain⟨x,hx⟩:=eX (l[0]'h1)
 have ah:l.getD 0 zeroV=x:=by rw[Al,A0 h1,hx];rfl
 have ao:l[0]? =some x:=by rw[A0 h1,hx]
 have aa:0<l.length:=h1
 have ad:gv x.n:=hn x (hx▸A8 h1)
 generalize hM:tW s l=M
 have ret: ∀(v:bK) (e:Int) (I:St),(v,e)=M->cx (some (.cy [.agg v.row,.int .i64 e])) 0 (λr s=>r=fk M/\s= []) I:=λv e I h=>xj h
 unfold tW at hM
 simp only[ah]at hM
 refine iV 0 func258 ntmps258 results258 λc hc hb=> ?_
 by_cases a1:s= [73,83,78,85,76,76]
 .rw[aiv a1]at hM
  refine zA ?_
  simp[go_sem,a1,aa,hx]
  refine pC (Km x) ?_
  simp[go_sem]
  refine pC (FY (x.kind==0)) ?_
  simp[go_sem]
  exact ret _ _ _ hM
 by_cases a2:s= [78,79,84,78,85,76,76]
 .rw[aiu a1,aiv a2]at hM
  refine zA ?_
  simp[go_sem,a2,aa,hx]
  refine pC (Km x) ?_
  simp[go_sem]
  refine pC (FY (!(x.kind==0))) ?_
  simp[go_sem]
  exact ret _ _ _ hM
 by_cases a3:s= [65,78,68]
 .rw[aiu a1,aiu a2,aiv a3]at hM
  refine zA ?_
  simp[go_sem,a3]
  refine pC (Uw l 0 (by unfold maxLen;omega)) ?_
  simp[go_sem]
  exact ret _ _ _ hM
 by_cases a4:s= [79,82]
 .rw[aiu a1,aiu a2,aiu a3,aiv a4]at hM
  refine zA ?_
  simp[go_sem,a4]
  refine pC (Uw l 1 (by unfold maxLen;omega)) ?_
  simp[go_sem]
  exact ret _ _ _ hM
 rw[aiu a1,aiu a2,aiu a3,aiu a4]at hM
 have b1:(s== [73,83,78,85,76,76])=false:=sU a1
 have b2:(s== [78,79,84,78,85,76,76])=false:=sU a2
 have b3:(s== [65,78,68])=false:=sU a3
 have b4:(s== [79,82])=false:=sU a4
 refine zA ?_
 simp[go_sem,b1,b2,b3,b4]
 refine zH (S:=Nat) [0,1,4,5,32,33,34] (λi=> [.str s,.sl .ro (l.map bK.row),.ptr 0 0,.int .i64 0,.sl .ro (l.map bK.row),.int .i64 l.length,.int .i64 i]) (λ_=> [.box [.int .i64 0,.int .i64 0,.str []]]) (λi=>l.length - i)
  (λi=>i<=l.length/\((l.drop i).any λv=>v.kind==0)=(l.any λv=>v.kind==0)) hc hb 0 ⟨A3 _,rfl⟩ ?_ ?_
 .exact aN 1 (by simp[bS,cN,cL])
 rintro i ⟨hi,hinv⟩
 by_cases q:i<l.length
 .have ei:=zQ q om
  obtain⟨r,hr⟩:=eX (l[i])
  rw[A5 q,List.any_cons,hr]at hinv
  refine zA ?_
  simp[go_sem,q,hr]
  refine pC (Km r) ?_
  simp[go_sem]
  by_cases w1:r.kind=0
  .have ab:(r.kind==0)=true:=sU w1
   rw[ab,Di]at hinv
   rw[aiv hinv.symm]at hM
   simp[go_sem,ab]
   exact ret zeroV 0 _ hM
  .have ab:(r.kind==0)=false:=sU w1
   rw[ab,C5]at hinv
   simp[go_sem,ab,ei]
   exact zI (i+1) ⟨om,⟨q,hinv⟩,aN 1 (by simp[bS,cN,cL])⟩
 have e:l.drop i= []:=A9 om
 rw[e,List.any_nil]at hinv
 rw[aiu (by rw[<-hinv];exact Bool.false_ne_true)]at hM
 by_cases a5:s= [78,79,84]
 .rw[aiv a5]at hM
  refine zA ?_
  simp[go_sem,q,a5,aa,hx]
  refine pC (Uv x) ?_
  simp[go_sem]
  refine pC (FY (!Ey x)) ?_
  simp[go_sem]
  exact ret _ _ _ hM
 by_cases a6:s= [78,69,71]
 .rw[aiu a5,aiv a6]at hM
  refine zA ?_
  simp[go_sem,q,a6,aa,hx]
  refine pC (ON 0 x.n dC ad) ?_
  simp[go_sem,wI]
  refine pC (Uu (fj (-x.n))) ?_
  simp[go_sem,fk]
  exact xj hM
 rw[aiu a5,aiu a6]at hM
 have h3:1<l.length:=by
  by_cases q:1<l.length
  .exact q
  .rcases hs om with h|h|h|h
   .exact absurd h a1
   .exact absurd h a2
   .exact absurd h a5
   .exact absurd h a6
 obtain⟨y,hy⟩:=eX (l[1]'h3)
 have ai:l.getD 1 zeroV=y:=by rw[Al,A0 h3,hy];rfl
 have aj:gv y.n:=hn y (hy▸A8 h3)
 rw[ai]at hM
 have b5:(s== [78,79,84])=false:=sU a5
 have b6:(s== [78,69,71])=false:=sU a6
 have ak:=Us x y
 have ae:=xY8 s (jA x y)
 have af:=FY (Gq s (jA x y))
 have al:=xO4 s x.n y.n ad aj
 have an:=Uu (AY s x.n y.n)
 by_cases a7:mI.contains s=true
 .rw[aiv a7]at hM
  have a8:s= [61]\/s= [60,62]\/s= [60]\/s= [60,61]\/s= [62]\/s= [62,61]:=by
   simpa[mI]using a7
  rcases a8 with a8|a8|a8|a8|a8|a8
  all_goals
   rw[a8]at ae af hM
   refine zA ?_
   simp[go_sem,q,a8]
   refine yE [(7,0),(8,0),(9,0)] 1 rfl kR kR ?_
   simp[go_sem,aa,hx,h3,hy]
   refine zJ om ?_
   simp[go_sem]
   refine pD ak ?_
   simp[go_sem]
   refine pD ae ?_
   simp[go_sem]
   refine pD af ?_
   simp[go_sem]
   exact ret _ _ _ hM
 rw[aiu a7]at hM
 have a8: ¬s= [61]/\ ¬s= [60,62]/\ ¬s= [60]/\ ¬s= [60,61]/\ ¬s= [62]/\ ¬s= [62,61]:=by
  simpa[mI]using a7
 have c1:(s== [61])=false:=sU a8.1
 have c2:(s== [60,62])=false:=sU a8.2.1
 have c3:(s== [60])=false:=sU a8.2.2.1
 have c4:(s== [60,61])=false:=sU a8.2.2.2.1
 have c5:(s== [62])=false:=sU a8.2.2.2.2.1
 have c6:(s== [62,61])=false:=sU a8.2.2.2.2.2
 refine zA ?_
 simp[go_sem,q,b5,b6,c1,c2,c3,c4,c5,c6]
 refine yE [(9,0),(12,0)] 1 rfl kR kR ?_
 simp[go_sem,aa,hx,h3,hy]
 refine zJ om ?_
 simp[go_sem]
 refine pD al ?_
 simp[go_sem,wI]
 refine pD an ?_
 simp[go_sem,fk]
 exact xj hM
mutual
def nX (T:bL) (row:List bK):bJ->bK×Int
 | .mk k s v args=>
  if k=1 then(v,0)else if k=2 then(row.getD (cV T s).toNat zeroV,0)
  else if(gp T row args).2≠0 then(zeroV,(gp T row args).2)else tW s (gp T row args).1
def gp (T:bL) (row:List bK):List bJ->List bK×Int
 | []=>([],0)
 |e::l=>if(nX T row e).2≠0 then([],(nX T row e).2)else((nX T row e).1::(gp T row l).1,(gp T row l).2)
end
theorem Ux (T:bL) (row:List bK) (e:bJ):nX T row e=
  if e.kind=1 then(e.v,0)else if e.kind=2 then(row.getD (cV T e.s).toNat zeroV,0)
  else if(gp T row e.args).2≠0 then(zeroV,(gp T row e.args).2)else tW e.s (gp T row e.args).1:=by cases e;rfl
structure VK (v:bK) (k:Int):Prop where
 may:ez v=true
 n:gv v.n
 kind:v.kind=k\/v.kind=0
theorem Gr (k:Int):VK zeroV k:=⟨dC,dC,.inr rfl⟩
theorem Lh (b:Bool):VK (uO b) 1:=by cases b<;>exact⟨dC,dC,.inl rfl⟩
theorem OO (n:Int):gv (fj n).1:=by
 grind[fj]
theorem xc5 {s:aiZ} {a b:Int} (ha:gv a) (hb:gv b):gv (AY s a b).1:=by
 unfold AY
 repeat' split
 all_goals first|exact OO _|exact we1 ha hb|decide
theorem Uy {r:Int×Int} (h:gv r.1):VK (xh r).1 2:=by
 unfold xh
 split
 .exact⟨rfl,h,.inl rfl⟩
 grind[Gr]
theorem Li (w:Int): ∀(l:List bK) (b:Bool),(∀v∈l,VK v 1)->VK (sq w l b) 1
 | [],b,_=>by
  grind[sq,Gr,Lh]
 |v::l,b,h=>by
  rw[sq]
  split
  .exact Li w l true λx hx=>h x (Ba _ hx)
  .split
   .exact h v (B1 ..)
   .exact Li w l b λx hx=>h x (Ba _ hx)
theorem Gs {m s:Bool} {k k':Int} (h:wv m s k=(k',0)):m=true/\s=true/\k'=k:=by
 unfold wv at h
 grind
inductive OpK (s:aiZ) (ks:aj2) (k:Int):Prop
 |null (hs:s= [73,83,78,85,76,76]\/s= [78,79,84,78,85,76,76]) (hl:ks.length=1) (hk:k=1)
 |not (hs:s= [78,79,84]) (hl:ks.length=1) (ha:iz ks 1) (hk:k=1)
 |neg (hs:s= [78,69,71]) (hl:ks.length=1) (ha:iz ks 2) (hk:k=2)
 |both (hs:s= [79,82]\/s= [65,78,68]) (hl:ks.length=2) (ha:iz ks 1) (hk:k=1)
 |sum (hs:s= [43]\/s= [45]\/s= [42]\/s= [47]\/s= [37]) (hl:ks.length=2) (ha:iz ks 2) (hk:k=2)
 |cmp (hs:s= [61]\/s= [60,62]\/s= [60]\/s= [60,61]\/s= [62]\/s= [62,61]) (hl:ks.length=2) (hk:k=1)
theorem xN2 {s:aiZ} {ks:aj2} {k:Int} (h:oZ s ks=(k,0)):OpK s ks k:=by
 have one:((ks.length:Int)==1)=true->ks.length=1:=(by grind)
 have two:((ks.length:Int)==2)=true->ks.length=2:=(by grind)
 unfold oZ at h
 split at h
 .obtain⟨h1,_,h3⟩:=Gs h;exact .null om (one h1) h3
 split at h
 .obtain⟨h1,h2,h3⟩:=Gs h;exact .not om (one h1) h2 h3
 split at h
 .obtain⟨h1,h2,h3⟩:=Gs h;exact .neg om (one h1) h2 h3
 split at h
 .obtain⟨h1,h2,h3⟩:=Gs h;exact .both om (two h1) h2 h3
 split at h
 .obtain⟨h1,h2,h3⟩:=Gs h;exact .sum om (two h1) h2 h3
 split at h
 .obtain⟨h1,_,h3⟩:=Gs h;exact .cmp om (two h1) h3
 grind
theorem Uz {R:bK->Int->Prop}: ∀{l:List bK} {ks:aj2},bP R l ks->l.length=ks.length
 | [],[],_=>rfl
 |_::_,_::_,⟨_,h⟩=>by rw[Ah,Ah,Uz h]
theorem OP {k:Int}: ∀{l:List bK} {ks:aj2},bP VK l ks->iz ks k=true-> ∀v∈l,VK v k
 | [],[],_,_,v,hv=>by cases hv
 |x::l,y::ks,⟨h1,h2⟩,ha,v,hv=>by
  unfold iz at ha
  rw[Bl,Ab,Ce,aiB,aiB]at ha
  rcases Ae.1 hv with rfl|hv
  .exact⟨h1.may,h1.n,by
    rcases h1.kind with q|q
    all_goals omega⟩
  .exact OP h2 ha.2 v hv
theorem UA {R:bK->Int->Prop} (hR: ∀v k,R v k->gv v.n): ∀{l:List bK} {ks:aj2},bP R l ks-> ∀v∈l,gv v.n
 | [],[],_,v,hv=>by cases hv
 |x::l,y::ks,⟨h1,h2⟩,v,hv=>by
  rcases Ae.1 hv with rfl|hv
  .grind
  .exact UA hR h2 v hv
theorem xt6 (l:List bK):tW [78,79,84] l=if(l.any λv=>v.kind==0)=true then(zeroV,0)else(uO (!Ey (l.getD 0 zeroV)),0):=rfl
theorem xt5 (l:List bK):tW [78,69,71] l=if(l.any λv=>v.kind==0)=true then(zeroV,0)else xh (fj (-(l.getD 0 zeroV).n)):=rfl
theorem xt4 {s:aiZ} (hs:s= [61]\/s= [60,62]\/s= [60]\/s= [60,61]\/s= [62]\/s= [62,61]) (l:List bK):
  tW s l=if(l.any λv=>v.kind==0)=true then(zeroV,0)else(uO (Gq s (jA (l.getD 0 zeroV) (l.getD 1 zeroV))),0):=by
 rcases hs with rfl|rfl|rfl|rfl|rfl|rfl<;>rfl
theorem xt7 {s:aiZ} (hs:s= [43]\/s= [45]\/s= [42]\/s= [47]\/s= [37]) (l:List bK):
  tW s l=if(l.any λv=>v.kind==0)=true then(zeroV,0)else xh (AY s (l.getD 0 zeroV).n (l.getD 1 zeroV).n):=by
 rcases hs with rfl|rfl|rfl|rfl|rfl<;>rfl
theorem UB {s:aiZ} {l:List bK} {ks:aj2} {k:Int} (ho:oZ s ks=(k,0)) (ha:bP VK l ks):
  VK (tW s l).1 k/\1<=l.length/\l.length<=2/\(∀v∈l,gv v.n)/\(l.length=1->s= [73,83,78,85,76,76]\/s= [78,79,84,78,85,76,76]\/s= [78,79,84]\/s= [78,69,71]):=by
 have hlen:=Uz ha
 have hn:=UA (λ_ _ h=>VK.n h) ha
 have hx: ∀j,gv (l.getD j zeroV).n:=λj=>by
  rw[Al]
  cases hj:l[j]? with
  |none=>decide
  |some v=>grind
 have ab: ∀n:Int,gv (fj n).1:=OO
 cases xN2 ho with
 |null hs hl hk=>
  subst hk
  refine⟨?_,om,om,hn,(by grind)⟩
  rcases hs with rfl|rfl<;>exact Lh _
 |not hs hl aa hk=>
  grind[xt6,Gr,Lh]
 |neg hs hl aa hk=>
  grind[xt5,Gr,Uy]
 |both hs hl aa hk=>
  subst hk
  refine⟨?_,om,om,hn,om⟩
  rcases hs with rfl|rfl
  .exact Li 1 l false (OP ha aa)
  .exact Li 0 l false (OP ha aa)
 |sum hs hl aa hk=>
  grind[xt7,Gr,Uy,xc5]
 |cmp hs hl hk=>
  grind[xt4,Gr,Lh]
structure nY (T:bL) (row:List bK):Prop where
 len:row.length=T.cm.length
 cell: ∀(j:Nat) (C:fw) (v:bK),T.cm[j]? =some C->row[j]? =some v->VK v C.kind
theorem Lj {T:bL} {row:List bK} (hr:nY T row): ∀(n:Nat) (e:bJ),ij e<=n->Good e->(lC T e).2=0->(nX T row e).2=0->VK (nX T row e).1 (lC T e).1
 |0,e,h,_,_,_=>by grind[KM]
 |n+1,e,h,hg,hk,he=>by
  have ih:=Lj hr n
  have ad:=uQ e
  rw[Ux]at he⊢
  rw[OB]at hk⊢
  by_cases q1:e.kind=1
  .rw[aiv q1]at hk⊢
   rw[aiv q1]
   by_cases w:e.s.isEmpty=false\/e.args.isEmpty=false\/ez e.v=false
   .grind
   .rw[aiu w]
    refine⟨by grind,⟨hg.v.n.1,hg.v.n.2⟩,.inl rfl⟩
  rw[aiu q1]at hk he⊢
  rw[aiu q1]
  by_cases q2:e.kind=2
  .rw[aiv q2]at hk⊢
   rw[aiv q2]
   by_cases w:cV T e.s<0
   .grind
   rw[aiu w]at hk⊢
   by_cases w2:e.args.isEmpty=false\/nS e.v=false
   .grind
   rw[aiu w2]
   obtain⟨j,hj,aa⟩:=K4 T e.s w
   have ab:j<row.length:=by rw[hr.len];omega
   simp only
   rw[hj,B0,Al,A0 ab]
   unfold kT
   rw[B0,A0 aa]
   exact hr.cell j _ _ sm sm
  rw[aiu q2]at hk he⊢
  rw[aiu q2]
  by_cases q3:e.kind=3
  rotate_left
  .grind
  rw[aiv q3]at hk⊢
  have ae:=hg.sub
  have list: ∀args:List bJ,(∀x∈args,x∈e.args)->(wT T args).2=0->(gp T row args).2=0->bP VK (gp T row args).1 (wT T args).1:=by
   intro args
   induction args with
   |nil=>intro _ _ _;trivial
   |cons x l af=>
    intro hm hk he
    rw[wT]at hk⊢
    rw[gp]at he⊢
    by_cases w1:(lC T x).2=0
    rotate_left
    .grind
    by_cases w2:(nX T row x).2=0
    rotate_left
    .grind
    have n1: ¬(lC T x).2≠0:=om
    have n2: ¬(nX T row x).2≠0:=om
    rw[aiu n1]at hk⊢
    rw[aiu n2]at he⊢
    have hx:=hm x (B1 ..)
    have ah:=DV e.args x hx
    exact⟨(by grind),(by grind)⟩
  by_cases w1:(wT T e.args).2=0
  rotate_left
  .grind
  by_cases w2:(gp T row e.args).2=0
  rotate_left
  .grind
  have n1: ¬(wT T e.args).2≠0:=om
  have n2: ¬(gp T row e.args).2≠0:=om
  rw[aiu n1]at hk⊢
  rw[aiu n2]at he⊢
  by_cases w3:nS e.v=false
  .grind
  rw[aiu w3]at hk⊢
  exact(UB (Prod.ext rfl hk) (by grind)).1
theorem UC {T:bL}: ∀{args:List bJ},(wT T args).2=0-> ∀x∈args,(lC T x).2=0
 | [],_,x,hx=>by cases hx
 |y::l,h,x,hx=>by
  rw[wT]at h
  by_cases w:(lC T y).2=0
  .have n1: ¬(lC T y).2≠0:=λh=>h w
   rw[aiu n1]at h
   rcases Ae.1 hx with rfl|hx
   .exact w
   .exact UC h x hx
  .rw[aiv w]at h;exact absurd h w
theorem UD {T:bL} {row:List bK} (hr:nY T row) (n:Nat): ∀{args:List bJ},(∀x∈args,ij x<=n/\Good x)->(wT T args).2=0->(gp T row args).2=0->bP VK (gp T row args).1 (wT T args).1
 | [],_,_,_=>trivial
 |x::l,hm,hk,he=>by
  rw[wT]at hk⊢
  rw[gp]at he⊢
  by_cases w1:(lC T x).2=0
  rotate_left
  .rw[aiv w1]at hk;exact absurd hk w1
  by_cases w2:(nX T row x).2=0
  rotate_left
  .rw[aiv w2]at he;exact absurd he w2
  have n1: ¬(lC T x).2≠0:=λh=>h w1
  have n2: ¬(nX T row x).2≠0:=λh=>h w2
  rw[aiu n1]at hk⊢
  rw[aiu n2]at he⊢
  have hx:=hm x (B1 ..)
  exact⟨Lj hr n x hx.1 hx.2 w1 w2,UD hr n (λy hy=>hm y (Ba _ hy)) hk he⟩
theorem OQ {T:bL} {row:List bK} (hr:nY T row) (hT:T.cm.length<=maxLen): ∀(n:Nat) (e:bJ),ij e<=n->fB e->Good e->(lC T e).2=0->Pure prog 213 [.agg T.row,.sl .ro (row.map bK.row),.agg e.row] (fk (nX T row e))
 |0,e,h,_,_,_=>by have:=KM e;omega
 |n+1,e,h,hw,hg,hk=>by
  have ih:=OQ hr hT n
  have cQ:= @UD _ _ hr n
  have aw:=uQ e
  have hlen:=hw.len
  have aj:=hw.sub
  have al:=hg.sub
  have af:=Gg T e.s hT
  rw[show iG (λc:fw=>c.name==e.s) T.cm 0=cV T e.s from rfl]at af
  obtain⟨M,hM⟩:=eX (nX T row e)
  rw[hM]
  rw[Ux]at hM
  rw[OB]at hk
  have ret: ∀(v:bK) (e:Int) (I:St),(v,e)=M->cx (some (.cy [.agg v.row,.int .i64 e])) 0 (λr s=>r=fk M/\s= []) I:=λv e I h=>xj h
  refine iV 0 func213 ntmps213 results213 λc hc hb=> ?_
  refine zA ?_
  simp[go_sem]
  by_cases q1:e.kind=1
  .have ah:(e.kind==1)=true:=sU q1
   rw[aiv q1]at hM
   simp[go_sem,ah]
   exact ret _ _ _ hM
  rw[aiu q1]at hM hk
  have ah:(e.kind==1)=false:=sU q1
  by_cases q2:e.kind=2
  .have an:(e.kind==2)=true:=sU q2
   rw[aiv q2]at hM hk
   by_cases w:cV T e.s<0
   .rw[aiv w]at hk;cases hk
   obtain⟨j,hj,ax⟩:=K4 T e.s w
   have aq:j<row.length:=by rw[hr.len];exact ax
   obtain⟨v,hv⟩:=eX (row[j])
   rw[hj,B0,Al,A0 aq,hv]at hM
   rw[hj]at af
   simp[go_sem,ah,an]
   refine zL af cB (zP sg rfl) rfl ?_
   simp[go_sem,aq,hv]
   exact ret _ _ _ hM
  rw[aiu q2]at hM hk
  have an:(e.kind==2)=false:=sU q2
  by_cases q3:e.kind=3
  rotate_left
  .rw[aiu q3]at hk;cases hk
  rw[aiv q3]at hk
  obtain⟨args,ab⟩:=eX e.args
  rw[ab]at aw hlen aj al hM hk
  by_cases w1:(wT T args).2=0
  rotate_left
  .rw[aiv w1]at hk;exact absurd hk w1
  have n1: ¬(wT T args).2≠0:=λh=>h w1
  rw[aiu n1]at hk
  by_cases w3:nS e.v=false
  .rw[aiv w3]at hk;cases hk
  rw[aiu w3]at hk
  have ay:oZ e.s (wT T args).1=((oZ e.s (wT T args).1).1,0):=Prod.ext rfl hk
  have ar:=UC w1
  have ak:(gp T row args).2=0->bP VK (gp T row args).1 (wT T args).1:=λh=>
   cQ (λx hx=>⟨by have:=DV args x hx;omega,al x hx⟩) w1 h
  obtain⟨K,hK⟩:=eX (gp T row args)
  rw[hK]at hM ak
  simp[go_sem,ah,an,ab]
  refine lU 8 3 dC sg ?_
  refine zH (S:=Nat×List bK) [1,3,5,6,8,29,30,31] (λu=> [.sl .ro (row.map bK.row),.ptr 0 0,.ptr 1 0,.ptr 2 0,.sl (.app 3) (u.2.map bK.row),.sl .ro (args.map bJ.row),.int .i64 args.length,.int .i64 (u.1:Int)])
   (λu=> [.box T.row,.box e.row,.box [.int .i64 0,.int .i64 0,.str []],.app u.2.length 3]) (λu=>args.length - u.1)
   (λu=>u.1<=args.length/\u.2.length=u.1/\(gp T row (args.drop u.1)).2=K.2/\(K.2=0->u.2++(gp T row (args.drop u.1)).1=K.1)) hc hb (0,[])
   ⟨A3 _,rfl,by simp only[Bh];rw[hK],λ_=>by simp only[Bh];rw[hK];rfl⟩ ?_ ?_
  .exact cc 4 (by simp[go_sem,ab]) rfl (by simp[bS,cN,cL,bJ.bQ,bL.row]) (A3 _) (zD sg rfl)
  rintro⟨i,l⟩ ⟨hi,hl,hinv,aa⟩
  simp only at hi hl hinv aa
  by_cases q:i<args.length
  rotate_left
  .rw[A9 om,gp]at hinv aa
   have ae:K.2=0:=hinv.symm
   have au:l=K.1:=by have:=aa ae;simpa using this
   have n2: ¬K.2≠0:=λh=>h ae
   rw[aiu n2,<-au]at hM
   have hA:=ak ae
   rw[<-au]at hA
   obtain⟨_,d1,d2,d3,d4⟩:=UB ay hA
   have av:=wl2 e.s l d1 d2 d3 d4
   generalize tW e.s l=o at av hM
   refine zA ?_
   simp[go_sem,q]
   refine pC av ?_
   simp[go_sem,fk]
   exact xj hM
  have ei:=zQ q om
  obtain⟨x,hx⟩:=eX (args[i])
  have ai:x∈args:=hx▸A8 q
  have az:=DV args x ai
  rw[A5 q,hx,gp]at hinv aa
  have ad:=ih x om (aj x ai) (al x ai) (ar x ai)
  generalize nX T row x=kx at ad hinv aa
  by_cases q4:kx.2=0
  .have n3: ¬kx.2≠0:=λh=>h q4
   rw[aiu n3]at hinv aa
   have ao:(kx.2 !=0)=false:=sU q4
   refine zA ?_
   simp[go_sem,q,hx]
   refine zL ad cB (zP sg (by rw[bJ.bQ];rfl)) rfl ?_
   simp[go_sem,fk,ao]
   refine zJ ⟨om,by unfold eI;simp⟩ ?_
   simp[go_sem,ei]
   refine zI (i+1,l++ [kx.1]) ⟨by simp only;omega,⟨by simp only;omega,by simp;omega,hinv,λh=>by have:=aa h;simpa using this⟩, ?_⟩
   exact aN 4 (by simp[bS,cN,cL,bJ.bQ])
  .rw[aiv q4]at hinv
   have ao:(kx.2 !=0)=true:=sU q4
   have ae:kx.2=K.2:=hinv
   rw[aiv (by rw[<-ae];exact q4),<-ae]at hM
   refine zA ?_
   simp[go_sem,q,hx]
   refine zL ad cB (zP sg (by rw[bJ.bQ];rfl)) rfl ?_
   simp[go_sem,fk,ao]
   exact ret zeroV _ _ hM
def eQ:bL:=⟨[],[],0,0,0,⟨[],[],[],0,0,0⟩⟩
theorem UE:nY eQ []:=⟨rfl,λj C v h=>by simp[eQ]at h⟩
theorem xL7:eQ.cm= []:=rfl
def kD (e:bJ):bK×Int:=if(iM eQ e).2≠0 then(zeroV,(iM eQ e).2)else nX eQ [] e
theorem UF {e:bJ} (he:ja e) (h:(kD e).2=0):VK (kD e).1 (iM eQ e).1:=by
 unfold kD at h⊢
 by_cases q:(iM eQ e).2=0
 rotate_left
 .rw[aiv q]at h;exact absurd h q
 have n1: ¬(iM eQ e).2≠0:=λh=>h q
 rw[aiu n1]at h⊢
 have hs:=he.size
 unfold iM at q⊢
 by_cases d:ij e<=64
 .rw[aiv d]at q⊢
  exact Lj UE 64 e d he.dS q h
 .rw[aiu d]at q;cases q
theorem OR (e:bJ) (he:ja e):Pure prog 152 [.agg eQ.row,.sl .ro [],.agg e.row] (fk (kD e)):=by
 have ab:=K5 eQ (by simp[eQ,maxLen]) e he
 have ad:=λ(d:ij e<=64) (k:(lC eQ e).2=0)=>OQ UE (by simp[eQ,maxLen]) 64 e d he.wide he.dS k
 generalize hM:kD e=M
 unfold kD at hM
 have ret: ∀(v:bK) (e:Int) (I:St),(v,e)=M->cx (some (.cy [.agg v.row,.int .i64 e])) 0 (λr s=>r=fk M/\s= []) I:=λv e I h=>xj h
 refine iV 0 func152 ntmps152 results152 λc hc hb=> ?_
 refine zA ?_
 simp[go_sem]
 refine zL ab cB (zP sg (by rw[bJ.bQ];rfl)) rfl ?_
 simp[go_sem,wI]
 by_cases q:(iM eQ e).2=0
 rotate_left
 .have q':((iM eQ e).2 !=0)=true:=sU q
  rw[aiv q]at hM
  simp[go_sem,q']
  exact ret zeroV _ _ hM
 have q':((iM eQ e).2 !=0)=false:=sU q
 have n1: ¬(iM eQ e).2≠0:=λh=>h q
 rw[aiu n1]at hM
 have aa:Pure prog 213 [.agg eQ.row,.sl .ro [],.agg e.row] (fk (nX eQ [] e)):=by
  unfold iM at q
  by_cases d:ij e<=64
  .rw[aiv d]at q;exact ad d q
  .rw[aiu d]at q;cases q
 rw[hM]at aa
 simp[go_sem,q',xL7]
 refine zH (S:=Unit) [1,3,5,6,29,30,31] (λ_=> [.sl .ro [],.ptr 0 0,.ptr 1 0,.ptr 2 0,.sl .ro [],.int .i64 0,.int .i64 0])
   (λ_=> [.box eQ.row,.box e.row,.box [.int .i64 0,.int .i64 0,.str []]]) (λ_=>0) (λ_=>True) hc hb () trivial ?_ ?_
 .exact cc 3 (by simp[go_sem,eQ]) rfl (by simp[bS,cN,cL,bJ.bQ,bL.row]) (A3 _) (zD sg rfl)
 rintro u _
 refine zA ?_
 simp[go_sem]
 refine zL aa cB (zP sg (by rw[bJ.bQ];rfl)) rfl ?_
 simp[go_sem,fk]
 exact xj rfl
end Go.Proofs.YtplackkccmeioaaGreat
namespace Go.Proofs.YtplackkccmeioaaGreat.R
open Go Go.Vx Go.Proofs.Tryz
set_option maxRecDepth 100000
variable {cm:List fw}
def AZ:List fw->List bK->Int
 |c::cs,v::vs=>if ez v=false then 9 else if v.kind=0/\c.null=false then 16 else if v.kind≠0/\v.kind≠c.kind then 15 else AZ cs vs
 |_,_=>0
def fe (cm:List fw) (row:List bK):Int:=if row.length≠cm.length then 9 else AZ cm row
theorem UG (t:bL) (row:List bK) (hr:row.length<=maxLen):Pure prog 150 [.agg t.row,.sl .ro (row.map bK.row)] (.int .i64 (fe t.cm row)):=by
 obtain⟨name,cm,key,place,region,my⟩:=t
 refine iV 0 func150 ntmps150 results150 λc hc hb=> ?_
 refine zA ?_
 have ret: ∀(r:Int) (I:St),r=fe cm row->cx (some (.int .i64 r)) 0 (λr s=>r= .int .i64 (fe cm row)/\s= []) I:=λr I h=>by subst h;exact wR
 simp[go_sem]
 refine zV (λh=> ?_) (λh=> ?_)
 .have h:row.length≠cm.length:=by simp at h;omega
  simp[go_sem]
  exact ret _ _ (by rw[fe,aiv h])
 have h:row.length=cm.length:=by simp at h;omega
 rw[fe,aiu om]at ret⊢
 simp[go_sem]
 refine zH (S:=Nat) [2,13,14,15] (λi=> [.ptr 0 0,.sl .ro (row.map bK.row),.int .i64 row.length,.int .i64 i]) (λ_=> [.box (bL.row ⟨name,cm,key,place,region,my⟩)]) (λi=>row.length - i) (λi=>i<=row.length/\AZ (cm.drop i) (row.drop i)=AZ cm row) hc hb 0 ⟨A3 _,rfl⟩ ?_ ?_
 .exact aN 1 rfl
 rintro i ⟨hi,hinv⟩
 refine zA ?_
 simp[go_sem]
 refine zV (λq=> ?_) (λq=> ?_)
 .have q:i<row.length:=sU q
  have q2:i<cm.length:=om
  have ei:=zQ q (by unfold maxLen at hr;omega)
  rw[A5 q,A5 q2]at hinv
  obtain⟨⟨k,n,s⟩,hv⟩: ∃v,row[i]=v:=⟨_,rfl⟩
  obtain⟨⟨cn,ck,cb⟩,ab⟩: ∃v,cm[i]=v:=⟨_,rfl⟩
  rw[hv,ab,AZ]at hinv
  simp only at hinv
  simp[go_sem,q,hv]
  refine pC (Gb ⟨k,n,s⟩) ?_
  simp[go_sem]
  refine zV (λh1=> ?_) (λh1=> ?_)
  .have h1:ez ⟨k,n,s⟩=false:=sU h1
   rw[aiv h1]at hinv
   simp[go_sem]
   exact ret _ _ hinv
  have h1: ¬ez ⟨k,n,s⟩=false:=sU h1
  rw[aiu h1]at hinv
  simp[go_sem]
  refine xD (λh2=> ?_) (λh2=> ?_)
  .have aa:k=0:=sU h2
   simp[go_sem,h2,q2,ab]
   refine zV (λh3=> ?_) (λh3=> ?_)
   .have h3:cb=false:=sU h3
    rw[aiv ⟨aa,h3⟩]at hinv
    simp[go_sem]
    exact ret _ _ hinv
   have h3: ¬cb=false:=sU h3
   rw[aiu (λw=>h3 w.2),aiu (λw=>w.1 aa)]at hinv
   simp[go_sem]
   refine yE [] 2 rfl kR kR ?_
   simp[go_sem,aa,ei]
   exact zI (i+1) ⟨om,⟨q,hinv⟩,aM 1 rfl (zD (by simp[go_sem]) rfl)⟩
  .have aa: ¬k=0:=sU h2
   rw[aiu (λw=>aa w.1)]at hinv
   simp[go_sem,h2]
   refine yE [] 2 rfl kR kR ?_
   have ad:(k !=0)=true:=sU aa
   simp[go_sem,ad,q2,ab]
   refine zV (λh4=> ?_) (λh4=> ?_)
   .have h4: ¬k=ck:=sU h4
    rw[aiv ⟨aa,h4⟩]at hinv
    simp[go_sem]
    exact ret _ _ hinv
   have h4:k=ck:=sU h4
   rw[aiu (λw=>w.2 h4)]at hinv
   simp[go_sem,ei]
   exact zI (i+1) ⟨om,⟨q,hinv⟩,aM 1 rfl (zD (by simp[go_sem]) rfl)⟩
 .have q:i=row.length:=by
   have: ¬i<row.length:=sU q
   omega
  subst q
  rw[Cj,h,Cj]at hinv
  simp[go_sem]
  exact ret _ _ hinv
def tX (n j:Nat) (t:bL) (row:List bK) (rg:Int->Int×Int):Int×aiZ×Int:=
 if fe t.cm row≠0 then(0,[],fe t.cm row)
 else
  let r:=rg (if t.place=0 then min (max (row.headD v0).n (-1)) 4 else 0)
  if r.2≠0 then(0,[],r.2)else(r.1,nP n j (row.getD t.key.toNat v0),0)
def tY (r:Int×aiZ×Int):V:= .cy [.int .i64 r.1,.str r.2.1,.int .i64 r.2.2]
theorem Ip {r:Int×aiZ×Int} {a e:Int} {s:aiZ} {I:St} (h:r=(a,s,e)):cx (some (.cy [.int .i64 a,.str s,.int .i64 e])) 0 (λv s=>v=tY r/\s= []) I:=by
 subst h
 exact wR
theorem xk {row:List bK} (h:fe cm row=0):row.length=cm.length:=by
 unfold fe at h
 split at h
 .cases h
 .rename_i h2;omega
theorem xB8 (ae:List (List V)) (ts:List bL) (j:Nat) (hj:j<ts.length) (t:bL) (ht:ts[j]=t) (row:List bK) (hr:row.length<=maxLen) (hL:fe t.cm row=0->jb row) (hn:ts.length<=cG) (hk:0<=t.key/\t.key<t.cm.length) (rg:Int->Int×Int)
  (ah: ∀r,-1<=r->r<=4->(t.place≠0->r=0)->Pure prog 114 [.agg [.sl .ro ae,.sl .ro (ts.map bL.row)],.int .i64 j,.int .i64 r] (.cy [.int .i64 (rg r).1,.int .i64 (rg r).2])):
  Pure prog 104 [.agg [.sl .ro ae,.sl .ro (ts.map bL.row)],.int .i64 j,.sl .ro (row.map bK.row)] (tY (tX ts.length j t row rg)):=by
 have af:=UG t row hr
 have hbound: ∀v:bK,v.ok->v.s.length<=500->_:=λv h1 h2=>Tt ae (ts.map bL.row) j v (sU hn) h1 h2
 simp only[Ag]at hbound
 generalize aa:tX ts.length j t row rg=res
 unfold tX at aa
 obtain⟨m,hm⟩:=eX (fe t.cm row)
 have hlen:m=0->row.length=t.cm.length:=λh=>xk (hm.trans h)
 rw[hm]at af hL aa
 obtain⟨name,cm,key,place,region,my⟩:=t
 simp only at hk hlen aa
 obtain⟨q,rfl⟩: ∃q:Nat,key=q:=⟨key.toNat,om⟩
 refine iV 0 func104 ntmps104 results104 λc hc hb=> ?_
 refine zA ?_
 simp[go_sem]
 refine pC (jw ae (ts.map bL.row) j) ?_
 simp[go_sem,hj,ht]
 refine zL af cB (zP sg rfl) rfl ?_
 simp[go_sem]
 refine zV (λh=> ?_) (λh=> ?_)
 .have h:m≠0:=sU h
  simp[go_sem]
  exact Ip (by rw[<-aa,aiv h])
 have h:m=0:=sU h
 have hl:=hlen h
 have hq:q<row.length:=om
 have h0:0<row.length:=om
 have ai:=hL h
 obtain⟨v,hv⟩:=eX (row[q])
 obtain⟨v1,aj⟩: ∃v,row[0]=v:=⟨_,rfl⟩
 have ak:v∈row:=hv▸A8 hq
 have e1:row.headD v0=v1:=by
  rw[<-aj]
  cases row with
  |nil=>simp at h0
  |cons a l=>rfl
 have e2:row.getD q v0=v:=by rw[Al,A0 hq,hv];rfl
 rw[aiu om,e1,B0,e2]at aa
 have al:=hbound v (ai.ok v ak) (ai.s v ak)
 have fin: ∀(x:Int) (I:St),(if place=0 then min (max v1.n (-1)) 4 else 0)=x->((rg x).2≠0->res=(0,[],(rg x).2))/\((rg x).2=0->res=((rg x).1,nP ts.length j v,0)):=λx I hx=>by
  rw[hx]at aa
  exact⟨λw=>by rw[<-aa];exact aiv w,λw=>by rw[<-aa];exact aiu (λq=>q w)⟩
 simp[go_sem]
 refine zV (λhp=> ?_) (λhp=> ?_)
 .have hp:place=0:=sU hp
  simp[go_sem,h0,aj]
  obtain⟨x,hx⟩:=eX ((if 4<if v1.n< -1 then -1 else v1.n then 4 else if v1.n< -1 then -1 else v1.n))
  have an:x=min (max v1.n (-1)) 4:=by rw[<-hx];split<;>split<;>omega
  rw[hx]
  have ab:=fin x [] (by rw[aiv hp,an])
  have ad:=ah x om om (λw=>absurd hp w)
  revert ab ad
  generalize rg x=o
  obtain⟨oa,oe⟩:=o
  intro ab ad
  simp only at ab ad
  refine pC ad ?_
  simp[go_sem]
  refine zV (λw=> ?_) (λw=> ?_)
  .have w:oe≠0:=sU w
   simp[go_sem]
   exact Ip (ab.1 w)
  have w:oe=0:=sU w
  simp[go_sem]
  refine yE [(8,0)] 2 rfl kR kR ?_
  simp[go_sem,hq,hv]
  refine pD al ?_
  simp[go_sem]
  exact Ip (ab.2 w)
 .have hp: ¬place=0:=sU hp
  have ab:=fin 0 [] (by rw[aiu hp])
  have ad:=ah 0 om om (λ_=>rfl)
  revert ab ad
  generalize rg 0=o
  obtain⟨oa,oe⟩:=o
  intro ab ad
  simp only at ab ad
  simp[go_sem]
  refine pC ad ?_
  simp[go_sem]
  refine zV (λw=> ?_) (λw=> ?_)
  .have w:oe≠0:=sU w
   simp[go_sem]
   exact Ip (ab.1 w)
  have w:oe=0:=sU w
  simp[go_sem]
  refine yE [(8,0)] 2 rfl kR kR ?_
  simp[go_sem,hq,hv]
  refine pD al ?_
  simp[go_sem]
  exact Ip (ab.2 w)
theorem UH {n:Nat} (h:n<256):(UInt8.ofNat n).toNat=n:=by
 simp_all
theorem Lk: ∀a:aiZ,Op.bytesLess a a=false
 | []=>rfl
 |a::l=>by simp[Op.bytesLess,Lk l]
theorem Iq: ∀a b c:aiZ,Op.bytesLess a b=true->Op.bytesLess b c=true->Op.bytesLess a c=true
 |_,[],_,h,_=>by grind[Op.bytesLess]
 |_,_::_,[],_,h=>by trivial
 | [],_::_,_::_,_,_=>rfl
 |a::l,b::m,d::n,h1,h2=>by
  simp only[Op.bytesLess,Ce,aiA,Ab,aiB]at*
  rcases h1 with h1|⟨rfl,h1⟩
  .grind
  .rcases h2 with h2|⟨rfl,h2⟩
   .grind
   .exact .inr ⟨rfl,Iq l m n h1 h2⟩
theorem OS: ∀a b:aiZ,Op.bytesLess a b=true\/a=b\/Op.bytesLess b a=true
 | [],[]=>sm
 | [],_::_=> .inl rfl
 |_::_,[]=> .inr (.inr rfl)
 |a::l,b::m=>by
  simp only[Op.bytesLess,Ce,aiA,Ab,aiB,List.cons.injEq]
  by_cases h:a<b
  .grind
  .by_cases h2:b<a
   .grind
   .have he:a=b:=(by grind)
    subst he
    rcases OS l m with q|rfl|q
    all_goals grind
theorem OT: ∀(n i v:Nat) (rest:aiZ),n<18446744073709551616->(n*128^i<18446744073709551616)->(0<i->0<n)->il (eG n++rest) i v=(v+n*128^i,i+(eG n).length,0):=by
 intro n
 induction n using Nat.strongRecOn with
 |_ n ih=>
  intro i v rest hn hb h0
  have h9:i=9->n<=1:=(by grind)
  by_cases h:n<128
  .have e:(UInt8.ofNat n).toNat=n:=UH om
   rw[Ga h]
   show il (UInt8.ofNat n::rest) i v=_
   rw[il,e,aiu om,aiv h,aiu om,Cw h]
   rfl
  .have e:(UInt8.ofNat (n%128+128)).toNat=n%128+128:=UH om
   rw[H0 h]
   show il (UInt8.ofNat (n%128+128)::(eG (n/128)++rest)) i v=_
   rw[il,e,aiu om,aiu om]
   have hdiv:n/128*128^(i+1)<=n*128^i:=by
    rw[E4,Dt (128^i) 128,<-Nat.mul_assoc]
    simp[Ak,Nat.div_mul_le_self]
   rw[ih (n/128) om (i+1) _ rest om om om]
   have e2:(n%128+128)%128=n%128:=om
   rw[e2,Ah]
   have e3:n%128*128^i+n/128*128^(i+1)=n*128^i:=by
    rw[E4,Dt (128^i) 128,<-Nat.mul_assoc,<-B4]
    grind
   grind
theorem wg5 (n:Int):kO (gH n)=n:=by
 unfold kO gH
 grind
theorem OU {v:bK} (h:ez v):(v.kind=0/\v.n=0/\v.s= [])\/(v.kind=1/\(v.n=0\/v.n=1)/\v.s= [])\/(v.kind=2/\v.s= [])\/(v.kind=3/\v.n=0/\v.s.length<=64):=by
 grind[ez]
theorem yT0 {v:bK} (h:ez v) (ho:v.ok) (rest:aiZ):lA (kC v++rest)=⟨v,(kC v).length,0⟩:=by
 have hp:=OU h
 have hi:=ho.n
 obtain⟨k,n,s⟩:=v
 simp only at hp hi
 unfold kC
 rw[aiv h]
 simp only
 rcases hp with ⟨rfl,rfl,rfl⟩|⟨rfl,hn,rfl⟩|⟨rfl,rfl⟩|⟨rfl,rfl,hl⟩
 .rfl
 .rcases hn with rfl|rfl<;>simp[lA,pe,ve]
 .grind[OT,gH,lA,pe,wg5]
 .have ht:=OT s.length 0 0 (s++rest) om om (λh=>om)
  have aa:tK (eG s.length++(s++rest))=(s,(eG s.length).length+s.length,0):=by
   unfold tK
   rw[ht]
   have e1:(eG s.length++(s++rest)).take ((eG s.length).length+s.length)=eG s.length++s:=by
    grind
   simp_all[wQ,aiu];omega
  grind[lA,pe]
theorem UJ: ∀(l:List bK),(∀v∈l,ez v=true)->(∀v∈l,v.ok)->iA l.length (l.flatMap kC)=some l
 | [],_,_=>by rfl
 |v::l,h,ho=>by
  have h1:=yT0 (h v sm) (ho v sm) (l.flatMap kC)
  have h2:=UJ l (λx hx=>h x (by simp[hx])) (λx hx=>ho x (by simp[hx]))
  rw[Ah,iA,Bw,h1]
  simp[h2]
theorem UK: ∀(cs:List fw) (vs:List bK),vs.length=cs.length->AZ cs vs=0-> ∀i (hi:i<cs.length) (hj:i<vs.length),ez vs[i]=true/\(cs[i].null=false->vs[i].kind=cs[i].kind)
 | [],[],_,_,i,hi,_=>by grind
 |c::cs,v::vs,hl,h,i,hi,hj=>by
  unfold AZ at h
  split at h
  .cases h
  .rename_i h1
   split at h
   .cases h
   .rename_i h2
    split at h
    .cases h
    .rename_i h3
     cases i with
     |zero=>
      refine⟨by simpa using h1,λhn=> ?_⟩
      have hn:c.null=false:=hn
      have:v.kind≠0:=λq=>h2 ⟨q,hn⟩
      exact Decidable.not_not.1 λq=>h3 ⟨this,q⟩
     |succ i=>exact UK cs vs (sU hl) h i (sU hi) (sU hj)
 | [],_::_,hl,_,_,_,_=>by grind
 |_::_,[],hl,_,_,_,_=>by grind
theorem xw2 {row:List bK} (h:fe cm row=0):AZ cm row=0:=by
 grind[fe]
theorem UL {row:List bK} (h:fe cm row=0): ∀v∈row,ez v=true:=λv hv=>by
 obtain⟨i,hi,rfl⟩:=Ci.1 hv
 exact(UK cm row (xk h) (xw2 h) i (by grind[xk]) hi).1
theorem xP4 {row:List bK} (h:fe cm row=0) (hL:jb row):jR cm.length (xL row)=(row,0):=by
 have hl:=xk h
 have aa:=hL.len
 have ht:=OT row.length 0 0 (row.flatMap kC) om om (λh=>om)
 have hd:xL row=eG row.length++row.flatMap kC:=by grind[xL,sb]
 unfold jR
 rw[hd,ht]
 simp[<-hl,UJ row (UL h) hL.ok,tL]
end Go.Proofs.YtplackkccmeioaaGreat.R
namespace Go.Proofs.YtplackkccmeioaaGreat
open Go Go.Vx R Go.Proofs.Tryz
set_option maxRecDepth 100000
end Go.Proofs.YtplackkccmeioaaGreat
namespace Go.Vx
open Go
end Go.Vx
namespace Go.Proofs.YtplackkccmeioaaGreat
open Go Go.Vx R Go.Proofs.Tryz
set_option maxRecDepth 100000
end Go.Proofs.YtplackkccmeioaaGreat
namespace Go.Proofs.YtplackkccmeioaaGreat
open Go Go.Vx R Go.Proofs.Tryz
set_option maxRecDepth 100000
def Ir (v:bK) (C:fw):Bool:=ez v&&(v.kind==0||v.kind==C.kind)
def Ez (cs:List fw) (row:List bK):Bool:=decide (row.length=cs.length)&&(row.zip cs).all λp=>Ir p.1 p.2
theorem UM {T:bL} {row:List bK} (h:Ez T.cm row) (hv: ∀v∈row,v.ok):nY T row:=by
 unfold Ez at h
 rw[Ab,aiA]at h
 refine⟨h.1,λj C v hC hV=> ?_⟩
 have hz:(row.zip T.cm)[j]? =some (v,C):=by rw[List.getElem?_zip_eq_some];exact⟨hV,hC⟩
 have h2:=Am.1 h.2 _ (Bk hz)
 unfold Ir at h2
 simp only[Ab,Ce,aiB]at h2
 have aa:=hv v (Bk hV)
 exact⟨h2.1,⟨aa.n.1,aa.n.2⟩,h2.2.elim .inr .inl⟩
def gL (T:bL) (row:List bK) (e:bJ):bK×Int:=if(iM T e).2≠0 then(zeroV,(iM T e).2)else if Ez T.cm row=false then(zeroV,9)else nX T row e
theorem OV (e:bJ):gL eQ [] e=kD e:=rfl
def kV (n:Int):Int:=if 4<(if n< -1 then -1 else n)then 4 else if n< -1 then -1 else n
theorem wb6 (n:Int):kV n= -1\/kV n=0\/kV n=1\/kV n=2\/kV n=3\/kV n=4:=by
 unfold kV
 repeat' split
 all_goals omega
def tZ (T:bL) (r:List bJ):Option Int:=
 if T.place=0 then(if(kD (r.getD 0 de)).2≠0\/(kD (r.getD 0 de)).1.kind≠2 then none else some (kV (kD (r.getD 0 de)).1.n))else some 0
def kn (t:Int) (r:List bJ) (uJ:US):US:=
 match bO[t.toNat]? with
 |none=>uJ
 |some T=>
  if r.length<=T.key.toNat then uJ else
  if(kD (r.getD T.key.toNat de)).2≠0\/(kD (r.getD T.key.toNat de)).1.kind=0 then uJ else
  match tZ T r with
  |none=>uJ
  |some g=>if(xF t g).2≠0 then uJ else lZ (xF t g).1 ⟨nP 3 t (kD (r.getD T.key.toNat de)).1,nP 3 t (kD (r.getD T.key.toNat de)).1++ [0]⟩ uJ
theorem wc2 (t:Int) (r:List bJ) (n:Nat) (uJ:US) (h:Bd n uJ):Bd (n+1) (kn t r uJ):=by
 unfold kn
 split
 .exact⟨by have:=h.1;omega,λy hy=>by have:=h.2 y hy;omega⟩
 .split
  .exact⟨by have:=h.1;omega,λy hy=>by have:=h.2 y hy;omega⟩
  .split
   .exact⟨by have:=h.1;omega,λy hy=>by have:=h.2 y hy;omega⟩
   .split
    .exact⟨by have:=h.1;omega,λy hy=>by have:=h.2 y hy;omega⟩
    .split
     .exact⟨by have:=h.1;omega,λy hy=>by have:=h.2 y hy;omega⟩
     .exact Bd.ee h _ _
section
variable {b:List V} {rows:List (List V)} {A:aj0} {τ:St}
theorem xH8:(gS b rows A++τ).take (A.length+2)=gS b rows A:=by rw[<-yK (b:=b) (rows:=rows),List.take_left]
end
theorem UN {v:bK} {k:Int} (h:VK v k):v.ok/\v.s.length<=500:=by
 have hm:=h.may
 have hn:=h.n
 unfold ez at hm
 have:cI v.kind/\v.s.length<=64:=by
  unfold cI
  split at hm
  .rename_i q;rw[q];simp at hm;exact⟨dC,by rw[hm.2];decide⟩
  split at hm
  .rename_i q;rw[q];simp at hm;exact⟨dC,by rw[hm.2];decide⟩
  split at hm
  .rename_i q;rw[q];simp at hm;exact⟨dC,by rw[hm];decide⟩
  split at hm
  .rename_i q;rw[q];simp at hm;exact⟨dC,hm.2⟩
  .cases hm
 exact⟨⟨this.1,hn,by unfold maxLen;omega⟩,om⟩
theorem wt8 (tn:Nat) (T:bL) (hT:bO[tn]? =some T) (r:List bJ) (hr:r.length<=1000) (he: ∀e∈r,ja e) (N:List (Int×List ca×Nat)) (A:aj0) (h:k8 N A) (hB:Bd 1000 (eW N)):
  bN prog 111 [.ptr 0 0,dJ bO,.int .i64 tn,.sl .ro (r.map bJ.row)] (iN N A) (λx s=>x= .cy []/\ ∃N' A',s=iN N' A'/\k8 N' A'/\eW N'=kn tn r (eW N)):=by
 have av: ∃kk:Nat,T.key=(kk:Int):=by
  match tn,hT with
  |0,h=>simp[bO]at h;subst h;exact⟨1,rfl⟩
  |1,h=>simp[bO]at h;subst h;exact⟨0,rfl⟩
  |2,h=>simp[bO]at h;subst h;exact⟨0,rfl⟩
  |n+3,h=>simp[bO]at h
 obtain⟨kk,aw⟩:=av
 generalize hM:kn tn r (eW N)=M
 unfold kn at hM
 rw[B0,hT]at hM
 simp only at hM
 rw[aw,B0]at hM
 have done: ∀(τ:St),eW N=M->cx (some (.cy [])) (A.length+2) (λx s=>x= .cy []/\ ∃N' A',s=iN N' A'/\k8 N' A'/\eW N'=M) (gS [.cM 1 2 N.length 0 N.length] (N.map e9) A++τ):=λτ hM=>
  yZ (A.length+2) (s:=gS [.cM 1 2 N.length 0 N.length] (N.map e9) A) xH8 yK (Gk _ _ h) (A7 _) (zC rfl) ⟨rfl,N,A,rfl,h,hM⟩
 have ak:tn<bO.length:=(A4.1 hT).1
 have ax:(tn:Int)=0\/(tn:Int)=1\/(tn:Int)=2:=by have:tn<3:=ak;omega
 have a8:bO[tn]'ak=T:=(A4.1 hT).2
 have aA:decide ((kk:Int)<0)=false:=aiw om
 refine bN.iv (A.length+2) func111 ntmps111 results111 rfl (by simp[iN,gS]) (C4 rfl) λc hc hb=> ?_
 refine zA ?_
 unfold iN
 rw[<-Ay (gS _ _ _)]
 simp[go_sem,yK,dJ,ak,a8,aw,aA]
 have ret: ∀(τ:St),eW N=M->cx (some (.cy [])) (A.length+2) (λx s=>x= .cy []/\ ∃N' A',s=gS [.cM 1 2 N'.length 0 N'.length] (N'.map e9) A'/\k8 N' A'/\eW N'=M) (gS [.cM 1 2 N.length 0 N.length] (N.map e9) A++τ):=done
 by_cases q1:r.length<=kk
 .rw[aiv q1]at hM
  have al:decide (r.length<=kk)=true:=aix q1
  simp[go_sem,al]
  exact ret _ hM
 rw[aiu q1]at hM
 have al:decide (r.length<=kk)=false:=aiw q1
 have qk:kk<r.length:=om
 obtain⟨x,hx⟩:=eX (r[kk])
 have aB:r.getD kk de=x:=by rw[Al,A0 qk,hx];rfl
 have ay:=he x (hx▸A8 qk)
 have aC:=OR x ay
 rw[aB]at hM
 simp[go_sem,al,yK,qk,hx]
 refine zL aC cB ⟨wN ⟨zF rfl,zX,zF rfl,zF rfl,zF rfl,zX,zX,zX,zF rfl,zF rfl,zF rfl,tV⟩,zK,zP sg (by rw[bJ.bQ];rfl)⟩ rfl ?_
 have az:(kD x).2=0->VK (kD x).1 (iM eQ x).1:=UF ay
 generalize kD x=kv at hM az⊢
 simp[go_sem,fk,yK]
 by_cases q2:kv.2=0
 rotate_left
 .rw[aiv (.inl q2)]at hM
  have ah:(kv.2 !=0)=true:=sU q2
  simp[go_sem,ah]
  exact ret _ hM
 have ah:(kv.2 !=0)=false:=sU q2
 by_cases q3:kv.1.kind=0
 .rw[aiv (.inr q3)]at hM
  have an:(kv.1.kind==0)=true:=sU q3
  simp[go_sem,ah,an,yK]
  exact ret _ hM
 have an:(kv.1.kind==0)=false:=sU q3
 rw[aiu (λh=>h.elim (λh=>h q2) q3)]at hM
 obtain⟨aD,aE⟩:=UN (az q2)
 have ai:=Tt xJ (bO.map bL.row) tn kv.1 dC aD aE
 rw[show(bO.map bL.row).length=3 from rfl]at ai
 obtain⟨bd,a1⟩:=eX (nP 3 (tn:Int) kv.1)
 have a6:bd.length<=9223372036854775806:=by
  have:=Tk (v:=kv.1)
  rw[<-a1];unfold nP;split
  .simp only[Ah];omega
  .simp
 rw[a1]at ai hM
 simp[go_sem,ah,an,yK]
 have af:=Um hB
 by_cases q4:T.place=0
 .have ao:(T.place==0)=true:=sU q4
  have q5:0<r.length:=om
  obtain⟨y,hy⟩:=eX (r[0])
  have aF:r.getD 0 de=y:=by rw[Al,A0 q5,hy];rfl
  have aG:=he y (hy▸A8 q5)
  have a7:=OR y aG
  unfold tZ at hM
  rw[aiv q4,aF]at hM
  simp[go_sem,ao,q5,hy]
  refine zL a7 cB ⟨wN ⟨zF rfl,zX,zF rfl,zF rfl,zF rfl,zX,zX,zX,zF rfl,zF rfl,zF rfl,tV⟩,zK,zP sg (by rw[bJ.bQ];rfl)⟩ rfl ?_
  generalize kD y=rv at hM⊢
  simp[go_sem,fk,yK]
  by_cases q6:rv.2=0
  rotate_left
  .rw[aiv (.inl q6)]at hM
   have aj:(rv.2 !=0)=true:=sU q6
   simp[go_sem,aj]
   exact ret _ hM
  have aj:(rv.2 !=0)=false:=sU q6
  by_cases q7:rv.1.kind=2
  rotate_left
  .rw[aiv (.inr q7)]at hM
   have aq:(rv.1.kind !=2)=true:=sU q7
   simp[go_sem,aj,aq,yK]
   exact ret _ hM
  have aq:(rv.1.kind !=2)=false:=sU q7
  rw[aiu (λh=>h.elim (λh=>h q6) (λh=>h q7))]at hM
  simp only at hM
  have ae:=H5 tn (kV rv.1.n) ax (wb6 _)
  obtain⟨⟨g,ge⟩,hg⟩: ∃g,xF tn (kV rv.1.n)=g:=⟨_,rfl⟩
  rw[hg]at ae hM
  simp only at hM
  unfold kV at ae
  simp[go_sem,aj,aq,yK]
  refine zL ae cB (zP (by simp[go_sem,dJ]) rfl) rfl ?_
  simp[go_sem,Es]
  by_cases q8:ge=0
  rotate_left
  .rw[aiv q8]at hM
   have ab:(ge !=0)=true:=sU q8
   simp[go_sem,ab]
   exact ret _ hM
  have ab:(ge !=0)=false:=sU q8
  rw[aiu (λh=>h q8)]at hM
  have ad:=OH N A h g ⟨bd,bd++ [0]⟩ om (λy hy=>by have:=af.2 y hy;omega)
  simp[go_sem,ab,yK]
  refine zL ai cB (zP sg rfl) rfl ?_
  simp[go_sem]
  refine zJ a6 ?_
  simp[go_sem]
  refine J7 ad cB (vi h) (by simp[bS,cN,cL]) ⟨xQ (n:=(iN N A).length) (by simp[iJ,jn,cN,cL,tT]),zC rfl,zC rfl,tV⟩ (λr s h=>by
   obtain⟨rfl,N2,A2,rfl,h2,_⟩:=h
   exact⟨rfl,vi h2⟩) ?_
  rintro r' s ⟨rfl,N2,A2,rfl,aa,ar⟩ hle I' pick au
  simp[go_sem]
  exact Rz au (by rw[yK];exact A7 _) (vi aa) hle rfl ⟨rfl,N2,A2,rfl,aa,ar.trans hM⟩
 have ao:(T.place==0)=false:=sU q4
 unfold tZ at hM
 rw[aiu q4]at hM
 simp only at hM
 have ae:=H5 tn 0 ax om
 obtain⟨⟨g,ge⟩,hg⟩: ∃g,xF tn 0=g:=⟨_,rfl⟩
 rw[hg]at ae hM
 simp only at hM
 simp[go_sem,ao,yK]
 refine zL ae cB (zP (by simp[go_sem,dJ]) rfl) rfl ?_
 simp[go_sem,Es]
 by_cases q8:ge=0
 rotate_left
 .rw[aiv q8]at hM
  have ab:(ge !=0)=true:=sU q8
  simp[go_sem,ab]
  exact ret _ hM
 have ab:(ge !=0)=false:=sU q8
 rw[aiu (λh=>h q8)]at hM
 have ad:=OH N A h g ⟨bd,bd++ [0]⟩ om (λy hy=>by have:=af.2 y hy;omega)
 simp[go_sem,ab,yK]
 refine zL ai cB (zP sg rfl) rfl ?_
 simp[go_sem]
 refine zJ a6 ?_
 simp[go_sem]
 refine J7 ad cB (vi h) (by simp[bS,cN,cL]) ⟨xQ (n:=(iN N A).length) (by simp[iJ,jn,cN,cL,tT]),zC rfl,zC rfl,tV⟩ (λr s h=>by
  obtain⟨rfl,N2,A2,rfl,h2,_⟩:=h
  exact⟨rfl,vi h2⟩) ?_
 rintro r' s ⟨rfl,N2,A2,rfl,aa,ar⟩ hle I' pick au
 simp[go_sem]
 exact Rz au (by rw[yK];exact A7 _) (vi aa) hle rfl ⟨rfl,N2,A2,rfl,aa,ar.trans hM⟩
def mZ (l:dU):US:=l.stmts.foldl (rb kn) []
theorem OW: ∀(n:Nat) (q l:List bJ),(∀e∈q,Good e)->(∀e∈l,Good e)-> ∀e∈tI n q l,Good e
 |0,_,_,_,hl=>hl
 |n+1,[],_,_,hl=>by rw[tI];exact hl
 |n+1,x::q,l,hq,hl=>by
  have hx:=hq x (B1 ..)
  have aa: ∀e∈q,Good e:=λe he=>hq e (Ba _ he)
  rw[tI]
  split
  .exact OW n _ _ (λe he=>by
    rcases Af.1 he with he|he
    .exact aa e he
    .exact hx.sub e he) hl
  .exact OW n _ _ aa (λe he=>by
    rcases Af.1 he with he|he
    .exact hl e he
    .rw[B2]at he;subst he;exact hx)
theorem UO {st:bW} (h:Good st.cA):Lf st:=λe he name s v ha=>by
 have hg:Good e:=by
  unfold nK at he
  split at he
  .exact OW 4096 [st.cA] [] (λe he=>by rw[B2]at he;subst he;exact h) (λe he=>by cases he) e he
  .cases he
 have aa: ∃a∈e.args,a.v=v:=by
  unfold oy at ha
  split at ha
  .rename_i a b heq ab
   rw[ab]
   split at ha
   .split at ha
    .cases ha;exact⟨a,sm,rfl⟩
    .cases ha
   .split at ha
    .cases ha;exact⟨b,sm,rfl⟩
    .cases ha
  .cases ha
 obtain⟨a,ad,rfl⟩:=aa
 exact(hg.sub a ad).v
theorem xL6 (l:dU) (hl:l.stmts.length<=24) (hs: ∀st∈l.stmts,kM st):Pure prog 62 [dJ bO,.agg l.row] (.sl .ro ((mZ l).map ph)):=by
 refine xV4 kn (λt r n uJ h=>wc2 t r n uJ h) l (by unfold maxLen;omega) (λst aa=>UO (hs st aa).cA.dS) ?_ (λst aa=>by have:=(hs st aa).rows.1;unfold maxLen;omega) (λst aa hk ht=> ?_)
 .have: ∀L:List bW,(∀st∈L,kM st)->(L.map kU).sum<=20*L.length:=by
   intro L
   induction L with
   |nil=>intro _;exact A7 _
   |cons x L ih=>
    intro h
    have h1:=ih (λst aa=>h st (Ba _ aa))
    have h2:=(h x (B1 ..)).rows.1
    rw[Aj,List.sum_cons,Ah]
    have:kU x<=20:=by unfold kU;split<;>omega
    omega
  have:=this _ hs
  omega
 .intro r hr N A hN hB
  obtain⟨ah,ab⟩:=(hs st aa).rows.2 r hr
  have ad:=Ld st.table
  obtain⟨tn,ae⟩: ∃tn:Nat,xK st.table=(tn:Int):=⟨(xK st.table).toNat,om⟩
  rw[ae]at ad⊢
  have af:tn<bO.length:=by show tn<3;omega
  exact wt8 tn _ (A0 af) r om ab N A hN hB
theorem UP: ∀a b:aiZ,Op.bytesLess a b=true\/a=b\/Op.bytesLess b a=true
 | [],[]=> .inr (.inl rfl)
 | [],_::_=> .inl rfl
 |_::_,[]=> .inr (.inr rfl)
 |x::a,y::b=>by
  rw[KX,KX]
  by_cases q:x.toNat<y.toNat
  .rw[aiv q];exact .inl rfl
  by_cases q2:y.toNat<x.toNat
  .rw[aiu q,aiv q2,aiv q2];exact .inr (.inr rfl)
  rw[aiu q,aiu q2,aiu q2,aiu q]
  have e:x=y:=E6.1 om
  rcases UP a b with h|h|h
  .exact .inl h
  .exact .inr (.inl (by rw[e,h]))
  .exact .inr (.inr h)
structure BB (uJ:US):Prop where
 sk:(uJ.map (·.1)).Pairwise (· < ·)
 cH: ∀y∈uJ,y.2≠ []/\y.2.Nodup/\ ∀x∈y.2,Op.bytesLess x.lo x.hi=true
def Has (uJ:US) (dy:Int) (x:ca):Prop:= ∃y∈uJ,y.1=dy/\x∈y.2
theorem xs0 {uJ:US} (h:BB uJ) (dy:Int) (x:ca) (hx:Op.bytesLess x.lo x.hi):
  BB (jd dy x uJ)/\Has (jd dy x uJ) dy x/\(∀r z,Has uJ r z->Has (jd dy x uJ) r z)/\(Has uJ dy x->jd dy x uJ=uJ):=by
 obtain⟨k,hk⟩:=eX (jT (uJ.map (·.1)) dy)
 obtain⟨ax,aq,ar,aa⟩:=Ue h.sk hk
 cases af:(uJ.map (·.1)).contains dy with
 |true=>
  rw[af]at aa
  have ab:k<uJ.length:=by
   split at aa
   .rename_i h1;simpa using h1
   .cases aa
  rw[dif_pos (sU ab)]at aa
  obtain⟨⟨r0,sp⟩,hU⟩: ∃y,uJ[k]=y:=⟨_,rfl⟩
  have au:r0=dy:=by
   have:(uJ.map (·.1))[k]'(sU ab)=r0:=by rw[Cy,hU]
   rw[this]at aa
   simpa using aa
  subst au
  have aj:uJ[k]? =some (r0,sp):=by rw[A0 ab,hU]
  have ah:(r0,sp)∈uJ:=hU▸A8 ab
  have ak:=h.cH _ ah
  have uniq: ∀y∈uJ,y.1=r0->y=(r0,sp):=λy hy hr=>by
   obtain⟨j,hj,rfl⟩:=Du hy
   have ha:=Ct.1 h.sk
   rcases Bc j k with q|q|q
   .have:=ha j k (sU hj) (sU ab) q
    rw[Cy,Cy,hr,hU]at this
    exact absurd this (Int.lt_irrefl _)
   .subst q;exact hU
   .have:=ha k j (sU ab) (sU hj) q
    rw[Cy,Cy,hr,hU]at this
    exact absurd this (Int.lt_irrefl _)
  cases hc:sp.contains x with
  |true=>
   have e:=Uf hk af aj hc
   rw[e]
   exact⟨h,⟨_,ah,rfl,by simpa using hc⟩,λ_ _ h=>h,λ_=>rfl⟩
  |false=>
   have e:=Ug hk af aj hc
   have al:x∉sp:=sU hc
   rw[e]
   refine⟨⟨?_,λy hy=> ?_⟩,⟨(r0,sp++ [x]),List.mem_set ab _,rfl,sm⟩,λr z hz=> ?_,λhz=> ?_⟩
   .have:(uJ.set k (r0,sp++ [x])).map (·.1)=uJ.map (·.1):=by
     rw[Cx]
     refine List.ext_getElem sm λj h1 h2=> ?_
     rw[List.getElem_set]
     split
     .rename_i q;subst q;rw[Cy,hU]
     .rfl
    rw[this];exact h.sk
   .rcases List.mem_or_eq_of_mem_set hy with hy|rfl
    .exact h.cH y hy
    .refine⟨sm, ?_,λz hz=> ?_⟩
     .simp only
      rw[Co]
      exact⟨ak.2.1,sm,λa ha b hb=>by rw[B2]at hb;subst hb;exact λe=>al (e▸ha)⟩
     .rcases Af.1 hz with hz|hz
      .exact ak.2.2 z hz
      .rw[B2]at hz;subst hz;exact hx
   .obtain⟨y,hy,ad,ae⟩:=hz
    by_cases q:y.1=r0
    .have:=uniq y hy q
     subst this
     exact⟨(r0,sp++ [x]),List.mem_set ab _,ad,aiP _ ae⟩
    .obtain⟨j,hj,ai⟩:=Du hy
     refine⟨y, ?_,ad,ae⟩
     have av:k≠j:=λe=>by subst e;rw[hU]at ai;exact q (by rw[<-ai])
     have:(uJ.set k (r0,sp++ [x]))[j]'(sU hj)=y:=by rw[List.getElem_set,aiu av];exact ai
     exact this▸A8 _
   .obtain⟨y,hy,ad,ae⟩:=hz
    have:=uniq y hy ad
    subst this
    exact absurd ae al
 |false=>
  have an: ∀y∈uJ,y.1≠dy:=λy hy hr=>by
   have:dy∈uJ.map (·.1):=Ac.2 ⟨y,hy,hr⟩
   rw[<-aiO,af]at this
   cases this
  have e:jd dy x uJ=uJ.take k++(dy,[x])::uJ.drop k:=by unfold jd;rw[aiu (by rw[af];exact Bool.false_ne_true),hk]
  have aw: ∀y∈uJ,y∈uJ.take k++(dy,[x])::uJ.drop k:=λy hy=>by
   rw[<-B8 k uJ]at hy
   rcases Af.1 hy with hy|hy
   .exact aiP _ hy
   .exact List.mem_append_right _ (Ba _ hy)
  have ao: ∀y∈uJ.take k++(dy,[x])::uJ.drop k,y∈uJ\/y=(dy,[x]):=λy hy=>by
   rcases Af.1 hy with hy|hy
   .exact .inl (B5 hy)
   .rcases Ae.1 hy with rfl|hy
    .exact .inr rfl
    .exact .inl (Bx hy)
  rw[e]
  refine⟨⟨?_,λy hy=> ?_⟩,⟨(dy,[x]),sm,rfl,sm⟩,λr z ⟨y,hy,ad,ae⟩=>⟨y,aw y hy,ad,ae⟩,λ⟨y,hy,ad,_⟩=>absurd ad (an y hy)⟩
  .rw[C9,Aj,List.map_take,aiX,Bs]
   refine⟨h.sk.sublist (List.take_sublist _ _),Cg.2 ⟨λb hb=> ?_,h.sk.sublist (List.drop_sublist _ _)⟩,λa ha b hb=> ?_⟩
   .obtain⟨j,hj,rfl⟩:=Du hb
    rw[List.getElem_drop]
    have h1:=ar (k+j) (by rw[D6]at hj;omega) om
    have h2:(uJ.map (·.1))[k+j]'(by rw[D6]at hj;omega)≠dy:=λe=>by
     rw[Cy]at e
     exact an _ (A8 _) e
    show dy<_
    omega
   .obtain⟨j,hj,rfl⟩:=Du ha
    rw[Az]at hj
    have h1:=aq j om om
    rw[aiV]
    rcases Ae.1 hb with rfl|hb
    .exact h1
    .obtain⟨i,hi,rfl⟩:=Du hb
     rw[D6]at hi
     rw[List.getElem_drop]
     exact Ct.1 h.sk j (k+i) om om om
  .rcases ao y hy with hy|rfl
   .exact h.cH y hy
   .exact⟨sm,sm,λz hz=>by rw[B2]at hz;subst hz;exact hx⟩
def nZ (ps:List (Int×ca)) (uJ:US):US:=ps.foldl (λuJ p=>lZ p.1 p.2 uJ) uJ
def Ll (x:ca):Bool:=Op.bytesLess x.hi x.lo||x.hi==x.lo
theorem xb2 {uJ:US} (h:BB uJ) (dy:Int) (x:ca):
  BB (lZ dy x uJ)/\(Ll x=true\/Has (lZ dy x uJ) dy x)/\(∀r z,Has uJ r z->Has (lZ dy x uJ) r z)/\(Ll x=true\/Has uJ dy x->lZ dy x uJ=uJ):=by
 unfold lZ
 cases q:Ll x with
 |true=>
  have q':(Op.bytesLess x.hi x.lo||x.hi==x.lo)=true:=q
  rw[aiv q']
  exact⟨h,.inl rfl,λ_ _ h=>h,λ_=>rfl⟩
 |false=>
  have q':(Op.bytesLess x.hi x.lo||x.hi==x.lo)=false:=q
  rw[aiu (by rw[q'];exact Bool.false_ne_true)]
  have hx:Op.bytesLess x.lo x.hi:=by
   rw[Bool.or_eq_false_iff]at q'
   rcases UP x.lo x.hi with h|h|h
   .exact h
   .rw[h]at q';simp at q'
   .rw[h]at q';simp at q'
  obtain⟨h1,h2,h3,h4⟩:=xs0 h dy x hx
  exact⟨h1,.inr h2,h3,λh=>h4 (h.resolve_left sm)⟩
theorem UQ: ∀(ps:List (Int×ca)) {uJ:US},BB uJ->BB (nZ ps uJ)/\(∀p∈ps,Ll p.2=true\/Has (nZ ps uJ) p.1 p.2)/\(∀r z,Has uJ r z->Has (nZ ps uJ) r z)
 | [],_,h=>⟨h,λp hp=>(by cases hp),λ_ _ h=>h⟩
 |p::ps,uJ,h=>by
  obtain⟨h1,h2,h3,_⟩:=xb2 h p.1 p.2
  obtain⟨g1,g2,g3⟩:=UQ ps h1
  refine⟨g1,λq hq=> ?_,λr z hz=>g3 r z (h3 r z hz)⟩
  rcases Ae.1 hq with rfl|hq
  .exact h2.imp id (g3 _ _)
  .exact g2 q hq
theorem we9:BB []:=⟨List.Pairwise.nil,λy hy=>by cases hy⟩
def pn (t:Int) (r:List bJ):List (Int×ca):=
 match bO[t.toNat]? with
 |none=> []
 |some T=>
  if r.length<=T.key.toNat then []else
  if(kD (r.getD T.key.toNat de)).2≠0\/(kD (r.getD T.key.toNat de)).1.kind=0 then []else
  match tZ T r with
  |none=> []
  |some g=>if(xF t g).2≠0 then []else [((xF t g).1,⟨nP 3 t (kD (r.getD T.key.toNat de)).1,nP 3 t (kD (r.getD T.key.toNat de)).1++ [0]⟩)]
theorem wc3 (t:Int) (r:List bJ) (uJ:US):kn t r uJ=nZ (pn t r) uJ:=by
 unfold kn pn
 cases bO[t.toNat]? with
 |none=>rfl
 |some T=>
  simp only
  generalize kD (r.getD T.key.toNat de)=kv
  by_cases a:r.length<=T.key.toNat
  .rw[aiv a,aiv a];rfl
  rw[aiu a,aiu a]
  by_cases b:kv.2≠0\/kv.1.kind=0
  .rw[aiv b,aiv b];rfl
  rw[aiu b,aiu b]
  cases tZ T r with
  |none=>rfl
  |some g=>
   simp only
   by_cases d:(xF t g).2≠0
   .rw[aiv d,aiv d];rfl
   .rw[aiu d,aiu d];rfl
def pY (st:bW):List (Int×ca):=
 if xK st.table<0 then []else if st.kind=2 then st.rows.flatMap (pn (xK st.table))
 else(wA (xK st.table) st).map λrg=>((xF (xK st.table) rg).1,⟨(nR bO (xK st.table) st).1,(nR bO (xK st.table) st).2⟩)
theorem UR (ps qs:List (Int×ca)) (uJ:US):nZ (ps++qs) uJ=nZ qs (nZ ps uJ):=Cc ..
theorem xR0 (uJ:US) (st:bW):rb kn uJ st=nZ (pY st) uJ:=by
 unfold rb pY
 split
 .rfl
 .split
  .have: ∀(rs:List (List bJ)) (uJ:US),rs.foldl (λuJ r=>kn (xK st.table) r uJ) uJ=nZ (rs.flatMap (pn (xK st.table))) uJ:=by
    intro rs
    induction rs with
    |nil=>intro uJ;rfl
    |cons r rs ih=>intro uJ;rw[Bn,Bw,UR,ih,wc3]
   exact this _ _
  .unfold nZ
   rw[List.foldl_map]
   rfl
theorem Is: ∀(l:List bW) (uJ:US),l.foldl (rb kn) uJ=nZ (l.flatMap pY) uJ
 | [],_=>rfl
 |x::l,uJ=>by rw[Bn,Bw,UR,Is l,xR0]
theorem xx1 (l:dU):BB (mZ l):=by
 unfold mZ
 rw[Is]
 exact(UQ _ we9).1
def OX (r:Int) (e:bJ):Bool:=match oy e [82]with|none=>true|some (s,v)=> !(s== [61]&&(v.kind==2&& !(v.n==r)))
theorem OY: ∀(l:List bJ) (rs:aj2),jc l rs=rs.filter λr=>l.all (OX r)
 | [],rs=>(D2.2 sm).symm
 |e::l,rs=>by
  have ih:=OY l
  have h:jc (e::l) rs=jc l (match oy e [82]with|none=>rs|some (s,v)=>if s= [61]/\v.kind=2 then kS v.n rs else rs):=rfl
  rw[h,ih]
  have h2:(match oy e [82]with|none=>rs|some (s,v)=>if s= [61]/\v.kind=2 then kS v.n rs else rs)=rs.filter (OX · e):=by
   unfold OX
   cases oy e [82]with
   |none=>exact(D2.2 sm).symm
   |some p=>
    obtain⟨s,v⟩:=p
    simp only
    by_cases q:s= [61]/\v.kind=2
    .rw[aiv q]
     unfold kS
     grind
    .rw[aiu q]
     refine(D2.2 λr _=> ?_).symm
     grind
  simp_all[Bool.and_comm]
def g1 (r:Int) (f:Int->List ca):US:=if(f r).isEmpty=true then []else [(r,f r)]
def Gt (tn:Nat) (row:List bK):Int:=if tn=0 then(row.getD 0 zeroV).n else if tn=1 then -1 else 1
def fm (tn:Nat) (T:bL) (row:List bK):Int×aiZ×Int:=
 if fe T.cm row≠0 then(0,[],fe T.cm row)else if tn=0/\ ¬((row.getD 0 zeroV).n=0\/(row.getD 0 zeroV).n=1)then(0,[],19)else((xF tn (Gt tn row)).1,nP 3 tn (row.getD T.key.toNat zeroV),0)
end Go.Proofs.YtplackkccmeioaaGreat
namespace Go.Proofs.YtplackkccmeioaaGreat
open Go Go.Vx Go.Proofs.Tryz
set_option maxRecDepth 100000
variable {U:Type}
abbrev Pl:=Int×aiZ
def ia (p:Pl):V:= .agg [.int .i64 p.1,.str p.2]
abbrev ua:Kk:= .st [.i .i64,.s]
def gx {U:Type} (g:U->V):List (Pl×U)->List V
 | []=> []
 |e::W=>ia e.1::g e.2::gx g W
structure Mp (U:Type) where
 W:List (Pl×U)
 bs:aj0
 cZ:Nat
def Mp.ob (g:U->V) (m:Mp U):Ob:= .mp (gx g m.W) m.bs m.cZ
structure Mp.ok {U:Type} (m:Mp U):Prop where
 len:m.bs.length=m.W.length
 nd:m.bs.Nodup
 lt: ∀b∈m.bs,b<m.cZ
 keys:(m.W.map (·.1)).Nodup
def vl (U:Type):Mp U:=⟨[],[],0⟩
theorem UT (U:Type):(vl U).ok:=⟨rfl,C0,λb hb=>(by cases hb),C0⟩
def dP {U:Type} (p:Pl):List (Pl×U)->Option (Nat×U)
 | []=>none
 |e::W=>if e.1=p then some (0,e.2)else(dP p W).map λq=>(q.1+1,q.2)
def Mp.at (m:Mp U) (p:Pl):Option (Nat×U):=dP p m.W
def Mp.get (m:Mp U) (p:Pl):Option U:=(m.at p).map (·.2)
def Mp.put (m:Mp U) (p:Pl) (v:U):Mp U:=match m.at p with
 |some (i,_)=>⟨m.W.set i (p,v),m.bs,m.cZ⟩
 |none=>⟨m.W++ [(p,v)],m.bs++ [m.cZ],m.cZ+1⟩
def Mp.del (m:Mp U) (p:Pl):Mp U:=match m.at p with
 |some (i,_)=>⟨m.W.eraseIdx i,m.bs.eraseIdx i,m.cZ⟩
 |none=>m
theorem OZ (p q:Pl):kH ua (ia p) (ia q)=some (decide (p=q)):=by
 obtain⟨a,b⟩:=p
 obtain⟨c,d⟩:=q
 simp only[kH,ia,lj,jK,and_self,aiE,Ax,Bb,Db,aiy]
 grind
theorem UU (p:Pl):mT ua (ia p)=true:=by rfl
section
variable {U:Type} {g:U->V}
variable {m:Mp U}{p:Pl}{I:St}{z:U}{i:Nat}{r:Int}{k:aiZ}
theorem O0 (p:Pl): ∀(W:List (Pl×U)) (i:Nat),oq ua (ia p) (gx g W) i=some ((dP p W).map λq=>(i+q.1,g q.2))
 | [],_=>rfl
 |e::W,i=>by
  rw[gx,oq,OZ,dP]
  by_cases h:e.1=p
  .grind
  .rw[aiu h]
   have:decide (p=e.1)=false:=(by grind)
   rw[this]
   simp only
   rw[O0 p W (i+1)]
   cases dP p W<;>grind
theorem UW (m:Mp U) (p:Pl):oq ua (ia p) (gx g m.W) 0=some ((m.at p).map λq=>(q.1,g q.2)):=by
 grind[O0,Mp.at]
theorem xm {p:Pl} {i:Nat} {v:U}: ∀{W:List (Pl×U)},dP p W=some (i,v)->W[i]? =some (p,v)
 | [],h=>by trivial
 |e::W,h=>by
  rw[dP]at h
  by_cases q:e.1=p
  .grind
  .rw[aiu q]at h
   simp only[Av,aiF]at h
   obtain⟨⟨j,u⟩,h1,rfl,rfl⟩:=h
   simpa using xm h1
theorem Lm {p:Pl}: ∀{W:List (Pl×U)},dP p W=none-> ∀e∈W,e.1≠p
 | [],_,e,he=>by cases he
 |e::W,h,x,hx=>by
  rw[dP]at h
  by_cases q:e.1=p
  .grind
  .rw[aiu q]at h
   simp only[Option.map_eq_none_iff]at h
   rcases Ae.1 hx with rfl|hx
   .exact q
   .exact Lm h x hx
theorem UX {p:Pl} {v:U}: ∀{W:List (Pl×U)},(W.map (·.1)).Nodup->(p,v)∈W-> ∃i,dP p W=some (i,v)
 | [],_,h=>by cases h
 |e::W,hn,h=>by
  rw[Aj,C1]at hn
  rw[dP]
  rcases Ae.1 h with rfl|h
  .simp
  .have:e.1≠p:=(by grind)
   obtain⟨i,hi⟩:=UX hn.2 h
   grind
theorem Mp.get_mem (hm:m.ok) {v:U}:m.get p=some v↔(p,v)∈m.W:=by
 constructor
 .intro h
  unfold Mp.get Mp.at at h
  rw[Av]at h
  obtain⟨⟨i,u⟩,h1,rfl⟩:=h
  exact Bk (xm h1)
 .intro h
  obtain⟨i,hi⟩:=UX hm.keys h
  unfold Mp.get Mp.at
  grind
theorem UY (W:List (Pl×U)) (p:Pl) (v:U):gx g W++ [ia p,g v]=gx g (W++ [(p,v)]):=by
 induction W with
 |nil=>rfl
 |cons e W ih=>rw[gx,Bt,Bt,ih];rfl
theorem UZ (p:Pl) (v:U): ∀(W:List (Pl×U)) (i:Nat),qn (gx g W) i (ia p) (g v)=gx g (W.set i (p,v))
 | [],i=>by rfl
 |e::W,0=>by rfl
 |e::W,i+1=>by
  have ih:=UZ p v W i
  unfold qn at ih⊢
  rw[show 2*(i+1)=2*i+1+1 by omega,gx]
  simp only[By]
  rw[ih]
  rfl
theorem O1 (v:U): ∀(W:List (Pl×U)) (i:Nat) (p:Pl) (u:U),W[i]? =some (p,u)->(gx g W).set (2*i+1) (g v)=gx g (W.set i (p,v))
 | [],i,_,_,h=>by rfl
 |e::W,0,p,u,h=>by grind[gx]
 |e::W,i+1,p,u,h=>by
  have ih:=O1 v W i p u (sU h)
  rw[show 2*(i+1)+1=2*i+1+1+1 by omega,gx]
  simp only[By]
  rw[ih]
  rfl
theorem U0: ∀(W:List (Pl×U)) (i:Nat),i<W.length->yu (gx g W) i=gx g (W.eraseIdx i)
 | [],i,h=>by grind
 |e::W,0,_=>by rfl
 |e::W,i+1,h=>by
  have ih:=U0 W i (sU h)
  unfold yu at ih⊢
  rw[show 2*(i+1)=2*i+1+1 by omega,show 2*i+1+1+2=2*i+2+1+1 by omega,gx]
  simp only[Cb,Dd,Bt]
  rw[ih]
  rfl
theorem Lo {z:V} {id:Nat} (cJ:I[id]? =some (m.ob g)) (p:Pl) (ok:Bool):
  xZ (some (ua,z)) I (.mp id) (ia p) ok= .ok (match m.get p with
   |some v=>if ok then .cy [g v,.bool true]else g v
   |none=>if ok then .cy [z,.bool false]else z):=by
 unfold xZ
 simp only[UU,aiE,cJ,Mp.ob,UW]
 unfold Mp.get
 cases m.at p<;>rfl
def Mp.mJ {U:Type} (m:Mp U) (p:Pl) (z:U):Mp U:=match m.at p with
 |some _=>m
 |none=>⟨m.W++ [(p,z)],m.bs++ [m.cZ],m.cZ+1⟩
def Mp.ec {U:Type} (m:Mp U) (p:Pl):Nat:=match m.at p with
 |some (i,_)=>m.bs.getD i 0
 |none=>m.cZ
theorem U1 {id:Nat} (hm:m.ok) (cJ:I[id]? =some (m.ob g)) (p:Pl):
  wD (some (ua,g z)) I (.mp id) (ia p)=(match m.at p with
   |some (_,v)=> .ok (.cy [g v,.int .i64 (m.ec p:Int)])
   |none=> .st (.cy [g z,.int .i64 (m.ec p:Int)]) (I.set id ((m.mJ p z).ob g))):=by
 unfold wD Mp.ec Mp.mJ
 simp only[UU,aiE,cJ,Mp.ob,UW]
 cases h:m.at p with
 |none=>grind[UY]
 |some q=>
  have:=(A4.1 (xm (W:=m.W) (i:=q.1) (v:=q.2) h)).1
  have hb:m.bs[q.1]? =some (m.bs.getD q.1 0):=by
   rw[Al,A0 (by rw[hm.len];omega)]
   rfl
  grind
theorem U3 {bs:aj0} (hn:bs.Nodup) {b:Nat} (h:bs[i]? =some b):bs.findIdx? (λ(x:Nat)=>((x:Int)==(b:Int)))=some i:=by
 obtain⟨hi,rfl⟩:=A4.1 h
 rw[List.findIdx?_eq_some_iff_getElem]
 refine⟨hi,sm,λj hj=> ?_⟩
 intro q
 rw[aiB]at q
 grind[List.getElem_inj]
theorem U4 {id:Nat} (hm:m.ok) (hg: ∀v,nb (g v)) (p:Pl) (cJ:I[id]? =some ((m.mJ p z).ob g)) (v:U):
  xT I (.mp id) (.int .i64 (m.ec p:Int)) (g v)= .st .u (I.set id ((m.put p v).ob g)):=by
 unfold xT
 simp only[hg,aiE,cJ]
 unfold Mp.ob Mp.mJ Mp.ec Mp.put
 cases h:m.at p with
 |none=>
  have hf:(m.bs++ [m.cZ]).findIdx? (λ(b:Nat)=>((b:Int)==(m.cZ:Int)))=some m.W.length:=by
   refine U3 ?_ ?_
   .rw[Co]
    refine⟨hm.nd,sm,λa ha b hb=> ?_⟩
    have:=hm.lt a ha
    grind
   .rw[<-hm.len];simp
  grind[O1]
 |some q=>
  have h1:=xm (W:=m.W) (i:=q.1) (v:=q.2) h
  have hl:=(A4.1 h1).1
  have hb:m.bs[q.1]? =some (m.bs.getD q.1 0):=by
   rw[Al,A0 (by rw[hm.len];exact hl)]
   rfl
  simp only[U3 hm.nd hb]
  grind[O1]
theorem Mp.mf (hm:m.ok) (p:Pl) (z:U):(m.mJ p z).ok:=by
 unfold Mp.mJ
 cases h:m.at p with
 |some q=>exact hm
 |none=>
  refine⟨by simp[hm.len], ?_,λb hb=> ?_, ?_⟩
  .rw[Co]
   refine⟨hm.nd,sm,λa ha b hb=> ?_⟩
   have:=hm.lt a ha
   grind
  .rcases Af.1 hb with hb|hb
   .have:=hm.lt b hb;grind
   grind
  .rw[C9,Co]
   refine⟨hm.keys,sm,λa ha b hb=> ?_⟩
   obtain⟨e,he,rfl⟩:=Ac.1 ha
   simp at hb
   subst hb
   exact Lm h e he
theorem Mp.jf (hm:m.ok) (p:Pl) (v:U):(m.put p v).ok:=by
 unfold Mp.put
 cases h:m.at p with
 |some q=>
  have h1:=xm (W:=m.W) (i:=q.1) (v:=q.2) h
  have:((m.W.set q.1 (p,v)).map (·.1))=m.W.map (·.1):=by
   rw[Cx]
   exact yN _ _ _ (by grind)
  exact⟨by simp[hm.len],hm.nd,hm.lt,by rw[this];exact hm.keys⟩
 |none=>
  have:=Mp.mf hm p v
  unfold Mp.mJ at this
  grind
theorem Mp.EA (hm:m.ok) (p:Pl):(m.del p).ok:=by
 unfold Mp.del
 cases h:m.at p with
 |some q=>
  refine⟨?_,aiH (by grind) hm.nd,λb hb=>hm.lt b (List.mem_of_mem_eraseIdx hb), ?_⟩
  .simp only[List.length_eraseIdx,hm.len]
  .exact aiH (by grind) hm.keys
 |none=>exact hm
theorem Mp.ub {q:Nat×U} (h:m.at p=some q):m.mJ p z=m:=by grind[Mp.mJ]
theorem Lp {p:Pl} {v:U}: ∀{W:List (Pl×U)},dP p W=none->dP p (W++ [(p,v)])=some (W.length,v)
 | [],_=>by simp[dP]
 |e::W,h=>by
  rw[dP]at h
  by_cases q:e.1=p
  .grind
  .rw[aiu q,Option.map_eq_none_iff]at h
   rw[Bt,dP,aiu q,Lp h]
   rfl
theorem Mp.xn (h:m.at p=none):(m.mJ p z).get p=some z:=by
 unfold Mp.get Mp.at Mp.mJ
 rw[h]
 simp only
 unfold Mp.at at h
 rw[Lp h];rfl
theorem Mp.get_none (h:m.at p=none):m.get p=none:=by unfold Mp.get;grind
theorem Mp.get_some {v:U} (h:m.at p=some (i,v)):m.get p=some v:=by unfold Mp.get;grind
theorem xF6 {md:Option (Kk×V)} (hz:md=some (ua,g z)) (h:m.at p=none):xZ md [(m.mJ p z).ob g] (.mp 0) (ia p) false=xZ md [m.ob g] (.mp 0) (ia p) false:=by
 subst hz
 rw[Lo (m:=m.mJ p z) rfl,Lo (m:=m) rfl,Mp.xn h,Mp.get_none h]
 rfl
theorem U5 {p:Pl} {v u:U}: ∀{W:List (Pl×U)} {i:Nat},dP p W=some (i,u)->dP p (W.set i (p,v))=some (i,v)
 | [],_,h=>by trivial
 |e::W,i,h=>by
  rw[dP]at h
  by_cases q:e.1=p
  .rw[aiv q]at h
   simp only[aiy,aiF]at h
   obtain⟨rfl,rfl⟩:=h
   rw[Cf,dP,aiv rfl]
  .rw[aiu q,Av]at h
   obtain⟨⟨j,w⟩,h1,h2⟩:=h
   simp only[aiF]at h2
   obtain⟨rfl,rfl⟩:=h2
   rw[By,dP,aiu q,U5 h1]
   rfl
theorem Mp.uc (m:Mp U) (p:Pl) (v:U): ∃i,dP p (m.put p v).W=some (i,v):=by
 unfold Mp.put
 cases h:m.at p with
 |none=>exact⟨_,Lp h⟩
 |some q=>exact⟨q.1,U5 (u:=q.2) h⟩
theorem po {W:List (Pl×U)}:oq (.st [.i .i64,.s]) (.agg [.int .i64 r,.str k]) (gx g W) 0=some ((dP (r,k) W).map λq=>(q.1,g q.2)):=by
 show oq ua (ia (r,k)) (gx g W) 0=_
 simp[O0]
theorem U6 {id:Nat} (hm:m.ok) (cJ:I[id]? =some (m.ob g)) (h:m.at p=none):
  wD (some (ua,g z)) I (.mp id) (ia p)= .st (.cy [g z,.int .i64 (m.ec p:Int)]) (I.set id ((m.mJ p z).ob g)):=by
 have:=U1 hm (z:=z) cJ p
 grind
theorem xF5 {id:Nat} (hm:m.ok) {v:U} (cJ:I[id]? =some (m.ob g)) (h:m.at p=some (i,v)):
  wD (some (ua,g z)) I (.mp id) (ia p)= .ok (.cy [g v,.int .i64 (m.ec p:Int)]):=by
 have:=U1 hm (z:=z) cJ p
 grind
theorem U7 {id:Nat} {m:Mp Int} (hm:m.ok) (h:m.at (r,k)=none) (cJ:I[id]? =some (m.ob (V.int .i64))):
  wD (some (.st [.i .i64,.s],.int .i64 0)) I (.mp id) (.agg [.int .i64 r,.str k])= .st (.cy [.int .i64 0,.int .i64 (m.ec (r,k):Int)]) (I.set id ((m.mJ (r,k) 0).ob (V.int .i64))):=U6 (g:=V.int .i64) hm (z:=0) cJ h
theorem U8 {id:Nat} {m:Mp Int} {v:Int} (hm:m.ok) (h:m.at (r,k)=some (i,v)) (cJ:I[id]? =some (m.ob (V.int .i64))):
  wD (some (.st [.i .i64,.s],.int .i64 0)) I (.mp id) (.agg [.int .i64 r,.str k])= .ok (.cy [.int .i64 v,.int .i64 (m.ec (r,k):Int)]):=xF5 (g:=V.int .i64) hm (z:=0) cJ h
theorem Lq {id:Nat} {m:Mp aiZ} (hm:m.ok) (h:m.at (r,k)=none) (cJ:I[id]? =some (m.ob V.str)):
  wD (some (.st [.i .i64,.s],.str [])) I (.mp id) (.agg [.int .i64 r,.str k])= .st (.cy [.str [],.int .i64 (m.ec (r,k):Int)]) (I.set id ((m.mJ (r,k) []).ob V.str)):=U6 (g:=V.str) hm (z:= []) cJ h
theorem U9 {id:Nat} {m:Mp Int} {v:Int} (hm:m.ok) (cJ:I[id]? =some ((m.mJ p 0).ob (V.int .i64))):
  xT I (.mp id) (.int .i64 (m.ec p:Int)) (.int .i64 v)= .st .u (I.set id ((m.put p v).ob (V.int .i64))):=U4 (g:=V.int .i64) hm (λ_=>rfl) p cJ v
theorem Lr {id:Nat} {m:Mp aiZ} {v:aiZ} (hm:m.ok) (cJ:I[id]? =some ((m.mJ p []).ob V.str)):
  xT I (.mp id) (.int .i64 (m.ec p:Int)) (.str v)= .st .u (I.set id ((m.put p v).ob V.str)):=U4 (g:=V.str) hm (λ_=>rfl) p cJ v
theorem yz6 {id:Nat} {m:Mp Int} {q:Nat×Int} {v:Int} (hm:m.ok) (h:m.at p=some q) (cJ:I[id]? =some (m.ob (V.int .i64))):
  xT I (.mp id) (.int .i64 (m.ec p:Int)) (.int .i64 v)= .st .u (I.set id ((m.put p v).ob (V.int .i64))):=(by grind[U9,Mp.ub])
end
end Go.Proofs.YtplackkccmeioaaGreat
