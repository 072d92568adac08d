/-
  Maps whose keys are places, as plain lists: what looking up, laying, striking and running through come to.
  No condition; lemmas for the walks of exec.
-/
import Derived.Test.YtplackkccmeioaaGreatKBAM
import Derived.Test.YtplackkccmeioaaGreatKBAK
import Derived.Lib.Bytealg
import Derived.Test.YtplackkccmeioaaGreatKBAJ
import Derived.Test.YtplackkccmeioaaGreatKBAF
set_option maxHeartbeats 8000000
namespace Go.Proofs.YtplackkccmeioaaGreat
open Go Go.Vx R Go.Proofs.Tryz
set_option maxRecDepth 100000
variable {a:Int}{I:St}
def nr:bL:=⟨[],[],0,0,0,⟨[],[],[],0,0,0⟩⟩
def FK:List fg->List bJ->Int
 |c::cs,e::es=>if oI nr e c.kind≠0 then oI nr e c.kind else FK cs es
 |_,_=>0
def FL (T:bL) (r:List bJ):Int:=if r.length≠T.ca.length then 9 else FK T.ca r
def FM (T:bL):List (List bJ)->Int
 | []=>0
 |r::l=>if FL T r≠0 then FL T r else FM T l
theorem wg8 {ρ:Nat->Nat} {g1 g2 g3 g4:Tag}:cP ρ (.agg nr.row) (.agg [.str [],.sl g1 [],.int .i64 0,.int .i64 0,.int .i64 0,.sl g2 [],.sl g3 [],.sl g4 [],.int .i64 0,.int .i64 0,.int .i64 0]):=
 wL ⟨zF rfl,zW,zF rfl,zF rfl,zF rfl,zW,zW,zW,zF rfl,zF rfl,zF rfl,tV⟩
theorem vY {ρ:Nat->Nat} (e:bJ):cP ρ (.agg e.row) (.agg [.int .i64 e.kind,.str e.s,.int .i64 e.v.kind,.int .i64 e.v.n,.str e.v.s,.sl .ro (e.args.map bJ.row)]):=by rw[bJ.bS];exact zC rfl
theorem oK (T:bL) (st:bW) (n:Nat):([.box T.row,.box st.row]:St).all (bT n)=true:=by simp[bT,cQ,cL,bL.row,bW.row]
theorem xr9 (T:bL) (_hT:T.ca.length<=1000) (st:bW) (hs:kO st):Pure prog 99 [.agg T.row,.agg st.row] (.int .i64 (FM T st.rows)):=by
 obtain⟨R,hR⟩:=eX st.rows
 obtain⟨aj,ah⟩:=hs.rows
 rw[hR]at aj ah
 rw[hR]
 generalize hM:FM T R=M
 refine iV 0 func99 ntmps99 results99 λc hc hb=> ?_
 refine zA ?_
 simp[go_sem,hR]
 refine zI (S:=Nat) [2,3,11,12,13] (λi=> [.ptr 0 0,.ptr 1 0,.sl .ro (R.map λr=> [V.sl .ro (r.map bJ.row)]),.int .i64 R.length,.int .i64 (i:Int)]) (λ_=> [.box T.row,.box st.row]) (λi=>R.length - i)
  (λi=>i<=R.length/\FM T (R.drop i)=M) hc hb 0 ⟨A4 _,hM⟩ ?_ ?_
 .exact cd 2 (by simp[go_sem,hR]) rfl (oK T st 2) (A4 _) (zD sg rfl)
 rintro i ⟨hi,hinv⟩
 by_cases q:i<R.length
 rotate_left
 .rw[A9 om]at hinv
  refine zA ?_
  simp[go_sem,q]
  exact eP hinv
 have ei:=zQ q om
 obtain⟨r,hr⟩:=eX (R[i])
 obtain⟨al,ak⟩:=ah r (hr▸A8 q)
 rw[A5 q,hr,FM]at hinv
 by_cases q2:r.length=T.ca.length
 rotate_left
 .have ad:((r.length:Int) !=T.ca.length)=true:=by simp;omega
  have ae:FL T r=9:=by unfold FL;rw[ahg q2]
  rw[ae,ahg dC]at hinv
  refine zA ?_
  simp[go_sem,q,hr,ad]
  exact eP hinv
 have ad:((r.length:Int) !=T.ca.length)=false:=by simp;omega
 have ae:FL T r=FK T.ca r:=by unfold FL;rw[ahf (λh=>h q2)]
 rw[ae]at hinv
 obtain⟨C,hC⟩:=eX (FK T.ca r)
 rw[hC]at hinv
 refine zA ?_
 simp[go_sem,q,hr,ad]
 refine zI (S:=Nat) [2,3,11,12,13,23,24,25] (λk=> [.ptr 0 0,.ptr 1 0,.sl .ro (R.map λr=> [V.sl .ro (r.map bJ.row)]),.int .i64 R.length,.int .i64 (i:Int),.sl .ro (r.map bJ.row),.int .i64 r.length,.int .i64 (k:Int)]) (λ_=> [.box T.row,.box st.row]) (λk=>r.length - k)
  (λk=>k<=r.length/\FK (T.ca.drop k) (r.drop k)=C) hc hb 0 ⟨A4 _,hC⟩ ?_ ?_
 .exact cd 2 (by simp[go_sem,hR]) rfl (oK T st 2) (A4 _) (zD sg rfl)
 rintro k ⟨hk,aa⟩
 by_cases qk:k<r.length
 rotate_left
 .rw[A9 om,A9 om]at aa
  have aa:C=0:=aa.symm
  rw[ahf (λh=>h aa)]at hinv
  refine zA ?_
  simp[go_sem,qk,ei]
  exact zH (i+1) ⟨om,⟨om,hinv⟩,aN 2 (oK T st 2)⟩
 have ek:=zQ qk om
 have qc:k<T.ca.length:=om
 obtain⟨e,he⟩:=eX (r[k])
 obtain⟨c1,ai⟩:=eX (T.ca[k])
 have hE:=ak e (he▸A8 qk)
 rw[A5 qk,A5 qc,he,ai,FK]at aa
 have ab:=Kn nr dC e hE c1.kind
 generalize oI nr e c1.kind=kc at ab aa
 refine zA ?_
 simp[go_sem,qk,he]
 refine mV [(8,0)] 3 sm kR kR ?_
 simp[go_sem,qc,ai]
 refine pg ab cB (λ_=>⟨wg8,vY e,zC rfl,tV⟩) rfl ?_
 simp[go_sem]
 by_cases qe:kc=0
 .have af:(kc !=0)=false:=sU qe
  rw[ahf (λh=>h qe)]at aa
  simp[go_sem,af,ek]
  exact zH (k+1) ⟨om,⟨om,aa⟩,aN 2 (oK T st 2)⟩
 .have af:(kc !=0)=true:=sU qe
  rw[ahg qe]at aa
  rw[ahg (by rw[<-aa];exact qe)]at hinv
  simp[go_sem,af]
  exact eP (aa.trans hinv)
def nQ (T:bL):List cm->List cm->Int
 |_,[]=>0
 |p,x::l=>
  if cR T x.name<0 then 14
  else if cR T x.name=T.key\/(cR T x.name=0/\T.place=0)then 18
  else if(p.any λy=>y.name==x.name)=true then 9
  else if oI T x.e (kG T (cR T x.name))≠0 then oI T x.e (kG T (cR T x.name))
  else nQ T (p++ [x]) l
theorem ns (x:cm):bT 0 (.box x.row)=true:=by simp[bT,cQ,cL,cm.row]
theorem xc2 (x y:cm):bN prog 144 [.agg y.row,.ptr 0 0] [.box x.row] (λr I=>r= .bool (y.name==x.name)/\I= [.box x.row]):=by
 refine iW 1 func144 ntmps144 results144 λc hc hb=>zM ?_
 simp[go_sem]
 exact yX 1 rfl rfl (by simp[bT,cQ,cL]) (A7 _) (zC rfl) ⟨rfl,rfl⟩
theorem wi6 (x:cm) (l:List cm) (hl:l.length<=12):bN prog 205 [.sl .ro (l.map cm.row),.fn 144 [.ptr 0 0]] [.box x.row] (λr I=>r= .int .i64 (xR (λy=>y.name==x.name) l 0)/\I= [.box x.row]):=by
 generalize hM:xR (λy:cm=>y.name==x.name) l 0=M
 have ret: ∀(r:Int) (I:St),r=M->cw (some (.int .i64 r)) 1 (λr s=>r= .int .i64 M/\s= [.box x.row]) (.box x.row::I):=λr I h=>by subst h;exact yX 1 rfl rfl (by simp[bT,cQ,cL,cm.row]) (A7 _) (zC rfl) ⟨rfl,rfl⟩
 refine iV 1 func205 ntmps205 results205 λc hc hb=> ?_
 refine zA ?_
 simp[go_sem]
 refine zI (S:=Nat) [0,1,6,7,8] (λi=> [.sl .ro (l.map cm.row),.fn 144 [.ptr 0 0],.sl .ro (l.map cm.row),.int .i64 l.length,.int .i64 (i:Int)]) (λ_=> [.box x.row]) (λi=>l.length - i)
  (λi=>i<=l.length/\xR (λy=>y.name==x.name) (l.drop i) i=M) hc hb 0 ⟨A4 _,hM⟩ ?_ ?_
 .exact aN 1 (by simp[bT,cQ,cL,cm.row])
 rintro i ⟨hi,hinv⟩
 by_cases q:i<l.length
 rotate_left
 .rw[A9 om]at hinv
  refine zA ?_
  simp[go_sem,q]
  exact ret _ _ hinv
 have ei:=zQ q om
 obtain⟨y,hy⟩:=eX (l[i])
 rw[A5 q,hy,xR]at hinv
 have aa:=xc2 x y
 generalize (y.name==x.name)=b at aa hinv
 refine zA ?_
 simp[go_sem,q,hy]
 refine lV 0 aa cB rfl (ns x) ⟨zC rfl,.inl rfl,tV⟩ (λr I h=>⟨_,h.2,ns x⟩) ?_
 rintro r o2 ⟨rfl,h2⟩
 obtain rfl:o2= .box x.row:=sU h2
 refine(A6 b).elim (λp=> ?_) (λp=> ?_)
 .rw[ahg p]at hinv
  simp[go_sem,p]
  exact ret _ _ hinv
 .rw[ahf (by rw[p];decide)]at hinv
  simp[go_sem,p,ei]
  exact zH (i+1) ⟨om,⟨om,hinv⟩,aN 1 (by simp[bT,cQ,cL])⟩
theorem wi1 (x:cm) (l:List cm) (hl:l.length<=12):bN prog 143 [.sl .ro (l.map cm.row),.fn 144 [.ptr 0 0]] [.box x.row] (λr I=>r= .bool (l.any λy=>y.name==x.name)/\I= [.box x.row]):=by
 have h:=wi6 x l hl
 have hg:=DQ (λy:cm=>y.name==x.name) l 0
 rw[<-hg]
 generalize xR (λy:cm=>y.name==x.name) l 0=n at h⊢
 refine iW 1 func143 ntmps143 results143 λc hc hb=>zM ?_
 simp[go_sem]
 refine lV 0 h cB rfl (ns x) ⟨zC rfl,.inl (by simp[dF,dK,de,di,cH]),tV⟩ (λr I h=>⟨_,h.2,ns x⟩) ?_
 rintro r o2 ⟨rfl,h2⟩
 obtain rfl:o2= .box x.row:=sU h2
 simp[go_sem]
 exact yX 1 rfl rfl (by simp[bT,cQ,cL]) (A7 _) (zC rfl) ⟨rfl,rfl⟩
theorem xZ6 (T:bL) (hT:T.ca.length<=1000) (st:bW) (hs:kO st):Pure prog 100 [.agg T.row,.agg st.row] (.int .i64 (nQ T [] st.cD)):=by
 obtain⟨L,hL⟩:=eX st.cD
 obtain⟨an,al⟩:=hs.cD
 rw[hL]at an al
 rw[hL]
 generalize hM:nQ T [] L=M
 refine iV 0 func100 ntmps100 results100 λc hc hb=> ?_
 refine zA ?_
 simp[go_sem,hL]
 refine zI (S:=Nat) [2,3,10,11,12] (λi=> [.ptr 0 0,.ptr 1 0,.sl .ro (L.map cm.row),.int .i64 L.length,.int .i64 (i:Int)]) (λ_=> [.box T.row,.box st.row]) (λi=>L.length - i)
  (λi=>i<=L.length/\nQ T (L.take i) (L.drop i)=M) hc hb 0 ⟨A4 _,hM⟩ ?_ ?_
 .exact cd 2 (by simp[go_sem,hL]) rfl (oK T st 2) (A4 _) (zD sg rfl)
 rintro i ⟨hi,hinv⟩
 by_cases q:i<L.length
 rotate_left
 .rw[A9 om,nQ]at hinv
  refine zA ?_
  simp[go_sem,q]
  exact eP hinv
 have ei:=zQ q om
 obtain⟨x,hx⟩:=eX (L[i])
 obtain⟨ar,hE⟩:=al x (hx▸A8 q)
 have aa:=FE T x.name (by unfold maxLen;omega)
 rw[show iy (λc:fg=>c.name==x.name) T.ca 0=cR T x.name from rfl]at aa
 have ah:=wi1 x (L.take i) (by simp;omega)
 have ao:L.take (i+1)=L.take i++ [x]:=by rw[Dd,A0 q,hx];rfl
 rw[A5 q,hx,nQ,<-ao]at hinv
 generalize ((L.take i).any λy=>y.name==x.name)=b at ah hinv
 by_cases qc:cR T x.name<0
 .have ae:decide (cR T x.name<0)=true:=ahi qc
  rw[ahg qc]at hinv
  refine zA ?_
  simp[go_sem,q,hx]
  refine zL aa cB (zO sg rfl) rfl ?_
  simp[go_sem,ae]
  exact eP hinv
 have ae:decide (cR T x.name<0)=false:=ahh qc
 rw[ahf qc]at hinv
 obtain⟨j,hj,aj⟩:=Ki T x.name qc
 obtain⟨C,hC⟩:=eX (T.ca[j])
 have aq:kG T (cR T x.name)=C.kind:=by
  unfold kG
  rw[hj,Az,A0 aj,hC];rfl
 rw[aq]at hinv
 have ab:=Kn T (by unfold maxLen;omega) x.e hE C.kind
 generalize oI T x.e C.kind=kc at ab hinv
 rw[hj]at aa hinv ae
 by_cases qk:(j:Int)=T.key\/((j:Int)=0/\T.place=0)
 .rw[ahg qk]at hinv
  refine zA ?_
  simp[go_sem,q,hx]
  refine zL aa cB (zO sg rfl) rfl ?_
  simp[go_sem,ae]
  by_cases k1:(j:Int)=T.key
  .have af:((j:Int)==T.key)=true:=sU k1
   simp[go_sem,af]
   exact eP hinv
  .have af:((j:Int)==T.key)=false:=sU k1
   obtain⟨k2,k3⟩:=qk.resolve_left k1
   have ai:((j:Int)==0)=true:=sU k2
   have ak:(T.place==0)=true:=sU k3
   simp[go_sem,af,ai,ak]
   exact eP hinv
 rw[ahf qk]at hinv
 have af:((j:Int)==T.key)=false:=by simpa using λh=>qk (.inl h)
 have key:((j:Int)==0)=false\/(((j:Int)==0)=true/\(T.place==0)=false):=by
  by_cases k2:(j:Int)=0
  .exact .inr ⟨by simpa using k2,by simpa using λh=>qk (.inr ⟨k2,h⟩)⟩
  .exact .inl (sU k2)
 refine key.elim (λai=> ?_) (λ⟨ai,ak⟩=> ?_)
 .refine zA ?_
  simp[go_sem,q,hx]
  refine zL aa cB (zO sg rfl) rfl ?_
  simp[go_sem,ae,af,ai,hL]
  refine zJ ⟨hi,lU λ_=>rfl⟩ ?_
  simp[go_sem,<-List.map_take]
  refine lV 2 ah cB rfl (ns x) ⟨zK,.inl (by simp[dF,dK,de,di,cH]),tV⟩ (λr I h=>⟨_,h.2,ns x⟩) ?_
  rintro r o2 ⟨rfl,h2⟩
  obtain rfl:o2= .box x.row:=sU h2
  refine(A6 b).elim (λp=> ?_) (λp=> ?_)
  .rw[ahg p]at hinv
   simp[go_sem,p]
   exact eP hinv
  rw[ahf (by rw[p];decide)]at hinv
  simp[go_sem,p]
  refine mV [(9,0)] 3 sm kR kR ?_
  simp[go_sem,aj,hC]
  refine pg ab cB (λ_=>⟨zC rfl,vY x.e,zC rfl,tV⟩) rfl ?_
  simp[go_sem]
  by_cases qe:kc=0
  .have ad:(kc !=0)=false:=sU qe
   rw[ahf (λh=>h qe)]at hinv
   simp[go_sem,ad,ei]
   exact zH (i+1) ⟨om,⟨om,hinv⟩,cd 2 (by simp[go_sem,hL]) rfl (oK T st 2) (A4 _) (zD sg rfl)⟩
  .have ad:(kc !=0)=true:=sU qe
   rw[ahg qe]at hinv
   simp[go_sem,ad]
   exact eP hinv
 .refine zA ?_
  simp[go_sem,q,hx]
  refine zL aa cB (zO sg rfl) rfl ?_
  simp[go_sem,ae,af,ai,ak,hL]
  refine zJ ⟨hi,lU λ_=>rfl⟩ ?_
  simp[go_sem,<-List.map_take]
  refine lV 2 ah cB rfl (ns x) ⟨zK,.inl (by simp[dF,dK,de,di,cH]),tV⟩ (λr I h=>⟨_,h.2,ns x⟩) ?_
  rintro r o2 ⟨rfl,h2⟩
  obtain rfl:o2= .box x.row:=sU h2
  refine(A6 b).elim (λp=> ?_) (λp=> ?_)
  .rw[ahg p]at hinv
   simp[go_sem,p]
   exact eP hinv
  rw[ahf (by rw[p];decide)]at hinv
  simp[go_sem,p]
  refine mV [(9,0)] 3 sm kR kR ?_
  simp[go_sem,aj,hC]
  refine pg ab cB (λ_=>⟨zC rfl,vY x.e,zC rfl,tV⟩) rfl ?_
  simp[go_sem]
  by_cases qe:kc=0
  .have ad:(kc !=0)=false:=sU qe
   rw[ahf (λh=>h qe)]at hinv
   simp[go_sem,ad,ei]
   exact zH (i+1) ⟨om,⟨om,hinv⟩,cd 2 (by simp[go_sem,hL]) rfl (oK T st 2) (A4 _) (zD sg rfl)⟩
  .have ad:(kc !=0)=true:=sU qe
   rw[ahg qe]at hinv
   simp[go_sem,ad]
   exact eP hinv
def qF (st:bW):Int:=
 match bO[(yU st.table).toNat]? with
 |none=>14
 |some T=>if yU st.table<0 then 14 else if st.kind=1 then Ko T st else if st.kind=2 then FM T st.rows else if st.kind=3 then(if nQ T [] st.cD≠0 then nQ T [] st.cD else zp T st)else zp T st
theorem xB4 (st:bW) (hs:kO st):Pure prog 57 [dG bO,.agg st.row] (.int .i64 (qF st)):=by
 have ad:=NI bO st.table dC
 rw[show iy (λt:bL=>t.name==st.table) bO 0=yU st.table from rfl]at ad
 generalize hM:qF st=M
 unfold qF at hM
 have an:=Hz st.table
 generalize yU st.table=t at ad an hM
 refine iW 0 func57 ntmps57 results57 λc hc hb=>zM ?_
 simp[go_sem,dG]
 refine zL ad cB (zO (by simp[go_sem,dG]) rfl) rfl ?_
 simp[go_sem]
 by_cases ai:t= -1
 .have hM:14=M:=by rw[<-hM,ai];rfl
  subst ai
  simp[go_sem]
  exact eP hM
 have aj: ¬t<0:=om
 have ak:decide (t<0)=false:=ahh aj
 obtain⟨j,rfl⟩: ∃j:Nat,t=j:=⟨t.toNat,om⟩
 have ae:j<bO.length:=by show j<3;omega
 obtain⟨T,hT⟩:=eX (bO[j])
 have al:T.ca.length<=1000:=by
  rw[<-hT]
  match j,ae with
  |0,_=>exact(by decide:s8.ca.length<=1000)
  |1,_=>exact(by decide:DK.ca.length<=1000)
  |2,_=>exact(by decide:DL.ca.length<=1000)
 simp only[Az,A0 ae,hT]at hM
 rw[ahf aj]at hM
 have h1:=xB8 T (by unfold maxLen;omega) st hs
 have h2:=xr9 T al st hs
 have h3:=xZ6 T al st hs
 have h4:=SZ T (by unfold maxLen;omega) st hs
 simp[go_sem,ak,ae,hT]
 by_cases k1:st.kind=1
 .have aa:(st.kind==1)=true:=sU k1
  rw[ahg k1]at hM
  simp[go_sem,aa]
  refine zL h1 cB (zO sg rfl) rfl ?_
  simp[go_sem]
  exact eP hM
 have aa:(st.kind==1)=false:=sU k1
 rw[ahf k1]at hM
 by_cases k2:st.kind=2
 .have ab:(st.kind==2)=true:=sU k2
  rw[ahg k2]at hM
  simp[go_sem,aa,ab]
  refine zL h2 cB (zO sg rfl) rfl ?_
  simp[go_sem]
  exact eP hM
 have ab:(st.kind==2)=false:=sU k2
 rw[ahf k2]at hM
 by_cases k3:st.kind=3
 .have af:(st.kind==3)=true:=sU k3
  rw[ahg k3]at hM
  generalize nQ T [] st.cD=sc at h3 hM
  simp[go_sem,aa,ab,af]
  refine zL h3 cB (zO sg rfl) rfl ?_
  by_cases qe:sc=0
  .have ah:(sc !=0)=false:=sU qe
   rw[ahf (λh=>h qe)]at hM
   simp[go_sem,ah]
   refine zL h4 cB (zO sg rfl) rfl ?_
   simp[go_sem]
   exact eP hM
  .have ah:(sc !=0)=true:=sU qe
   rw[ahg qe]at hM
   simp[go_sem,ah]
   exact eP hM
 have af:(st.kind==3)=false:=sU k3
 rw[ahf k3]at hM
 simp[go_sem,aa,ab,af]
 refine zL h4 cB (zO sg rfl) rfl ?_
 simp[go_sem]
 exact eP hM
def DR (mode:Int):List bW->Nat->Int×Int
 | [],_=>(0,0)
 |x::l,i=>if mode≠0/\x.kind≠1 then((i:Int),1)else if qF x≠0 then((i:Int),qF x)else DR mode l (i+1)
def mF (l:dR):Int×Int:=if mg l=true then DR l.mode l.stmts 0 else(0,9)
theorem Tl (l:dR) (hl:ki l):Pure prog 23 [dG bO,.agg l.row] (wF (mF l)):=by
 have ad:=xx4 l hl
 obtain⟨L,hL⟩:=eX l.stmts
 obtain⟨ah,af⟩:=hl.stmts
 rw[hL]at ah af
 obtain⟨m,hm⟩:=eX l.mode
 generalize hM:mF l=M
 unfold mF at hM
 rw[hL,hm]at hM
 generalize mg l=b at ad hM
 refine iV 0 func23 ntmps23 results23 λc hc hb=> ?_
 refine zA ?_
 simp[go_sem,dG]
 refine zL ad cB (zO sg rfl) rfl ?_
 refine(A6 b).elim (λp=> ?_) (λp=> ?_)
 rotate_left
 .rw[ahf (by rw[p];decide)]at hM
  simp[go_sem,p]
  exact DP hM
 rw[ahg p]at hM
 simp[go_sem,p,hL]
 refine zI (S:=Nat) [2,3,13,14,15] (λi=> [.ptr 0 0,.ptr 1 0,.sl .ro (L.map bW.row),.int .i64 L.length,.int .i64 (i:Int)]) (λ_=> [.box [.sl .ro xJ,.sl .ro (bO.map bL.row)],.box l.row]) (λi=>L.length - i)
  (λi=>i<=L.length/\DR m (L.drop i) i=M) hc hb 0 ⟨A4 _,hM⟩ ?_ ?_
 .exact cd 2 (by simp[go_sem,hL]) rfl (by simp[bT,cQ,cL,dR.row]) (A4 _) (zD sg rfl)
 rintro i ⟨hi,hinv⟩
 by_cases q:i<L.length
 rotate_left
 .rw[A9 om,DR]at hinv
  refine zA ?_
  simp[go_sem,q]
  exact DP hinv
 have ei:=zQ q om
 obtain⟨st,ae⟩:=eX (L[i])
 have aa:=xB4 st (af st (ae▸A8 q))
 rw[A5 q,ae,DR]at hinv
 generalize qF st=ce at aa hinv
 refine zA ?_
 simp[go_sem,q,ae,hm]
 by_cases q1:m≠0/\st.kind≠1
 .rw[ahg q1]at hinv
  have ai:(m !=0)=true:=sU q1.1
  have aj:(st.kind !=1)=true:=sU q1.2
  simp[go_sem,ai,aj]
  exact DP hinv
 rw[ahf q1]at hinv
 have key:(m !=0)=false\/((m !=0)=true/\(st.kind !=1)=false):=by
  by_cases h:m=0
  .exact .inl (sU h)
  .refine .inr ⟨by simpa using h, ?_⟩
   simp only[bne_eq_false_iff_eq]
   exact Classical.byContradiction λg=>q1 ⟨h,g⟩
 refine key.elim (λa1=> ?_) (λ⟨a1,a2⟩=> ?_)
 .simp[go_sem,a1]
  refine zL aa cB (zO (by simp[go_sem,dG]) rfl) rfl ?_
  by_cases qe:ce=0
  .have ab:(ce !=0)=false:=sU qe
   rw[ahf (λh=>h qe)]at hinv
   simp[go_sem,ab,ei]
   exact zH (i+1) ⟨om,⟨om,hinv⟩,cd 2 (by simp[go_sem,hL,hm]) rfl (by simp[bT,cQ,cL]) (A4 _) (zD sg rfl)⟩
  .have ab:(ce !=0)=true:=sU qe
   rw[ahg qe]at hinv
   simp[go_sem,ab]
   exact DP hinv
 .simp[go_sem,a1,a2]
  refine zL aa cB (zO (by simp[go_sem,dG]) rfl) rfl ?_
  by_cases qe:ce=0
  .have ab:(ce !=0)=false:=sU qe
   rw[ahf (λh=>h qe)]at hinv
   simp[go_sem,ab,ei]
   exact zH (i+1) ⟨om,⟨om,hinv⟩,cd 2 (by simp[go_sem,hL,hm]) rfl (by simp[bT,cQ,cL]) (A4 _) (zD sg rfl)⟩
  .have ab:(ce !=0)=true:=sU qe
   rw[ahg qe]at hinv
   simp[go_sem,ab]
   exact DP hinv
abbrev gm (n:Int):Prop:= -9223372036854775808<=n/\n<=9223372036854775807
def fc (n:Int):Int×Int:=if gm n then(n,0)else(0,5)
theorem uK {n:Int} (h:gm n):IntKind.i64.wrap n=n:=Vx.bX h.1 h.2
theorem NT (a b:Int) (ha:gm a) (aa:gm b):Pure prog 270 [.int .i64 a,.int .i64 b] (wF (fc (a+b))):=by
 generalize hM:fc (a+b)=M
 unfold fc at hM
 have q:(0<b/\decide (0<b)=true/\decide (b<0)=false)\/(b<0/\decide (0<b)=false/\decide (b<0)=true)\/(b=0/\decide (0<b)=false/\decide (b<0)=false):=by
  simp only[ahl,ahn];omega
 unfold gm at ha aa hM
 refine iW 0 func270 ntmps270 results270 λc hc hb=>zM ?_
 rcases q with ⟨q,q1,q2⟩|⟨q,q1,q2⟩|⟨q,q1,q2⟩
 .have w1:IntKind.i64.wrap (9223372036854775807 - b)=9223372036854775807 - b:=uK ⟨om,om⟩
  by_cases r:9223372036854775807 - b<a
  .have r':decide (9223372036854775807 - b<a)=true:=ahi r
   simp[go_sem,q1,w1,r']
   exact wU (by rw[<-hM,ahf om])
  .have r':decide (9223372036854775807 - b<a)=false:=ahh r
   have w2:IntKind.i64.wrap (a+b)=a+b:=uK ⟨om,om⟩
   simp[go_sem,q1,q2,w1,r',w2]
   exact wU (by rw[<-hM,ahg om])
 .have w1:IntKind.i64.wrap (-9223372036854775808 - b)= -9223372036854775808 - b:=uK ⟨om,om⟩
  by_cases r:a< -9223372036854775808 - b
  .have r':decide (a< -9223372036854775808 - b)=true:=ahi r
   simp[go_sem,q1,q2,w1,r']
   exact wU (by rw[<-hM,ahf om])
  .have r':decide (a< -9223372036854775808 - b)=false:=ahh r
   have w2:IntKind.i64.wrap (a+b)=a+b:=uK ⟨om,om⟩
   simp[go_sem,q1,q2,w1,r',w2]
   exact wU (by rw[<-hM,ahg om])
 .have w2:IntKind.i64.wrap (a+b)=a+b:=uK ⟨om,om⟩
  simp[go_sem,q1,q2,w2]
  exact wU (by rw[<-hM,ahg om])
theorem NU (x:Nat) (hx:x<18446744073709551616):jc .and .u64 (x:Int) 4294967295=((x%4294967296:Nat):Int):=by
 unfold jc
 have h1:(BitVec.ofInt IntKind.u64.bits (x:Int)).toNat=x:=by
  rw[BitVec.toNat_ofInt]
  show((x:Int)%(18446744073709551616:Nat)).toNat=x
  omega
 have h2:(BitVec.ofInt IntKind.u64.bits 4294967295).toNat=4294967295:=dC
 simp only[BitVec.toNat_and,h1,h2]
 have h3:=Nat.and_two_pow_sub_one_eq_mod x 32
 have h4:(2:Nat)^32 - 1=4294967295:=dC
 have h5:(2:Nat)^32=4294967296:=dC
 rw[h4,h5]at h3
 rw[h3]
 exact Vx.dL om om
theorem HB (x:Nat):(x:Int).fdiv 4294967296=((x/4294967296:Nat):Int):=by
 rw[Dm _ dC]
 rfl
theorem wr3 (n:Nat):IntKind.u64.wrap (n:Int)=((n%18446744073709551616:Nat):Int):=by
 unfold IntKind.wrap
 simp[IntKind.bits,IntKind.signed]
theorem nu {n:Nat} (h:n<18446744073709551616):IntKind.u64.wrap (n:Int)=(n:Int):=Vx.dL om om
theorem xu5 (a b c d:Nat) (ha:a<4294967296) (hb:b<4294967296) (hc:c<4294967296) (hd:d<4294967296):
  a*d<=18446744065119617025/\b*c<=18446744065119617025/\a*c<=18446744065119617025/\b*d<=18446744065119617025/\
  (a*4294967296+b)*(c*4294967296+d)=(a*c)*18446744073709551616+(a*d)*4294967296+(b*c)*4294967296+b*d:=by
 have m: ∀x y:Nat,x<4294967296->y<4294967296->x*y<=18446744065119617025:=λx y hx hy=>by
  have:=Nat.mul_le_mul (show x<=4294967295 by omega) (show y<=4294967295 by omega)
  simpa using this
 refine⟨m _ _ ha hd,m _ _ hb hc,m _ _ ha hc,m _ _ hb hd, ?_⟩
 rw[B4,Nat.mul_add,Nat.mul_add]
 have e1:a*4294967296*(c*4294967296)=(a*c)*18446744073709551616:=by
  rw[Nat.mul_mul_mul_comm]
 have e2:a*4294967296*d=(a*d)*4294967296:=by rw[Nat.mul_right_comm]
 have e3:b*(c*4294967296)=(b*c)*4294967296:=by rw[Nat.mul_assoc]
 rw[e1,e2,e3]
 omega
theorem vZ (x y:Nat):(x:Int)*(y:Int)=((x*y:Nat):Int):=sm
theorem Kt (x y:Nat):(x:Int)+(y:Int)=((x+y:Nat):Int):=sm
theorem xR9 (x y:Nat) (hx:x<18446744073709551616) (hy:y<18446744073709551616):Pure prog 333 [.int .u64 x,.int .u64 y] (.cy [.int .u64 ((x*y/18446744073709551616:Nat):Int),.int .u64 ((x*y%18446744073709551616:Nat):Int)]):=by
 obtain⟨m1,m2,m3,m4,m5⟩:=xu5 (x/4294967296) (x%4294967296) (y/4294967296) (y%4294967296) om om om om
 have ex:x/4294967296*4294967296+x%4294967296=x:=Nat.div_add_mod' x 4294967296
 have ey:y/4294967296*4294967296+y%4294967296=y:=Nat.div_add_mod' y 4294967296
 rw[ex,ey]at m5
 have a1:=NU x hx
 have a2:=NU y hy
 have a3:=HB x
 have a4:=HB y
 generalize aa:x/4294967296=x1 at*
 generalize ab:x%4294967296=x0 at*
 generalize ad:y/4294967296=y1 at*
 generalize ae:y%4294967296=y0 at*
 obtain⟨p,hp⟩: ∃p,p=x1*y1:=⟨_,rfl⟩
 obtain⟨q,hq⟩: ∃q,q=x1*y0:=⟨_,rfl⟩
 obtain⟨r,hr⟩: ∃r,r=x0*y1:=⟨_,rfl⟩
 obtain⟨s,hs⟩: ∃s,s=x0*y0:=⟨_,rfl⟩
 rw[<-hq]at m1 m5
 rw[<-hr]at m2 m5
 rw[<-hp]at m3 m5
 rw[<-hs]at m4 m5
 refine iW 0 func333 ntmps333 results333 λc hc hb=>zM ?_
 simp[go_sem,a1,a2,a3,a4]
 refine zX (zC rfl) ⟨?_,rfl⟩
 rw[vZ x1 y1,<-hp,vZ x1 y0,<-hq,vZ x0 y1,<-hr,vZ x0 y0,<-hs,nu (n:=s) om,nu (n:=p) om,nu (n:=q) om,nu (n:=r) om,HB s,
  Kt,nu (n:=q+s/4294967296) om,HB,NU _ om,Kt,Kt,nu (n:=p+(q+s/4294967296)/4294967296) om,nu (n:=(q+s/4294967296)%4294967296+r) om,HB,Kt,nu om,vZ,wr3]
 have e:p+(q+s/4294967296)/4294967296+((q+s/4294967296)%4294967296+r)/4294967296=x*y/18446744073709551616:=by
  rw[m5]
  omega
 rw[e]
 rfl
theorem xR1 (h:a<0) (h2: -9223372036854775808<=a):IntKind.u64.wrap (-IntKind.u64.wrap a)=(a.natAbs:Int):=by
 have e:IntKind.u64.wrap a=a+18446744073709551616:=by
  unfold IntKind.wrap
  simp[IntKind.bits,IntKind.signed]
  omega
 rw[e]
 unfold IntKind.wrap
 simp[IntKind.bits,IntKind.signed]
 omega
theorem Tm (a:Int) (ha:gm a):Pure prog 334 [.int .i64 a] (.int .u64 (a.natAbs:Int)):=by
 unfold gm at ha
 refine iW 0 func334 ntmps334 results334 λc hc hb=>zM ?_
 simp[go_sem]
 by_cases q:a<0
 .have q1:decide (a<0)=true:=ahi q
  simp[go_sem,q1]
  refine zX (zC rfl) ⟨?_,rfl⟩
  rw[xR1 q ha.1]
 .have q1:decide (a<0)=false:=ahh q
  simp[go_sem,q1]
  refine zX (zC rfl) ⟨?_,rfl⟩
  rw[Vx.dL om om]
  congr 1
  omega
def DS (a b:Int):Nat:=if decide (a<0)=decide (b<0)then 9223372036854775807 else 9223372036854775808
theorem wj6 (a b:Int):gm (a*b)↔a.natAbs*b.natAbs<=DS a b:=by
 obtain⟨n,hn⟩:=Int.eq_nat_or_neg a
 obtain⟨m,hm⟩:=Int.eq_nat_or_neg b
 have e:a.natAbs=n/\b.natAbs=m:=⟨om,om⟩
 rw[e.1,e.2]
 have z1:n=0->n*m=0:=λh=>by subst h;exact Cx m
 have z2:m=0->n*m=0:=λh=>by subst h;exact Nat.mul_zero n
 unfold DS gm
 rcases hn with rfl|rfl<;>rcases hm with rfl|rfl
 .rw[vZ,ahh om,ahh om,ahg rfl]
  generalize n*m=p at*
  omega
 .rw[Int.mul_neg,vZ]
  generalize n*m=p at*
  rw[ahh om]
  by_cases q: -(m:Int)<0
  .rw[ahi q,ahf sm];omega
  .rw[ahh q,ahg rfl]
   have:=z2 om
   omega
 .rw[Int.neg_mul,vZ]
  generalize n*m=p at*
  rw[ahh (p:=(m:Int)<0) om]
  by_cases q: -(n:Int)<0
  .rw[ahi q,ahf sm];omega
  .rw[ahh q,ahg rfl]
   have:=z1 om
   omega
 .rw[Int.neg_mul_neg,vZ]
  generalize n*m=p at*
  by_cases q: -(n:Int)<0<;>by_cases q2: -(m:Int)<0
  .rw[ahi q,ahi q2,ahg rfl];omega
  .have:=z2 om
   rw[ahi q,ahh q2,ahf sm];omega
  .have:=z1 om
   rw[ahh q,ahi q2,ahf sm];omega
  .have:=z1 om
   rw[ahh q,ahh q2,ahg rfl];omega
theorem wj5 (a b:Int):((!(decide (a<0)==decide (b<0)))=true->DS a b=9223372036854775808)/\((!(decide (a<0)==decide (b<0)))=false->DS a b=9223372036854775807):=by
 unfold DS
 generalize decide (a<0)=x
 generalize decide (b<0)=y
 cases x<;>cases y<;>simp
theorem wn3 (a b:Int) (ha:gm a) (ab:gm b):Pure prog 326 [.int .i64 a,.int .i64 b] (wF (fc (a*b))):=by
 have af:=Tm a ha
 have ah:=Tm b ab
 have ad:a.natAbs<18446744073709551616/\b.natAbs<18446744073709551616:=by unfold gm at ha ab;omega
 have hm:=xR9 a.natAbs b.natAbs ad.1 ad.2
 have cN:=wj6 a b
 have ai:DS a b<=9223372036854775808:=by unfold DS;split<;>omega
 have ae:=wj5 a b
 generalize hP:a.natAbs*b.natAbs=p at*
 have aj:p/18446744073709551616*18446744073709551616+p%18446744073709551616=p:=Nat.div_add_mod' _ _
 have ak:p%18446744073709551616<18446744073709551616:=Cs _ dC
 generalize p/18446744073709551616=hi at*
 generalize p%18446744073709551616=lo at*
 generalize hM:fc (a*b)=M
 unfold fc at hM
 refine iW 0 func326 ntmps326 results326 λc hc hb=>zM ?_
 simp[go_sem]
 refine pC af ?_
 simp[go_sem]
 refine pC ah ?_
 simp[go_sem]
 refine pC hm ?_
 simp[go_sem]
 have u1:IntKind.u64.wrap 9223372036854775808=9223372036854775808:=dC
 refine zU (λv2=> ?_) (λv2=> ?_)
 .rw[ae.1 v2]at cN
  by_cases q:p<=9223372036854775808
  .have f1:decide (0<hi)=false:=ahh om
   have f3:decide ((9223372036854775808:Int)<(lo:Int))=false:=ahh om
   have w:=uK (cN.2 q)
   simp[go_sem,f1,f3,w,u1]
   exact wU (by rw[<-hM,ahg (cN.2 q)])
  .have aa: ¬gm (a*b):=λh=>q (cN.1 h)
   have f4:decide (0<hi)=true\/(decide (0<hi)=false/\decide ((9223372036854775808:Int)<(lo:Int))=true):=by
    simp only[ahl,ahn];omega
   rcases f4 with f4|⟨f4,f5⟩
   .simp[go_sem,f4]
    exact wU (by rw[<-hM,ahf aa])
   .simp[go_sem,f4,f5,u1]
    exact wU (by rw[<-hM,ahf aa])
 .rw[ae.2 v2]at cN
  by_cases q:p<=9223372036854775807
  .have f1:decide (0<hi)=false:=ahh om
   have f3:decide ((9223372036854775807:Int)<(lo:Int))=false:=ahh om
   have w:=uK (cN.2 q)
   simp[go_sem,f1,f3,w]
   exact wU (by rw[<-hM,ahg (cN.2 q)])
  .have aa: ¬gm (a*b):=λh=>q (cN.1 h)
   have f4:decide (0<hi)=true\/(decide (0<hi)=false/\decide ((9223372036854775807:Int)<(lo:Int))=true):=by
    simp only[ahl,ahn];omega
   rcases f4 with f4|⟨f4,f5⟩
   .simp[go_sem,f4]
    exact wU (by rw[<-hM,ahf aa])
   .simp[go_sem,f4,f5]
    exact wU (by rw[<-hM,ahf aa])
theorem NV (a b:Int) (ha:gm a) (ab:gm b):Pure prog 308 [.int .i64 a,.int .i64 b] (wF (fc (a - b))):=by
 by_cases q:b= -9223372036854775808
 .generalize hM:fc (a - b)=M
  unfold fc at hM
  unfold gm at ha
  have q1:(b != -9223372036854775808)=false:=sU q
  refine iW 0 func308 ntmps308 results308 λc hc hb=>zM ?_
  simp[go_sem,q1]
  by_cases r:0<=a
  .have r1:decide (0<=a)=true:=ahi r
   simp[go_sem,r1]
   exact wU (by rw[<-hM,ahf om])
  .have r1:decide (0<=a)=false:=ahh r
   have w:IntKind.i64.wrap (a - b)=a - b:=uK ⟨om,om⟩
   simp[go_sem,r1,w]
   exact wU (by rw[<-hM,ahg (by unfold gm;omega)])
 .have hn:gm (-b):=by unfold gm at*;omega
  have w:IntKind.i64.wrap (-b)= -b:=uK hn
  have q1:(b != -9223372036854775808)=true:=sU q
  have aa:=NT a (-b) ha hn
  have e:a+ -b=a - b:=om
  rw[e]at aa
  generalize fc (a - b)=M at*
  refine iW 0 func308 ntmps308 results308 λc hc hb=>zM ?_
  simp[go_sem,q1,w]
  refine pC aa ?_
  simp[go_sem,wF]
  exact wR
def zq (s:ahP) (a b:Int):Int×Int:=
 if s= [43]then fc (a+b)else if s= [45]then fc (a - b)else if s= [42]then fc (a*b)
 else if b=0 then(0,17)else if s= [37]then(a.tmod b,0)else fc (a.tdiv b)
theorem wa8 {b:Int} (ha:gm a) (hb:gm b):gm (a.tmod b):=by
 unfold gm at*
 by_cases q:b=0
 .subst q;rw[Int.tmod_zero];exact ha
 .have h2:(a.tmod b).natAbs=a.natAbs%b.natAbs:=Int.natAbs_tmod a b
  have h3:a.natAbs%b.natAbs<=a.natAbs:=Nat.mod_le _ _
  have h4:(a.tmod b).natAbs<b.natAbs:=by
   rw[h2];exact Cs _ om
  omega
theorem wa7 {b:Int} (ha:gm a) (_hb:gm b) (h:b≠ -1):gm (a.tdiv b):=by
 unfold gm at*
 have h2:(a.tdiv b).natAbs=a.natAbs/b.natAbs:=Int.natAbs_tdiv a b
 by_cases q:b.natAbs<=1
 .have:b=0\/b=1:=om
  rcases this with rfl|rfl
  .rw[Int.tdiv_zero];omega
  .rw[Int.tdiv_one];exact ha
 .have h3:a.natAbs/b.natAbs<=a.natAbs/2:=Nat.div_le_div_left om om
  omega
theorem xL4 (s:ahP) (a b:Int) (ha:gm a) (aa:gm b):Pure prog 310 [.str s,.int .i64 a,.int .i64 b] (wF (zq s a b)):=by
 have c1:=NT a b ha aa
 have c2:=NV a b ha aa
 have c3:=wn3 a b ha aa
 have c4:=NV 0 a dC ha
 have e4:fc (0 - a)=fc (-a):=by congr 1;omega
 rw[e4]at c4
 have wr: ∀{x:Int×Int} {M:Int×Int} {I:St},x=M->cw (some (.cy [.int .i64 x.1,.int .i64 x.2])) 0 (λv s=>v=wF M/\s= []) I:=λh=>wU h.symm
 generalize hM:zq s a b=M
 unfold zq at hM
 refine iW 0 func310 ntmps310 results310 λc hc hb=>zM ?_
 simp[go_sem]
 by_cases s1:s= [43]
 .simp only[s1,ahg]at hM
  simp[go_sem,s1]
  refine pC c1 ?_
  simp[go_sem,wF]
  exact wr hM
 by_cases s2:s= [45]
 .rw[ahf s1,ahg s2]at hM
  simp[go_sem,s2]
  refine pC c2 ?_
  simp[go_sem,wF]
  exact wr hM
 by_cases s3:s= [42]
 .rw[ahf s1,ahf s2,ahg s3]at hM
  simp[go_sem,s3]
  refine pC c3 ?_
  simp[go_sem,wF]
  exact wr hM
 rw[ahf s1,ahf s2,ahf s3]at hM
 have af:(s== [43])=false:=sU s1
 have ah:(s== [45])=false:=sU s2
 have ai:(s== [42])=false:=sU s3
 simp[go_sem,af,ah,ai]
 by_cases b0:b=0
 .rw[ahg b0]at hM
  have ab:(b==0)=true:=sU b0
  simp[go_sem,ab]
  exact wU hM.symm
 rw[ahf b0]at hM
 have ab:(b==0)=false:=sU b0
 simp[go_sem,ab]
 by_cases s4:s= [37]
 .rw[ahg s4]at hM
  have ad:(s== [37])=true:=sU s4
  simp[go_sem,ad]
  refine zJ b0 ?_
  simp[go_sem]
  exact wU hM.symm
 rw[ahf s4]at hM
 have ad:(s== [37])=false:=sU s4
 simp[go_sem,ad]
 by_cases b1:b= -1
 .rw[b1,Int.tdiv_neg,Int.tdiv_one]at hM
  have ae:(b== -1)=true:=sU b1
  simp[go_sem,ae]
  refine pC c4 ?_
  simp[go_sem,wF]
  exact wr hM
 have ae:(b== -1)=false:=sU b1
 have ok:=wa7 ha aa b1
 unfold fc at hM
 rw[ahg ok]at hM
 simp[go_sem,ae,uK ok]
 refine zJ b0 ?_
 simp[go_sem]
 exact wU hM.symm
def iR (a b:ahP):Int:=if Op.bytesLess a b=true then -1 else if Op.bytesLess b a=true then 1 else 0
theorem Tn: ∀a b:ahP,Lib.compareBytes a b=iR a b
 | [],[]=>rfl
 | [],_::_=>rfl
 |_::_,[]=>rfl
 |x::a,y::b=>by
  have ih:=Tn a b
  rw[Lib.compareBytes]
  unfold iR at ih⊢
  rw[Ke,Ke]
  have h1:(x<y)↔x.toNat<y.toNat:=UInt8.lt_iff_toNat_lt
  have h2:(y<x)↔y.toNat<x.toNat:=UInt8.lt_iff_toNat_lt
  by_cases q:x<y
  .have:=h1.1 q
   rw[ahg q,ahg this]
   rfl
  by_cases q2:y<x
  .have:=h2.1 q2
   have n1: ¬x.toNat<y.toNat:=λh=>q (h1.2 h)
   rw[ahf q,ahg q2,ahf n1,ahg this,ahg this]
   rfl
  .have n1:=λh=>q (h1.2 h)
   have n2:=λh=>q2 (h2.2 h)
   rw[ahf q,ahf q2,ahf n1,ahf n2,ahf n2,ahf n1]
   exact ih
theorem yK7 {a b:ahP} {c:Ctx} {K:V->St->Prop} {e:Fx K} (hk:K (.int .i64 (iR a b)) I):iZ prog c (.fn 288 []) [.str a,.str b] I K e:=by
 refine⟨_,[],rfl,.inr λw L J aa hm ha=> ?_⟩
 match aa,ha with
 | [v1,v2],⟨h1,h2,_⟩=>
  rw[kU h1,kU h2]
  refine⟨.int .i64 (iR a b),.int .i64 (iR a b),w,L,I,J, ?_,hk,hm,Le.refl _ _,Ext.refl _ _,cF.int _ _⟩
  rw[run_callFunc_extern func288 kR kR kR (e:=Extern.BytealgCompare.compare) kR,Lib.run_compareString]
  rw[List.toList_toArray,List.toList_toArray,Tn]
  rfl
theorem xq6 (a b:ahP):Pure prog 237 [.str a,.str b] (.int .i64 (iR a b)):=by
 refine iW 0 func237 ntmps237 results237 λc hc hb=>zM ?_
 simp[go_sem]
 refine yK7 ?_
 simp[go_sem]
 exact wR
theorem To (a b:ahP):Pure prog 166 [.str a,.str b] (.int .i64 (iR a b)):=by
 refine iW 0 func166 ntmps166 results166 λc hc hb=>zM ?_
 simp[go_sem]
 refine pC (xq6 a b) ?_
 simp[go_sem]
 exact wR
theorem Tp (x:Int):Pure prog 282 [.int .i64 x] (.bool false):=by
 refine iW 0 func282 ntmps282 results282 λc hc hb=>zM ?_
 simp[go_sem]
 exact wR
theorem yX1 (x y:Int):Pure prog 225 [.int .i64 x,.int .i64 y] (.int .i64 (gk x y)):=by
 generalize hM:gk x y=M
 have ret: ∀(r:Int) (I:St),r=M->cw (some (.int .i64 r)) 0 (λr s=>r= .int .i64 M/\s= []) I:=λr I h=>by subst h;exact wR
 unfold gk at hM
 refine iW 0 func225 ntmps225 results225 λc hc hb=>zM ?_
 simp[go_sem]
 refine pC (Tp x) ?_
 simp[go_sem]
 refine pC (Tp y) ?_
 simp[go_sem]
 repeat' (first|(refine zU (λq=> ?_) (λq=> ?_)<;>simp[go_sem,q]))
 all_goals exact ret _ _ (by rw[<-hM];simp only[ahl,ahn]at*;(repeat' split)<;>omega)
def th:ahS->Int
 | []=>0
 |x::l=>if x=0 then th l else x
theorem HC (l:ahS) (hl:l.length<=maxLen):Pure prog 164 [.sl .ro (l.map λn=> [V.int .i64 n])] (.int .i64 (th l)):=by
 generalize hM:th l=M
 have ret: ∀(r:Int) (I:St),r=M->cw (some (.int .i64 r)) 0 (λr s=>r= .int .i64 M/\s= []) I:=λr I h=>by subst h;exact wR
 refine iV 0 func164 ntmps164 results164 λc hc hb=> ?_
 refine zA ?_
 simp[go_sem]
 refine zI (S:=Nat) [3,6,7,8] (λi=> [.int .i64 0,.sl .ro (l.map λn=> [V.int .i64 n]),.int .i64 l.length,.int .i64 i]) (λ_=> []) (λi=>l.length - i) (λi=>i<=l.length/\th (l.drop i)=M) hc hb 0 ⟨A4 _,hM⟩ ?_ ?_
 .exact aO
 rintro i ⟨hi,hinv⟩
 by_cases q:i<l.length
 rotate_left
 .have e:l.drop i= []:=A9 om
  rw[e]at hinv
  refine zA ?_
  simp[go_sem,q]
  exact ret _ _ hinv
 have ei:=zQ q (by unfold maxLen at hl;omega)
 obtain⟨r,hr⟩:=eX (l[i])
 rw[A5 q,th,hr]at hinv
 refine zA ?_
 simp[go_sem,q,hr]
 by_cases w1:r=0
 .rw[ahg w1]at hinv
  have aa:(r !=0)=false:=by simp[w1]
  simp[go_sem,aa,ei]
  exact zH (i+1) ⟨om,⟨q,hinv⟩,aO⟩
 rw[ahf w1]at hinv
 have aa:(r !=0)=true:=sU w1
 simp[go_sem,aa]
 exact ret _ _ hinv
def jm (a b:bK):Int:=th [gk a.kind b.kind,gk a.n b.n,iR a.s b.s]
theorem Tq (a b:bK):Pure prog 161 [.agg a.row,.agg b.row] (.int .i64 (jm a b)):=by
 have h:=HC [gk a.kind b.kind,gk a.n b.n,iR a.s b.s] (by simp[maxLen])
 have h1:=NN a.kind b.kind
 have h2:=yX1 a.n b.n
 have h3:=To a.s b.s
 unfold jm
 generalize th [gk a.kind b.kind,gk a.n b.n,iR a.s b.s]=M at*
 refine iW 0 func161 ntmps161 results161 λc hc hb=>zM ?_
 simp[go_sem]
 refine yL [(4,0),(9,0),(14,0),(16,0)] 2 rfl kR kR ?_
 simp[go_sem]
 refine pD h1 ?_
 simp[go_sem]
 refine pD h2 ?_
 simp[go_sem]
 refine pD h3 ?_
 simp[go_sem]
 refine pD h ?_
 simp[go_sem]
 exact wR
def fe (x:bK×Int):V:= .cy [.agg x.1.row,.int .i64 x.2]
def zeroV:bK:=⟨0,0,[]⟩
def v7 (r:Int×Int):bK×Int:=if r.2=0 then(⟨2,r.1,[]⟩,0)else(zeroV,r.2)
theorem Tr {x:bK×Int} {k n e:Int} {s:ahP} (h:x=(⟨k,n,s⟩,e)):cw (some (.cy [.agg [.int .i64 k,.int .i64 n,.str s],.int .i64 e])) 0 (λv s=>v=fe x/\s= []) I:=by
 subst h
 exact wR
theorem Ts (r:Int×Int):Pure prog 307 [.int .i64 r.1,.int .i64 r.2] (fe (v7 r)):=by
 generalize hM:v7 r=M
 unfold v7 at hM
 refine iW 0 func307 ntmps307 results307 λc hc hb=>zM ?_
 simp[go_sem]
 by_cases q:r.2=0
 .rw[ahg q]at hM
  have q1:(r.2 !=0)=false:=sU q
  simp[go_sem,q1]
  exact Tr hM.symm
 .rw[ahf q]at hM
  have q1:(r.2 !=0)=true:=sU q
  simp[go_sem,q1]
  exact Tr hM.symm
def FN (s:ahP) (c:Int):Bool:=
 if s= [61]then c==0 else if s= [60,62]then c !=0 else if s= [60]then decide (c<0)else if s= [60,61]then decide (c<=0)else if s= [62]then decide (0<c)else decide (0<=c)
theorem xV4 (s:ahP) (x:Int):Pure prog 309 [.str s,.int .i64 x] (.bool (FN s x)):=by
 generalize hM:FN s x=M
 have ret: ∀(r:Bool) (I:St),r=M->cw (some (.bool r)) 0 (λr s=>r= .bool M/\s= []) I:=λr I h=>by subst h;exact wR
 unfold FN at hM
 refine iW 0 func309 ntmps309 results309 λc hc hb=>zM ?_
 simp[go_sem]
 repeat' (first|(refine zU (λq=> ?_) (λq=> ?_)<;>simp[go_sem,q]))
 all_goals exact ret _ _ (by rw[<-hM];simp only[ahm,beq_eq_false_iff_ne,ne_eq]at*;simp_all)
def DT (v:bK):Bool:=v.kind==1&&(v.n==1&&v.s.isEmpty)
theorem Tt (v:bK):Pure prog 156 [.agg v.row] (.bool (DT v)):=by
 have h:=Fj true
 refine iW 0 func156 ntmps156 results156 λc hc hb=>zM ?_
 simp[go_sem]
 refine yL [(1,0)] 1 rfl kR kR ?_
 simp[go_sem]
 refine pD h ?_
 simp[go_sem,uk]
 exact wR
def rK (v8:Int):List bK->Bool->bK
 | [],b=>if b=true then zeroV else uk (v8==0)
 |v::l,b=>if v.kind=0 then rK v8 l true else if v.n=v8 then v else rK v8 l b
theorem Tu (l:List bK) (aa:Int) (hl:l.length<=maxLen):Pure prog 306 [.sl .ro (l.map bK.row),.int .i64 aa] (.agg (rK aa l false).row):=by
 generalize hM:rK aa l false=M
 have ret: ∀(v:bK) (I:St),v=M->cw (some (.agg v.row)) 0 (λr s=>r= .agg M.row/\s= []) I:=λv I h=>by subst h;exact wR
 refine iV 0 func306 ntmps306 results306 λc hc hb=> ?_
 refine zA ?_
 simp[go_sem]
 refine zI (S:=Nat×Bool) [1,4,5,8,9,10] (λu=> [.int .i64 aa,.ptr 0 0,.bool u.2,.sl .ro (l.map bK.row),.int .i64 l.length,.int .i64 u.1]) (λ_=> [.box [.int .i64 0,.int .i64 0,.str []]]) (λu=>l.length - u.1)
  (λu=>u.1<=l.length/\rK aa (l.drop u.1) u.2=M) hc hb (0,false) ⟨A4 _,hM⟩ ?_ ?_
 .exact aN 1 (by simp[bT,cQ,cL])
 rintro⟨i,b⟩ ⟨hi,hinv⟩
 simp only at hi hinv
 by_cases q:i<l.length
 rotate_left
 .have e:l.drop i= []:=A9 om
  rw[e,rK]at hinv
  refine zA ?_
  simp[go_sem,q]
  by_cases w1:b=true
  .rw[ahg w1]at hinv
   simp[go_sem,w1]
   exact ret zeroV _ hinv
  .rw[ahf w1]at hinv
   have ab:b=false:=sU w1
   simp[go_sem,ab]
   refine pC (Fj (aa==0)) ?_
   simp[go_sem]
   exact ret _ _ hinv
 have ei:=zQ q (by unfold maxLen at hl;omega)
 obtain⟨r,hr⟩:=eX (l[i])
 rw[A5 q,rK,hr]at hinv
 refine zA ?_
 simp[go_sem,q,hr]
 refine pC (JD r) ?_
 simp[go_sem]
 by_cases w1:r.kind=0
 .rw[ahg w1]at hinv
  have ab:(r.kind==0)=true:=sU w1
  simp[go_sem,ab,ei]
  exact zH (i+1,true) ⟨by simp only;omega,⟨q,hinv⟩,aN 1 (by simp[bT,cQ,cL])⟩
 rw[ahf w1]at hinv
 have ab:(r.kind==0)=false:=sU w1
 by_cases w2:r.n=aa
 .rw[ahg w2]at hinv
  have ad:(r.n==aa)=true:=sU w2
  simp[go_sem,ab,ad]
  exact ret r _ hinv
 rw[ahf w2]at hinv
 have ad:(r.n==aa)=false:=sU w2
 simp[go_sem,ab,ad,ei]
 exact zH (i+1,b) ⟨by simp only;omega,⟨q,hinv⟩,aN 1 (by simp[bT,cQ,cL])⟩
def mh:List ahP:= [[61],[60,62],[60],[60,61],[62],[62,61]]
def tj (s:ahP) (l:List bK):bK×Int:=
 let x:=l.getD 0 zeroV
 let y:=l.getD 1 zeroV
 if s= [73,83,78,85,76,76]then(uk (x.kind==0),0)
 else if s= [78,79,84,78,85,76,76]then(uk (!(x.kind==0)),0)
 else if s= [65,78,68]then(rK 0 l false,0)
 else if s= [79,82]then(rK 1 l false,0)
 else if(l.any λv=>v.kind==0)=true then(zeroV,0)
 else if s= [78,79,84]then(uk (!DT x),0)
 else if s= [78,69,71]then v7 (fc (-x.n))
 else if mh.contains s=true then(uk (FN s (jm x y)),0)
 else v7 (zq s x.n y.n)
theorem wa {x:bK×Int} {M:bK×Int} (h:x=M):cw (some (.cy [.agg x.1.row,.int .i64 x.2])) 0 (λv s=>v=fe M/\s= []) I:=by
 subst h
 exact wR
theorem wh6 (s:ahP) (l:List bK) (h1:1<=l.length) (h2:l.length<=2) (hn: ∀v∈l,gm v.n) (hs:l.length=1->s= [73,83,78,85,76,76]\/s= [78,79,84,78,85,76,76]\/s= [78,79,84]\/s= [78,69,71]):
  Pure prog 258 [.str s,.sl .ro (l.map bK.row)] (fe (tj s l)):=by
 obtain⟨x,hx⟩:=eX (l[0]'h1)
 have ah:l.getD 0 zeroV=x:=by rw[Ae,A0 h1,hx];rfl
 have ao:l[0]? =some x:=by rw[A0 h1,hx]
 have aa:0<l.length:=h1
 have ad:gm x.n:=hn x (hx▸A8 h1)
 generalize hM:tj s l=M
 have ret: ∀(v:bK) (e:Int) (I:St),(v,e)=M->cw (some (.cy [.agg v.row,.int .i64 e])) 0 (λr s=>r=fe M/\s= []) I:=λv e I h=>wa h
 unfold tj at hM
 simp only[ah]at hM
 refine iV 0 func258 ntmps258 results258 λc hc hb=> ?_
 by_cases a1:s= [73,83,78,85,76,76]
 .rw[ahg a1]at hM
  refine zA ?_
  simp[go_sem,a1,aa,hx]
  refine pC (JD x) ?_
  simp[go_sem]
  refine pC (Fj (x.kind==0)) ?_
  simp[go_sem]
  exact ret _ _ _ hM
 by_cases a2:s= [78,79,84,78,85,76,76]
 .rw[ahf a1,ahg a2]at hM
  refine zA ?_
  simp[go_sem,a2,aa,hx]
  refine pC (JD x) ?_
  simp[go_sem]
  refine pC (Fj (!(x.kind==0))) ?_
  simp[go_sem]
  exact ret _ _ _ hM
 by_cases a3:s= [65,78,68]
 .rw[ahf a1,ahf a2,ahg a3]at hM
  refine zA ?_
  simp[go_sem,a3]
  refine pC (Tu l 0 (by unfold maxLen;omega)) ?_
  simp[go_sem]
  exact ret _ _ _ hM
 by_cases a4:s= [79,82]
 .rw[ahf a1,ahf a2,ahf a3,ahg a4]at hM
  refine zA ?_
  simp[go_sem,a4]
  refine pC (Tu l 1 (by unfold maxLen;omega)) ?_
  simp[go_sem]
  exact ret _ _ _ hM
 rw[ahf a1,ahf a2,ahf a3,ahf a4]at hM
 have b1:(s== [73,83,78,85,76,76])=false:=sU a1
 have b2:(s== [78,79,84,78,85,76,76])=false:=sU a2
 have b3:(s== [65,78,68])=false:=sU a3
 have b4:(s== [79,82])=false:=sU a4
 refine zA ?_
 simp[go_sem,b1,b2,b3,b4]
 refine zI (S:=Nat) [0,1,4,5,32,33,34] (λi=> [.str s,.sl .ro (l.map bK.row),.ptr 0 0,.int .i64 0,.sl .ro (l.map bK.row),.int .i64 l.length,.int .i64 i]) (λ_=> [.box [.int .i64 0,.int .i64 0,.str []]]) (λi=>l.length - i)
  (λi=>i<=l.length/\((l.drop i).any λv=>v.kind==0)=(l.any λv=>v.kind==0)) hc hb 0 ⟨A4 _,rfl⟩ ?_ ?_
 .exact aN 1 (by simp[bT,cQ,cL])
 rintro i ⟨hi,hinv⟩
 by_cases q:i<l.length
 .have ei:=zQ q om
  obtain⟨r,hr⟩:=eX (l[i])
  rw[A5 q,List.any_cons,hr]at hinv
  refine zA ?_
  simp[go_sem,q,hr]
  refine pC (JD r) ?_
  simp[go_sem]
  by_cases w1:r.kind=0
  .have ab:(r.kind==0)=true:=sU w1
   rw[ab,Di]at hinv
   rw[ahg hinv.symm]at hM
   simp[go_sem,ab]
   exact ret zeroV 0 _ hM
  .have ab:(r.kind==0)=false:=sU w1
   rw[ab,C6]at hinv
   simp[go_sem,ab,ei]
   exact zH (i+1) ⟨om,⟨q,hinv⟩,aN 1 (by simp[bT,cQ,cL])⟩
 have e:l.drop i= []:=A9 om
 rw[e,List.any_nil]at hinv
 rw[ahf (by rw[<-hinv];exact Bool.false_ne_true)]at hM
 by_cases a5:s= [78,79,84]
 .rw[ahg a5]at hM
  refine zA ?_
  simp[go_sem,q,a5,aa,hx]
  refine pC (Tt x) ?_
  simp[go_sem]
  refine pC (Fj (!DT x)) ?_
  simp[go_sem]
  exact ret _ _ _ hM
 by_cases a6:s= [78,69,71]
 .rw[ahf a5,ahg a6]at hM
  refine zA ?_
  simp[go_sem,q,a6,aa,hx]
  refine pC (NV 0 x.n dC ad) ?_
  simp[go_sem,wF]
  refine pC (Ts (fc (-x.n))) ?_
  simp[go_sem,fe]
  exact wa hM
 rw[ahf a5,ahf a6]at hM
 have h3:1<l.length:=by
  by_cases q:1<l.length
  .exact q
  .rcases hs om with h|h|h|h
   .exact absurd h a1
   .exact absurd h a2
   .exact absurd h a5
   .exact absurd h a6
 obtain⟨y,hy⟩:=eX (l[1]'h3)
 have ai:l.getD 1 zeroV=y:=by rw[Ae,A0 h3,hy];rfl
 have aj:gm y.n:=hn y (hy▸A8 h3)
 rw[ai]at hM
 have b5:(s== [78,79,84])=false:=sU a5
 have b6:(s== [78,69,71])=false:=sU a6
 have ak:=Tq x y
 have ae:=xV4 s (jm x y)
 have af:=Fj (FN s (jm x y))
 have al:=xL4 s x.n y.n ad aj
 have an:=Ts (zq s x.n y.n)
 by_cases a7:mh.contains s=true
 .rw[ahg a7]at hM
  have a8:s= [61]\/s= [60,62]\/s= [60]\/s= [60,61]\/s= [62]\/s= [62,61]:=by
   simpa[mh]using a7
  rcases a8 with a8|a8|a8|a8|a8|a8
  all_goals
   rw[a8]at ae af hM
   refine zA ?_
   simp[go_sem,q,a8]
   refine yL [(7,0),(8,0),(9,0)] 1 rfl kR kR ?_
   simp[go_sem,aa,hx,h3,hy]
   refine zJ om ?_
   simp[go_sem]
   refine pD ak ?_
   simp[go_sem]
   refine pD ae ?_
   simp[go_sem]
   refine pD af ?_
   simp[go_sem]
   exact ret _ _ _ hM
 rw[ahf a7]at hM
 have a8: ¬s= [61]/\ ¬s= [60,62]/\ ¬s= [60]/\ ¬s= [60,61]/\ ¬s= [62]/\ ¬s= [62,61]:=by
  simpa[mh]using a7
 have c1:(s== [61])=false:=sU a8.1
 have c2:(s== [60,62])=false:=sU a8.2.1
 have c3:(s== [60])=false:=sU a8.2.2.1
 have c4:(s== [60,61])=false:=sU a8.2.2.2.1
 have c5:(s== [62])=false:=sU a8.2.2.2.2.1
 have c6:(s== [62,61])=false:=sU a8.2.2.2.2.2
 refine zA ?_
 simp[go_sem,q,b5,b6,c1,c2,c3,c4,c5,c6]
 refine yL [(9,0),(12,0)] 1 rfl kR kR ?_
 simp[go_sem,aa,hx,h3,hy]
 refine zJ om ?_
 simp[go_sem]
 refine pD al ?_
 simp[go_sem,wF]
 refine pD an ?_
 simp[go_sem,fe]
 exact wa hM
mutual
def nv (T:bL) (row:List bK):bJ->bK×Int
 | .mk k s v args=>
  if k=1 then(v,0)else if k=2 then(row.getD (cR T s).toNat zeroV,0)
  else if(gb T row args).2≠0 then(zeroV,(gb T row args).2)else tj s (gb T row args).1
def gb (T:bL) (row:List bK):List bJ->List bK×Int
 | []=>([],0)
 |e::l=>if(nv T row e).2≠0 then([],(nv T row e).2)else((nv T row e).1::(gb T row l).1,(gb T row l).2)
end
theorem Tw (T:bL) (row:List bK) (e:bJ):nv T row e=
  if e.kind=1 then(e.v,0)else if e.kind=2 then(row.getD (cR T e.s).toNat zeroV,0)
  else if(gb T row e.args).2≠0 then(zeroV,(gb T row e.args).2)else tj e.s (gb T row e.args).1:=by cases e;rfl
structure VK (v:bK) (k:Int):Prop where
 may:ep v=true
 n:gm v.n
 kind:v.kind=k\/v.kind=0
theorem FO (k:Int):VK zeroV k:=⟨dC,dC,.inr rfl⟩
theorem Ku (b:Bool):VK (uk b) 1:=by cases b<;>exact⟨dC,dC,.inl rfl⟩
theorem NW (n:Int):gm (fc n).1:=by
 grind[fc]
theorem xb2 {s:ahP} {a b:Int} (ha:gm a) (hb:gm b):gm (zq s a b).1:=by
 unfold zq
 repeat' split
 all_goals first|exact NW _|exact wa8 ha hb|decide
theorem Ty {r:Int×Int} (h:gm r.1):VK (v7 r).1 2:=by
 unfold v7
 split
 .exact⟨rfl,h,.inl rfl⟩
 grind[FO]
theorem Kv (w:Int): ∀(l:List bK) (b:Bool),(∀v∈l,VK v 1)->VK (rK w l b) 1
 | [],b,_=>by
  grind[rK,FO,Ku]
 |v::l,b,h=>by
  rw[rK]
  split
  .exact Kv w l true λx hx=>h x (B5 _ hx)
  .split
   .exact h v (Av ..)
   .exact Kv w l b λx hx=>h x (B5 _ hx)
theorem FP {m s:Bool} {k k':Int} (h:vO m s k=(k',0)):m=true/\s=true/\k'=k:=by
 unfold vO at h
 grind
inductive OpK (s:ahP) (ks:ahS) (k:Int):Prop
 |null (hs:s= [73,83,78,85,76,76]\/s= [78,79,84,78,85,76,76]) (hl:ks.length=1) (hk:k=1)
 |not (hs:s= [78,79,84]) (hl:ks.length=1) (ha:ij ks 1) (hk:k=1)
 |neg (hs:s= [78,69,71]) (hl:ks.length=1) (ha:ij ks 2) (hk:k=2)
 |both (hs:s= [79,82]\/s= [65,78,68]) (hl:ks.length=2) (ha:ij ks 1) (hk:k=1)
 |sum (hs:s= [43]\/s= [45]\/s= [42]\/s= [47]\/s= [37]) (hl:ks.length=2) (ha:ij ks 2) (hk:k=2)
 |cmp (hs:s= [61]\/s= [60,62]\/s= [60]\/s= [60,61]\/s= [62]\/s= [62,61]) (hl:ks.length=2) (hk:k=1)
theorem xK3 {s:ahP} {ks:ahS} {k:Int} (h:oy s ks=(k,0)):OpK s ks k:=by
 have one:((ks.length:Int)==1)=true->ks.length=1:=(by grind)
 have two:((ks.length:Int)==2)=true->ks.length=2:=(by grind)
 unfold oy at h
 split at h
 .obtain⟨h1,_,h3⟩:=FP h;exact .null om (one h1) h3
 split at h
 .obtain⟨h1,h2,h3⟩:=FP h;exact .not om (one h1) h2 h3
 split at h
 .obtain⟨h1,h2,h3⟩:=FP h;exact .neg om (one h1) h2 h3
 split at h
 .obtain⟨h1,h2,h3⟩:=FP h;exact .both om (two h1) h2 h3
 split at h
 .obtain⟨h1,h2,h3⟩:=FP h;exact .sum om (two h1) h2 h3
 split at h
 .obtain⟨h1,_,h3⟩:=FP h;exact .cmp om (two h1) h3
 grind
theorem Tz {R:bK->Int->Prop}: ∀{l:List bK} {ks:ahS},bP R l ks->l.length=ks.length
 | [],[],_=>rfl
 |_::_,_::_,⟨_,h⟩=>by rw[Ak,Ak,Tz h]
theorem NX {k:Int}: ∀{l:List bK} {ks:ahS},bP VK l ks->ij ks k=true-> ∀v∈l,VK v k
 | [],[],_,_,v,hv=>by cases hv
 |x::l,y::ks,⟨h1,h2⟩,ha,v,hv=>by
  unfold ij at ha
  rw[Bv,Ab,C9,ahm,ahm]at ha
  rcases Af.1 hv with rfl|hv
  .exact⟨h1.may,h1.n,by
    rcases h1.kind with q|q
    all_goals omega⟩
  .exact NX h2 ha.2 v hv
theorem TA {R:bK->Int->Prop} (hR: ∀v k,R v k->gm v.n): ∀{l:List bK} {ks:ahS},bP R l ks-> ∀v∈l,gm v.n
 | [],[],_,v,hv=>by cases hv
 |x::l,y::ks,⟨h1,h2⟩,v,hv=>by
  rcases Af.1 hv with rfl|hv
  .grind
  .exact TA hR h2 v hv
theorem xr0 (l:List bK):tj [78,79,84] l=if(l.any λv=>v.kind==0)=true then(zeroV,0)else(uk (!DT (l.getD 0 zeroV)),0):=rfl
theorem xq9 (l:List bK):tj [78,69,71] l=if(l.any λv=>v.kind==0)=true then(zeroV,0)else v7 (fc (-(l.getD 0 zeroV).n)):=rfl
theorem xq8 {s:ahP} (hs:s= [61]\/s= [60,62]\/s= [60]\/s= [60,61]\/s= [62]\/s= [62,61]) (l:List bK):
  tj s l=if(l.any λv=>v.kind==0)=true then(zeroV,0)else(uk (FN s (jm (l.getD 0 zeroV) (l.getD 1 zeroV))),0):=by
 rcases hs with rfl|rfl|rfl|rfl|rfl|rfl<;>rfl
theorem xr1 {s:ahP} (hs:s= [43]\/s= [45]\/s= [42]\/s= [47]\/s= [37]) (l:List bK):
  tj s l=if(l.any λv=>v.kind==0)=true then(zeroV,0)else v7 (zq s (l.getD 0 zeroV).n (l.getD 1 zeroV).n):=by
 rcases hs with rfl|rfl|rfl|rfl|rfl<;>rfl
theorem TB {s:ahP} {l:List bK} {ks:ahS} {k:Int} (ho:oy s ks=(k,0)) (ha:bP VK l ks):
  VK (tj s l).1 k/\1<=l.length/\l.length<=2/\(∀v∈l,gm v.n)/\(l.length=1->s= [73,83,78,85,76,76]\/s= [78,79,84,78,85,76,76]\/s= [78,79,84]\/s= [78,69,71]):=by
 have hlen:=Tz ha
 have hn:=TA (λ_ _ h=>VK.n h) ha
 have hx: ∀j,gm (l.getD j zeroV).n:=λj=>by
  rw[Ae]
  cases hj:l[j]? with
  |none=>decide
  |some v=>grind
 have ab: ∀n:Int,gm (fc n).1:=NW
 cases xK3 ho with
 |null hs hl hk=>
  subst hk
  refine⟨?_,om,om,hn,(by grind)⟩
  rcases hs with rfl|rfl<;>exact Ku _
 |not hs hl aa hk=>
  grind[xr0,FO,Ku]
 |neg hs hl aa hk=>
  grind[xq9,FO,Ty]
 |both hs hl aa hk=>
  subst hk
  refine⟨?_,om,om,hn,om⟩
  rcases hs with rfl|rfl
  .exact Kv 1 l false (NX ha aa)
  .exact Kv 0 l false (NX ha aa)
 |sum hs hl aa hk=>
  grind[xr1,FO,Ty,xb2]
 |cmp hs hl hk=>
  grind[xq8,FO,Ku]
structure nw (T:bL) (row:List bK):Prop where
 len:row.length=T.ca.length
 cell: ∀(j:Nat) (C:fg) (v:bK),T.ca[j]? =some C->row[j]? =some v->VK v C.kind
theorem Kw {T:bL} {row:List bK} (hr:nw T row): ∀(n:Nat) (e:bJ),wZ e<=n->Good e->(lf T e).2=0->(nv T row e).2=0->VK (nv T row e).1 (lf T e).1
 |0,e,h,_,_,_=>by grind[J4]
 |n+1,e,h,hg,hk,he=>by
  have ih:=Kw hr n
  have ad:=uo e
  rw[Tw]at he⊢
  rw[NJ]at hk⊢
  by_cases q1:e.kind=1
  .rw[ahg q1]at hk⊢
   rw[ahg q1]
   by_cases w:e.s.isEmpty=false\/e.args.isEmpty=false\/ep e.v=false
   .grind
   .rw[ahf w]
    refine⟨by grind,⟨hg.v.n.1,hg.v.n.2⟩,.inl rfl⟩
  rw[ahf q1]at hk he⊢
  rw[ahf q1]
  by_cases q2:e.kind=2
  .rw[ahg q2]at hk⊢
   rw[ahg q2]
   by_cases w:cR T e.s<0
   .grind
   rw[ahf w]at hk⊢
   by_cases w2:e.args.isEmpty=false\/nk e.v=false
   .grind
   rw[ahf w2]
   obtain⟨j,hj,aa⟩:=Ki T e.s w
   have ab:j<row.length:=by rw[hr.len];omega
   simp only
   rw[hj,Az,Ae,A0 ab]
   unfold kG
   rw[Az,A0 aa]
   exact hr.cell j _ _ sm sm
  rw[ahf q2]at hk he⊢
  rw[ahf q2]
  by_cases q3:e.kind=3
  rotate_left
  .grind
  rw[ahg q3]at hk⊢
  have ae:=hg.sub
  have list: ∀args:List bJ,(∀x∈args,x∈e.args)->(wP T args).2=0->(gb T row args).2=0->bP VK (gb T row args).1 (wP T args).1:=by
   intro args
   induction args with
   |nil=>intro _ _ _;trivial
   |cons x l af=>
    intro hm hk he
    rw[wP]at hk⊢
    rw[gb]at he⊢
    by_cases w1:(lf T x).2=0
    rotate_left
    .grind
    by_cases w2:(nv T row x).2=0
    rotate_left
    .grind
    have n1: ¬(lf T x).2≠0:=om
    have n2: ¬(nv T row x).2≠0:=om
    rw[ahf n1]at hk⊢
    rw[ahf n2]at he⊢
    have hx:=hm x (Av ..)
    have ah:=CR e.args x hx
    exact⟨(by grind),(by grind)⟩
  by_cases w1:(wP T e.args).2=0
  rotate_left
  .grind
  by_cases w2:(gb T row e.args).2=0
  rotate_left
  .grind
  have n1: ¬(wP T e.args).2≠0:=om
  have n2: ¬(gb T row e.args).2≠0:=om
  rw[ahf n1]at hk⊢
  rw[ahf n2]at he⊢
  by_cases w3:nk e.v=false
  .grind
  rw[ahf w3]at hk⊢
  exact(TB (Prod.ext rfl hk) (by grind)).1
theorem TC {T:bL}: ∀{args:List bJ},(wP T args).2=0-> ∀x∈args,(lf T x).2=0
 | [],_,x,hx=>by cases hx
 |y::l,h,x,hx=>by
  rw[wP]at h
  by_cases w:(lf T y).2=0
  .have n1: ¬(lf T y).2≠0:=λh=>h w
   rw[ahf n1]at h
   rcases Af.1 hx with rfl|hx
   .exact w
   .exact TC h x hx
  .rw[ahg w]at h;exact absurd h w
theorem TD {T:bL} {row:List bK} (hr:nw T row) (n:Nat): ∀{args:List bJ},(∀x∈args,wZ x<=n/\Good x)->(wP T args).2=0->(gb T row args).2=0->bP VK (gb T row args).1 (wP T args).1
 | [],_,_,_=>trivial
 |x::l,hm,hk,he=>by
  rw[wP]at hk⊢
  rw[gb]at he⊢
  by_cases w1:(lf T x).2=0
  rotate_left
  .rw[ahg w1]at hk;exact absurd hk w1
  by_cases w2:(nv T row x).2=0
  rotate_left
  .rw[ahg w2]at he;exact absurd he w2
  have n1: ¬(lf T x).2≠0:=λh=>h w1
  have n2: ¬(nv T row x).2≠0:=λh=>h w2
  rw[ahf n1]at hk⊢
  rw[ahf n2]at he⊢
  have hx:=hm x (Av ..)
  exact⟨Kw hr n x hx.1 hx.2 w1 w2,TD hr n (λy hy=>hm y (B5 _ hy)) hk he⟩
theorem NY {T:bL} {row:List bK} (hr:nw T row) (hT:T.ca.length<=maxLen): ∀(n:Nat) (e:bJ),wZ e<=n->fp e->Good e->(lf T e).2=0->Pure prog 213 [.agg T.row,.sl .ro (row.map bK.row),.agg e.row] (fe (nv T row e))
 |0,e,h,_,_,_=>by have:=J4 e;omega
 |n+1,e,h,hw,hg,hk=>by
  have ih:=NY hr hT n
  have cN:= @TD _ _ hr n
  have aw:=uo e
  have hlen:=hw.len
  have aj:=hw.sub
  have al:=hg.sub
  have af:=FE T e.s hT
  rw[show iy (λc:fg=>c.name==e.s) T.ca 0=cR T e.s from rfl]at af
  obtain⟨M,hM⟩:=eX (nv T row e)
  rw[hM]
  rw[Tw]at hM
  rw[NJ]at hk
  have ret: ∀(v:bK) (e:Int) (I:St),(v,e)=M->cw (some (.cy [.agg v.row,.int .i64 e])) 0 (λr s=>r=fe M/\s= []) I:=λv e I h=>wa h
  refine iV 0 func213 ntmps213 results213 λc hc hb=> ?_
  refine zA ?_
  simp[go_sem]
  by_cases q1:e.kind=1
  .have ah:(e.kind==1)=true:=sU q1
   rw[ahg q1]at hM
   simp[go_sem,ah]
   exact ret _ _ _ hM
  rw[ahf q1]at hM hk
  have ah:(e.kind==1)=false:=sU q1
  by_cases q2:e.kind=2
  .have an:(e.kind==2)=true:=sU q2
   rw[ahg q2]at hM hk
   by_cases w:cR T e.s<0
   .rw[ahg w]at hk;cases hk
   obtain⟨j,hj,ax⟩:=Ki T e.s w
   have aq:j<row.length:=by rw[hr.len];exact ax
   obtain⟨v,hv⟩:=eX (row[j])
   rw[hj,Az,Ae,A0 aq,hv]at hM
   rw[hj]at af
   simp[go_sem,ah,an]
   refine zL af cB (zO sg rfl) rfl ?_
   simp[go_sem,aq,hv]
   exact ret _ _ _ hM
  rw[ahf q2]at hM hk
  have an:(e.kind==2)=false:=sU q2
  by_cases q3:e.kind=3
  rotate_left
  .rw[ahf q3]at hk;cases hk
  rw[ahg q3]at hk
  obtain⟨args,ab⟩:=eX e.args
  rw[ab]at aw hlen aj al hM hk
  by_cases w1:(wP T args).2=0
  rotate_left
  .rw[ahg w1]at hk;exact absurd hk w1
  have n1: ¬(wP T args).2≠0:=λh=>h w1
  rw[ahf n1]at hk
  by_cases w3:nk e.v=false
  .rw[ahg w3]at hk;cases hk
  rw[ahf w3]at hk
  have ay:oy e.s (wP T args).1=((oy e.s (wP T args).1).1,0):=Prod.ext rfl hk
  have ar:=TC w1
  have ak:(gb T row args).2=0->bP VK (gb T row args).1 (wP T args).1:=λh=>
   cN (λx hx=>⟨by have:=CR args x hx;omega,al x hx⟩) w1 h
  obtain⟨K,hK⟩:=eX (gb T row args)
  rw[hK]at hM ak
  simp[go_sem,ah,an,ab]
  refine lE 8 3 dC sg ?_
  refine zI (S:=Nat×List bK) [1,3,5,6,8,29,30,31] (λu=> [.sl .ro (row.map bK.row),.ptr 0 0,.ptr 1 0,.ptr 2 0,.sl (.app 3) (u.2.map bK.row),.sl .ro (args.map bJ.row),.int .i64 args.length,.int .i64 (u.1:Int)])
   (λu=> [.box T.row,.box e.row,.box [.int .i64 0,.int .i64 0,.str []],.app u.2.length 3]) (λu=>args.length - u.1)
   (λu=>u.1<=args.length/\u.2.length=u.1/\(gb T row (args.drop u.1)).2=K.2/\(K.2=0->u.2++(gb T row (args.drop u.1)).1=K.1)) hc hb (0,[])
   ⟨A4 _,rfl,by simp only[Bj];rw[hK],λ_=>by simp only[Bj];rw[hK];rfl⟩ ?_ ?_
  .exact cd 4 (by simp[go_sem,ab]) rfl (by simp[bT,cQ,cL,bJ.bS,bL.row]) (A4 _) (zD sg rfl)
  rintro⟨i,l⟩ ⟨hi,hl,hinv,aa⟩
  simp only at hi hl hinv aa
  by_cases q:i<args.length
  rotate_left
  .rw[A9 om,gb]at hinv aa
   have ae:K.2=0:=hinv.symm
   have au:l=K.1:=by have:=aa ae;simpa using this
   have n2: ¬K.2≠0:=λh=>h ae
   rw[ahf n2,<-au]at hM
   have hA:=ak ae
   rw[<-au]at hA
   obtain⟨_,d1,d2,d3,d4⟩:=TB ay hA
   have av:=wh6 e.s l d1 d2 d3 d4
   generalize tj e.s l=o at av hM
   refine zA ?_
   simp[go_sem,q]
   refine pC av ?_
   simp[go_sem,fe]
   exact wa hM
  have ei:=zQ q om
  obtain⟨x,hx⟩:=eX (args[i])
  have ai:x∈args:=hx▸A8 q
  have az:=CR args x ai
  rw[A5 q,hx,gb]at hinv aa
  have ad:=ih x om (aj x ai) (al x ai) (ar x ai)
  generalize nv T row x=kx at ad hinv aa
  by_cases q4:kx.2=0
  .have n3: ¬kx.2≠0:=λh=>h q4
   rw[ahf n3]at hinv aa
   have ao:(kx.2 !=0)=false:=sU q4
   refine zA ?_
   simp[go_sem,q,hx]
   refine zL ad cB (zO sg (by rw[bJ.bS];rfl)) rfl ?_
   simp[go_sem,fe,ao]
   refine zJ ⟨om,by unfold eI;simp⟩ ?_
   simp[go_sem,ei]
   refine zH (i+1,l++ [kx.1]) ⟨by simp only;omega,⟨by simp only;omega,by simp;omega,hinv,λh=>by have:=aa h;simpa using this⟩, ?_⟩
   exact aN 4 (by simp[bT,cQ,cL,bJ.bS])
  .rw[ahg q4]at hinv
   have ao:(kx.2 !=0)=true:=sU q4
   have ae:kx.2=K.2:=hinv
   rw[ahg (by rw[<-ae];exact q4),<-ae]at hM
   refine zA ?_
   simp[go_sem,q,hx]
   refine zL ad cB (zO sg (by rw[bJ.bS];rfl)) rfl ?_
   simp[go_sem,fe,ao]
   exact ret zeroV _ _ hM
def dS:bL:=⟨[],[],0,0,0,⟨[],[],[],0,0,0⟩⟩
theorem TE:nw dS []:=⟨rfl,λj C v h=>by simp[dS]at h⟩
theorem xI8:dS.ca= []:=rfl
def jE (e:bJ):bK×Int:=if(iD dS e).2≠0 then(zeroV,(iD dS e).2)else nv dS [] e
theorem TF {e:bJ} (he:ja e) (h:(jE e).2=0):VK (jE e).1 (iD dS e).1:=by
 unfold jE at h⊢
 by_cases q:(iD dS e).2=0
 rotate_left
 .rw[ahg q]at h;exact absurd h q
 have n1: ¬(iD dS e).2≠0:=λh=>h q
 rw[ahf n1]at h⊢
 have hs:=he.size
 unfold iD at q⊢
 by_cases d:wZ e<=64
 .rw[ahg d]at q⊢
  exact Kw TE 64 e d he.dU q h
 .rw[ahf d]at q;cases q
theorem NZ (e:bJ) (he:ja e):Pure prog 152 [.agg dS.row,.sl .ro [],.agg e.row] (fe (jE e)):=by
 have ab:=Kj dS (by simp[dS,maxLen]) e he
 have ad:=λ(d:wZ e<=64) (k:(lf dS e).2=0)=>NY TE (by simp[dS,maxLen]) 64 e d he.wide he.dU k
 generalize hM:jE e=M
 unfold jE at hM
 have ret: ∀(v:bK) (e:Int) (I:St),(v,e)=M->cw (some (.cy [.agg v.row,.int .i64 e])) 0 (λr s=>r=fe M/\s= []) I:=λv e I h=>wa h
 refine iV 0 func152 ntmps152 results152 λc hc hb=> ?_
 refine zA ?_
 simp[go_sem]
 refine zL ab cB (zO sg (by rw[bJ.bS];rfl)) rfl ?_
 simp[go_sem,wF]
 by_cases q:(iD dS e).2=0
 rotate_left
 .have q':((iD dS e).2 !=0)=true:=sU q
  rw[ahg q]at hM
  simp[go_sem,q']
  exact ret zeroV _ _ hM
 have q':((iD dS e).2 !=0)=false:=sU q
 have n1: ¬(iD dS e).2≠0:=λh=>h q
 rw[ahf n1]at hM
 have aa:Pure prog 213 [.agg dS.row,.sl .ro [],.agg e.row] (fe (nv dS [] e)):=by
  unfold iD at q
  by_cases d:wZ e<=64
  .rw[ahg d]at q;exact ad d q
  .rw[ahf d]at q;cases q
 rw[hM]at aa
 simp[go_sem,q',xI8]
 refine zI (S:=Unit) [1,3,5,6,29,30,31] (λ_=> [.sl .ro [],.ptr 0 0,.ptr 1 0,.ptr 2 0,.sl .ro [],.int .i64 0,.int .i64 0])
   (λ_=> [.box dS.row,.box e.row,.box [.int .i64 0,.int .i64 0,.str []]]) (λ_=>0) (λ_=>True) hc hb () trivial ?_ ?_
 .exact cd 3 (by simp[go_sem,dS]) rfl (by simp[bT,cQ,cL,bJ.bS,bL.row]) (A4 _) (zD sg rfl)
 rintro u _
 refine zA ?_
 simp[go_sem]
 refine zL aa cB (zO sg (by rw[bJ.bS];rfl)) rfl ?_
 simp[go_sem,fe]
 exact wa rfl
end Go.Proofs.YtplackkccmeioaaGreat
namespace Go.Proofs.YtplackkccmeioaaGreat.R
open Go Go.Vx Go.Proofs.Tryz
set_option maxRecDepth 100000
variable {ca:List fg}
def zr:List fg->List bK->Int
 |c::cs,v::vs=>if ep v=false then 9 else if v.kind=0/\c.null=false then 16 else if v.kind≠0/\v.kind≠c.kind then 15 else zr cs vs
 |_,_=>0
def eS (ca:List fg) (row:List bK):Int:=if row.length≠ca.length then 9 else zr ca row
theorem TG (t:bL) (row:List bK) (hr:row.length<=maxLen):Pure prog 150 [.agg t.row,.sl .ro (row.map bK.row)] (.int .i64 (eS t.ca row)):=by
 obtain⟨name,ca,key,place,region,lW⟩:=t
 refine iV 0 func150 ntmps150 results150 λc hc hb=> ?_
 refine zA ?_
 have ret: ∀(r:Int) (I:St),r=eS ca row->cw (some (.int .i64 r)) 0 (λr s=>r= .int .i64 (eS ca row)/\s= []) I:=λr I h=>by subst h;exact wR
 simp[go_sem]
 refine zU (λh=> ?_) (λh=> ?_)
 .have h:row.length≠ca.length:=by simp at h;omega
  simp[go_sem]
  exact ret _ _ (by rw[eS,ahg h])
 have h:row.length=ca.length:=by simp at h;omega
 rw[eS,ahf om]at ret⊢
 simp[go_sem]
 refine zI (S:=Nat) [2,13,14,15] (λi=> [.ptr 0 0,.sl .ro (row.map bK.row),.int .i64 row.length,.int .i64 i]) (λ_=> [.box (bL.row ⟨name,ca,key,place,region,lW⟩)]) (λi=>row.length - i) (λi=>i<=row.length/\zr (ca.drop i) (row.drop i)=zr ca row) hc hb 0 ⟨A4 _,rfl⟩ ?_ ?_
 .exact aN 1 rfl
 rintro i ⟨hi,hinv⟩
 refine zA ?_
 simp[go_sem]
 refine zU (λq=> ?_) (λq=> ?_)
 .have q:i<row.length:=sU q
  have q2:i<ca.length:=om
  have ei:=zQ q (by unfold maxLen at hr;omega)
  rw[A5 q,A5 q2]at hinv
  obtain⟨⟨k,n,s⟩,hv⟩: ∃v,row[i]=v:=⟨_,rfl⟩
  obtain⟨⟨cn,ck,cb⟩,ab⟩: ∃v,ca[i]=v:=⟨_,rfl⟩
  rw[hv,ab,zr]at hinv
  simp only at hinv
  simp[go_sem,q,hv]
  refine pC (FA ⟨k,n,s⟩) ?_
  simp[go_sem]
  refine zU (λh1=> ?_) (λh1=> ?_)
  .have h1:ep ⟨k,n,s⟩=false:=sU h1
   rw[ahg h1]at hinv
   simp[go_sem]
   exact ret _ _ hinv
  have h1: ¬ep ⟨k,n,s⟩=false:=sU h1
  rw[ahf h1]at hinv
  simp[go_sem]
  refine xE (λh2=> ?_) (λh2=> ?_)
  .have aa:k=0:=sU h2
   simp[go_sem,h2,q2,ab]
   refine zU (λh3=> ?_) (λh3=> ?_)
   .have h3:cb=false:=sU h3
    rw[ahg ⟨aa,h3⟩]at hinv
    simp[go_sem]
    exact ret _ _ hinv
   have h3: ¬cb=false:=sU h3
   rw[ahf (λw=>h3 w.2),ahf (λw=>w.1 aa)]at hinv
   simp[go_sem]
   refine yL [] 2 rfl kR kR ?_
   simp[go_sem,aa,ei]
   exact zH (i+1) ⟨om,⟨q,hinv⟩,aM 1 rfl (zD (by simp[go_sem]) rfl)⟩
  .have aa: ¬k=0:=sU h2
   rw[ahf (λw=>aa w.1)]at hinv
   simp[go_sem,h2]
   refine yL [] 2 rfl kR kR ?_
   have ad:(k !=0)=true:=sU aa
   simp[go_sem,ad,q2,ab]
   refine zU (λh4=> ?_) (λh4=> ?_)
   .have h4: ¬k=ck:=sU h4
    rw[ahg ⟨aa,h4⟩]at hinv
    simp[go_sem]
    exact ret _ _ hinv
   have h4:k=ck:=sU h4
   rw[ahf (λw=>w.2 h4)]at hinv
   simp[go_sem,ei]
   exact zH (i+1) ⟨om,⟨q,hinv⟩,aM 1 rfl (zD (by simp[go_sem]) rfl)⟩
 .have q:i=row.length:=by
   have: ¬i<row.length:=sU q
   omega
  subst q
  rw[Ck,h,Ck]at hinv
  simp[go_sem]
  exact ret _ _ hinv
def tq (n j:Nat) (t:bL) (row:List bK) (rg:Int->Int×Int):Int×ahP×Int:=
 if eS t.ca row≠0 then(0,[],eS t.ca row)
 else
  let r:=rg (if t.place=0 then min (max (row.headD v0).n (-1)) 4 else 0)
  if r.2≠0 then(0,[],r.2)else(r.1,nP n j (row.getD t.key.toNat v0),0)
def tu (r:Int×ahP×Int):V:= .cy [.int .i64 r.1,.str r.2.1,.int .i64 r.2.2]
theorem HD {r:Int×ahP×Int} {a e:Int} {s:ahP} {I:St} (h:r=(a,s,e)):cw (some (.cy [.int .i64 a,.str s,.int .i64 e])) 0 (λv s=>v=tu r/\s= []) I:=by
 subst h
 exact wR
theorem uL {row:List bK} (h:eS ca row=0):row.length=ca.length:=by
 unfold eS at h
 split at h
 .cases h
 .rename_i h2;omega
theorem xz0 (ae:List (List V)) (ts:List bL) (j:Nat) (hj:j<ts.length) (t:bL) (ht:ts[j]=t) (row:List bK) (hr:row.length<=maxLen) (hL:eS t.ca row=0->iP row) (hn:ts.length<=du) (hk:0<=t.key/\t.key<t.ca.length) (rg:Int->Int×Int)
  (ah: ∀r,-1<=r->r<=4->(t.place≠0->r=0)->Pure prog 114 [.agg [.sl .ro ae,.sl .ro (ts.map bL.row)],.int .i64 j,.int .i64 r] (.cy [.int .i64 (rg r).1,.int .i64 (rg r).2])):
  Pure prog 104 [.agg [.sl .ro ae,.sl .ro (ts.map bL.row)],.int .i64 j,.sl .ro (row.map bK.row)] (tu (tq ts.length j t row rg)):=by
 have af:=TG t row hr
 have hbound: ∀v:bK,v.ok->v.s.length<=500->_:=λv h1 h2=>Sr ae (ts.map bL.row) j v (sU hn) h1 h2
 simp only[Ag]at hbound
 generalize aa:tq ts.length j t row rg=res
 unfold tq at aa
 obtain⟨m,hm⟩:=eX (eS t.ca row)
 have hlen:m=0->row.length=t.ca.length:=λh=>uL (hm.trans h)
 rw[hm]at af hL aa
 obtain⟨name,ca,key,place,region,lW⟩:=t
 simp only at hk hlen aa
 obtain⟨q,rfl⟩: ∃q:Nat,key=q:=⟨key.toNat,om⟩
 refine iV 0 func104 ntmps104 results104 λc hc hb=> ?_
 refine zA ?_
 simp[go_sem]
 refine pC (jg ae (ts.map bL.row) j) ?_
 simp[go_sem,hj,ht]
 refine zL af cB (zO sg rfl) rfl ?_
 simp[go_sem]
 refine zU (λh=> ?_) (λh=> ?_)
 .have h:m≠0:=sU h
  simp[go_sem]
  exact HD (by rw[<-aa,ahg h])
 have h:m=0:=sU h
 have hl:=hlen h
 have hq:q<row.length:=om
 have h0:0<row.length:=om
 have ai:=hL h
 obtain⟨v,hv⟩:=eX (row[q])
 obtain⟨v1,aj⟩: ∃v,row[0]=v:=⟨_,rfl⟩
 have ak:v∈row:=hv▸A8 hq
 have e1:row.headD v0=v1:=by
  rw[<-aj]
  cases row with
  |nil=>simp at h0
  |cons a l=>rfl
 have e2:row.getD q v0=v:=by rw[Ae,A0 hq,hv];rfl
 rw[ahf om,e1,Az,e2]at aa
 have al:=hbound v (ai.ok v ak) (ai.s v ak)
 have fin: ∀(x:Int) (I:St),(if place=0 then min (max v1.n (-1)) 4 else 0)=x->((rg x).2≠0->res=(0,[],(rg x).2))/\((rg x).2=0->res=((rg x).1,nP ts.length j v,0)):=λx I hx=>by
  rw[hx]at aa
  exact⟨λw=>by rw[<-aa];exact ahg w,λw=>by rw[<-aa];exact ahf (λq=>q w)⟩
 simp[go_sem]
 refine zU (λhp=> ?_) (λhp=> ?_)
 .have hp:place=0:=sU hp
  simp[go_sem,h0,aj]
  obtain⟨x,hx⟩:=eX ((if 4<if v1.n< -1 then -1 else v1.n then 4 else if v1.n< -1 then -1 else v1.n))
  have an:x=min (max v1.n (-1)) 4:=by rw[<-hx];split<;>split<;>omega
  rw[hx]
  have ab:=fin x [] (by rw[ahg hp,an])
  have ad:=ah x om om (λw=>absurd hp w)
  revert ab ad
  generalize rg x=o
  obtain⟨oa,oe⟩:=o
  intro ab ad
  simp only at ab ad
  refine pC ad ?_
  simp[go_sem]
  refine zU (λw=> ?_) (λw=> ?_)
  .have w:oe≠0:=sU w
   simp[go_sem]
   exact HD (ab.1 w)
  have w:oe=0:=sU w
  simp[go_sem]
  refine yL [(8,0)] 2 rfl kR kR ?_
  simp[go_sem,hq,hv]
  refine pD al ?_
  simp[go_sem]
  exact HD (ab.2 w)
 .have hp: ¬place=0:=sU hp
  have ab:=fin 0 [] (by rw[ahf hp])
  have ad:=ah 0 om om (λ_=>rfl)
  revert ab ad
  generalize rg 0=o
  obtain⟨oa,oe⟩:=o
  intro ab ad
  simp only at ab ad
  simp[go_sem]
  refine pC ad ?_
  simp[go_sem]
  refine zU (λw=> ?_) (λw=> ?_)
  .have w:oe≠0:=sU w
   simp[go_sem]
   exact HD (ab.1 w)
  have w:oe=0:=sU w
  simp[go_sem]
  refine yL [(8,0)] 2 rfl kR kR ?_
  simp[go_sem,hq,hv]
  refine pD al ?_
  simp[go_sem]
  exact HD (ab.2 w)
theorem TH {n:Nat} (h:n<256):(UInt8.ofNat n).toNat=n:=by
 simp_all
theorem HE: ∀a:ahP,Op.bytesLess a a=false
 | []=>rfl
 |a::l=>by simp[Op.bytesLess,HE l]
theorem FQ: ∀a b c:ahP,Op.bytesLess a b=true->Op.bytesLess b c=true->Op.bytesLess a c=true
 |_,[],_,h,_=>by grind[Op.bytesLess]
 |_,_::_,[],_,h=>by trivial
 | [],_::_,_::_,_,_=>rfl
 |a::l,b::m,d::n,h1,h2=>by
  simp only[Op.bytesLess,C9,ahl,Ab,ahm]at*
  rcases h1 with h1|⟨rfl,h1⟩
  .grind
  .rcases h2 with h2|⟨rfl,h2⟩
   .grind
   .exact .inr ⟨rfl,FQ l m n h1 h2⟩
theorem N0: ∀a b:ahP,Op.bytesLess a b=true\/a=b\/Op.bytesLess b a=true
 | [],[]=>sm
 | [],_::_=> .inl rfl
 |_::_,[]=> .inr (.inr rfl)
 |a::l,b::m=>by
  simp only[Op.bytesLess,C9,ahl,Ab,ahm,List.cons.injEq]
  by_cases h:a<b
  .grind
  .by_cases h2:b<a
   .grind
   .have he:a=b:=(by grind)
    subst he
    rcases N0 l m with q|rfl|q
    all_goals grind
theorem N3: ∀(n i v:Nat) (rest:ahP),n<18446744073709551616->(n*128^i<18446744073709551616)->(0<i->0<n)->gV (fj n++rest) i v=(v+n*128^i,i+(fj n).length,0):=by
 intro n
 induction n using Nat.strongRecOn with
 |_ n ih=>
  intro i v rest hn hb h0
  have h9:i=9->n<=1:=(by grind)
  by_cases h:n<128
  .have e:(UInt8.ofNat n).toNat=n:=TH om
   rw[Hk h]
   show gV (UInt8.ofNat n::rest) i v=_
   rw[gV,e,ahf om,ahg h,ahf om,Cy h]
   rfl
  .have e:(UInt8.ofNat (n%128+128)).toNat=n%128+128:=TH om
   rw[J7 h]
   show gV (UInt8.ofNat (n%128+128)::(fj (n/128)++rest)) i v=_
   rw[gV,e,ahf om,ahf om]
   have hdiv:n/128*128^(i+1)<=n*128^i:=by
    rw[ahO,Dq (128^i) 128,<-Nat.mul_assoc]
    simp[Aj,Nat.div_mul_le_self]
   rw[ih (n/128) om (i+1) _ rest om om om]
   have e2:(n%128+128)%128=n%128:=om
   rw[e2,Ak]
   have e3:n%128*128^i+n/128*128^(i+1)=n*128^i:=by
    rw[ahO,Dq (128^i) 128,<-Nat.mul_assoc,<-B4]
    grind
   grind
theorem wd1 (n:Int):kC (ji n)=n:=by
 unfold kC ji
 grind
theorem N4 {v:bK} (h:ep v):(v.kind=0/\v.n=0/\v.s= [])\/(v.kind=1/\(v.n=0\/v.n=1)/\v.s= [])\/(v.kind=2/\v.s= [])\/(v.kind=3/\v.n=0/\v.s.length<=64):=by
 grind[ep]
theorem yU2 {v:bK} (h:ep v) (ho:v.ok) (rest:ahP):la (kj v++rest)=⟨v,(kj v).length,0⟩:=by
 have hp:=N4 h
 have hi:=ho.n
 obtain⟨k,n,s⟩:=v
 simp only at hp hi
 unfold kj
 rw[ahg h]
 simp only
 rcases hp with ⟨rfl,rfl,rfl⟩|⟨rfl,hn,rfl⟩|⟨rfl,rfl⟩|⟨rfl,rfl,hl⟩
 .rfl
 .rcases hn with rfl|rfl<;>simp[la,oG,uD]
 .grind[N3,ji,la,oG,wd1]
 .have ht:=N3 s.length 0 0 (s++rest) om om (λh=>om)
  have aa:sY (fj s.length++(s++rest))=(s,(fj s.length).length+s.length,0):=by
   unfold sY
   rw[ht]
   have e1:(fj s.length++(s++rest)).take ((fj s.length).length+s.length)=fj s.length++s:=by
    grind
   simp_all[wN,ahf];omega
  grind[la,oG]
theorem TI: ∀(l:List bK),(∀v∈l,ep v=true)->(∀v∈l,v.ok)->ik l.length (l.flatMap kj)=some l
 | [],_,_=>by rfl
 |v::l,h,ho=>by
  have h1:=yU2 (h v sm) (ho v sm) (l.flatMap kj)
  have h2:=TI l (λx hx=>h x (by simp[hx])) (λx hx=>ho x (by simp[hx]))
  rw[Ak,ik,By,h1]
  simp[h2]
theorem N5: ∀(cs:List fg) (vs:List bK),vs.length=cs.length->zr cs vs=0-> ∀i (hi:i<cs.length) (hj:i<vs.length),ep vs[i]=true/\(cs[i].null=false->vs[i].kind=cs[i].kind)
 | [],[],_,_,i,hi,_=>by grind
 |c::cs,v::vs,hl,h,i,hi,hj=>by
  unfold zr at h
  split at h
  .cases h
  .rename_i h1
   split at h
   .cases h
   .rename_i h2
    split at h
    .cases h
    .rename_i h3
     cases i with
     |zero=>
      refine⟨by simpa using h1,λhn=> ?_⟩
      have hn:c.null=false:=hn
      have:v.kind≠0:=λq=>h2 ⟨q,hn⟩
      exact Decidable.not_not.1 λq=>h3 ⟨this,q⟩
     |succ i=>exact N5 cs vs (sU hl) h i (sU hi) (sU hj)
 | [],_::_,hl,_,_,_,_=>by grind
 |_::_,[],hl,_,_,_,_=>by grind
theorem TJ {row:List bK} (h:eS ca row=0):zr ca row=0:=by
 grind[eS]
theorem TK {row:List bK} (h:eS ca row=0): ∀v∈row,ep v=true:=λv hv=>by
 obtain⟨i,hi,rfl⟩:=Cj.1 hv
 exact(N5 ca row (uL h) (TJ h) i (by grind[uL]) hi).1
theorem xM2 {row:List bK} (h:eS ca row=0) (hL:iP row):jB ca.length (xI row)=(row,0):=by
 have hl:=uL h
 have aa:=hL.len
 have ht:=N3 row.length 0 0 (row.flatMap kj) om om (λh=>om)
 have hd:xI row=fj row.length++row.flatMap kj:=by grind[xI,sX]
 unfold jB
 rw[hd,ht]
 simp[<-hl,TI row (TK h) hL.ok,sZ]
end Go.Proofs.YtplackkccmeioaaGreat.R
namespace Go.Proofs.YtplackkccmeioaaGreat
open Go Go.Vx R Go.Proofs.Tryz
set_option maxRecDepth 100000
end Go.Proofs.YtplackkccmeioaaGreat
namespace Go.Vx
open Go
end Go.Vx
namespace Go.Proofs.YtplackkccmeioaaGreat
open Go Go.Vx R Go.Proofs.Tryz
set_option maxRecDepth 100000
end Go.Proofs.YtplackkccmeioaaGreat
namespace Go.Proofs.YtplackkccmeioaaGreat
open Go Go.Vx R Go.Proofs.Tryz
set_option maxRecDepth 100000
def HF (v:bK) (C:fg):Bool:=ep v&&(v.kind==0||v.kind==C.kind)
def DU (cs:List fg) (row:List bK):Bool:=decide (row.length=cs.length)&&(row.zip cs).all λp=>HF p.1 p.2
theorem TL {T:bL} {row:List bK} (h:DU T.ca row) (hv: ∀v∈row,v.ok):nw T row:=by
 unfold DU at h
 rw[Ab,ahl]at h
 refine⟨h.1,λj C v hC hV=> ?_⟩
 have hz:(row.zip T.ca)[j]? =some (v,C):=by rw[List.getElem?_zip_eq_some];exact⟨hV,hC⟩
 have h2:=Am.1 h.2 _ (Bk hz)
 unfold HF at h2
 simp only[Ab,C9,ahm]at h2
 have aa:=hv v (Bk hV)
 exact⟨h2.1,⟨aa.n.1,aa.n.2⟩,h2.2.elim .inr .inl⟩
def gh (T:bL) (row:List bK) (e:bJ):bK×Int:=if(iD T e).2≠0 then(zeroV,(iD T e).2)else if DU T.ca row=false then(zeroV,9)else nv T row e
theorem HG (e:bJ):gh dS [] e=jE e:=rfl
def j4 (n:Int):Int:=if 4<(if n< -1 then -1 else n)then 4 else if n< -1 then -1 else n
theorem xY3 (n:Int):j4 n= -1\/j4 n=0\/j4 n=1\/j4 n=2\/j4 n=3\/j4 n=4:=by
 unfold j4
 repeat' split
 all_goals omega
def oL (T:bL) (r:List bJ):Option Int:=
 if T.place=0 then(if(jE (r.getD 0 cT)).2≠0\/(jE (r.getD 0 cT)).1.kind≠2 then none else some (j4 (jE (r.getD 0 cT)).1.n))else some 0
def j5 (t:Int) (r:List bJ) (uJ:US):US:=
 match bO[t.toNat]? with
 |none=>uJ
 |some T=>
  if r.length<=T.key.toNat then uJ else
  if(jE (r.getD T.key.toNat cT)).2≠0\/(jE (r.getD T.key.toNat cT)).1.kind=0 then uJ else
  match oL T r with
  |none=>uJ
  |some g=>if(xA t g).2≠0 then uJ else nq (xA t g).1 ⟨nP 3 t (jE (r.getD T.key.toNat cT)).1,nP 3 t (jE (r.getD T.key.toNat cT)).1++ [0]⟩ uJ
theorem xZ0 (t:Int) (r:List bJ) (n:Nat) (uJ:US) (h:Bd n uJ):Bd (n+1) (j5 t r uJ):=by
 unfold j5
 split
 .exact⟨by have:=h.1;omega,λy hy=>by have:=h.2 y hy;omega⟩
 .split
  .exact⟨by have:=h.1;omega,λy hy=>by have:=h.2 y hy;omega⟩
  .split
   .exact⟨by have:=h.1;omega,λy hy=>by have:=h.2 y hy;omega⟩
   .split
    .exact⟨by have:=h.1;omega,λy hy=>by have:=h.2 y hy;omega⟩
    .split
     .exact⟨by have:=h.1;omega,λy hy=>by have:=h.2 y hy;omega⟩
     .exact Bd.ec h _ _
section
variable {b:List V} {rows:List (List V)} {A:ahQ} {τ:St}
theorem xF0:(gS b rows A++τ).take (A.length+2)=gS b rows A:=by rw[<-yI (b:=b) (rows:=rows),List.take_left]
end
theorem TM {v:bK} {k:Int} (h:VK v k):v.ok/\v.s.length<=500:=by
 have hm:=h.may
 have hn:=h.n
 unfold ep at hm
 have:dp v.kind/\v.s.length<=64:=by
  unfold dp
  split at hm
  .rename_i q;rw[q];simp at hm;exact⟨dC,by rw[hm.2];decide⟩
  split at hm
  .rename_i q;rw[q];simp at hm;exact⟨dC,by rw[hm.2];decide⟩
  split at hm
  .rename_i q;rw[q];simp at hm;exact⟨dC,by rw[hm];decide⟩
  split at hm
  .rename_i q;rw[q];simp at hm;exact⟨dC,hm.2⟩
  .cases hm
 exact⟨⟨this.1,hn,by unfold maxLen;omega⟩,om⟩
theorem wq1 (tn:Nat) (T:bL) (hT:bO[tn]? =some T) (r:List bJ) (hr:r.length<=1000) (he: ∀e∈r,ja e) (N:List (Int×List cp×Nat)) (A:ahQ) (h:kQ N A) (hB:Bd 1000 (eR N)):
  bN prog 111 [.ptr 0 0,dG bO,.int .i64 tn,.sl .ro (r.map bJ.row)] (iE N A) (λx s=>x= .cy []/\ ∃N' A',s=iE N' A'/\kQ N' A'/\eR N'=j5 tn r (eR N)):=by
 have av: ∃kk:Nat,T.key=(kk:Int):=by
  match tn,hT with
  |0,h=>simp[bO]at h;subst h;exact⟨1,rfl⟩
  |1,h=>simp[bO]at h;subst h;exact⟨0,rfl⟩
  |2,h=>simp[bO]at h;subst h;exact⟨0,rfl⟩
  |n+3,h=>simp[bO]at h
 obtain⟨kk,aw⟩:=av
 generalize hM:j5 tn r (eR N)=M
 unfold j5 at hM
 rw[Az,hT]at hM
 simp only at hM
 rw[aw,Az]at hM
 have done: ∀(τ:St),eR N=M->cw (some (.cy [])) (A.length+2) (λx s=>x= .cy []/\ ∃N' A',s=iE N' A'/\kQ N' A'/\eR N'=M) (gS [.cJ 1 2 N.length 0 N.length] (N.map eV) A++τ):=λτ hM=>
  yX (A.length+2) (s:=gS [.cJ 1 2 N.length 0 N.length] (N.map eV) A) xF0 yI (FI _ _ h) (A7 _) (zC rfl) ⟨rfl,N,A,rfl,h,hM⟩
 have ak:tn<bO.length:=(A3.1 hT).1
 have ax:(tn:Int)=0\/(tn:Int)=1\/(tn:Int)=2:=by have:tn<3:=ak;omega
 have a8:bO[tn]'ak=T:=(A3.1 hT).2
 have aA:decide ((kk:Int)<0)=false:=ahh om
 refine bN.ib (A.length+2) func111 ntmps111 results111 rfl (by simp[iE,gS]) (C5 rfl) λc hc hb=> ?_
 refine zA ?_
 unfold iE
 rw[<-Ax (gS _ _ _)]
 simp[go_sem,yI,dG,ak,a8,aw,aA]
 have ret: ∀(τ:St),eR N=M->cw (some (.cy [])) (A.length+2) (λx s=>x= .cy []/\ ∃N' A',s=gS [.cJ 1 2 N'.length 0 N'.length] (N'.map eV) A'/\kQ N' A'/\eR N'=M) (gS [.cJ 1 2 N.length 0 N.length] (N.map eV) A++τ):=done
 by_cases q1:r.length<=kk
 .rw[ahg q1]at hM
  have al:decide (r.length<=kk)=true:=ahi q1
  simp[go_sem,al]
  exact ret _ hM
 rw[ahf q1]at hM
 have al:decide (r.length<=kk)=false:=ahh q1
 have qk:kk<r.length:=om
 obtain⟨x,hx⟩:=eX (r[kk])
 have aB:r.getD kk cT=x:=by rw[Ae,A0 qk,hx];rfl
 have ay:=he x (hx▸A8 qk)
 have aC:=NZ x ay
 rw[aB]at hM
 simp[go_sem,al,yI,qk,hx]
 refine zL aC cB ⟨wL ⟨zF rfl,zW,zF rfl,zF rfl,zF rfl,zW,zW,zW,zF rfl,zF rfl,zF rfl,tV⟩,zK,zO sg (by rw[bJ.bS];rfl)⟩ rfl ?_
 have az:(jE x).2=0->VK (jE x).1 (iD dS x).1:=TF ay
 generalize jE x=kv at hM az⊢
 simp[go_sem,fe,yI]
 by_cases q2:kv.2=0
 rotate_left
 .rw[ahg (.inl q2)]at hM
  have ah:(kv.2 !=0)=true:=sU q2
  simp[go_sem,ah]
  exact ret _ hM
 have ah:(kv.2 !=0)=false:=sU q2
 by_cases q3:kv.1.kind=0
 .rw[ahg (.inr q3)]at hM
  have an:(kv.1.kind==0)=true:=sU q3
  simp[go_sem,ah,an,yI]
  exact ret _ hM
 have an:(kv.1.kind==0)=false:=sU q3
 rw[ahf (λh=>h.elim (λh=>h q2) q3)]at hM
 obtain⟨aD,aE⟩:=TM (az q2)
 have ai:=Sr xJ (bO.map bL.row) tn kv.1 dC aD aE
 rw[show(bO.map bL.row).length=3 from rfl]at ai
 obtain⟨bd,a1⟩:=eX (nP 3 (tn:Int) kv.1)
 have a6:bd.length<=9223372036854775806:=by
  have:=Sl (v:=kv.1)
  rw[<-a1];unfold nP;split
  .simp only[Ak];omega
  .simp
 rw[a1]at ai hM
 simp[go_sem,ah,an,yI]
 have af:=Tk hB
 by_cases q4:T.place=0
 .have ao:(T.place==0)=true:=sU q4
  have q5:0<r.length:=om
  obtain⟨y,hy⟩:=eX (r[0])
  have aF:r.getD 0 cT=y:=by rw[Ae,A0 q5,hy];rfl
  have aG:=he y (hy▸A8 q5)
  have a7:=NZ y aG
  unfold oL at hM
  rw[ahg q4,aF]at hM
  simp[go_sem,ao,q5,hy]
  refine zL a7 cB ⟨wL ⟨zF rfl,zW,zF rfl,zF rfl,zF rfl,zW,zW,zW,zF rfl,zF rfl,zF rfl,tV⟩,zK,zO sg (by rw[bJ.bS];rfl)⟩ rfl ?_
  generalize jE y=rv at hM⊢
  simp[go_sem,fe,yI]
  by_cases q6:rv.2=0
  rotate_left
  .rw[ahg (.inl q6)]at hM
   have aj:(rv.2 !=0)=true:=sU q6
   simp[go_sem,aj]
   exact ret _ hM
  have aj:(rv.2 !=0)=false:=sU q6
  by_cases q7:rv.1.kind=2
  rotate_left
  .rw[ahg (.inr q7)]at hM
   have aq:(rv.1.kind !=2)=true:=sU q7
   simp[go_sem,aj,aq,yI]
   exact ret _ hM
  have aq:(rv.1.kind !=2)=false:=sU q7
  rw[ahf (λh=>h.elim (λh=>h q6) (λh=>h q7))]at hM
  simp only at hM
  have ae:=Hn tn (j4 rv.1.n) ax (xY3 _)
  obtain⟨⟨g,ge⟩,hg⟩: ∃g,xA tn (j4 rv.1.n)=g:=⟨_,rfl⟩
  rw[hg]at ae hM
  simp only at hM
  unfold j4 at ae
  simp[go_sem,aj,aq,yI]
  refine zL ae cB (zO (by simp[go_sem,dG]) rfl) rfl ?_
  simp[go_sem,DN]
  by_cases q8:ge=0
  rotate_left
  .rw[ahg q8]at hM
   have ab:(ge !=0)=true:=sU q8
   simp[go_sem,ab]
   exact ret _ hM
  have ab:(ge !=0)=false:=sU q8
  rw[ahf (λh=>h q8)]at hM
  have ad:=NP N A h g ⟨bd,bd++ [0]⟩ om (λy hy=>by have:=af.2 y hy;omega)
  simp[go_sem,ab,yI]
  refine zL ai cB (zO sg rfl) rfl ?_
  simp[go_sem]
  refine zJ a6 ?_
  simp[go_sem]
  refine Jq ad cB (uH h) (by simp[bT,cQ,cL]) ⟨lR (n:=(iE N A).length) (by simp[iL,jq,cQ,cL,tg]),zC rfl,zC rfl,tV⟩ (λr s h=>by
   obtain⟨rfl,N2,A2,rfl,h2,_⟩:=h
   exact⟨rfl,uH h2⟩) ?_
  rintro r' s ⟨rfl,N2,A2,rfl,aa,ar⟩ hle I' pick au
  simp[go_sem]
  exact QF au (by rw[yI];exact A7 _) (uH aa) hle rfl ⟨rfl,N2,A2,rfl,aa,ar.trans hM⟩
 have ao:(T.place==0)=false:=sU q4
 unfold oL at hM
 rw[ahf q4]at hM
 simp only at hM
 have ae:=Hn tn 0 ax om
 obtain⟨⟨g,ge⟩,hg⟩: ∃g,xA tn 0=g:=⟨_,rfl⟩
 rw[hg]at ae hM
 simp only at hM
 simp[go_sem,ao,yI]
 refine zL ae cB (zO (by simp[go_sem,dG]) rfl) rfl ?_
 simp[go_sem,DN]
 by_cases q8:ge=0
 rotate_left
 .rw[ahg q8]at hM
  have ab:(ge !=0)=true:=sU q8
  simp[go_sem,ab]
  exact ret _ hM
 have ab:(ge !=0)=false:=sU q8
 rw[ahf (λh=>h q8)]at hM
 have ad:=NP N A h g ⟨bd,bd++ [0]⟩ om (λy hy=>by have:=af.2 y hy;omega)
 simp[go_sem,ab,yI]
 refine zL ai cB (zO sg rfl) rfl ?_
 simp[go_sem]
 refine zJ a6 ?_
 simp[go_sem]
 refine Jq ad cB (uH h) (by simp[bT,cQ,cL]) ⟨lR (n:=(iE N A).length) (by simp[iL,jq,cQ,cL,tg]),zC rfl,zC rfl,tV⟩ (λr s h=>by
  obtain⟨rfl,N2,A2,rfl,h2,_⟩:=h
  exact⟨rfl,uH h2⟩) ?_
 rintro r' s ⟨rfl,N2,A2,rfl,aa,ar⟩ hle I' pick au
 simp[go_sem]
 exact QF au (by rw[yI];exact A7 _) (uH aa) hle rfl ⟨rfl,N2,A2,rfl,aa,ar.trans hM⟩
def wX (l:dR):US:=l.stmts.foldl (qE j5) []
theorem N6: ∀(n:Nat) (q l:List bJ),(∀e∈q,Good e)->(∀e∈l,Good e)-> ∀e∈sW n q l,Good e
 |0,_,_,_,hl=>hl
 |n+1,[],_,_,hl=>by rw[sW];exact hl
 |n+1,x::q,l,hq,hl=>by
  have hx:=hq x (Av ..)
  have aa: ∀e∈q,Good e:=λe he=>hq e (B5 _ he)
  rw[sW]
  split
  .exact N6 n _ _ (λe he=>by
    rcases Al.1 he with he|he
    .exact aa e he
    .exact hx.sub e he) hl
  .exact N6 n _ _ aa (λe he=>by
    rcases Al.1 he with he|he
    .exact hl e he
    .rw[Bb]at he;subst he;exact hx)
theorem TN {st:bW} (h:Good st.cE):Ks st:=λe he name s v ha=>by
 have hg:Good e:=by
  unfold nK at he
  split at he
  .exact N6 4096 [st.cE] [] (λe he=>by rw[Bb]at he;subst he;exact h) (λe he=>by cases he) e he
  .cases he
 have aa: ∃a∈e.args,a.v=v:=by
  unfold nM at ha
  split at ha
  .rename_i a b heq ab
   rw[ab]
   split at ha
   .split at ha
    .cases ha;exact⟨a,sm,rfl⟩
    .cases ha
   .split at ha
    .cases ha;exact⟨b,sm,rfl⟩
    .cases ha
  .cases ha
 obtain⟨a,ad,rfl⟩:=aa
 exact(hg.sub a ad).v
theorem xI6 (l:dR) (hl:l.stmts.length<=24) (hs: ∀st∈l.stmts,kO st):Pure prog 62 [dG bO,.agg l.row] (.sl .ro ((wX l).map oJ)):=by
 refine xS0 j5 (λt r n uJ h=>xZ0 t r n uJ h) l (by unfold maxLen;omega) (λst aa=>TN (hs st aa).cE.dU) ?_ (λst aa=>by have:=(hs st aa).rows.1;unfold maxLen;omega) (λst aa hk ht=> ?_)
 .have: ∀L:List bW,(∀st∈L,kO st)->(L.map kH).sum<=20*L.length:=by
   intro L
   induction L with
   |nil=>intro _;exact A7 _
   |cons x L ih=>
    intro h
    have h1:=ih (λst aa=>h st (B5 _ aa))
    have h2:=(h x (Av ..)).rows.1
    rw[Ai,List.sum_cons,Ak]
    have:kH x<=20:=by unfold kH;split<;>omega
    omega
  have:=this _ hs
  omega
 .intro r hr N A hN hB
  obtain⟨ah,ab⟩:=(hs st aa).rows.2 r hr
  have ad:=Hz st.table
  obtain⟨tn,ae⟩: ∃tn:Nat,yU st.table=(tn:Int):=⟨(yU st.table).toNat,om⟩
  rw[ae]at ad⊢
  have af:tn<bO.length:=by show tn<3;omega
  exact wq1 tn _ (A0 af) r om ab N A hN hB
theorem TP: ∀a b:ahP,Op.bytesLess a b=true\/a=b\/Op.bytesLess b a=true
 | [],[]=> .inr (.inl rfl)
 | [],_::_=> .inl rfl
 |_::_,[]=> .inr (.inr rfl)
 |x::a,y::b=>by
  rw[Ke,Ke]
  by_cases q:x.toNat<y.toNat
  .rw[ahg q];exact .inl rfl
  by_cases q2:y.toNat<x.toNat
  .rw[ahf q,ahg q2,ahg q2];exact .inr (.inr rfl)
  rw[ahf q,ahf q2,ahf q2,ahf q]
  have e:x=y:=E2.1 om
  rcases TP a b with h|h|h
  .exact .inl h
  .exact .inr (.inl (by rw[e,h]))
  .exact .inr (.inr h)
structure zt (uJ:US):Prop where
 qC:(uJ.map (·.1)).Pairwise (· < ·)
 eL: ∀y∈uJ,y.2≠ []/\y.2.Nodup/\ ∀x∈y.2,Op.bytesLess x.lo x.hi=true
def Has (uJ:US) (dv:Int) (x:cp):Prop:= ∃y∈uJ,y.1=dv/\x∈y.2
theorem xp5 {uJ:US} (h:zt uJ) (dv:Int) (x:cp) (hx:Op.bytesLess x.lo x.hi):
  zt (jl dv x uJ)/\Has (jl dv x uJ) dv x/\(∀r z,Has uJ r z->Has (jl dv x uJ) r z)/\(Has uJ dv x->jl dv x uJ=uJ):=by
 obtain⟨k,hk⟩:=eX (jD (uJ.map (·.1)) dv)
 obtain⟨ax,aq,ar,aa⟩:=Tc h.qC hk
 cases af:(uJ.map (·.1)).contains dv with
 |true=>
  rw[af]at aa
  have ab:k<uJ.length:=by
   split at aa
   .rename_i h1;simpa using h1
   .cases aa
  rw[dif_pos (sU ab)]at aa
  obtain⟨⟨r0,sp⟩,hU⟩: ∃y,uJ[k]=y:=⟨_,rfl⟩
  have au:r0=dv:=by
   have:(uJ.map (·.1))[k]'(sU ab)=r0:=by rw[D0,hU]
   rw[this]at aa
   simpa using aa
  subst au
  have aj:uJ[k]? =some (r0,sp):=by rw[A0 ab,hU]
  have ah:(r0,sp)∈uJ:=hU▸A8 ab
  have ak:=h.eL _ ah
  have uniq: ∀y∈uJ,y.1=r0->y=(r0,sp):=λy hy hr=>by
   obtain⟨j,hj,rfl⟩:=Ds hy
   have ha:=Cu.1 h.qC
   rcases Ba j k with q|q|q
   .have:=ha j k (sU hj) (sU ab) q
    rw[D0,D0,hr,hU]at this
    exact absurd this (Int.lt_irrefl _)
   .subst q;exact hU
   .have:=ha k j (sU ab) (sU hj) q
    rw[D0,D0,hr,hU]at this
    exact absurd this (Int.lt_irrefl _)
  cases hc:sp.contains x with
  |true=>
   have e:=Td hk af aj hc
   rw[e]
   exact⟨h,⟨_,ah,rfl,by simpa using hc⟩,λ_ _ h=>h,λ_=>rfl⟩
  |false=>
   have e:=Te hk af aj hc
   have al:x∉sp:=sU hc
   rw[e]
   refine⟨⟨?_,λy hy=> ?_⟩,⟨(r0,sp++ [x]),List.mem_set ab _,rfl,sm⟩,λr z hz=> ?_,λhz=> ?_⟩
   .have:(uJ.set k (r0,sp++ [x])).map (·.1)=uJ.map (·.1):=by
     rw[Cz]
     refine List.ext_getElem sm λj h1 h2=> ?_
     rw[List.getElem_set]
     split
     .rename_i q;subst q;rw[D0,hU]
     .rfl
    rw[this];exact h.qC
   .rcases List.mem_or_eq_of_mem_set hy with hy|rfl
    .exact h.eL y hy
    .refine⟨sm, ?_,λz hz=> ?_⟩
     .simp only
      rw[Cp]
      exact⟨ak.2.1,sm,λa ha b hb=>by rw[Bb]at hb;subst hb;exact λe=>al (e▸ha)⟩
     .rcases Al.1 hz with hz|hz
      .exact ak.2.2 z hz
      .rw[Bb]at hz;subst hz;exact hx
   .obtain⟨y,hy,ad,ae⟩:=hz
    by_cases q:y.1=r0
    .have:=uniq y hy q
     subst this
     exact⟨(r0,sp++ [x]),List.mem_set ab _,ad,ahC _ ae⟩
    .obtain⟨j,hj,ai⟩:=Ds hy
     refine⟨y, ?_,ad,ae⟩
     have av:k≠j:=λe=>by subst e;rw[hU]at ai;exact q (by rw[<-ai])
     have:(uJ.set k (r0,sp++ [x]))[j]'(sU hj)=y:=by rw[List.getElem_set,ahf av];exact ai
     exact this▸A8 _
   .obtain⟨y,hy,ad,ae⟩:=hz
    have:=uniq y hy ad
    subst this
    exact absurd ae al
 |false=>
  have an: ∀y∈uJ,y.1≠dv:=λy hy hr=>by
   have:dv∈uJ.map (·.1):=Ac.2 ⟨y,hy,hr⟩
   rw[<-ahz,af]at this
   cases this
  have e:jl dv x uJ=uJ.take k++(dv,[x])::uJ.drop k:=by unfold jl;rw[ahf (by rw[af];exact Bool.false_ne_true),hk]
  have aw: ∀y∈uJ,y∈uJ.take k++(dv,[x])::uJ.drop k:=λy hy=>by
   rw[<-B6 k uJ]at hy
   rcases Al.1 hy with hy|hy
   .exact ahC _ hy
   .exact List.mem_append_right _ (B5 _ hy)
  have ao: ∀y∈uJ.take k++(dv,[x])::uJ.drop k,y∈uJ\/y=(dv,[x]):=λy hy=>by
   rcases Al.1 hy with hy|hy
   .exact .inl (Bp hy)
   .rcases Af.1 hy with rfl|hy
    .exact .inr rfl
    .exact .inl (C7 hy)
  rw[e]
  refine⟨⟨?_,λy hy=> ?_⟩,⟨(dv,[x]),sm,rfl,sm⟩,λr z ⟨y,hy,ad,ae⟩=>⟨y,aw y hy,ad,ae⟩,λ⟨y,hy,ad,_⟩=>absurd ad (an y hy)⟩
  .rw[C3,Ai,List.map_take,ahM,Bl]
   refine⟨h.qC.sublist (List.take_sublist _ _),Cb.2 ⟨λb hb=> ?_,h.qC.sublist (List.drop_sublist _ _)⟩,λa ha b hb=> ?_⟩
   .obtain⟨j,hj,rfl⟩:=Ds hb
    rw[List.getElem_drop]
    have h1:=ar (k+j) (by rw[D7]at hj;omega) om
    have h2:(uJ.map (·.1))[k+j]'(by rw[D7]at hj;omega)≠dv:=λe=>by
     rw[D0]at e
     exact an _ (A8 _) e
    show dv<_
    omega
   .obtain⟨j,hj,rfl⟩:=Ds ha
    rw[B0]at hj
    have h1:=aq j om om
    rw[ahK]
    rcases Af.1 hb with rfl|hb
    .exact h1
    .obtain⟨i,hi,rfl⟩:=Ds hb
     rw[D7]at hi
     rw[List.getElem_drop]
     exact Cu.1 h.qC j (k+i) om om om
  .rcases ao y hy with hy|rfl
   .exact h.eL y hy
   .exact⟨sm,sm,λz hz=>by rw[Bb]at hz;subst hz;exact hx⟩
def nR (ps:List (Int×cp)) (uJ:US):US:=ps.foldl (λuJ p=>nq p.1 p.2 uJ) uJ
def HH (x:cp):Bool:=Op.bytesLess x.hi x.lo||x.hi==x.lo
theorem yZ8 {uJ:US} (h:zt uJ) (dv:Int) (x:cp):
  zt (nq dv x uJ)/\(HH x=true\/Has (nq dv x uJ) dv x)/\(∀r z,Has uJ r z->Has (nq dv x uJ) r z)/\(HH x=true\/Has uJ dv x->nq dv x uJ=uJ):=by
 unfold nq
 cases q:HH x with
 |true=>
  have q':(Op.bytesLess x.hi x.lo||x.hi==x.lo)=true:=q
  rw[ahg q']
  exact⟨h,.inl rfl,λ_ _ h=>h,λ_=>rfl⟩
 |false=>
  have q':(Op.bytesLess x.hi x.lo||x.hi==x.lo)=false:=q
  rw[ahf (by rw[q'];exact Bool.false_ne_true)]
  have hx:Op.bytesLess x.lo x.hi:=by
   rw[Bool.or_eq_false_iff]at q'
   rcases TP x.lo x.hi with h|h|h
   .exact h
   .rw[h]at q';simp at q'
   .rw[h]at q';simp at q'
  obtain⟨h1,h2,h3,h4⟩:=xp5 h dv x hx
  exact⟨h1,.inr h2,h3,λh=>h4 (h.resolve_left sm)⟩
theorem N7: ∀(ps:List (Int×cp)) {uJ:US},zt uJ->zt (nR ps uJ)/\(∀p∈ps,HH p.2=true\/Has (nR ps uJ) p.1 p.2)/\(∀r z,Has uJ r z->Has (nR ps uJ) r z)
 | [],_,h=>⟨h,λp hp=>(by cases hp),λ_ _ h=>h⟩
 |p::ps,uJ,h=>by
  obtain⟨h1,h2,h3,_⟩:=yZ8 h p.1 p.2
  obtain⟨g1,g2,g3⟩:=N7 ps h1
  refine⟨g1,λq hq=> ?_,λr z hz=>g3 r z (h3 r z hz)⟩
  rcases Af.1 hq with rfl|hq
  .exact h2.imp id (g3 _ _)
  .exact g2 q hq
theorem TQ:zt []:=⟨List.Pairwise.nil,λy hy=>by cases hy⟩
def nx (t:Int) (r:List bJ):List (Int×cp):=
 match bO[t.toNat]? with
 |none=> []
 |some T=>
  if r.length<=T.key.toNat then []else
  if(jE (r.getD T.key.toNat cT)).2≠0\/(jE (r.getD T.key.toNat cT)).1.kind=0 then []else
  match oL T r with
  |none=> []
  |some g=>if(xA t g).2≠0 then []else [((xA t g).1,⟨nP 3 t (jE (r.getD T.key.toNat cT)).1,nP 3 t (jE (r.getD T.key.toNat cT)).1++ [0]⟩)]
theorem xZ1 (t:Int) (r:List bJ) (uJ:US):j5 t r uJ=nR (nx t r) uJ:=by
 unfold j5 nx
 cases bO[t.toNat]? with
 |none=>rfl
 |some T=>
  simp only
  generalize jE (r.getD T.key.toNat cT)=kv
  by_cases a:r.length<=T.key.toNat
  .rw[ahg a,ahg a];rfl
  rw[ahf a,ahf a]
  by_cases b:kv.2≠0\/kv.1.kind=0
  .rw[ahg b,ahg b];rfl
  rw[ahf b,ahf b]
  cases oL T r with
  |none=>rfl
  |some g=>
   simp only
   by_cases d:(xA t g).2≠0
   .rw[ahg d,ahg d];rfl
   .rw[ahf d,ahf d];rfl
def nS (st:bW):List (Int×cp):=
 if yU st.table<0 then []else if st.kind=2 then st.rows.flatMap (nx (yU st.table))
 else(xX (yU st.table) st).map λrg=>((xA (yU st.table) rg).1,⟨(pv bO (yU st.table) st).1,(pv bO (yU st.table) st).2⟩)
theorem TS (ps qs:List (Int×cp)) (uJ:US):nR (ps++qs) uJ=nR qs (nR ps uJ):=D2 ..
theorem xN7 (uJ:US) (st:bW):qE j5 uJ st=nR (nS st) uJ:=by
 unfold qE nS
 split
 .rfl
 .split
  .have: ∀(rs:List (List bJ)) (uJ:US),rs.foldl (λuJ r=>j5 (yU st.table) r uJ) uJ=nR (rs.flatMap (nx (yU st.table))) uJ:=by
    intro rs
    induction rs with
    |nil=>intro uJ;rfl
    |cons r rs ih=>intro uJ;rw[Bt,By,TS,ih,xZ1]
   exact this _ _
  .unfold nR
   rw[List.foldl_map]
   rfl
theorem HI: ∀(l:List bW) (uJ:US),l.foldl (qE j5) uJ=nR (l.flatMap nS) uJ
 | [],_=>rfl
 |x::l,uJ=>by rw[Bt,By,TS,HI l,xN7]
theorem TT (l:dR):zt (wX l):=by
 unfold wX
 rw[HI]
 exact(N7 _ TQ).1
def N8 (r:Int) (e:bJ):Bool:=match nM e [82]with|none=>true|some (s,v)=> !(s== [61]&&(v.kind==2&& !(v.n==r)))
theorem N9: ∀(l:List bJ) (rs:ahS),iQ l rs=rs.filter λr=>l.all (N8 r)
 | [],rs=>(D4.2 sm).symm
 |e::l,rs=>by
  have ih:=N9 l
  have h:iQ (e::l) rs=iQ l (match nM e [82]with|none=>rs|some (s,v)=>if s= [61]/\v.kind=2 then kF v.n rs else rs):=rfl
  rw[h,ih]
  have h2:(match nM e [82]with|none=>rs|some (s,v)=>if s= [61]/\v.kind=2 then kF v.n rs else rs)=rs.filter (N8 · e):=by
   unfold N8
   cases nM e [82]with
   |none=>exact(D4.2 sm).symm
   |some p=>
    obtain⟨s,v⟩:=p
    simp only
    by_cases q:s= [61]/\v.kind=2
    .rw[ahg q]
     unfold kF
     grind
    .rw[ahf q]
     refine(D4.2 λr _=> ?_).symm
     grind
  simp_all[Bool.and_comm]
theorem TU: ∀a:ahP,Op.bytesLess a (a++ [0])=true
 | []=>rfl
 |a::l=>by simp[Op.bytesLess,TU l]
def g1 (r:Int) (f:Int->List cp):US:=if(f r).isEmpty=true then []else [(r,f r)]
def wg (tn:Nat) (row:List bK):Int:=if tn=0 then(row.getD 0 zeroV).n else if tn=1 then -1 else 1
def ef (tn:Nat) (T:bL) (row:List bK):Int×ahP×Int:=
 if eS T.ca row≠0 then(0,[],eS T.ca row)else if tn=0/\ ¬((row.getD 0 zeroV).n=0\/(row.getD 0 zeroV).n=1)then(0,[],19)else((xA tn (wg tn row)).1,nP 3 tn (row.getD T.key.toNat zeroV),0)
end Go.Proofs.YtplackkccmeioaaGreat
namespace Go.Proofs.YtplackkccmeioaaGreat
open Go Go.Vx Go.Proofs.Tryz
set_option maxRecDepth 100000
variable {U:Type}
abbrev Pl:=Int×ahP
def gO (p:Pl):V:= .agg [.int .i64 p.1,.str p.2]
abbrev tw:Kk:= .st [.i .i64,.s]
def gn {U:Type} (g:U->V):List (Pl×U)->List V
 | []=> []
 |e::W=>gO e.1::g e.2::gn g W
structure Mp (U:Type) where
 W:List (Pl×U)
 bs:ahQ
 cS:Nat
def Mp.ob (g:U->V) (m:Mp U):Ob:= .mp (gn g m.W) m.bs m.cS
structure Mp.ok {U:Type} (m:Mp U):Prop where
 len:m.bs.length=m.W.length
 nd:m.bs.Nodup
 lt: ∀b∈m.bs,b<m.cS
 keys:(m.W.map (·.1)).Nodup
def uM (U:Type):Mp U:=⟨[],[],0⟩
theorem TV (U:Type):(uM U).ok:=⟨rfl,C1,λb hb=>(by cases hb),C1⟩
def dO {U:Type} (p:Pl):List (Pl×U)->Option (Nat×U)
 | []=>none
 |e::W=>if e.1=p then some (0,e.2)else(dO p W).map λq=>(q.1+1,q.2)
def Mp.at (m:Mp U) (p:Pl):Option (Nat×U):=dO p m.W
def Mp.get (m:Mp U) (p:Pl):Option U:=(m.at p).map (·.2)
def Mp.put (m:Mp U) (p:Pl) (v:U):Mp U:=match m.at p with
 |some (i,_)=>⟨m.W.set i (p,v),m.bs,m.cS⟩
 |none=>⟨m.W++ [(p,v)],m.bs++ [m.cS],m.cS+1⟩
def Mp.del (m:Mp U) (p:Pl):Mp U:=match m.at p with
 |some (i,_)=>⟨m.W.eraseIdx i,m.bs.eraseIdx i,m.cS⟩
 |none=>m
theorem Oa (p q:Pl):kq tw (gO p) (gO q)=some (decide (p=q)):=by
 obtain⟨a,b⟩:=p
 obtain⟨c,d⟩:=q
 simp only[kq,gO,kV,jv,and_self,aho,Ay,Bf,Dn,ahk]
 grind
theorem TW (p:Pl):mA tw (gO p)=true:=by rfl
section
variable {U:Type} {g:U->V}
variable {m:Mp U}{p:Pl}{I:St}{z:U}{i:Nat}{r:Int}{k:ahP}
theorem Oc (p:Pl): ∀(W:List (Pl×U)) (i:Nat),nF tw (gO p) (gn g W) i=some ((dO p W).map λq=>(i+q.1,g q.2))
 | [],_=>rfl
 |e::W,i=>by
  rw[gn,nF,Oa,dO]
  by_cases h:e.1=p
  .grind
  .rw[ahf h]
   have:decide (p=e.1)=false:=(by grind)
   rw[this]
   simp only
   rw[Oc p W (i+1)]
   cases dO p W<;>grind
theorem TX (m:Mp U) (p:Pl):nF tw (gO p) (gn g m.W) 0=some ((m.at p).map λq=>(q.1,g q.2)):=by
 grind[Oc,Mp.at]
theorem wi {p:Pl} {i:Nat} {v:U}: ∀{W:List (Pl×U)},dO p W=some (i,v)->W[i]? =some (p,v)
 | [],h=>by trivial
 |e::W,h=>by
  rw[dO]at h
  by_cases q:e.1=p
  .grind
  .rw[ahf q]at h
   simp only[Aw,ahq]at h
   obtain⟨⟨j,u⟩,h1,rfl,rfl⟩:=h
   simpa using wi h1
theorem Kx {p:Pl}: ∀{W:List (Pl×U)},dO p W=none-> ∀e∈W,e.1≠p
 | [],_,e,he=>by cases he
 |e::W,h,x,hx=>by
  rw[dO]at h
  by_cases q:e.1=p
  .grind
  .rw[ahf q]at h
   simp only[Option.map_eq_none_iff]at h
   rcases Af.1 hx with rfl|hx
   .exact q
   .exact Kx h x hx
theorem TY {p:Pl} {v:U}: ∀{W:List (Pl×U)},(W.map (·.1)).Nodup->(p,v)∈W-> ∃i,dO p W=some (i,v)
 | [],_,h=>by cases h
 |e::W,hn,h=>by
  rw[Ai,C2]at hn
  rw[dO]
  rcases Af.1 h with rfl|h
  .simp
  .have:e.1≠p:=(by grind)
   obtain⟨i,hi⟩:=TY hn.2 h
   grind
theorem Mp.get_mem (hm:m.ok) {v:U}:m.get p=some v↔(p,v)∈m.W:=by
 constructor
 .intro h
  unfold Mp.get Mp.at at h
  rw[Aw]at h
  obtain⟨⟨i,u⟩,h1,rfl⟩:=h
  exact Bk (wi h1)
 .intro h
  obtain⟨i,hi⟩:=TY hm.keys h
  unfold Mp.get Mp.at
  grind
theorem TZ (W:List (Pl×U)) (p:Pl) (v:U):gn g W++ [gO p,g v]=gn g (W++ [(p,v)]):=by
 induction W with
 |nil=>rfl
 |cons e W ih=>rw[gn,Bm,Bm,ih];rfl
theorem T0 (p:Pl) (v:U): ∀(W:List (Pl×U)) (i:Nat),pK (gn g W) i (gO p) (g v)=gn g (W.set i (p,v))
 | [],i=>by rfl
 |e::W,0=>by rfl
 |e::W,i+1=>by
  have ih:=T0 p v W i
  unfold pK at ih⊢
  rw[show 2*(i+1)=2*i+1+1 by omega,gn]
  simp only[Bz]
  rw[ih]
  rfl
theorem Od (v:U): ∀(W:List (Pl×U)) (i:Nat) (p:Pl) (u:U),W[i]? =some (p,u)->(gn g W).set (2*i+1) (g v)=gn g (W.set i (p,v))
 | [],i,_,_,h=>by rfl
 |e::W,0,p,u,h=>by grind[gn]
 |e::W,i+1,p,u,h=>by
  have ih:=Od v W i p u (sU h)
  rw[show 2*(i+1)+1=2*i+1+1+1 by omega,gn]
  simp only[Bz]
  rw[ih]
  rfl
theorem T3: ∀(W:List (Pl×U)) (i:Nat),i<W.length->xq (gn g W) i=gn g (W.eraseIdx i)
 | [],i,h=>by grind
 |e::W,0,_=>by rfl
 |e::W,i+1,h=>by
  have ih:=T3 W i (sU h)
  unfold xq at ih⊢
  rw[show 2*(i+1)=2*i+1+1 by omega,show 2*i+1+1+2=2*i+2+1+1 by omega,gn]
  simp only[Cr,Dr,Bm]
  rw[ih]
  rfl
theorem Ky {z:V} {id:Nat} (cG:I[id]? =some (m.ob g)) (p:Pl) (ok:Bool):
  xW (some (tw,z)) I (.mp id) (gO p) ok= .ok (match m.get p with
   |some v=>if ok then .cy [g v,.bool true]else g v
   |none=>if ok then .cy [z,.bool false]else z):=by
 unfold xW
 simp only[TW,aho,cG,Mp.ob,TX]
 unfold Mp.get
 cases m.at p<;>rfl
def Mp.mj {U:Type} (m:Mp U) (p:Pl) (z:U):Mp U:=match m.at p with
 |some _=>m
 |none=>⟨m.W++ [(p,z)],m.bs++ [m.cS],m.cS+1⟩
def Mp.dZ {U:Type} (m:Mp U) (p:Pl):Nat:=match m.at p with
 |some (i,_)=>m.bs.getD i 0
 |none=>m.cS
theorem T4 {id:Nat} (hm:m.ok) (cG:I[id]? =some (m.ob g)) (p:Pl):
  wB (some (tw,g z)) I (.mp id) (gO p)=(match m.at p with
   |some (_,v)=> .ok (.cy [g v,.int .i64 (m.dZ p:Int)])
   |none=> .st (.cy [g z,.int .i64 (m.dZ p:Int)]) (I.set id ((m.mj p z).ob g))):=by
 unfold wB Mp.dZ Mp.mj
 simp only[TW,aho,cG,Mp.ob,TX]
 cases h:m.at p with
 |none=>grind[TZ]
 |some q=>
  have:=(A3.1 (wi (W:=m.W) (i:=q.1) (v:=q.2) h)).1
  have hb:m.bs[q.1]? =some (m.bs.getD q.1 0):=by
   rw[Ae,A0 (by rw[hm.len];omega)]
   rfl
  grind
theorem T5 {bs:ahQ} (hn:bs.Nodup) {b:Nat} (h:bs[i]? =some b):bs.findIdx? (λ(x:Nat)=>((x:Int)==(b:Int)))=some i:=by
 obtain⟨hi,rfl⟩:=A3.1 h
 rw[List.findIdx?_eq_some_iff_getElem]
 refine⟨hi,sm,λj hj=> ?_⟩
 intro q
 rw[ahm]at q
 grind[List.getElem_inj]
theorem T6 {id:Nat} (hm:m.ok) (hg: ∀v,mJ (g v)) (p:Pl) (cG:I[id]? =some ((m.mj p z).ob g)) (v:U):
  xP I (.mp id) (.int .i64 (m.dZ p:Int)) (g v)= .st .u (I.set id ((m.put p v).ob g)):=by
 unfold xP
 simp only[hg,aho,cG]
 unfold Mp.ob Mp.mj Mp.dZ Mp.put
 cases h:m.at p with
 |none=>
  have hf:(m.bs++ [m.cS]).findIdx? (λ(b:Nat)=>((b:Int)==(m.cS:Int)))=some m.W.length:=by
   refine T5 ?_ ?_
   .rw[Cp]
    refine⟨hm.nd,sm,λa ha b hb=> ?_⟩
    have:=hm.lt a ha
    grind
   .rw[<-hm.len];simp
  grind[Od]
 |some q=>
  have h1:=wi (W:=m.W) (i:=q.1) (v:=q.2) h
  have hl:=(A3.1 h1).1
  have hb:m.bs[q.1]? =some (m.bs.getD q.1 0):=by
   rw[Ae,A0 (by rw[hm.len];exact hl)]
   rfl
  simp only[T5 hm.nd hb]
  grind[Od]
theorem Mp.lK (hm:m.ok) (p:Pl) (z:U):(m.mj p z).ok:=by
 unfold Mp.mj
 cases h:m.at p with
 |some q=>exact hm
 |none=>
  refine⟨by simp[hm.len], ?_,λb hb=> ?_, ?_⟩
  .rw[Cp]
   refine⟨hm.nd,sm,λa ha b hb=> ?_⟩
   have:=hm.lt a ha
   grind
  .rcases Al.1 hb with hb|hb
   .have:=hm.lt b hb;grind
   grind
  .rw[C3,Cp]
   refine⟨hm.keys,sm,λa ha b hb=> ?_⟩
   obtain⟨e,he,rfl⟩:=Ac.1 ha
   simp at hb
   subst hb
   exact Kx h e he
theorem Mp.iS (hm:m.ok) (p:Pl) (v:U):(m.put p v).ok:=by
 unfold Mp.put
 cases h:m.at p with
 |some q=>
  have h1:=wi (W:=m.W) (i:=q.1) (v:=q.2) h
  have:((m.W.set q.1 (p,v)).map (·.1))=m.W.map (·.1):=by
   rw[Cz]
   exact yM _ _ _ (by grind)
  exact⟨by simp[hm.len],hm.nd,hm.lt,by rw[this];exact hm.keys⟩
 |none=>
  have:=Mp.lK hm p v
  unfold Mp.mj at this
  grind
theorem Mp.DV (hm:m.ok) (p:Pl):(m.del p).ok:=by
 unfold Mp.del
 cases h:m.at p with
 |some q=>
  refine⟨?_,ahr (by grind) hm.nd,λb hb=>hm.lt b (List.mem_of_mem_eraseIdx hb), ?_⟩
  .simp only[List.length_eraseIdx,hm.len]
  .exact ahr (by grind) hm.keys
 |none=>exact hm
theorem Mp.tz {q:Nat×U} (h:m.at p=some q):m.mj p z=m:=by grind[Mp.mj]
theorem Kz {p:Pl} {v:U}: ∀{W:List (Pl×U)},dO p W=none->dO p (W++ [(p,v)])=some (W.length,v)
 | [],_=>by simp[dO]
 |e::W,h=>by
  rw[dO]at h
  by_cases q:e.1=p
  .grind
  .rw[ahf q,Option.map_eq_none_iff]at h
   rw[Bm,dO,ahf q,Kz h]
   rfl
theorem Mp.wj (h:m.at p=none):(m.mj p z).get p=some z:=by
 unfold Mp.get Mp.at Mp.mj
 rw[h]
 simp only
 unfold Mp.at at h
 rw[Kz h];rfl
theorem Mp.get_none (h:m.at p=none):m.get p=none:=by unfold Mp.get;grind
theorem Mp.get_some {v:U} (h:m.at p=some (i,v)):m.get p=some v:=by unfold Mp.get;grind
theorem xC9 {md:Option (Kk×V)} (hz:md=some (tw,g z)) (h:m.at p=none):xW md [(m.mj p z).ob g] (.mp 0) (gO p) false=xW md [m.ob g] (.mp 0) (gO p) false:=by
 subst hz
 rw[Ky (m:=m.mj p z) rfl,Ky (m:=m) rfl,Mp.wj h,Mp.get_none h]
 rfl
theorem T7 {p:Pl} {v u:U}: ∀{W:List (Pl×U)} {i:Nat},dO p W=some (i,u)->dO p (W.set i (p,v))=some (i,v)
 | [],_,h=>by trivial
 |e::W,i,h=>by
  rw[dO]at h
  by_cases q:e.1=p
  .rw[ahg q]at h
   simp only[ahk,ahq]at h
   obtain⟨rfl,rfl⟩:=h
   rw[Ch,dO,ahg rfl]
  .rw[ahf q,Aw]at h
   obtain⟨⟨j,w⟩,h1,h2⟩:=h
   simp only[ahq]at h2
   obtain⟨rfl,rfl⟩:=h2
   rw[Bz,dO,ahf q,T7 h1]
   rfl
theorem Mp.tC (m:Mp U) (p:Pl) (v:U): ∃i,dO p (m.put p v).W=some (i,v):=by
 unfold Mp.put
 cases h:m.at p with
 |none=>exact⟨_,Kz h⟩
 |some q=>exact⟨q.1,T7 (u:=q.2) h⟩
theorem oM {W:List (Pl×U)}:nF (.st [.i .i64,.s]) (.agg [.int .i64 r,.str k]) (gn g W) 0=some ((dO (r,k) W).map λq=>(q.1,g q.2)):=by
 show nF tw (gO (r,k)) (gn g W) 0=_
 simp[Oc]
theorem T8 {id:Nat} (hm:m.ok) (cG:I[id]? =some (m.ob g)) (h:m.at p=none):
  wB (some (tw,g z)) I (.mp id) (gO p)= .st (.cy [g z,.int .i64 (m.dZ p:Int)]) (I.set id ((m.mj p z).ob g)):=by
 have:=T4 hm (z:=z) cG p
 grind
theorem xC8 {id:Nat} (hm:m.ok) {v:U} (cG:I[id]? =some (m.ob g)) (h:m.at p=some (i,v)):
  wB (some (tw,g z)) I (.mp id) (gO p)= .ok (.cy [g v,.int .i64 (m.dZ p:Int)]):=by
 have:=T4 hm (z:=z) cG p
 grind
theorem T9 {id:Nat} {m:Mp Int} (hm:m.ok) (h:m.at (r,k)=none) (cG:I[id]? =some (m.ob (V.int .i64))):
  wB (some (.st [.i .i64,.s],.int .i64 0)) I (.mp id) (.agg [.int .i64 r,.str k])= .st (.cy [.int .i64 0,.int .i64 (m.dZ (r,k):Int)]) (I.set id ((m.mj (r,k) 0).ob (V.int .i64))):=T8 (g:=V.int .i64) hm (z:=0) cG h
theorem Ua {id:Nat} {m:Mp Int} {v:Int} (hm:m.ok) (h:m.at (r,k)=some (i,v)) (cG:I[id]? =some (m.ob (V.int .i64))):
  wB (some (.st [.i .i64,.s],.int .i64 0)) I (.mp id) (.agg [.int .i64 r,.str k])= .ok (.cy [.int .i64 v,.int .i64 (m.dZ (r,k):Int)]):=xC8 (g:=V.int .i64) hm (z:=0) cG h
theorem KA {id:Nat} {m:Mp ahP} (hm:m.ok) (h:m.at (r,k)=none) (cG:I[id]? =some (m.ob V.str)):
  wB (some (.st [.i .i64,.s],.str [])) I (.mp id) (.agg [.int .i64 r,.str k])= .st (.cy [.str [],.int .i64 (m.dZ (r,k):Int)]) (I.set id ((m.mj (r,k) []).ob V.str)):=T8 (g:=V.str) hm (z:= []) cG h
theorem Ub {id:Nat} {m:Mp Int} {v:Int} (hm:m.ok) (cG:I[id]? =some ((m.mj p 0).ob (V.int .i64))):
  xP I (.mp id) (.int .i64 (m.dZ p:Int)) (.int .i64 v)= .st .u (I.set id ((m.put p v).ob (V.int .i64))):=T6 (g:=V.int .i64) hm (λ_=>rfl) p cG v
theorem KB {id:Nat} {m:Mp ahP} {v:ahP} (hm:m.ok) (cG:I[id]? =some ((m.mj p []).ob V.str)):
  xP I (.mp id) (.int .i64 (m.dZ p:Int)) (.str v)= .st .u (I.set id ((m.put p v).ob V.str)):=T6 (g:=V.str) hm (λ_=>rfl) p cG v
theorem yA7 {id:Nat} {m:Mp Int} {q:Nat×Int} {v:Int} (hm:m.ok) (h:m.at p=some q) (cG:I[id]? =some (m.ob (V.int .i64))):
  xP I (.mp id) (.int .i64 (m.dZ p:Int)) (.int .i64 v)= .st .u (I.set id ((m.put p v).ob (V.int .i64))):=(by grind[Ub,Mp.tz])
end
end Go.Proofs.YtplackkccmeioaaGreat
