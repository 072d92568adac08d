/-
  Maps whose keys are places, as plain lists: what looking up, laying, striking and running through come to.
  No condition; lemmas for the walks of exec.
-/
import Derived.Test.YtegbonbgofjlcaaGreatMAM
import Derived.Test.YtegbonbgofjlcaaGreatMAK
import Derived.Lib.Bytealg
import Derived.Test.YtegbonbgofjlcaaGreatMAJ
import Derived.Test.YtegbonbgofjlcaaGreatMAF
set_option maxHeartbeats 8000000
namespace Go.Proofs.YtegbonbgofjlcaaGreat
open Go Go.Vx R Go.Proofs.Tryz
set_option maxRecDepth 100000
variable {a:Int}{I:St}
def oF:bL:=⟨[],[],0,0,0,⟨[],[],[],0,0,0⟩⟩
def HG:List fZ->List bJ->Int |c::cs,e::es=>if p7 oF e c.kind≠0then p7 oF e c.kind else HG cs es|_,_=>0
def HH(T:bL)(r:List bJ):Int:=if r.length≠T.cw.length then 9 else HG T.cw r
def HI(T:bL):List (List bJ)->Int |[]=>0|r::l=>if HH T r≠0then HH T r else HI T l
theorem wv9{ρ:Nat->Nat}{g1 g2 g3 g4:Tag}:cW ρ (.agg oF.row) (.agg [.str [],.sl g1 [],.int .i64 0,.int .i64 0,.int .i64 0,.sl g2 [],.sl g3 [],.sl g4 [],.int .i64 0,.int .i64 0,.int .i64 0]):=xM ⟨zF rfl,zY,zF rfl,zF rfl,zF rfl,zY,zY,zY,zF rfl,zF rfl,zF rfl,tV⟩
theorem zk{ρ:Nat->Nat}(e:bJ):cW ρ (.agg e.row) (.agg [.int .i64 e.kind,.str e.s,.int .i64 e.v.kind,.int .i64 e.v.n,.str e.v.s,.sl .ro (e.args.map bJ.row)]):=by rw[bJ.bQ];exact zC rfl
theorem p9(T:bL)(st:bZ)(n:Nat):([.box T.row,.box st.row]:St).all (bS n)=true:=by simp[bS,cV,cR,bL.row,bZ.row]
theorem xD4(T:bL)(_hT:T.cw.length<=1000)(st:bZ)(hs:lq st):Pure prog 168 [.agg T.row,.agg st.row] (.int .i64 (HI T st.rows)):=by
 obtain⟨R,hR⟩:=eX st.rows;obtain⟨aj,ah⟩:=hs.rows;rw[hR]at aj ah;rw[hR];generalize hM:HI T R=M;refine iV 0 func168 ntmps168 results168 λc hc hb=>?_;refine zA ?_;simp[go_sem,hR];refine zG (S:=Nat) [2,3,11,12,13] (λi=>[.ptr 0 0,.ptr 1 0,.sl .ro (R.map λr=>[V.sl .ro (r.map bJ.row)]),.int .i64 R.length,.int .i64 (i:Int)]) (λ_=>[.box T.row,.box st.row]) (λi=>R.length-i) (λi=>i<=R.length/\HI T (R.drop i)=M) hc hb 0 ⟨A5 _,hM⟩ ?_ ?_;.exact bU 2 (by simp[go_sem,hR]) rfl (p9 T st 2) (A5 _) (zD sg rfl)
 rintro i⟨hi,hinv⟩;by_cases q:i<R.length;rotate_left;.rw[A8 om]at hinv;refine zA ?_;simp[go_sem,q];exact fp hinv
 have ei:=zO q om;obtain⟨r,hr⟩:=eX (R[i]);obtain⟨al,ak⟩:=ah r (hr▸A9 q);rw[A4 q,hr,HI]at hinv;by_cases q2:r.length=T.cw.length;rotate_left
 .have ad:((r.length:Int)!=T.cw.length)=true:=by simp;omega
  have ae:HH T r=9:=by unfold HH;rw[alq q2]
  rw[ae,alq dC]at hinv;refine zA ?_;simp[go_sem,q,hr,ad];exact fp hinv
 have ad:((r.length:Int)!=T.cw.length)=false:=by simp;omega
 have ae:HH T r=HG T.cw r:=by unfold HH;rw[alp (λh=>h q2)]
 rw[ae]at hinv;obtain⟨C,hC⟩:=eX (HG T.cw r);rw[hC]at hinv;refine zA ?_;simp[go_sem,q,hr,ad];refine zG (S:=Nat) [2,3,11,12,13,23,24,25] (λk=>[.ptr 0 0,.ptr 1 0,.sl .ro (R.map λr=>[V.sl .ro (r.map bJ.row)]),.int .i64 R.length,.int .i64 (i:Int),.sl .ro (r.map bJ.row),.int .i64 r.length,.int .i64 (k:Int)]) (λ_=>[.box T.row,.box st.row]) (λk=>r.length-k) (λk=>k<=r.length/\HG (T.cw.drop k) (r.drop k)=C) hc hb 0 ⟨A5 _,hC⟩ ?_ ?_;.exact bU 2 (by simp[go_sem,hR]) rfl (p9 T st 2) (A5 _) (zD sg rfl)
 rintro k⟨hk,aa⟩;by_cases qk:k<r.length;rotate_left;.rw[A8 om,A8 om]at aa;have aa:C=0:=aa.symm;rw[alp (λh=>h aa)]at hinv;refine zA ?_;simp[go_sem,qk,ei];exact zH (i+1) ⟨om,⟨om,hinv⟩,aN 2 (p9 T st 2)⟩
 have ek:=zO qk om;have qc:k<T.cw.length:=om;obtain⟨e,he⟩:=eX (r[k]);obtain⟨c1,ai⟩:=eX (T.cw[k]);have hE:=ak e (he▸A9 qk);rw[A4 qk,A4 qc,he,ai,HG]at aa;have ab:=MF oF dC e hE c1.kind;generalize p7 oF e c1.kind=kc at ab aa;refine zA ?_;simp[go_sem,qk,he];refine xV [(8,0)] 3 sM kR kR ?_;simp[go_sem,qc,ai];refine wW ab cB (λ_=>⟨wv9,zk e,zC rfl,tV⟩) rfl ?_;simp[go_sem];by_cases qe:kc=0;.have af:(kc !=0)=false:=sU qe;rw[alp (λh=>h qe)]at aa;simp[go_sem,af,ek];exact zH (k+1) ⟨om,⟨om,aa⟩,aN 2 (p9 T st 2)⟩
 .have af:(kc !=0)=true:=sU qe;rw[alq qe]at aa;rw[alq (by rw[<-aa];exact qe)]at hinv;simp[go_sem,af];exact fp (aa.trans hinv)
def po(T:bL):List cy->List cy->Int
 |_,[]=>0|p,x::l=>if dg T x.name<0then 14 else if dg T x.name=T.key\/(dg T x.name=0/\T.place=0)then 18 else if(p.any λy=>y.name==x.name)=true then 9 else if p7 T x.e (lz T (dg T x.name))≠0then p7 T x.e (lz T (dg T x.name))else po T (p++[x]) l
theorem oG(x:cy):bS 0 (.box x.row)=true:=by simp[bS,cV,cR,cy.row]
theorem xm3(x y:cy):bN prog 244 [.agg y.row,.ptr 0 0] [.box x.row] (λr I=>r=.bool (y.name==x.name)/\I=[.box x.row]):=by refine iW 1 func244 ntmps244 results244 λc hc hb=>zM ?_;simp[go_sem];exact yW 1 rfl rfl (by simp[bS,cV,cR]) (A7 _) (zC rfl) ⟨rfl,rfl⟩
theorem wx8(x:cy)(l:List cy)(hl:l.length<=12):bN prog 317 [.sl .ro (l.map cy.row),.fn 244 [.ptr 0 0]] [.box x.row] (λr I=>r=.int .i64 (wB (λy=>y.name==x.name) l 0)/\I=[.box x.row]):=by
 generalize hM:wB (λy:cy=>y.name==x.name) l 0=M;have ret:∀(r:Int)(I:St),r=M->cz (some (.int .i64 r)) 1 (λr s=>r=.int .i64 M/\s=[.box x.row]) (.box x.row::I):=λr I h=>by subst h;exact yW 1 rfl rfl (by simp[bS,cV,cR,cy.row]) (A7 _) (zC rfl) ⟨rfl,rfl⟩
 refine iV 1 func317 ntmps317 results317 λc hc hb=>?_;refine zA ?_;simp[go_sem];refine zG (S:=Nat) [0,1,6,7,8] (λi=>[.sl .ro (l.map cy.row),.fn 244 [.ptr 0 0],.sl .ro (l.map cy.row),.int .i64 l.length,.int .i64 (i:Int)]) (λ_=>[.box x.row]) (λi=>l.length-i) (λi=>i<=l.length/\wB (λy=>y.name==x.name) (l.drop i) i=M) hc hb 0 ⟨A5 _,hM⟩ ?_ ?_;.exact aN 1 (by simp[bS,cV,cR,cy.row])
 rintro i⟨hi,hinv⟩;by_cases q:i<l.length;rotate_left;.rw[A8 om]at hinv;refine zA ?_;simp[go_sem,q];exact ret _ _ hinv
 have ei:=zO q om;obtain⟨y,hy⟩:=eX (l[i]);rw[A4 q,hy,wB]at hinv;have aa:=xm3 x y;generalize(y.name==x.name)=b at aa hinv;refine zA ?_;simp[go_sem,q,hy];refine mY 0 aa cB rfl (oG x) ⟨zC rfl,.inl rfl,tV⟩ (λr I h=>⟨_,h.2,oG x⟩) ?_;rintro r o2⟨rfl,h2⟩;obtain rfl:o2=.box x.row:=sU h2;refine(A6 b).elim (λp=>?_) (λp=>?_);.rw[alq p]at hinv;simp[go_sem,p];exact ret _ _ hinv
 .rw[alp (by rw[p];decide)]at hinv;simp[go_sem,p,ei];exact zH (i+1) ⟨om,⟨om,hinv⟩,aN 1 (by simp[bS,cV,cR])⟩
theorem wx2(x:cy)(l:List cy)(hl:l.length<=12):bN prog 243 [.sl .ro (l.map cy.row),.fn 244 [.ptr 0 0]] [.box x.row] (λr I=>r=.bool (l.any λy=>y.name==x.name)/\I=[.box x.row]):=by have h:=wx8 x l hl;have hg:=FX (λy:cy=>y.name==x.name) l 0;rw[<-hg];generalize wB (λy:cy=>y.name==x.name) l 0=n at h⊢;refine iW 1 func243 ntmps243 results243 λc hc hb=>zM ?_;simp[go_sem];refine mY 0 h cB rfl (oG x) ⟨zC rfl,.inl (by simp[dL,dQ,du,dv,cO]),tV⟩ (λr I h=>⟨_,h.2,oG x⟩) ?_;rintro r o2⟨rfl,h2⟩;obtain rfl:o2=.box x.row:=sU h2;simp[go_sem];exact yW 1 rfl rfl (by simp[bS,cV,cR]) (A7 _) (zC rfl) ⟨rfl,rfl⟩
theorem wo3(T:bL)(hT:T.cw.length<=1000)(st:bZ)(hs:lq st):Pure prog 169 [.agg T.row,.agg st.row] (.int .i64 (po T [] st.cJ)):=by
 obtain⟨L,hL⟩:=eX st.cJ;obtain⟨an,al⟩:=hs.cJ;rw[hL]at an al;rw[hL];generalize hM:po T [] L=M;refine iV 0 func169 ntmps169 results169 λc hc hb=>?_;refine zA ?_;simp[go_sem,hL];refine zG (S:=Nat) [2,3,10,11,12] (λi=>[.ptr 0 0,.ptr 1 0,.sl .ro (L.map cy.row),.int .i64 L.length,.int .i64 (i:Int)]) (λ_=>[.box T.row,.box st.row]) (λi=>L.length-i) (λi=>i<=L.length/\po T (L.take i) (L.drop i)=M) hc hb 0 ⟨A5 _,hM⟩ ?_ ?_;.exact bU 2 (by simp[go_sem,hL]) rfl (p9 T st 2) (A5 _) (zD sg rfl)
 rintro i⟨hi,hinv⟩;by_cases q:i<L.length;rotate_left;.rw[A8 om,po]at hinv;refine zA ?_;simp[go_sem,q];exact fp hinv
 have ei:=zO q om;obtain⟨x,hx⟩:=eX (L[i]);obtain⟨ar,hE⟩:=al x (hx▸A9 q);have aa:=HA T x.name (by unfold maxLen;omega);rw[show xW (λc:fZ=>c.name==x.name) T.cw 0=dg T x.name from rfl]at aa;have ah:=wx2 x (L.take i) (by simp;omega);have ao:L.take (i+1)=L.take i++[x]:=by rw[Cu,A0 q,hx];rfl
 rw[A4 q,hx,po,<-ao]at hinv;generalize((L.take i).any λy=>y.name==x.name)=b at ah hinv;by_cases qc:dg T x.name<0;.have ae:decide (dg T x.name<0)=true:=als qc;rw[alq qc]at hinv;refine zA ?_;simp[go_sem,q,hx];refine zL aa cB (zR sg rfl) rfl ?_;simp[go_sem,ae];exact fp hinv
 have ae:decide (dg T x.name<0)=false:=alr qc;rw[alp qc]at hinv;obtain⟨j,hj,aj⟩:=MB T x.name qc;obtain⟨C,hC⟩:=eX (T.cw[j]);have aq:lz T (dg T x.name)=C.kind:=by unfold lz;rw[hj,Ay,A0 aj,hC];rfl
 rw[aq]at hinv;have ab:=MF T (by unfold maxLen;omega) x.e hE C.kind;generalize p7 T x.e C.kind=kc at ab hinv;rw[hj]at aa hinv ae;by_cases qk:(j:Int)=T.key\/((j:Int)=0/\T.place=0)
 .rw[alq qk]at hinv;refine zA ?_;simp[go_sem,q,hx];refine zL aa cB (zR sg rfl) rfl ?_;simp[go_sem,ae];by_cases k1:(j:Int)=T.key;.have af:((j:Int)==T.key)=true:=sU k1;simp[go_sem,af];exact fp hinv
  .have af:((j:Int)==T.key)=false:=sU k1;obtain⟨k2,k3⟩:=qk.resolve_left k1;have ai:((j:Int)==0)=true:=sU k2;have ak:(T.place==0)=true:=sU k3;simp[go_sem,af,ai,ak];exact fp hinv
 rw[alp qk]at hinv;have af:((j:Int)==T.key)=false:=by simpa usingλh=>qk (.inl h)
 have key:((j:Int)==0)=false\/(((j:Int)==0)=true/\(T.place==0)=false):=by
  by_cases k2:(j:Int)=0;.exact .inr ⟨by simpa using k2,by simpa usingλh=>qk (.inr ⟨k2,h⟩)⟩
  .exact .inl (sU k2)
 refine key.elim (λai=>?_) (λ⟨ai,ak⟩=>?_)
 .refine zA ?_;simp[go_sem,q,hx];refine zL aa cB (zR sg rfl) rfl ?_;simp[go_sem,ae,af,ai,hL];refine zJ ⟨hi,lK λ_=>rfl⟩ ?_;simp[go_sem,<-List.map_take];refine mY 2 ah cB rfl (oG x) ⟨zK,.inl (by simp[dL,dQ,du,dv,cO]),tV⟩ (λr I h=>⟨_,h.2,oG x⟩) ?_;rintro r o2⟨rfl,h2⟩;obtain rfl:o2=.box x.row:=sU h2;refine(A6 b).elim (λp=>?_) (λp=>?_);.rw[alq p]at hinv;simp[go_sem,p];exact fp hinv
  rw[alp (by rw[p];decide)]at hinv;simp[go_sem,p];refine xV [(9,0)] 3 sM kR kR ?_;simp[go_sem,aj,hC];refine wW ab cB (λ_=>⟨zC rfl,zk x.e,zC rfl,tV⟩) rfl ?_;simp[go_sem];by_cases qe:kc=0;.have ad:(kc !=0)=false:=sU qe;rw[alp (λh=>h qe)]at hinv;simp[go_sem,ad,ei];exact zH (i+1) ⟨om,⟨om,hinv⟩,bU 2 (by simp[go_sem,hL]) rfl (p9 T st 2) (A5 _) (zD sg rfl)⟩
  .have ad:(kc !=0)=true:=sU qe;rw[alq qe]at hinv;simp[go_sem,ad];exact fp hinv
 .refine zA ?_;simp[go_sem,q,hx];refine zL aa cB (zR sg rfl) rfl ?_;simp[go_sem,ae,af,ai,ak,hL];refine zJ ⟨hi,lK λ_=>rfl⟩ ?_;simp[go_sem,<-List.map_take];refine mY 2 ah cB rfl (oG x) ⟨zK,.inl (by simp[dL,dQ,du,dv,cO]),tV⟩ (λr I h=>⟨_,h.2,oG x⟩) ?_;rintro r o2⟨rfl,h2⟩;obtain rfl:o2=.box x.row:=sU h2;refine(A6 b).elim (λp=>?_) (λp=>?_);.rw[alq p]at hinv;simp[go_sem,p];exact fp hinv
  rw[alp (by rw[p];decide)]at hinv;simp[go_sem,p];refine xV [(9,0)] 3 sM kR kR ?_;simp[go_sem,aj,hC];refine wW ab cB (λ_=>⟨zC rfl,zk x.e,zC rfl,tV⟩) rfl ?_;simp[go_sem];by_cases qe:kc=0;.have ad:(kc !=0)=false:=sU qe;rw[alp (λh=>h qe)]at hinv;simp[go_sem,ad,ei];exact zH (i+1) ⟨om,⟨om,hinv⟩,bU 2 (by simp[go_sem,hL]) rfl (p9 T st 2) (A5 _) (zD sg rfl)⟩
  .have ad:(kc !=0)=true:=sU qe;rw[alq qe]at hinv;simp[go_sem,ad];exact fp hinv
def sv(st:bZ):Int:=match bO[(xO st.table).toNat]?with |none=>14|some T=>if xO st.table<0then 14 else if st.kind=1then MG T st else if st.kind=2then HI T st.rows else if st.kind=3then(if po T [] st.cJ≠0then po T [] st.cJ else DQ T st)else DQ T st
theorem xO2(st:bZ)(hs:lq st):Pure prog 103 [dW bO,.agg st.row] (.int .i64 (sv st)):=by
 have ad:=Qh bO st.table dC;rw[show xW (λt:bL=>t.name==st.table) bO 0=xO st.table from rfl]at ad;generalize hM:sv st=M;unfold sv at hM;have an:=MJ st.table;generalize xO st.table=t at ad an hM;refine iW 0 func103 ntmps103 results103 λc hc hb=>zM ?_;simp[go_sem,dW];refine zL ad cB (zR (by simp[go_sem,dW]) rfl) rfl ?_;simp[go_sem];by_cases ai:t=-1
 .have hM:14=M:=by rw[<-hM,ai];rfl
  subst ai;simp[go_sem];exact fp hM
 have aj:¬t<0:=om;have ak:decide (t<0)=false:=alr aj;obtain⟨j,rfl⟩:∃j:Nat,t=j:=⟨t.toNat,om⟩;have ae:j<bO.length:=by show j<3;omega
 obtain⟨T,hT⟩:=eX (bO[j]);have al:T.cw.length<=1000:=by rw[<-hT];match j,ae with |0,_=>exact(by decide:zi.cw.length<=1000)|1,_=>exact(by decide:FR.cw.length<=1000)|2,_=>exact(by decide:FT.cw.length<=1000)
 simp only[Ay,A0 ae,hT]at hM;rw[alp aj]at hM;have h1:=xO4 T (by unfold maxLen;omega) st hs;have h2:=xD4 T al st hs;have h3:=wo3 T al st hs;have h4:=VL T (by unfold maxLen;omega) st hs;simp[go_sem,ak,ae,hT];by_cases k1:st.kind=1;.have aa:(st.kind==1)=true:=sU k1;rw[alq k1]at hM;simp[go_sem,aa];refine zL h1 cB (zR sg rfl) rfl ?_;simp[go_sem];exact fp hM
 have aa:(st.kind==1)=false:=sU k1;rw[alp k1]at hM;by_cases k2:st.kind=2;.have ab:(st.kind==2)=true:=sU k2;rw[alq k2]at hM;simp[go_sem,aa,ab];refine zL h2 cB (zR sg rfl) rfl ?_;simp[go_sem];exact fp hM
 have ab:(st.kind==2)=false:=sU k2;rw[alp k2]at hM;by_cases k3:st.kind=3
 .have af:(st.kind==3)=true:=sU k3;rw[alq k3]at hM;generalize po T [] st.cJ=sc at h3 hM;simp[go_sem,aa,ab,af];refine zL h3 cB (zR sg rfl) rfl ?_;by_cases qe:sc=0;.have ah:(sc !=0)=false:=sU qe;rw[alp (λh=>h qe)]at hM;simp[go_sem,ah];refine zL h4 cB (zR sg rfl) rfl ?_;simp[go_sem];exact fp hM
  .have ah:(sc !=0)=true:=sU qe;rw[alq qe]at hM;simp[go_sem,ah];exact fp hM
 have af:(st.kind==3)=false:=sU k3;rw[alp k3]at hM;simp[go_sem,aa,ab,af];refine zL h4 cB (zR sg rfl) rfl ?_;simp[go_sem];exact fp hM
def FY(mode:Int):List bZ->Nat->Int×Int |[],_=>(0,0)|x::l,i=>if mode≠0/\x.kind≠1then((i:Int),1)else if sv x≠0then((i:Int),sv x)else FY mode l (i+1)
def pq(l:eF):Int×Int:=if nq l=true then FY l.mode l.stmts 0 else(0,9)
theorem V8(l:eF)(hl:lr l):Pure prog 38 [dW bO,.agg l.row] (wO (pq l)):=by
 have ad:=xK0 l hl;obtain⟨L,hL⟩:=eX l.stmts;obtain⟨ah,af⟩:=hl.stmts;rw[hL]at ah af;obtain⟨m,hm⟩:=eX l.mode;generalize hM:pq l=M;unfold pq at hM;rw[hL,hm]at hM;generalize nq l=b at ad hM;refine iV 0 func38 ntmps38 results38 λc hc hb=>?_;refine zA ?_;simp[go_sem,dW];refine zL ad cB (zR sg rfl) rfl ?_;refine(A6 b).elim (λp=>?_) (λp=>?_);rotate_left;.rw[alp (by rw[p];decide)]at hM;simp[go_sem,p];exact FW hM
 rw[alq p]at hM;simp[go_sem,p,hL];refine zG (S:=Nat) [2,3,13,14,15] (λi=>[.ptr 0 0,.ptr 1 0,.sl .ro (L.map bZ.row),.int .i64 L.length,.int .i64 (i:Int)]) (λ_=>[.box [.sl .ro xN,.sl .ro (bO.map bL.row)],.box l.row]) (λi=>L.length-i) (λi=>i<=L.length/\FY m (L.drop i) i=M) hc hb 0 ⟨A5 _,hM⟩ ?_ ?_;.exact bU 2 (by simp[go_sem,hL]) rfl (by simp[bS,cV,cR,eF.row]) (A5 _) (zD sg rfl)
 rintro i⟨hi,hinv⟩;by_cases q:i<L.length;rotate_left;.rw[A8 om,FY]at hinv;refine zA ?_;simp[go_sem,q];exact FW hinv
 have ei:=zO q om;obtain⟨st,ae⟩:=eX (L[i]);have aa:=xO2 st (af st (ae▸A9 q));rw[A4 q,ae,FY]at hinv;generalize sv st=ce at aa hinv;refine zA ?_;simp[go_sem,q,ae,hm];by_cases q1:m≠0/\st.kind≠1;.rw[alq q1]at hinv;have ai:(m !=0)=true:=sU q1.1;have aj:(st.kind !=1)=true:=sU q1.2;simp[go_sem,ai,aj];exact FW hinv
 rw[alp q1]at hinv;have key:(m !=0)=false\/((m !=0)=true/\(st.kind !=1)=false):=by
  by_cases h:m=0;.exact .inl (sU h)
  .refine .inr ⟨by simpa using h,?_⟩;simp only[bne_eq_false_iff_eq];exact Classical.byContradiction λg=>q1 ⟨h,g⟩
 refine key.elim (λa1=>?_) (λ⟨a1,a2⟩=>?_)
 .simp[go_sem,a1];refine zL aa cB (zR (by simp[go_sem,dW]) rfl) rfl ?_;by_cases qe:ce=0;.have ab:(ce !=0)=false:=sU qe;rw[alp (λh=>h qe)]at hinv;simp[go_sem,ab,ei];exact zH (i+1) ⟨om,⟨om,hinv⟩,bU 2 (by simp[go_sem,hL,hm]) rfl (by simp[bS,cV,cR]) (A5 _) (zD sg rfl)⟩
  .have ab:(ce !=0)=true:=sU qe;rw[alq qe]at hinv;simp[go_sem,ab];exact FW hinv
 .simp[go_sem,a1,a2];refine zL aa cB (zR (by simp[go_sem,dW]) rfl) rfl ?_;by_cases qe:ce=0;.have ab:(ce !=0)=false:=sU qe;rw[alp (λh=>h qe)]at hinv;simp[go_sem,ab,ei];exact zH (i+1) ⟨om,⟨om,hinv⟩,bU 2 (by simp[go_sem,hL,hm]) rfl (by simp[bS,cV,cR]) (A5 _) (zD sg rfl)⟩
  .have ab:(ce !=0)=true:=sU qe;rw[alq qe]at hinv;simp[go_sem,ab];exact FW hinv
abbrev gO(n:Int):Prop:=-9223372036854775808<=n/\n<=9223372036854775807
def fQ(n:Int):Int×Int:=if gO n then(n,0)else(0,5)
theorem xb{n:Int}(h:gO n):IntKind.i64.wrap n=n:=Vx.bX h.1 h.2
theorem Qs(a b:Int)(ha:gO a)(aa:gO b):Pure prog 392 [.int .i64 a,.int .i64 b] (wO (fQ (a+b))):=by
 generalize hM:fQ (a+b)=M;unfold fQ at hM;have q:(0<b/\decide (0<b)=true/\decide (b<0)=false)\/(b<0/\decide (0<b)=false/\decide (b<0)=true)\/(b=0/\decide (0<b)=false/\decide (b<0)=false):=by simp only[alw,aly];omega
 unfold gO at ha aa hM;refine iW 0 func392 ntmps392 results392 λc hc hb=>zM ?_;rcases q with⟨q,q1,q2⟩|⟨q,q1,q2⟩|⟨q,q1,q2⟩
 .have w1:IntKind.i64.wrap (9223372036854775807-b)=9223372036854775807-b:=xb ⟨om,om⟩;by_cases r:9223372036854775807-b<a;.have r':decide (9223372036854775807-b<a)=true:=als r;simp[go_sem,q1,w1,r'];exact nM (by rw[<-hM,alp om])
  .have r':decide (9223372036854775807-b<a)=false:=alr r;have w2:IntKind.i64.wrap (a+b)=a+b:=xb ⟨om,om⟩;simp[go_sem,q1,q2,w1,r',w2];exact nM (by rw[<-hM,alq om])
 .have w1:IntKind.i64.wrap (-9223372036854775808-b)=-9223372036854775808-b:=xb ⟨om,om⟩;by_cases r:a< -9223372036854775808-b;.have r':decide (a< -9223372036854775808-b)=true:=als r;simp[go_sem,q1,q2,w1,r'];exact nM (by rw[<-hM,alp om])
  .have r':decide (a< -9223372036854775808-b)=false:=alr r;have w2:IntKind.i64.wrap (a+b)=a+b:=xb ⟨om,om⟩;simp[go_sem,q1,q2,w1,r',w2];exact nM (by rw[<-hM,alq om])
 .have w2:IntKind.i64.wrap (a+b)=a+b:=xb ⟨om,om⟩;simp[go_sem,q1,q2,w2];exact nM (by rw[<-hM,alq om])
theorem Qt(x:Nat)(hx:x<18446744073709551616):jF .and .u64 (x:Int) 4294967295=((x%4294967296:Nat):Int):=by
 unfold jF;have h1:(BitVec.ofInt IntKind.u64.bits (x:Int)).toNat=x:=by rw[BitVec.toNat_ofInt];show((x:Int)%(18446744073709551616:Nat)).toNat=x;omega
 have h2:(BitVec.ofInt IntKind.u64.bits 4294967295).toNat=4294967295:=dC;simp only[BitVec.toNat_and,h1,h2];have h3:=Nat.and_two_pow_sub_one_eq_mod x 32;have h4:(2:Nat)^32-1=4294967295:=dC;have h5:(2:Nat)^32=4294967296:=dC;rw[h4,h5]at h3;rw[h3];exact Vx.dp om om
theorem JM(x:Nat):(x:Int).fdiv 4294967296=((x/4294967296:Nat):Int):=by rw[Dt _ dC];rfl
theorem wH3(n:Nat):IntKind.u64.wrap (n:Int)=((n%18446744073709551616:Nat):Int):=by unfold IntKind.wrap;simp[IntKind.bits,IntKind.signed]
theorem oH{n:Nat}(h:n<18446744073709551616):IntKind.u64.wrap (n:Int)=(n:Int):=Vx.dp om om
theorem xG1(a b c d:Nat)(ha:a<4294967296)(hb:b<4294967296)(hc:c<4294967296)(hd:d<4294967296):a*d<=18446744065119617025/\b*c<=18446744065119617025/\a*c<=18446744065119617025/\b*d<=18446744065119617025/\(a*4294967296+b)*(c*4294967296+d)=(a*c)*18446744073709551616+(a*d)*4294967296+(b*c)*4294967296+b*d:=by
 have m:∀x y:Nat,x<4294967296->y<4294967296->x*y<=18446744065119617025:=λx y hx hy=>by have:=Nat.mul_le_mul (show x<=4294967295by omega) (show y<=4294967295by omega);simpa using this
 refine⟨m _ _ ha hd,m _ _ hb hc,m _ _ ha hc,m _ _ hb hd,?_⟩;rw[B5,Nat.mul_add,Nat.mul_add];have e1:a*4294967296*(c*4294967296)=(a*c)*18446744073709551616:=by rw[Nat.mul_mul_mul_comm]
 have e2:a*4294967296*d=(a*d)*4294967296:=by rw[Nat.mul_right_comm]
 have e3:b*(c*4294967296)=(b*c)*4294967296:=by rw[Nat.mul_assoc]
 rw[e1,e2,e3];omega
theorem zl(x y:Nat):(x:Int)*(y:Int)=((x*y:Nat):Int):=sM
theorem ML(x y:Nat):(x:Int)+(y:Int)=((x+y:Nat):Int):=sM
theorem wg1(x y:Nat)(hx:x<18446744073709551616)(hy:y<18446744073709551616):Pure prog 459 [.int .u64 x,.int .u64 y] (.cC [.int .u64 ((x*y/18446744073709551616:Nat):Int),.int .u64 ((x*y%18446744073709551616:Nat):Int)]):=by
 obtain⟨m1,m2,m3,m4,m5⟩:=xG1 (x/4294967296) (x%4294967296) (y/4294967296) (y%4294967296) om om om om;have ex:x/4294967296*4294967296+x%4294967296=x:=Nat.div_add_mod' x 4294967296;have ey:y/4294967296*4294967296+y%4294967296=y:=Nat.div_add_mod' y 4294967296;rw[ex,ey]at m5;have a1:=Qt x hx;have a2:=Qt y hy;have a3:=JM x;have a4:=JM y;generalize aa:x/4294967296=x1 at*;generalize ab:x%4294967296=x0 at*;generalize ad:y/4294967296=y1 at*;generalize ae:y%4294967296=y0 at*;obtain⟨p,hp⟩:∃p,p=x1*y1:=⟨_,rfl⟩;obtain⟨q,hq⟩:∃q,q=x1*y0:=⟨_,rfl⟩;obtain⟨r,hr⟩:∃r,r=x0*y1:=⟨_,rfl⟩;obtain⟨s,hs⟩:∃s,s=x0*y0:=⟨_,rfl⟩;rw[<-hq]at m1 m5;rw[<-hr]at m2 m5;rw[<-hp]at m3 m5;rw[<-hs]at m4 m5;refine iW 0 func459 ntmps459 results459 λc hc hb=>zM ?_;simp[go_sem,a1,a2,a3,a4];refine zQ (zC rfl) ⟨?_,rfl⟩;rw[zl x1 y1,<-hp,zl x1 y0,<-hq,zl x0 y1,<-hr,zl x0 y0,<-hs,oH (n:=s) om,oH (n:=p) om,oH (n:=q) om,oH (n:=r) om,JM s,ML,oH (n:=q+s/4294967296) om,JM,Qt _ om,ML,ML,oH (n:=p+(q+s/4294967296)/4294967296) om,oH (n:=(q+s/4294967296)%4294967296+r) om,JM,ML,oH om,zl,wH3];have e:p+(q+s/4294967296)/4294967296+((q+s/4294967296)%4294967296+r)/4294967296=x*y/18446744073709551616:=by rw[m5];omega
 rw[e];rfl
theorem wf1(h:a<0)(h2:-9223372036854775808<=a):IntKind.u64.wrap (-IntKind.u64.wrap a)=(a.natAbs:Int):=by
 have e:IntKind.u64.wrap a=a+18446744073709551616:=by unfold IntKind.wrap;simp[IntKind.bits,IntKind.signed];omega
 rw[e];unfold IntKind.wrap;simp[IntKind.bits,IntKind.signed];omega
theorem V9(a:Int)(ha:gO a):Pure prog 460 [.int .i64 a] (.int .u64 (a.natAbs:Int)):=by
 unfold gO at ha;refine iW 0 func460 ntmps460 results460 λc hc hb=>zM ?_;simp[go_sem];by_cases q:a<0;.have q1:decide (a<0)=true:=als q;simp[go_sem,q1];refine zQ (zC rfl) ⟨?_,rfl⟩;rw[wf1 q ha.1]
 .have q1:decide (a<0)=false:=alr q;simp[go_sem,q1];refine zQ (zC rfl) ⟨?_,rfl⟩;rw[Vx.dp om om];congr 1;omega
def FZ(a b:Int):Nat:=if decide (a<0)=decide (b<0)then 9223372036854775807 else 9223372036854775808
theorem wz0(a b:Int):gO (a*b)↔a.natAbs*b.natAbs<=FZ a b:=by
 obtain⟨n,hn⟩:=Int.eq_nat_or_neg a;obtain⟨m,hm⟩:=Int.eq_nat_or_neg b;have e:a.natAbs=n/\b.natAbs=m:=⟨om,om⟩;rw[e.1,e.2];have z1:n=0->n*m=0:=λh=>by subst h;exact D0 m
 have z2:m=0->n*m=0:=λh=>by subst h;exact Nat.mul_zero n
 unfold FZ gO;rcases hn with rfl|rfl<;>rcases hm with rfl|rfl;.rw[zl,alr om,alr om,alq rfl];generalize n*m=p at*;omega
 .rw[Int.mul_neg,zl];generalize n*m=p at*;rw[alr om];by_cases q:-(m:Int)<0;.rw[als q,alp sM];omega
  .rw[alr q,alq rfl];have:=z2 om;omega
 .rw[Int.neg_mul,zl];generalize n*m=p at*;rw[alr (p:=(m:Int)<0) om];by_cases q:-(n:Int)<0;.rw[als q,alp sM];omega
  .rw[alr q,alq rfl];have:=z1 om;omega
 .rw[Int.neg_mul_neg,zl];generalize n*m=p at*;by_cases q:-(n:Int)<0<;>by_cases q2:-(m:Int)<0;.rw[als q,als q2,alq rfl];omega
  .have:=z2 om;rw[als q,alr q2,alp sM];omega
  .have:=z1 om;rw[alr q,als q2,alp sM];omega
  .have:=z1 om;rw[alr q,alr q2,alq rfl];omega
theorem wy9(a b:Int):((!(decide (a<0)==decide (b<0)))=true->FZ a b=9223372036854775808)/\((!(decide (a<0)==decide (b<0)))=false->FZ a b=9223372036854775807):=by unfold FZ;generalize decide (a<0)=x;generalize decide (b<0)=y;cases x<;>cases y<;>simp
theorem wD2(a b:Int)(ha:gO a)(ab:gO b):Pure prog 452 [.int .i64 a,.int .i64 b] (wO (fQ (a*b))):=by
 have af:=V9 a ha;have ah:=V9 b ab;have ad:a.natAbs<18446744073709551616/\b.natAbs<18446744073709551616:=by unfold gO at ha ab;omega
 have hm:=wg1 a.natAbs b.natAbs ad.1 ad.2;have cZ:=wz0 a b;have ai:FZ a b<=9223372036854775808:=by unfold FZ;split<;>omega
 have ae:=wy9 a b;generalize hP:a.natAbs*b.natAbs=p at*;have aj:p/18446744073709551616*18446744073709551616+p%18446744073709551616=p:=Nat.div_add_mod' _ _;have ak:p%18446744073709551616<18446744073709551616:=Cw _ dC;generalize p/18446744073709551616=hi at*;generalize p%18446744073709551616=lo at*;generalize hM:fQ (a*b)=M;unfold fQ at hM;refine iW 0 func452 ntmps452 results452 λc hc hb=>zM ?_;simp[go_sem];refine pC af ?_;simp[go_sem];refine pC ah ?_;simp[go_sem];refine pC hm ?_;simp[go_sem];have u1:IntKind.u64.wrap 9223372036854775808=9223372036854775808:=dC;refine zX (λv2=>?_) (λv2=>?_)
 .rw[ae.1 v2]at cZ;by_cases q:p<=9223372036854775808;.have f1:decide (0<hi)=false:=alr om;have f3:decide ((9223372036854775808:Int)<(lo:Int))=false:=alr om;have w:=xb (cZ.2 q);simp[go_sem,f1,f3,w,u1];exact nM (by rw[<-hM,alq (cZ.2 q)])
  .have aa:¬gO (a*b):=λh=>q (cZ.1 h);have f4:decide (0<hi)=true\/(decide (0<hi)=false/\decide ((9223372036854775808:Int)<(lo:Int))=true):=by simp only[alw,aly];omega
   rcases f4 with f4|⟨f4,f5⟩;.simp[go_sem,f4];exact nM (by rw[<-hM,alp aa])
   .simp[go_sem,f4,f5,u1];exact nM (by rw[<-hM,alp aa])
 .rw[ae.2 v2]at cZ;by_cases q:p<=9223372036854775807;.have f1:decide (0<hi)=false:=alr om;have f3:decide ((9223372036854775807:Int)<(lo:Int))=false:=alr om;have w:=xb (cZ.2 q);simp[go_sem,f1,f3,w];exact nM (by rw[<-hM,alq (cZ.2 q)])
  .have aa:¬gO (a*b):=λh=>q (cZ.1 h);have f4:decide (0<hi)=true\/(decide (0<hi)=false/\decide ((9223372036854775807:Int)<(lo:Int))=true):=by simp only[alw,aly];omega
   rcases f4 with f4|⟨f4,f5⟩;.simp[go_sem,f4];exact nM (by rw[<-hM,alp aa])
   .simp[go_sem,f4,f5];exact nM (by rw[<-hM,alp aa])
theorem Qu(a b:Int)(ha:gO a)(ab:gO b):Pure prog 435 [.int .i64 a,.int .i64 b] (wO (fQ (a-b))):=by
 by_cases q:b=-9223372036854775808
 .generalize hM:fQ (a-b)=M;unfold fQ at hM;unfold gO at ha;have q1:(b !=-9223372036854775808)=false:=sU q;refine iW 0 func435 ntmps435 results435 λc hc hb=>zM ?_;simp[go_sem,q1];by_cases r:0<=a;.have r1:decide (0<=a)=true:=als r;simp[go_sem,r1];exact nM (by rw[<-hM,alp om])
  .have r1:decide (0<=a)=false:=alr r;have w:IntKind.i64.wrap (a-b)=a-b:=xb ⟨om,om⟩;simp[go_sem,r1,w];exact nM (by rw[<-hM,alq (by unfold gO;omega)])
 .have hn:gO (-b):=by unfold gO at*;omega
  have w:IntKind.i64.wrap (-b)=-b:=xb hn;have q1:(b !=-9223372036854775808)=true:=sU q;have aa:=Qs a (-b) ha hn;have e:a+-b=a-b:=om;rw[e]at aa;generalize fQ (a-b)=M at*;refine iW 0 func435 ntmps435 results435 λc hc hb=>zM ?_;simp[go_sem,q1,w];refine pC aa ?_;simp[go_sem,wO];exact wR
def DR(s:alW)(a b:Int):Int×Int:=if s=[43]then fQ (a+b)else if s=[45]then fQ (a-b)else if s=[42]then fQ (a*b)else if b=0then(0,17)else if s=[37]then(a.tmod b,0)else fQ (a.tdiv b)
theorem wp6{b:Int}(ha:gO a)(hb:gO b):gO (a.tmod b):=by
 unfold gO at*;by_cases q:b=0;.subst q;rw[Int.tmod_zero];exact ha
 .have h2:(a.tmod b).natAbs=a.natAbs%b.natAbs:=Int.natAbs_tmod a b;have h3:a.natAbs%b.natAbs<=a.natAbs:=Nat.mod_le _ _;have h4:(a.tmod b).natAbs<b.natAbs:=by rw[h2];exact Cw _ om
  omega
theorem wp4{b:Int}(ha:gO a)(_hb:gO b)(h:b≠-1):gO (a.tdiv b):=by
 unfold gO at*;have h2:(a.tdiv b).natAbs=a.natAbs/b.natAbs:=Int.natAbs_tdiv a b;by_cases q:b.natAbs<=1
 .have:b=0\/b=1:=om;rcases this with rfl|rfl;.rw[Int.tdiv_zero];omega
  .rw[Int.tdiv_one];exact ha
 .have h3:a.natAbs/b.natAbs<=a.natAbs/2:=Nat.div_le_div_left om om;omega
theorem xZ0(s:alW)(a b:Int)(ha:gO a)(aa:gO b):Pure prog 437 [.str s,.int .i64 a,.int .i64 b] (wO (DR s a b)):=by
 have c1:=Qs a b ha aa;have c2:=Qu a b ha aa;have c3:=wD2 a b ha aa;have c4:=Qu 0 a dC ha;have e4:fQ (0-a)=fQ (-a):=by congr 1;omega
 rw[e4]at c4;have wr:∀{x:Int×Int}{M:Int×Int}{I:St},x=M->cz (some (.cC [.int .i64 x.1,.int .i64 x.2])) 0 (λv s=>v=wO M/\s=[]) I:=λh=>nM h.symm;generalize hM:DR s a b=M;unfold DR at hM;refine iW 0 func437 ntmps437 results437 λc hc hb=>zM ?_;simp[go_sem];by_cases s1:s=[43];.simp only[s1,alq]at hM;simp[go_sem,s1];refine pC c1 ?_;simp[go_sem,wO];exact wr hM
 by_cases s2:s=[45];.rw[alp s1,alq s2]at hM;simp[go_sem,s2];refine pC c2 ?_;simp[go_sem,wO];exact wr hM
 by_cases s3:s=[42];.rw[alp s1,alp s2,alq s3]at hM;simp[go_sem,s3];refine pC c3 ?_;simp[go_sem,wO];exact wr hM
 rw[alp s1,alp s2,alp s3]at hM;have af:(s==[43])=false:=sU s1;have ah:(s==[45])=false:=sU s2;have ai:(s==[42])=false:=sU s3;simp[go_sem,af,ah,ai];by_cases b0:b=0;.rw[alq b0]at hM;have ab:(b==0)=true:=sU b0;simp[go_sem,ab];exact nM hM.symm
 rw[alp b0]at hM;have ab:(b==0)=false:=sU b0;simp[go_sem,ab];by_cases s4:s=[37];.rw[alq s4]at hM;have ad:(s==[37])=true:=sU s4;simp[go_sem,ad];refine zJ b0 ?_;simp[go_sem];exact nM hM.symm
 rw[alp s4]at hM;have ad:(s==[37])=false:=sU s4;simp[go_sem,ad];by_cases b1:b=-1;.rw[b1,Int.tdiv_neg,Int.tdiv_one]at hM;have ae:(b==-1)=true:=sU b1;simp[go_sem,ae];refine pC c4 ?_;simp[go_sem,wO];exact wr hM
 have ae:(b==-1)=false:=sU b1;have ok:=wp4 ha aa b1;unfold fQ at hM;rw[alq ok]at hM;simp[go_sem,ae,xb ok];refine zJ b0 ?_;simp[go_sem];exact nM hM.symm
def jx(a b:alW):Int:=if Op.bytesLess a b=true then-1 else if Op.bytesLess b a=true then 1 else 0
theorem Wa:∀a b:alW,Lib.compareBytes a b=jx a b
 |[],[]=>rfl|[],_::_=>rfl|_::_,[]=>rfl|x::a,y::b=>by
  have ih:=Wa a b;rw[Lib.compareBytes];unfold jx at ih⊢;rw[Mx,Mx];have h1:(x<y)↔x.toNat<y.toNat:=UInt8.lt_iff_toNat_lt;have h2:(y<x)↔y.toNat<x.toNat:=UInt8.lt_iff_toNat_lt;by_cases q:x<y;.have:=h1.1 q;rw[alq q,alq this];rfl
  by_cases q2:y<x;.have:=h2.1 q2;have n1:¬x.toNat<y.toNat:=λh=>q (h1.2 h);rw[alp q,alq q2,alp n1,alq this,alq this];rfl
  .have n1:=λh=>q (h1.2 h);have n2:=λh=>q2 (h2.2 h);rw[alp q,alp q2,alp n1,alp n2,alp n2,alp n1];exact ih
theorem yQ7{a b:alW}{c:Ctx}{K:V->St->Prop}{e:Fx K}(hk:K (.int .i64 (jx a b)) I):jn prog c (.fn 410 []) [.str a,.str b] I K e:=by refine⟨_,[],rfl,.inr λw L J aa hm ha=>?_⟩;match aa,ha with |[v1,v2],⟨h1,h2,_⟩=>rw[lU h1,lU h2];refine⟨.int .i64 (jx a b),.int .i64 (jx a b),w,L,I,J,?_,hk,hm,Le.refl _ _,Ext.refl _ _,cM.int _ _⟩;rw[run_callFunc_extern func410 kR kR kR (e:=Extern.BytealgCompare.compare) kR,Lib.run_compareString];rw[List.toList_toArray,List.toList_toArray,Wa];rfl
theorem xB8(a b:alW):Pure prog 349 [.str a,.str b] (.int .i64 (jx a b)):=by refine iW 0 func349 ntmps349 results349 λc hc hb=>zM ?_;simp[go_sem];refine yQ7 ?_;simp[go_sem];exact wR
theorem Wb(a b:alW):Pure prog 266 [.str a,.str b] (.int .i64 (jx a b)):=by refine iW 0 func266 ntmps266 results266 λc hc hb=>zM ?_;simp[go_sem];refine pC (xB8 a b) ?_;simp[go_sem];exact wR
theorem Wc(x:Int):Pure prog 404 [.int .i64 x] (.bool false):=by refine iW 0 func404 ntmps404 results404 λc hc hb=>zM ?_;simp[go_sem];exact wR
theorem xg3(x y:Int):Pure prog 337 [.int .i64 x,.int .i64 y] (.int .i64 (gN x y)):=by
 generalize hM:gN x y=M;have ret:∀(r:Int)(I:St),r=M->cz (some (.int .i64 r)) 0 (λr s=>r=.int .i64 M/\s=[]) I:=λr I h=>by subst h;exact wR
 unfold gN at hM;refine iW 0 func337 ntmps337 results337 λc hc hb=>zM ?_;simp[go_sem];refine pC (Wc x) ?_;simp[go_sem];refine pC (Wc y) ?_;simp[go_sem];repeat'(first|(refine zX (λq=>?_) (λq=>?_)<;>simp[go_sem,q]))
 all_goals exact ret _ _ (by rw[<-hM];simp only[alw,aly]at*;(repeat' split)<;>omega)
def ve:alZ->Int |[]=>0|x::l=>if x=0then ve l else x
theorem JN(l:alZ)(hl:l.length<=maxLen):Pure prog 264 [.sl .ro (l.map λn=>[V.int .i64 n])] (.int .i64 (ve l)):=by
 generalize hM:ve l=M;have ret:∀(r:Int)(I:St),r=M->cz (some (.int .i64 r)) 0 (λr s=>r=.int .i64 M/\s=[]) I:=λr I h=>by subst h;exact wR
 refine iV 0 func264 ntmps264 results264 λc hc hb=>?_;refine zA ?_;simp[go_sem];refine zG (S:=Nat) [3,6,7,8] (λi=>[.int .i64 0,.sl .ro (l.map λn=>[V.int .i64 n]),.int .i64 l.length,.int .i64 i]) (λ_=>[]) (λi=>l.length-i) (λi=>i<=l.length/\ve (l.drop i)=M) hc hb 0 ⟨A5 _,hM⟩ ?_ ?_;.exact aO
 rintro i⟨hi,hinv⟩;by_cases q:i<l.length;rotate_left;.have e:l.drop i=[]:=A8 om;rw[e]at hinv;refine zA ?_;simp[go_sem,q];exact ret _ _ hinv
 have ei:=zO q (by unfold maxLen at hl;omega);obtain⟨r,hr⟩:=eX (l[i]);rw[A4 q,ve,hr]at hinv;refine zA ?_;simp[go_sem,q,hr];by_cases w1:r=0
 .rw[alq w1]at hinv;have aa:(r !=0)=false:=by simp[w1]
  simp[go_sem,aa,ei];exact zH (i+1) ⟨om,⟨q,hinv⟩,aO⟩
 rw[alp w1]at hinv;have aa:(r !=0)=true:=sU w1;simp[go_sem,aa];exact ret _ _ hinv
def jR(a b:bK):Int:=ve [gN a.kind b.kind,gN a.n b.n,jx a.s b.s]
theorem Wd(a b:bK):Pure prog 261 [.agg a.row,.agg b.row] (.int .i64 (jR a b)):=by have h:=JN [gN a.kind b.kind,gN a.n b.n,jx a.s b.s] (by simp[maxLen]);have h1:=Qm a.kind b.kind;have h2:=xg3 a.n b.n;have h3:=Wb a.s b.s;unfold jR;generalize ve [gN a.kind b.kind,gN a.n b.n,jx a.s b.s]=M at*;refine iW 0 func261 ntmps261 results261 λc hc hb=>zM ?_;simp[go_sem];refine yA [(4,0),(9,0),(14,0),(16,0)] 2 rfl kR kR ?_;simp[go_sem];refine pD h1 ?_;simp[go_sem];refine pD h2 ?_;simp[go_sem];refine pD h3 ?_;simp[go_sem];refine pD h ?_;simp[go_sem];exact wR
def fR(x:bK×Int):V:=.cC [.agg x.1.row,.int .i64 x.2]
def zeroV:bK:=⟨0,0,[]⟩
def zm(r:Int×Int):bK×Int:=if r.2=0then(⟨2,r.1,[]⟩,0)else(zeroV,r.2)
theorem We{x:bK×Int}{k n e:Int}{s:alW}(h:x=(⟨k,n,s⟩,e)):cz (some (.cC [.agg [.int .i64 k,.int .i64 n,.str s],.int .i64 e])) 0 (λv s=>v=fR x/\s=[]) I:=by subst h;exact wR
theorem Wf(r:Int×Int):Pure prog 434 [.int .i64 r.1,.int .i64 r.2] (fR (zm r)):=by
 generalize hM:zm r=M;unfold zm at hM;refine iW 0 func434 ntmps434 results434 λc hc hb=>zM ?_;simp[go_sem];by_cases q:r.2=0;.rw[alq q]at hM;have q1:(r.2!=0)=false:=sU q;simp[go_sem,q1];exact We hM.symm
 .rw[alp q]at hM;have q1:(r.2!=0)=true:=sU q;simp[go_sem,q1];exact We hM.symm
def HJ(s:alW)(c:Int):Bool:=if s=[61]then c==0 else if s=[60,62]then c !=0 else if s=[60]then decide (c<0)else if s=[60,61]then decide (c<=0)else if s=[62]then decide (0<c)else decide (0<=c)
theorem wj8(s:alW)(x:Int):Pure prog 436 [.str s,.int .i64 x] (.bool (HJ s x)):=by
 generalize hM:HJ s x=M;have ret:∀(r:Bool)(I:St),r=M->cz (some (.bool r)) 0 (λr s=>r=.bool M/\s=[]) I:=λr I h=>by subst h;exact wR
 unfold HJ at hM;refine iW 0 func436 ntmps436 results436 λc hc hb=>zM ?_;simp[go_sem];repeat'(first|(refine zX (λq=>?_) (λq=>?_)<;>simp[go_sem,q]))
 all_goals exact ret _ _ (by rw[<-hM];simp only[alx,beq_eq_false_iff_ne,ne_eq]at*;simp_all)
def F0(v:bK):Bool:=v.kind==1&&(v.n==1&&v.s.isEmpty)
theorem Wg(v:bK):Pure prog 256 [.agg v.row] (.bool (F0 v)):=by have h:=Hj true;refine iW 0 func256 ntmps256 results256 λc hc hb=>zM ?_;simp[go_sem];refine yA [(1,0)] 1 rfl kR kR ?_;simp[go_sem];refine pD h ?_;simp[go_sem,vX];exact wR
def tJ(zn:Int):List bK->Bool->bK |[],b=>if b=true then zeroV else vX (zn==0)|v::l,b=>if v.kind=0then tJ zn l true else if v.n=zn then v else tJ zn l b
theorem Wh(l:List bK)(aa:Int)(hl:l.length<=maxLen):Pure prog 433 [.sl .ro (l.map bK.row),.int .i64 aa] (.agg (tJ aa l false).row):=by
 generalize hM:tJ aa l false=M;have ret:∀(v:bK)(I:St),v=M->cz (some (.agg v.row)) 0 (λr s=>r=.agg M.row/\s=[]) I:=λv I h=>by subst h;exact wR
 refine iV 0 func433 ntmps433 results433 λc hc hb=>?_;refine zA ?_;simp[go_sem];refine zG (S:=Nat×Bool) [1,4,5,8,9,10] (λu=>[.int .i64 aa,.ptr 0 0,.bool u.2,.sl .ro (l.map bK.row),.int .i64 l.length,.int .i64 u.1]) (λ_=>[.box [.int .i64 0,.int .i64 0,.str []]]) (λu=>l.length-u.1) (λu=>u.1<=l.length/\tJ aa (l.drop u.1) u.2=M) hc hb (0,false) ⟨A5 _,hM⟩ ?_ ?_;.exact aN 1 (by simp[bS,cV,cR])
 rintro⟨i,b⟩⟨hi,hinv⟩;simp only at hi hinv;by_cases q:i<l.length;rotate_left
 .have e:l.drop i=[]:=A8 om;rw[e,tJ]at hinv;refine zA ?_;simp[go_sem,q];by_cases w1:b=true;.rw[alq w1]at hinv;simp[go_sem,w1];exact ret zeroV _ hinv
  .rw[alp w1]at hinv;have ab:b=false:=sU w1;simp[go_sem,ab];refine pC (Hj (aa==0)) ?_;simp[go_sem];exact ret _ _ hinv
 have ei:=zO q (by unfold maxLen at hl;omega);obtain⟨r,hr⟩:=eX (l[i]);rw[A4 q,tJ,hr]at hinv;refine zA ?_;simp[go_sem,q,hr];refine pC (LU r) ?_;simp[go_sem];by_cases w1:r.kind=0;.rw[alq w1]at hinv;have ab:(r.kind==0)=true:=sU w1;simp[go_sem,ab,ei];exact zH (i+1,true) ⟨by simp only;omega,⟨q,hinv⟩,aN 1 (by simp[bS,cV,cR])⟩
 rw[alp w1]at hinv;have ab:(r.kind==0)=false:=sU w1;by_cases w2:r.n=aa;.rw[alq w2]at hinv;have ad:(r.n==aa)=true:=sU w2;simp[go_sem,ab,ad];exact ret r _ hinv
 rw[alp w2]at hinv;have ad:(r.n==aa)=false:=sU w2;simp[go_sem,ab,ad,ei];exact zH (i+1,b) ⟨by simp only;omega,⟨q,hinv⟩,aN 1 (by simp[bS,cV,cR])⟩
def nr:List alW:=[[61],[60,62],[60],[60,61],[62],[62,61]]
def vf(s:alW)(l:List bK):bK×Int:=let x:=l.getD 0 zeroV
 let y:=l.getD 1 zeroV
 if s=[73,83,78,85,76,76]then(vX (x.kind==0),0)else if s=[78,79,84,78,85,76,76]then(vX (!(x.kind==0)),0)else if s=[65,78,68]then(tJ 0 l false,0)else if s=[79,82]then(tJ 1 l false,0)else if(l.any λv=>v.kind==0)=true then(zeroV,0)else if s=[78,79,84]then(vX (!F0 x),0)else if s=[78,69,71]then zm (fQ (-x.n))else if nr.contains s=true then(vX (HJ s (jR x y)),0)else zm (DR s x.n y.n)
theorem zo{x:bK×Int}{M:bK×Int}(h:x=M):cz (some (.cC [.agg x.1.row,.int .i64 x.2])) 0 (λv s=>v=fR M/\s=[]) I:=by subst h;exact wR
theorem ww7(s:alW)(l:List bK)(h1:1<=l.length)(h2:l.length<=2)(hn:∀v∈l,gO v.n)(hs:l.length=1->s=[73,83,78,85,76,76]\/s=[78,79,84,78,85,76,76]\/s=[78,79,84]\/s=[78,69,71]):Pure prog 380 [.str s,.sl .ro (l.map bK.row)] (fR (vf s l)):=by
 obtain⟨x,hx⟩:=eX (l[0]'h1);have ah:l.getD 0 zeroV=x:=by rw[Aj,A0 h1,hx];rfl
 have ao:l[0]?=some x:=by rw[A0 h1,hx]
 have aa:0<l.length:=h1;have ad:gO x.n:=hn x (hx▸A9 h1);generalize hM:vf s l=M;have ret:∀(v:bK)(e:Int)(I:St),(v,e)=M->cz (some (.cC [.agg v.row,.int .i64 e])) 0 (λr s=>r=fR M/\s=[]) I:=λv e I h=>zo h;unfold vf at hM;simp only[ah]at hM;refine iV 0 func380 ntmps380 results380 λc hc hb=>?_;by_cases a1:s=[73,83,78,85,76,76];.rw[alq a1]at hM;refine zA ?_;simp[go_sem,a1,aa,hx];refine pC (LU x) ?_;simp[go_sem];refine pC (Hj (x.kind==0)) ?_;simp[go_sem];exact ret _ _ _ hM
 by_cases a2:s=[78,79,84,78,85,76,76];.rw[alp a1,alq a2]at hM;refine zA ?_;simp[go_sem,a2,aa,hx];refine pC (LU x) ?_;simp[go_sem];refine pC (Hj (!(x.kind==0))) ?_;simp[go_sem];exact ret _ _ _ hM
 by_cases a3:s=[65,78,68];.rw[alp a1,alp a2,alq a3]at hM;refine zA ?_;simp[go_sem,a3];refine pC (Wh l 0 (by unfold maxLen;omega)) ?_;simp[go_sem];exact ret _ _ _ hM
 by_cases a4:s=[79,82];.rw[alp a1,alp a2,alp a3,alq a4]at hM;refine zA ?_;simp[go_sem,a4];refine pC (Wh l 1 (by unfold maxLen;omega)) ?_;simp[go_sem];exact ret _ _ _ hM
 rw[alp a1,alp a2,alp a3,alp a4]at hM;have b1:(s==[73,83,78,85,76,76])=false:=sU a1;have b2:(s==[78,79,84,78,85,76,76])=false:=sU a2;have b3:(s==[65,78,68])=false:=sU a3;have b4:(s==[79,82])=false:=sU a4;refine zA ?_;simp[go_sem,b1,b2,b3,b4];refine zG (S:=Nat) [0,1,4,5,32,33,34] (λi=>[.str s,.sl .ro (l.map bK.row),.ptr 0 0,.int .i64 0,.sl .ro (l.map bK.row),.int .i64 l.length,.int .i64 i]) (λ_=>[.box [.int .i64 0,.int .i64 0,.str []]]) (λi=>l.length-i) (λi=>i<=l.length/\((l.drop i).any λv=>v.kind==0)=(l.any λv=>v.kind==0)) hc hb 0 ⟨A5 _,rfl⟩ ?_ ?_;.exact aN 1 (by simp[bS,cV,cR])
 rintro i⟨hi,hinv⟩;by_cases q:i<l.length
 .have ei:=zO q om;obtain⟨r,hr⟩:=eX (l[i]);rw[A4 q,alU,hr]at hinv;refine zA ?_;simp[go_sem,q,hr];refine pC (LU r) ?_;simp[go_sem];by_cases w1:r.kind=0;.have ab:(r.kind==0)=true:=sU w1;rw[ab,Dm]at hinv;rw[alq hinv.symm]at hM;simp[go_sem,ab];exact ret zeroV 0 _ hM
  .have ab:(r.kind==0)=false:=sU w1;rw[ab,Bv]at hinv;simp[go_sem,ab,ei];exact zH (i+1) ⟨om,⟨q,hinv⟩,aN 1 (by simp[bS,cV,cR])⟩
 have e:l.drop i=[]:=A8 om;rw[e,List.any_nil]at hinv;rw[alp (by rw[<-hinv];exact Bool.false_ne_true)]at hM;by_cases a5:s=[78,79,84];.rw[alq a5]at hM;refine zA ?_;simp[go_sem,q,a5,aa,hx];refine pC (Wg x) ?_;simp[go_sem];refine pC (Hj (!F0 x)) ?_;simp[go_sem];exact ret _ _ _ hM
 by_cases a6:s=[78,69,71];.rw[alp a5,alq a6]at hM;refine zA ?_;simp[go_sem,q,a6,aa,hx];refine pC (Qu 0 x.n dC ad) ?_;simp[go_sem,wO];refine pC (Wf (fQ (-x.n))) ?_;simp[go_sem,fR];exact zo hM
 rw[alp a5,alp a6]at hM;have h3:1<l.length:=by
  by_cases q:1<l.length;.exact q
  .rcases hs om with h|h|h|h;.exact absurd h a1
   .exact absurd h a2
   .exact absurd h a5
   .exact absurd h a6
 obtain⟨y,hy⟩:=eX (l[1]'h3);have ai:l.getD 1 zeroV=y:=by rw[Aj,A0 h3,hy];rfl
 have aj:gO y.n:=hn y (hy▸A9 h3);rw[ai]at hM;have b5:(s==[78,79,84])=false:=sU a5;have b6:(s==[78,69,71])=false:=sU a6;have ak:=Wd x y;have ae:=wj8 s (jR x y);have af:=Hj (HJ s (jR x y));have al:=xZ0 s x.n y.n ad aj;have an:=Wf (DR s x.n y.n);by_cases a7:nr.contains s=true
 .rw[alq a7]at hM;have a8:s=[61]\/s=[60,62]\/s=[60]\/s=[60,61]\/s=[62]\/s=[62,61]:=by simpa[nr]using a7
  rcases a8 with a8|a8|a8|a8|a8|a8;all_goals rw[a8]at ae af hM;refine zA ?_;simp[go_sem,q,a8];refine yA [(7,0),(8,0),(9,0)] 1 rfl kR kR ?_;simp[go_sem,aa,hx,h3,hy];refine zJ om ?_;simp[go_sem];refine pD ak ?_;simp[go_sem];refine pD ae ?_;simp[go_sem];refine pD af ?_;simp[go_sem];exact ret _ _ _ hM
 rw[alp a7]at hM;have a8:¬s=[61]/\¬s=[60,62]/\¬s=[60]/\¬s=[60,61]/\¬s=[62]/\¬s=[62,61]:=by simpa[nr]using a7
 have c1:(s==[61])=false:=sU a8.1;have c2:(s==[60,62])=false:=sU a8.2.1;have c3:(s==[60])=false:=sU a8.2.2.1;have c4:(s==[60,61])=false:=sU a8.2.2.2.1;have c5:(s==[62])=false:=sU a8.2.2.2.2.1;have c6:(s==[62,61])=false:=sU a8.2.2.2.2.2;refine zA ?_;simp[go_sem,q,b5,b6,c1,c2,c3,c4,c5,c6];refine yA [(9,0),(12,0)] 1 rfl kR kR ?_;simp[go_sem,aa,hx,h3,hy];refine zJ om ?_;simp[go_sem];refine pD al ?_;simp[go_sem,wO];refine pD an ?_;simp[go_sem,fR];exact zo hM
mutual
def oI(T:bL)(row:List bK):bJ->bK×Int |.mk k s v args=>if k=1then(v,0)else if k=2then(row.getD (dg T s).toNat zeroV,0)else if(gK T row args).2≠0then(zeroV,(gK T row args).2)else vf s (gK T row args).1def gK(T:bL)(row:List bK):List bJ->List bK×Int|[]=>([],0)|e::l=>if(oI T row e).2≠0then([],(oI T row e).2)else((oI T row e).1::(gK T row l).1,(gK T row l).2)end
theorem Wi(T:bL)(row:List bK)(e:bJ):oI T row e=if e.kind=1then(e.v,0)else if e.kind=2then(row.getD (dg T e.s).toNat zeroV,0)else if(gK T row e.args).2≠0then(zeroV,(gK T row e.args).2)else vf e.s (gK T row e.args).1:=by cases e;rfl
structure VK(v:bK)(k:Int):Prop where
 may:e9 v=true
 n:gO v.n
 kind:v.kind=k\/v.kind=0
theorem HK(k:Int):VK zeroV k:=⟨dC,dC,.inr rfl⟩
theorem MM(b:Bool):VK (vX b) 1:=by cases b<;>exact⟨dC,dC,.inl rfl⟩
theorem Qv(n:Int):gO (fQ n).1:=by grind[fQ]
theorem xk9{s:alW}{a b:Int}(ha:gO a)(hb:gO b):gO (DR s a b).1:=by
 unfold DR;repeat' split
 all_goals first|exact Qv _|exact wp6 ha hb|decide
theorem Wj{r:Int×Int}(h:gO r.1):VK (zm r).1 2:=by
 unfold zm;split;.exact⟨rfl,h,.inl rfl⟩
 grind[HK]
theorem MN(w:Int):∀(l:List bK)(b:Bool),(∀v∈l,VK v 1)->VK (tJ w l b) 1
 |[],b,_=>by grind[tJ,HK,MM]|v::l,b,h=>by
  rw[tJ];split;.exact MN w l true λx hx=>h x (Bg _ hx)
  .split;.exact h v (B2 ..)
   .exact MN w l b λx hx=>h x (Bg _ hx)
theorem HL{m s:Bool}{k k':Int}(h:y7 m s k=(k',0)):m=true/\s=true/\k'=k:=by unfold y7 at h;grind
inductive OpK(s:alW)(ks:alZ)(k:Int):Prop|null(hs:s=[73,83,78,85,76,76]\/s=[78,79,84,78,85,76,76])(hl:ks.length=1)(hk:k=1)|not(hs:s=[78,79,84])(hl:ks.length=1)(ha:iP ks 1)(hk:k=1)|neg(hs:s=[78,69,71])(hl:ks.length=1)(ha:iP ks 2)(hk:k=2)|both(hs:s=[79,82]\/s=[65,78,68])(hl:ks.length=2)(ha:iP ks 1)(hk:k=1)|sum(hs:s=[43]\/s=[45]\/s=[42]\/s=[47]\/s=[37])(hl:ks.length=2)(ha:iP ks 2)(hk:k=2)|cmp(hs:s=[61]\/s=[60,62]\/s=[60]\/s=[60,61]\/s=[62]\/s=[62,61])(hl:ks.length=2)(hk:k=1)
theorem xX7{s:alW}{ks:alZ}{k:Int}(h:pT s ks=(k,0)):OpK s ks k:=by
 have one:((ks.length:Int)==1)=true->ks.length=1:=(by grind);have two:((ks.length:Int)==2)=true->ks.length=2:=(by grind);unfold pT at h;split at h;.obtain⟨h1,_,h3⟩:=HL h;exact .null om (one h1) h3
 split at h;.obtain⟨h1,h2,h3⟩:=HL h;exact .not om (one h1) h2 h3
 split at h;.obtain⟨h1,h2,h3⟩:=HL h;exact .neg om (one h1) h2 h3
 split at h;.obtain⟨h1,h2,h3⟩:=HL h;exact .both om (two h1) h2 h3
 split at h;.obtain⟨h1,h2,h3⟩:=HL h;exact .sum om (two h1) h2 h3
 split at h;.obtain⟨h1,_,h3⟩:=HL h;exact .cmp om (two h1) h3
 grind
theorem Wk{R:bK->Int->Prop}:∀{l:List bK}{ks:alZ},bP R l ks->l.length=ks.length|[],[],_=>rfl|_::_,_::_,⟨_,h⟩=>by rw[Ah,Ah,Wk h]
theorem Qw{k:Int}:∀{l:List bK}{ks:alZ},bP VK l ks->iP ks k=true->∀v∈l,VK v k
 |[],[],_,_,v,hv=>by cases hv|x::l,y::ks,⟨h1,h2⟩,ha,v,hv=>by
  unfold iP at ha;rw[Az,Aa,Ch,alx,alx]at ha;rcases Af.1 hv with rfl|hv;.exact⟨h1.may,h1.n,by rcases h1.kind with q|q;all_goals omega⟩
  .exact Qw h2 ha.2 v hv
theorem Wl{R:bK->Int->Prop}(hR:∀v k,R v k->gO v.n):∀{l:List bK}{ks:alZ},bP R l ks->∀v∈l,gO v.n
 |[],[],_,v,hv=>by cases hv|x::l,y::ks,⟨h1,h2⟩,v,hv=>by
  rcases Af.1 hv with rfl|hv;.grind
  .exact Wl hR h2 v hv
theorem xC2(l:List bK):vf [78,79,84] l=if(l.any λv=>v.kind==0)=true then(zeroV,0)else(vX (!F0 (l.getD 0 zeroV)),0):=rfl
theorem xC1(l:List bK):vf [78,69,71] l=if(l.any λv=>v.kind==0)=true then(zeroV,0)else zm (fQ (-(l.getD 0 zeroV).n)):=rfl
theorem xC0{s:alW}(hs:s=[61]\/s=[60,62]\/s=[60]\/s=[60,61]\/s=[62]\/s=[62,61])(l:List bK):vf s l=if(l.any λv=>v.kind==0)=true then(zeroV,0)else(vX (HJ s (jR (l.getD 0 zeroV) (l.getD 1 zeroV))),0):=by rcases hs with rfl|rfl|rfl|rfl|rfl|rfl<;>rfl
theorem xC3{s:alW}(hs:s=[43]\/s=[45]\/s=[42]\/s=[47]\/s=[37])(l:List bK):vf s l=if(l.any λv=>v.kind==0)=true then(zeroV,0)else zm (DR s (l.getD 0 zeroV).n (l.getD 1 zeroV).n):=by rcases hs with rfl|rfl|rfl|rfl|rfl<;>rfl
theorem Wm{s:alW}{l:List bK}{ks:alZ}{k:Int}(ho:pT s ks=(k,0))(ha:bP VK l ks):VK (vf s l).1 k/\1<=l.length/\l.length<=2/\(∀v∈l,gO v.n)/\(l.length=1->s=[73,83,78,85,76,76]\/s=[78,79,84,78,85,76,76]\/s=[78,79,84]\/s=[78,69,71]):=by
 have hlen:=Wk ha;have hn:=Wl (λ_ _ h=>VK.n h) ha;have hx:∀j,gO (l.getD j zeroV).n:=λj=>by rw[Aj];cases hj:l[j]?with|none=>decide|some v=>grind
 have ab:∀n:Int,gO (fQ n).1:=Qv;cases xX7 ho with
 |null hs hl hk=>subst hk;refine⟨?_,om,om,hn,(by grind)⟩;rcases hs with rfl|rfl<;>exact MM _|not hs hl aa hk=>grind[xC2,HK,MM]|neg hs hl aa hk=>grind[xC1,HK,Wj]|both hs hl aa hk=>
  subst hk;refine⟨?_,om,om,hn,om⟩;rcases hs with rfl|rfl;.exact MN 1 l false (Qw ha aa)
  .exact MN 0 l false (Qw ha aa)|sum hs hl aa hk=>grind[xC3,HK,Wj,xk9]|cmp hs hl hk=>grind[xC0,HK,MM]
structure oJ(T:bL)(row:List bK):Prop where
 len:row.length=T.cw.length
 cell:∀(j:Nat)(C:fZ)(v:bK),T.cw[j]?=some C->row[j]?=some v->VK v C.kind
theorem MO{T:bL}{row:List bK}(hr:oJ T row):∀(n:Nat)(e:bJ),iC e<=n->Good e->(mh T e).2=0->(oI T row e).2=0->VK (oI T row e).1 (mh T e).1
 |0,e,h,_,_,_=>by grind[Mm]|n+1,e,h,hg,hk,he=>by
  have ih:=MO hr n;have ad:=y9 e;rw[Wi]at he⊢;rw[Qi]at hk⊢;by_cases q1:e.kind=1
  .rw[alq q1]at hk⊢;rw[alq q1];by_cases w:e.s.isEmpty=false\/e.args.isEmpty=false\/e9 e.v=false;.grind
   .rw[alp w];refine⟨by grind,⟨hg.v.n.1,hg.v.n.2⟩,.inl rfl⟩
  rw[alp q1]at hk he⊢;rw[alp q1];by_cases q2:e.kind=2
  .rw[alq q2]at hk⊢;rw[alq q2];by_cases w:dg T e.s<0;.grind
   rw[alp w]at hk⊢;by_cases w2:e.args.isEmpty=false\/oD e.v=false;.grind
   rw[alp w2];obtain⟨j,hj,aa⟩:=MB T e.s w;have ab:j<row.length:=by rw[hr.len];omega
   simp only;rw[hj,Ay,Aj,A0 ab];unfold lz;rw[Ay,A0 aa];exact hr.cell j _ _ sM sM
  rw[alp q2]at hk he⊢;rw[alp q2];by_cases q3:e.kind=3;rotate_left;.grind
  rw[alq q3]at hk⊢;have ae:=hg.sub;have list:∀args:List bJ,(∀x∈args,x∈e.args)->(j4 T args).2=0->(gK T row args).2=0->bP VK (gK T row args).1 (j4 T args).1:=by intro args;induction args with |nil=>intro _ _ _;trivial|cons x l af=>
    intro hm hk he;rw[j4]at hk⊢;rw[gK]at he⊢;by_cases w1:(mh T x).2=0;rotate_left;.grind
    by_cases w2:(oI T row x).2=0;rotate_left;.grind
    have n1:¬(mh T x).2≠0:=om;have n2:¬(oI T row x).2≠0:=om;rw[alp n1]at hk⊢;rw[alp n2]at he⊢;have hx:=hm x (B2 ..);have ah:=Fz e.args x hx;exact⟨(by grind),(by grind)⟩
  by_cases w1:(j4 T e.args).2=0;rotate_left;.grind
  by_cases w2:(gK T row e.args).2=0;rotate_left;.grind
  have n1:¬(j4 T e.args).2≠0:=om;have n2:¬(gK T row e.args).2≠0:=om;rw[alp n1]at hk⊢;rw[alp n2]at he⊢;by_cases w3:oD e.v=false;.grind
  rw[alp w3]at hk⊢;exact(Wm (Prod.ext rfl hk) (by grind)).1
theorem Wn{T:bL}:∀{args:List bJ},(j4 T args).2=0->∀x∈args,(mh T x).2=0
 |[],_,x,hx=>by cases hx|y::l,h,x,hx=>by
  rw[j4]at h;by_cases w:(mh T y).2=0
  .have n1:¬(mh T y).2≠0:=λh=>h w;rw[alp n1]at h;rcases Af.1 hx with rfl|hx;.exact w
   .exact Wn h x hx
  .rw[alq w]at h;exact absurd h w
theorem Wo{T:bL}{row:List bK}(hr:oJ T row)(n:Nat):∀{args:List bJ},(∀x∈args,iC x<=n/\Good x)->(j4 T args).2=0->(gK T row args).2=0->bP VK (gK T row args).1 (j4 T args).1
 |[],_,_,_=>trivial|x::l,hm,hk,he=>by
  rw[j4]at hk⊢;rw[gK]at he⊢;by_cases w1:(mh T x).2=0;rotate_left;.rw[alq w1]at hk;exact absurd hk w1
  by_cases w2:(oI T row x).2=0;rotate_left;.rw[alq w2]at he;exact absurd he w2
  have n1:¬(mh T x).2≠0:=λh=>h w1;have n2:¬(oI T row x).2≠0:=λh=>h w2;rw[alp n1]at hk⊢;rw[alp n2]at he⊢;have hx:=hm x (B2 ..);exact⟨MO hr n x hx.1 hx.2 w1 w2,Wo hr n (λy hy=>hm y (Bg _ hy)) hk he⟩
theorem Qx{T:bL}{row:List bK}(hr:oJ T row)(hT:T.cw.length<=maxLen):∀(n:Nat)(e:bJ),iC e<=n->fP e->Good e->(mh T e).2=0->Pure prog 325 [.agg T.row,.sl .ro (row.map bK.row),.agg e.row] (fR (oI T row e))
 |0,e,h,_,_,_=>by have:=Mm e;omega|n+1,e,h,hw,hg,hk=>by
  have ih:=Qx hr hT n;have cZ:=@Wo _ _ hr n;have aw:=y9 e;have hlen:=hw.len;have aj:=hw.sub;have al:=hg.sub;have af:=HA T e.s hT;rw[show xW (λc:fZ=>c.name==e.s) T.cw 0=dg T e.s from rfl]at af;obtain⟨M,hM⟩:=eX (oI T row e);rw[hM];rw[Wi]at hM;rw[Qi]at hk;have ret:∀(v:bK)(e:Int)(I:St),(v,e)=M->cz (some (.cC [.agg v.row,.int .i64 e])) 0 (λr s=>r=fR M/\s=[]) I:=λv e I h=>zo h;refine iV 0 func325 ntmps325 results325 λc hc hb=>?_;refine zA ?_;simp[go_sem];by_cases q1:e.kind=1;.have ah:(e.kind==1)=true:=sU q1;rw[alq q1]at hM;simp[go_sem,ah];exact ret _ _ _ hM
  rw[alp q1]at hM hk;have ah:(e.kind==1)=false:=sU q1;by_cases q2:e.kind=2
  .have an:(e.kind==2)=true:=sU q2;rw[alq q2]at hM hk;by_cases w:dg T e.s<0;.rw[alq w]at hk;cases hk
   obtain⟨j,hj,ax⟩:=MB T e.s w;have aq:j<row.length:=by rw[hr.len];exact ax
   obtain⟨v,hv⟩:=eX (row[j]);rw[hj,Ay,Aj,A0 aq,hv]at hM;rw[hj]at af;simp[go_sem,ah,an];refine zL af cB (zR sg rfl) rfl ?_;simp[go_sem,aq,hv];exact ret _ _ _ hM
  rw[alp q2]at hM hk;have an:(e.kind==2)=false:=sU q2;by_cases q3:e.kind=3;rotate_left;.rw[alp q3]at hk;cases hk
  rw[alq q3]at hk;obtain⟨args,ab⟩:=eX e.args;rw[ab]at aw hlen aj al hM hk;by_cases w1:(j4 T args).2=0;rotate_left;.rw[alq w1]at hk;exact absurd hk w1
  have n1:¬(j4 T args).2≠0:=λh=>h w1;rw[alp n1]at hk;by_cases w3:oD e.v=false;.rw[alq w3]at hk;cases hk
  rw[alp w3]at hk;have ay:pT e.s (j4 T args).1=((pT e.s (j4 T args).1).1,0):=Prod.ext rfl hk;have ar:=Wn w1;have ak:(gK T row args).2=0->bP VK (gK T row args).1 (j4 T args).1:=λh=>cZ (λx hx=>⟨by have:=Fz args x hx;omega,al x hx⟩) w1 h;obtain⟨K,hK⟩:=eX (gK T row args);rw[hK]at hM ak;simp[go_sem,ah,an,ab];refine wQ 8 3 dC sg ?_;refine zG (S:=Nat×List bK) [1,3,5,6,8,29,30,31] (λu=>[.sl .ro (row.map bK.row),.ptr 0 0,.ptr 1 0,.ptr 2 0,.sl (.app 3) (u.2.map bK.row),.sl .ro (args.map bJ.row),.int .i64 args.length,.int .i64 (u.1:Int)]) (λu=>[.box T.row,.box e.row,.box [.int .i64 0,.int .i64 0,.str []],.app u.2.length 3]) (λu=>args.length-u.1) (λu=>u.1<=args.length/\u.2.length=u.1/\(gK T row (args.drop u.1)).2=K.2/\(K.2=0->u.2++(gK T row (args.drop u.1)).1=K.1)) hc hb (0,[]) ⟨A5 _,rfl,by simp only[B1];rw[hK],λ_=>by simp only[B1];rw[hK];rfl⟩ ?_ ?_;.exact bU 4 (by simp[go_sem,ab]) rfl (by simp[bS,cV,cR,bJ.bQ,bL.row]) (A5 _) (zD sg rfl)
  rintro⟨i,l⟩⟨hi,hl,hinv,aa⟩;simp only at hi hl hinv aa;by_cases q:i<args.length;rotate_left
  .rw[A8 om,gK]at hinv aa;have ae:K.2=0:=hinv.symm;have au:l=K.1:=by have:=aa ae;simpa using this
   have n2:¬K.2≠0:=λh=>h ae;rw[alp n2,<-au]at hM;have hA:=ak ae;rw[<-au]at hA;obtain⟨_,d1,d2,d3,d4⟩:=Wm ay hA;have av:=ww7 e.s l d1 d2 d3 d4;generalize vf e.s l=o at av hM;refine zA ?_;simp[go_sem,q];refine pC av ?_;simp[go_sem,fR];exact zo hM
  have ei:=zO q om;obtain⟨x,hx⟩:=eX (args[i]);have ai:x∈args:=hx▸A9 q;have az:=Fz args x ai;rw[A4 q,hx,gK]at hinv aa;have ad:=ih x om (aj x ai) (al x ai) (ar x ai);generalize oI T row x=kx at ad hinv aa;by_cases q4:kx.2=0;.have n3:¬kx.2≠0:=λh=>h q4;rw[alp n3]at hinv aa;have ao:(kx.2!=0)=false:=sU q4;refine zA ?_;simp[go_sem,q,hx];refine zL ad cB (zR sg (by rw[bJ.bQ];rfl)) rfl ?_;simp[go_sem,fR,ao];refine zJ ⟨om,by unfold eU;simp⟩ ?_;simp[go_sem,ei];refine zH (i+1,l++[kx.1]) ⟨by simp only;omega,⟨by simp only;omega,by simp;omega,hinv,λh=>by have:=aa h;simpa using this⟩,?_⟩;exact aN 4 (by simp[bS,cV,cR,bJ.bQ])
  .rw[alq q4]at hinv;have ao:(kx.2!=0)=true:=sU q4;have ae:kx.2=K.2:=hinv;rw[alq (by rw[<-ae];exact q4),<-ae]at hM;refine zA ?_;simp[go_sem,q,hx];refine zL ad cB (zR sg (by rw[bJ.bQ];rfl)) rfl ?_;simp[go_sem,fR,ao];exact ret zeroV _ _ hM
def fj:bL:=⟨[],[],0,0,0,⟨[],[],[],0,0,0⟩⟩
theorem Wp:oJ fj []:=⟨rfl,λj C v h=>by simp[fj]at h⟩
theorem xW2:fj.cw= []:=rfl
def k7(e:bJ):bK×Int:=if(jf fj e).2≠0then(zeroV,(jf fj e).2)else oI fj [] e
theorem Wq{e:bJ}(he:jt e)(h:(k7 e).2=0):VK (k7 e).1 (jf fj e).1:=by
 unfold k7 at h⊢;by_cases q:(jf fj e).2=0;rotate_left;.rw[alq q]at h;exact absurd h q
 have n1:¬(jf fj e).2≠0:=λh=>h q;rw[alp n1]at h⊢;unfold jf at q⊢;by_cases d:iC e<=64/\jN e<=4096;.rw[alq d]at q⊢;exact MO Wp 64 e d.1 he.eD q h
 .rw[alp d]at q;cases q
theorem Qy(e:bJ)(he:jt e):Pure prog 252 [.agg fj.row,.sl .ro [],.agg e.row] (fR (k7 e)):=by
 have ab:=MC fj (by simp[fj,maxLen]) e he;have ad:=λ(d:iC e<=64)(k:(mh fj e).2=0)=>Qx Wp (by simp[fj,maxLen]) 64 e d he.wide he.eD k;generalize hM:k7 e=M;unfold k7 at hM;have ret:∀(v:bK)(e:Int)(I:St),(v,e)=M->cz (some (.cC [.agg v.row,.int .i64 e])) 0 (λr s=>r=fR M/\s=[]) I:=λv e I h=>zo h;refine iV 0 func252 ntmps252 results252 λc hc hb=>?_;refine zA ?_;simp[go_sem];refine zL ab cB (zR sg (by rw[bJ.bQ];rfl)) rfl ?_;simp[go_sem,wO];by_cases q:(jf fj e).2=0;rotate_left;.have q':((jf fj e).2!=0)=true:=sU q;rw[alq q]at hM;simp[go_sem,q'];exact ret zeroV _ _ hM
 have q':((jf fj e).2!=0)=false:=sU q;have n1:¬(jf fj e).2≠0:=λh=>h q;rw[alp n1]at hM;have aa:Pure prog 325 [.agg fj.row,.sl .ro [],.agg e.row] (fR (oI fj [] e)):=by
  unfold jf at q;by_cases d:iC e<=64/\jN e<=4096;.rw[alq d]at q;exact ad d.1 q
  .rw[alp d]at q;cases q
 rw[hM]at aa;simp[go_sem,q',xW2];refine zG (S:=Unit) [1,3,5,6,29,30,31] (λ_=>[.sl .ro [],.ptr 0 0,.ptr 1 0,.ptr 2 0,.sl .ro [],.int .i64 0,.int .i64 0]) (λ_=>[.box fj.row,.box e.row,.box [.int .i64 0,.int .i64 0,.str []]]) (λ_=>0) (λ_=>True) hc hb () trivial ?_ ?_;.exact bU 3 (by simp[go_sem,fj]) rfl (by simp[bS,cV,cR,bJ.bQ,bL.row]) (A5 _) (zD sg rfl)
 rintro u _;refine zA ?_;simp[go_sem];refine zL aa cB (zR sg (by rw[bJ.bQ];rfl)) rfl ?_;simp[go_sem,fR];exact zo rfl
end Go.Proofs.YtegbonbgofjlcaaGreat
namespace Go.Proofs.YtegbonbgofjlcaaGreat.R
open Go Go.Vx Go.Proofs.Tryz
set_option maxRecDepth 100000
variable {cw:List fZ}
def DS:List fZ->List bK->Int |c::cs,v::vs=>if e9 v=false then 9 else if v.kind=0/\c.null=false then 16 else if v.kind≠0/\v.kind≠c.kind then 15 else DS cs vs|_,_=>0
def fC(cw:List fZ)(row:List bK):Int:=if row.length≠cw.length then 9 else DS cw row
theorem Ws(t:bL)(row:List bK)(hr:row.length<=maxLen):Pure prog 250 [.agg t.row,.sl .ro (row.map bK.row)] (.int .i64 (fC t.cw row)):=by
 obtain⟨name,cw,key,place,region,mZ⟩:=t;refine iV 0 func250 ntmps250 results250 λc hc hb=>?_;refine zA ?_;have ret:∀(r:Int)(I:St),r=fC cw row->cz (some (.int .i64 r)) 0 (λr s=>r=.int .i64 (fC cw row)/\s=[]) I:=λr I h=>by subst h;exact wR
 simp[go_sem];refine zX (λh=>?_) (λh=>?_)
 .have h:row.length≠cw.length:=by simp at h;omega
  simp[go_sem];exact ret _ _ (by rw[fC,alq h])
 have h:row.length=cw.length:=by simp at h;omega
 rw[fC,alp om]at ret⊢;simp[go_sem];refine zG (S:=Nat) [2,13,14,15] (λi=>[.ptr 0 0,.sl .ro (row.map bK.row),.int .i64 row.length,.int .i64 i]) (λ_=>[.box (bL.row ⟨name,cw,key,place,region,mZ⟩)]) (λi=>row.length-i) (λi=>i<=row.length/\DS (cw.drop i) (row.drop i)=DS cw row) hc hb 0 ⟨A5 _,rfl⟩ ?_ ?_;.exact aN 1 rfl
 rintro i⟨hi,hinv⟩;refine zA ?_;simp[go_sem];refine zX (λq=>?_) (λq=>?_)
 .have q:i<row.length:=sU q;have q2:i<cw.length:=om;have ei:=zO q (by unfold maxLen at hr;omega);rw[A4 q,A4 q2]at hinv;obtain⟨⟨k,n,s⟩,hv⟩:∃v,row[i]=v:=⟨_,rfl⟩;obtain⟨⟨cn,ck,cb⟩,ab⟩:∃v,cw[i]=v:=⟨_,rfl⟩;rw[hv,ab,DS]at hinv;simp only at hinv;simp[go_sem,q,hv];refine pC (Hw ⟨k,n,s⟩) ?_;simp[go_sem];refine zX (λh1=>?_) (λh1=>?_);.have h1:e9 ⟨k,n,s⟩=false:=sU h1;rw[alq h1]at hinv;simp[go_sem];exact ret _ _ hinv
  have h1:¬e9 ⟨k,n,s⟩=false:=sU h1;rw[alp h1]at hinv;simp[go_sem];refine xG (λh2=>?_) (λh2=>?_)
  .have aa:k=0:=sU h2;simp[go_sem,h2,q2,ab];refine zX (λh3=>?_) (λh3=>?_);.have h3:cb=false:=sU h3;rw[alq ⟨aa,h3⟩]at hinv;simp[go_sem];exact ret _ _ hinv
   have h3:¬cb=false:=sU h3;rw[alp (λw=>h3 w.2),alp (λw=>w.1 aa)]at hinv;simp[go_sem];refine yA [] 2 rfl kR kR ?_;simp[go_sem,aa,ei];exact zH (i+1) ⟨om,⟨q,hinv⟩,aM 1 rfl (zD (by simp[go_sem]) rfl)⟩
  .have aa:¬k=0:=sU h2;rw[alp (λw=>aa w.1)]at hinv;simp[go_sem,h2];refine yA [] 2 rfl kR kR ?_;have ad:(k !=0)=true:=sU aa;simp[go_sem,ad,q2,ab];refine zX (λh4=>?_) (λh4=>?_);.have h4:¬k=ck:=sU h4;rw[alq ⟨aa,h4⟩]at hinv;simp[go_sem];exact ret _ _ hinv
   have h4:k=ck:=sU h4;rw[alp (λw=>w.2 h4)]at hinv;simp[go_sem,ei];exact zH (i+1) ⟨om,⟨q,hinv⟩,aM 1 rfl (zD (by simp[go_sem]) rfl)⟩
 .have q:i=row.length:=by have:¬i<row.length:=sU q;omega
  subst q;rw[Cn,h,Cn]at hinv;simp[go_sem];exact ret _ _ hinv
def vg(n j:Nat)(t:bL)(row:List bK)(rg:Int->Int×Int):Int×alW×Int:=if fC t.cw row≠0then(0,[],fC t.cw row)else let r:=rg (if t.place=0then min (max (row.headD v0).n (-1)) 4 else 0)
  if r.2≠0then(0,[],r.2)else(r.1,oz n j (row.getD t.key.toNat v0),0)
def vh(r:Int×alW×Int):V:=.cC [.int .i64 r.1,.str r.2.1,.int .i64 r.2.2]
theorem JO{r:Int×alW×Int}{a e:Int}{s:alW}{I:St}(h:r=(a,s,e)):cz (some (.cC [.int .i64 a,.str s,.int .i64 e])) 0 (λv s=>v=vh r/\s=[]) I:=by subst h;exact wR
theorem zp{row:List bK}(h:fC cw row=0):row.length=cw.length:=by
 unfold fC at h;split at h;.cases h
 .rename_i h2;omega
theorem xL8(ae:List (List V))(ts:List bL)(j:Nat)(hj:j<ts.length)(t:bL)(ht:ts[j]=t)(row:List bK)(hr:row.length<=maxLen)(hL:fC t.cw row=0->ju row)(hn:ts.length<=cN)(hk:0<=t.key/\t.key<t.cw.length)(rg:Int->Int×Int) (ah:∀r,-1<=r->r<=4->(t.place≠0->r=0)->Pure prog 183 [.agg [.sl .ro ae,.sl .ro (ts.map bL.row)],.int .i64 j,.int .i64 r] (.cC [.int .i64 (rg r).1,.int .i64 (rg r).2])):Pure prog 173 [.agg [.sl .ro ae,.sl .ro (ts.map bL.row)],.int .i64 j,.sl .ro (row.map bK.row)] (vh (vg ts.length j t row rg)):=by
 have af:=Ws t row hr;have hbound:∀v:bK,v.ok->v.s.length<=500->_:=λv h1 h2=>Vg ae (ts.map bL.row) j v (sU hn) h1 h2;simp only[Au]at hbound;generalize aa:vg ts.length j t row rg=res;unfold vg at aa;obtain⟨m,hm⟩:=eX (fC t.cw row);have hlen:m=0->row.length=t.cw.length:=λh=>zp (hm.trans h);rw[hm]at af hL aa;obtain⟨name,cw,key,place,region,mZ⟩:=t;simp only at hk hlen aa;obtain⟨q,rfl⟩:∃q:Nat,key=q:=⟨key.toNat,om⟩;refine iV 0 func173 ntmps173 results173 λc hc hb=>?_;refine zA ?_;simp[go_sem];refine pC (jM ae (ts.map bL.row) j) ?_;simp[go_sem,hj,ht];refine zL af cB (zR sg rfl) rfl ?_;simp[go_sem];refine zX (λh=>?_) (λh=>?_);.have h:m≠0:=sU h;simp[go_sem];exact JO (by rw[<-aa,alq h])
 have h:m=0:=sU h;have hl:=hlen h;have hq:q<row.length:=om;have h0:0<row.length:=om;have ai:=hL h;obtain⟨v,hv⟩:=eX (row[q]);obtain⟨v1,aj⟩:∃v,row[0]=v:=⟨_,rfl⟩;have ak:v∈row:=hv▸A9 hq;have e1:row.headD v0=v1:=by rw[<-aj];cases row with |nil=>simp at h0|cons a l=>rfl
 have e2:row.getD q v0=v:=by rw[Aj,A0 hq,hv];rfl
 rw[alp om,e1,Ay,e2]at aa;have al:=hbound v (ai.ok v ak) (ai.s v ak);have fin:∀(x:Int)(I:St),(if place=0then min (max v1.n (-1)) 4 else 0)=x->((rg x).2≠0->res=(0,[],(rg x).2))/\((rg x).2=0->res=((rg x).1,oz ts.length j v,0)):=λx I hx=>by rw[hx]at aa;exact⟨λw=>by rw[<-aa];exact alq w,λw=>by rw[<-aa];exact alp (λq=>q w)⟩
 simp[go_sem];refine zX (λhp=>?_) (λhp=>?_)
 .have hp:place=0:=sU hp;simp[go_sem,h0,aj];obtain⟨x,hx⟩:=eX ((if 4<if v1.n< -1then-1 else v1.n then 4 else if v1.n< -1then-1 else v1.n));have an:x=min (max v1.n (-1)) 4:=by rw[<-hx];split<;>split<;>omega
  rw[hx];have ab:=fin x [] (by rw[alq hp,an]);have ad:=ah x om om (λw=>absurd hp w);revert ab ad;generalize rg x=o;obtain⟨oa,oe⟩:=o;intro ab ad;simp only at ab ad;refine pC ad ?_;simp[go_sem];refine zX (λw=>?_) (λw=>?_);.have w:oe≠0:=sU w;simp[go_sem];exact JO (ab.1 w)
  have w:oe=0:=sU w;simp[go_sem];refine yA [(8,0)] 2 rfl kR kR ?_;simp[go_sem,hq,hv];refine pD al ?_;simp[go_sem];exact JO (ab.2 w)
 .have hp:¬place=0:=sU hp;have ab:=fin 0 [] (by rw[alp hp]);have ad:=ah 0 om om (λ_=>rfl);revert ab ad;generalize rg 0=o;obtain⟨oa,oe⟩:=o;intro ab ad;simp only at ab ad;simp[go_sem];refine pC ad ?_;simp[go_sem];refine zX (λw=>?_) (λw=>?_);.have w:oe≠0:=sU w;simp[go_sem];exact JO (ab.1 w)
  have w:oe=0:=sU w;simp[go_sem];refine yA [(8,0)] 2 rfl kR kR ?_;simp[go_sem,hq,hv];refine pD al ?_;simp[go_sem];exact JO (ab.2 w)
theorem Wt{n:Nat}(h:n<256):(UInt8.ofNat n).toNat=n:=by simp_all
theorem MP:∀a:alW,Op.bytesLess a a=false|[]=>rfl|a::l=>by simp[Op.bytesLess,MP l]
theorem JP:∀a b c:alW,Op.bytesLess a b=true->Op.bytesLess b c=true->Op.bytesLess a c=true
 |_,[],_,h,_=>by grind[Op.bytesLess]|_,_::_,[],_,h=>by trivial|[],_::_,_::_,_,_=>rfl|a::l,b::m,d::n,h1,h2=>by
  simp only[Op.bytesLess,Ch,alw,Aa,alx]at*;rcases h1 with h1|⟨rfl,h1⟩;.grind
  .rcases h2 with h2|⟨rfl,h2⟩;.grind
   .exact .inr ⟨rfl,JP l m n h1 h2⟩
theorem Qz:∀a b:alW,Op.bytesLess a b=true\/a=b\/Op.bytesLess b a=true
 |[],[]=>sM|[],_::_=>.inl rfl|_::_,[]=>.inr (.inr rfl)|a::l,b::m=>by
  simp only[Op.bytesLess,Ch,alw,Aa,alx,List.cons.injEq];by_cases h:a<b;.grind
  .by_cases h2:b<a;.grind
   .have he:a=b:=(by grind);subst he;rcases Qz l m with q|rfl|q;all_goals grind
theorem QA:∀(n i v:Nat)(rest:alW),n<18446744073709551616->(n*128^i<18446744073709551616)->(0<i->0<n)->iH (eQ n++rest) i v=(v+n*128^i,i+(eQ n).length,0):=by intro n;induction n using Nat.strongRecOn with|_ n ih=>
  intro i v rest hn hb h0;have h9:i=9->n<=1:=(by grind);by_cases h:n<128;.have e:(UInt8.ofNat n).toNat=n:=Wt om;rw[zf h];show iH (UInt8.ofNat n::rest) i v=_;rw[iH,e,alp om,alq h,alp om,Ce h];rfl
  .have e:(UInt8.ofNat (n%128+128)).toNat=n%128+128:=Wt om;rw[DO h];show iH (UInt8.ofNat (n%128+128)::(eQ (n/128)++rest)) i v=_;rw[iH,e,alp om,alp om];have hdiv:n/128*128^(i+1)<=n*128^i:=by rw[E8,Dx (128^i) 128,<-Nat.mul_assoc];simp[Ak,Nat.div_mul_le_self]
   rw[ih (n/128) om (i+1) _ rest om om om];have e2:(n%128+128)%128=n%128:=om;rw[e2,Ah];have e3:n%128*128^i+n/128*128^(i+1)=n*128^i:=by rw[E8,Dx (128^i) 128,<-Nat.mul_assoc,<-B5];grind
   grind
theorem Wu(n:Int):lu (gM n)=n:=by unfold lu gM;grind
theorem QB{v:bK}(h:e9 v):(v.kind=0/\v.n=0/\v.s=[])\/(v.kind=1/\(v.n=0\/v.n=1)/\v.s=[])\/(v.kind=2/\v.s=[])\/(v.kind=3/\v.n=0/\v.s.length<=64):=by grind[e9]
theorem xb6{v:bK}(h:e9 v)(ho:v.ok)(rest:alW):mg (k6 v++rest)=⟨v,(k6 v).length,0⟩:=by
 have hp:=QB h;have hi:=ho.n;obtain⟨k,n,s⟩:=v;simp only at hp hi;unfold k6;rw[alq h];simp only;rcases hp with⟨rfl,rfl,rfl⟩|⟨rfl,hn,rfl⟩|⟨rfl,rfl⟩|⟨rfl,rfl,hl⟩;.rfl
 .rcases hn with rfl|rfl<;>simp[mg,p5,wv]
 .grind[QA,gM,mg,p5,Wu]
 .have ht:=QA s.length 0 0 (s++rest) om om (λh=>om);have aa:uR (eQ s.length++(s++rest))=(s,(eQ s.length).length+s.length,0):=by
   unfold uR;rw[ht];have e1:(eQ s.length++(s++rest)).take ((eQ s.length).length+s.length)=eQ s.length++s:=by grind
   simp_all[wY,alp];omega
  grind[mg,p5]
theorem Wv:∀(l:List bK),(∀v∈l,e9 v=true)->(∀v∈l,v.ok)->iQ l.length (l.flatMap k6)=some l
 |[],_,_=>by rfl|v::l,h,ho=>by have h1:=xb6 (h v sM) (ho v sM) (l.flatMap k6);have h2:=Wv l (λx hx=>h x (by simp[hx])) (λx hx=>ho x (by simp[hx]));rw[Ah,iQ,Br,h1];simp[h2]
theorem Ww:∀(cs:List fZ)(vs:List bK),vs.length=cs.length->DS cs vs=0->∀i(hi:i<cs.length)(hj:i<vs.length),e9 vs[i]=true/\(cs[i].null=false->vs[i].kind=cs[i].kind)
 |[],[],_,_,i,hi,_=>by grind|c::cs,v::vs,hl,h,i,hi,hj=>by
  unfold DS at h;split at h;.cases h
  .rename_i h1;split at h;.cases h
   .rename_i h2;split at h;.cases h
    .rename_i h3;cases i with |zero=>refine⟨by simpa using h1,λhn=>?_⟩;have hn:c.null=false:=hn;have:v.kind≠0:=λq=>h2 ⟨q,hn⟩;exact Decidable.not_not.1 λq=>h3 ⟨this,q⟩|succ i=>exact Ww cs vs (sU hl) h i (sU hi) (sU hj)
 |[],_::_,hl,_,_,_,_=>by grind|_::_,[],hl,_,_,_,_=>by grind
theorem xF3{row:List bK}(h:fC cw row=0):DS cw row=0:=by grind[fC]
theorem Wx{row:List bK}(h:fC cw row=0):∀v∈row,e9 v=true:=λv hv=>by obtain⟨i,hi,rfl⟩:=Cm.1 hv;exact(Ww cw row (zp h) (xF3 h) i (by grind[zp]) hi).1
theorem wa0{row:List bK}(h:fC cw row=0)(hL:ju row):kj cw.length (xP row)=(row,0):=by
 have hl:=zp h;have aa:=hL.len;have ht:=QA row.length 0 0 (row.flatMap k6) om om (λh=>om);have hd:xP row=eQ row.length++row.flatMap k6:=by grind[xP,tE]
 unfold kj;rw[hd,ht];simp[<-hl,Wv row (Wx h) hL.ok,uS]
end Go.Proofs.YtegbonbgofjlcaaGreat.R
namespace Go.Proofs.YtegbonbgofjlcaaGreat
open Go Go.Vx R Go.Proofs.Tryz
set_option maxRecDepth 100000
end Go.Proofs.YtegbonbgofjlcaaGreat
namespace Go.Vx
open Go
end Go.Vx
namespace Go.Proofs.YtegbonbgofjlcaaGreat
open Go Go.Vx R Go.Proofs.Tryz
set_option maxRecDepth 100000
end Go.Proofs.YtegbonbgofjlcaaGreat
namespace Go.Proofs.YtegbonbgofjlcaaGreat
open Go Go.Vx R Go.Proofs.Tryz
set_option maxRecDepth 100000
def JQ(v:bK)(C:fZ):Bool:=e9 v&&(v.kind==0||v.kind==C.kind)
def F1(cs:List fZ)(row:List bK):Bool:=decide (row.length=cs.length)&&(row.zip cs).all λp=>JQ p.1 p.2
theorem Wy{T:bL}{row:List bK}(h:F1 T.cw row)(hv:∀v∈row,v.ok):oJ T row:=by
 unfold F1 at h;rw[Aa,alw]at h;refine⟨h.1,λj C v hC hV=>?_⟩;have hz:(row.zip T.cw)[j]?=some (v,C):=by rw[List.getElem?_zip_eq_some];exact⟨hV,hC⟩
 have h2:=Am.1 h.2 _ (Bp hz);unfold JQ at h2;simp only[Aa,Ch,alx]at h2;have aa:=hv v (Bp hV);exact⟨h2.1,⟨aa.n.1,aa.n.2⟩,h2.2.elim .inr .inl⟩
def gZ(T:bL)(row:List bK)(e:bJ):bK×Int:=if(jf T e).2≠0then(zeroV,(jf T e).2)else if F1 T.cw row=false then(zeroV,9)else oI T row e
theorem QC (e:bJ):gZ fj [] e=k7 e:=rfl
def lB(n:Int):Int:=if 4<(if n< -1then-1 else n)then 4 else if n< -1then-1 else n
theorem wn0(n:Int):lB n=-1\/lB n=0\/lB n=1\/lB n=2\/lB n=3\/lB n=4:=by
 unfold lB;repeat' split
 all_goals omega
def vi(T:bL)(r:List bJ):Option Int:=if T.place=0then(if(k7 (r.getD 0 dw)).2≠0\/(k7 (r.getD 0 dw)).1.kind≠2then none else some (lB (k7 (r.getD 0 dw)).1.n))else some 0
def kS(t:Int)(r:List bJ)(uJ:US):US:=match bO[t.toNat]?with
 |none=>uJ|some T=>if r.length<=T.key.toNat then uJ else if(k7 (r.getD T.key.toNat dw)).2≠0\/(k7 (r.getD T.key.toNat dw)).1.kind=0then uJ else match vi T r with|none=>uJ|some g=>if(xJ t g).2≠0then uJ else mI (xJ t g).1 ⟨oz 3 t (k7 (r.getD T.key.toNat dw)).1,oz 3 t (k7 (r.getD T.key.toNat dw)).1++[0]⟩ uJ
theorem wn6(t:Int)(r:List bJ)(n:Nat)(uJ:US)(h:Bd n uJ):Bd (n+1) (kS t r uJ):=by
 unfold kS;split;.exact⟨by have:=h.1;omega,λy hy=>by have:=h.2 y hy;omega⟩
 .split;.exact⟨by have:=h.1;omega,λy hy=>by have:=h.2 y hy;omega⟩
  .split;.exact⟨by have:=h.1;omega,λy hy=>by have:=h.2 y hy;omega⟩
   .split;.exact⟨by have:=h.1;omega,λy hy=>by have:=h.2 y hy;omega⟩
    .split;.exact⟨by have:=h.1;omega,λy hy=>by have:=h.2 y hy;omega⟩
     .exact Bd.eP h _ _
section
variable{b:List V}{rows:List (List V)}{A:alX}{τ:St}
theorem xS0:(gS b rows A++τ).take (A.length+2)=gS b rows A:=by rw[<-yL (b:=b) (rows:=rows),List.take_left]
end
theorem Wz{v:bK}{k:Int}(h:VK v k):v.ok/\v.s.length<=500:=by
 have hm:=h.may;have hn:=h.n;unfold e9 at hm;have:cL v.kind/\v.s.length<=64:=by
  unfold cL;split at hm;.rename_i q;rw[q];simp at hm;exact⟨dC,by rw[hm.2];decide⟩
  split at hm;.rename_i q;rw[q];simp at hm;exact⟨dC,by rw[hm.2];decide⟩
  split at hm;.rename_i q;rw[q];simp at hm;exact⟨dC,by rw[hm];decide⟩
  split at hm;.rename_i q;rw[q];simp at hm;exact⟨dC,hm.2⟩
  .cases hm
 exact⟨⟨this.1,hn,by unfold maxLen;omega⟩,om⟩
theorem wG1(tn:Nat)(T:bL)(hT:bO[tn]?=some T)(r:List bJ)(hr:r.length<=1000)(he:∀e∈r,jt e)(N:List (Int×List ca×Nat))(A:alX)(h:lO N A)(hB:Bd 1000 (fr N)):bN prog 180 [.ptr 0 0,dW bO,.int .i64 tn,.sl .ro (r.map bJ.row)] (jg N A) (λx s=>x=.cC []/\∃N' A',s=jg N' A'/\lO N' A'/\fr N'=kS tn r (fr N)):=by
 have av:∃kk:Nat,T.key=(kk:Int):=by match tn,hT with |0,h=>simp[bO]at h;subst h;exact⟨1,rfl⟩|1,h=>simp[bO]at h;subst h;exact⟨0,rfl⟩|2,h=>simp[bO]at h;subst h;exact⟨0,rfl⟩|n+3,h=>simp[bO]at h
 obtain⟨kk,aw⟩:=av;generalize hM:kS tn r (fr N)=M;unfold kS at hM;rw[Ay,hT]at hM;simp only at hM;rw[aw,Ay]at hM;have done:∀(τ:St),fr N=M->cz (some (.cC [])) (A.length+2) (λx s=>x=.cC []/\∃N' A',s=jg N' A'/\lO N' A'/\fr N'=M) (gS [.cS 1 2 N.length 0 N.length] (N.map fu) A++τ):=λτ hM=>yW (A.length+2) (s:=gS [.cS 1 2 N.length 0 N.length] (N.map fu) A) xS0 yL (HE _ _ h) (A7 _) (zC rfl) ⟨rfl,N,A,rfl,h,hM⟩;have ak:tn<bO.length:=(A3.1 hT).1;have ax:(tn:Int)=0\/(tn:Int)=1\/(tn:Int)=2:=by have:tn<3:=ak;omega
 have a8:bO[tn]'ak=T:=(A3.1 hT).2;have aA:decide ((kk:Int)<0)=false:=alr om;refine bN.iN (A.length+2) func180 ntmps180 results180 rfl (by simp[jg,gS]) (Ca rfl) λc hc hb=>?_;refine zA ?_;unfold jg;rw[<-Aw (gS _ _ _)];simp[go_sem,yL,dW,ak,a8,aw,aA];have ret:∀(τ:St),fr N=M->cz (some (.cC [])) (A.length+2) (λx s=>x=.cC []/\∃N' A',s=gS [.cS 1 2 N'.length 0 N'.length] (N'.map fu) A'/\lO N' A'/\fr N'=M) (gS [.cS 1 2 N.length 0 N.length] (N.map fu) A++τ):=done;by_cases q1:r.length<=kk;.rw[alq q1]at hM;have al:decide (r.length<=kk)=true:=als q1;simp[go_sem,al];exact ret _ hM
 rw[alp q1]at hM;have al:decide (r.length<=kk)=false:=alr q1;have qk:kk<r.length:=om;obtain⟨x,hx⟩:=eX (r[kk]);have aB:r.getD kk dw=x:=by rw[Aj,A0 qk,hx];rfl
 have ay:=he x (hx▸A9 qk);have aC:=Qy x ay;rw[aB]at hM;simp[go_sem,al,yL,qk,hx];refine zL aC cB ⟨xM ⟨zF rfl,zY,zF rfl,zF rfl,zF rfl,zY,zY,zY,zF rfl,zF rfl,zF rfl,tV⟩,zK,zR sg (by rw[bJ.bQ];rfl)⟩ rfl ?_;have az:(k7 x).2=0->VK (k7 x).1 (jf fj x).1:=Wq ay;generalize k7 x=kv at hM az⊢;simp[go_sem,fR,yL];by_cases q2:kv.2=0;rotate_left;.rw[alq (.inl q2)]at hM;have ah:(kv.2!=0)=true:=sU q2;simp[go_sem,ah];exact ret _ hM
 have ah:(kv.2!=0)=false:=sU q2;by_cases q3:kv.1.kind=0;.rw[alq (.inr q3)]at hM;have an:(kv.1.kind==0)=true:=sU q3;simp[go_sem,ah,an,yL];exact ret _ hM
 have an:(kv.1.kind==0)=false:=sU q3;rw[alp (λh=>h.elim (λh=>h q2) q3)]at hM;obtain⟨aD,aE⟩:=Wz (az q2);have ai:=Vg xN (bO.map bL.row) tn kv.1 dC aD aE;rw[show(bO.map bL.row).length=3from rfl]at ai;obtain⟨bd,a1⟩:=eX (oz 3 (tn:Int) kv.1);have a6:bd.length<=9223372036854775806:=by
  have:=U8 (v:=kv.1);rw[<-a1];unfold oz;split;.simp only[Ah];omega
  .simp
 rw[a1]at ai hM;simp[go_sem,ah,an,yL];have af:=V7 hB;by_cases q4:T.place=0
 .have ao:(T.place==0)=true:=sU q4;have q5:0<r.length:=om;obtain⟨y,hy⟩:=eX (r[0]);have aF:r.getD 0 dw=y:=by rw[Aj,A0 q5,hy];rfl
  have aG:=he y (hy▸A9 q5);have a7:=Qy y aG;unfold vi at hM;rw[alq q4,aF]at hM;simp[go_sem,ao,q5,hy];refine zL a7 cB ⟨xM ⟨zF rfl,zY,zF rfl,zF rfl,zF rfl,zY,zY,zY,zF rfl,zF rfl,zF rfl,tV⟩,zK,zR sg (by rw[bJ.bQ];rfl)⟩ rfl ?_;generalize k7 y=rv at hM⊢;simp[go_sem,fR,yL];by_cases q6:rv.2=0;rotate_left;.rw[alq (.inl q6)]at hM;have aj:(rv.2!=0)=true:=sU q6;simp[go_sem,aj];exact ret _ hM
  have aj:(rv.2!=0)=false:=sU q6;by_cases q7:rv.1.kind=2;rotate_left;.rw[alq (.inr q7)]at hM;have aq:(rv.1.kind !=2)=true:=sU q7;simp[go_sem,aj,aq,yL];exact ret _ hM
  have aq:(rv.1.kind !=2)=false:=sU q7;rw[alp (λh=>h.elim (λh=>h q6) (λh=>h q7))]at hM;simp only at hM;have ae:=Jz tn (lB rv.1.n) ax (wn0 _);obtain⟨⟨g,ge⟩,hg⟩:∃g,xJ tn (lB rv.1.n)=g:=⟨_,rfl⟩;rw[hg]at ae hM;simp only at hM;unfold lB at ae;simp[go_sem,aj,aq,yL];refine zL ae cB (zR (by simp[go_sem,dW]) rfl) rfl ?_;simp[go_sem,FV];by_cases q8:ge=0;rotate_left;.rw[alq q8]at hM;have ab:(ge !=0)=true:=sU q8;simp[go_sem,ab];exact ret _ hM
  have ab:(ge !=0)=false:=sU q8;rw[alp (λh=>h q8)]at hM;have ad:=Qo N A h g ⟨bd,bd++[0]⟩ om (λy hy=>by have:=af.2 y hy;omega);simp[go_sem,ab,yL];refine zL ai cB (zR sg rfl) rfl ?_;simp[go_sem];refine zJ a6 ?_;simp[go_sem];refine LG ad cB (xa h) (by simp[bS,cV,cR]) ⟨xR (n:=(jg N A).length) (by simp[hZ,iu,cV,cR,vd]),zC rfl,zC rfl,tV⟩ (λr s h=>by obtain⟨rfl,N2,A2,rfl,h2,_⟩:=h;exact⟨rfl,xa h2⟩) ?_;rintro r' s⟨rfl,N2,A2,rfl,aa,ar⟩hle I' pick au;simp[go_sem];exact Tq au (by rw[yL];exact A7 _) (xa aa) hle rfl ⟨rfl,N2,A2,rfl,aa,ar.trans hM⟩
 have ao:(T.place==0)=false:=sU q4;unfold vi at hM;rw[alp q4]at hM;simp only at hM;have ae:=Jz tn 0 ax om;obtain⟨⟨g,ge⟩,hg⟩:∃g,xJ tn 0=g:=⟨_,rfl⟩;rw[hg]at ae hM;simp only at hM;simp[go_sem,ao,yL];refine zL ae cB (zR (by simp[go_sem,dW]) rfl) rfl ?_;simp[go_sem,FV];by_cases q8:ge=0;rotate_left;.rw[alq q8]at hM;have ab:(ge !=0)=true:=sU q8;simp[go_sem,ab];exact ret _ hM
 have ab:(ge !=0)=false:=sU q8;rw[alp (λh=>h q8)]at hM;have ad:=Qo N A h g ⟨bd,bd++[0]⟩ om (λy hy=>by have:=af.2 y hy;omega);simp[go_sem,ab,yL];refine zL ai cB (zR sg rfl) rfl ?_;simp[go_sem];refine zJ a6 ?_;simp[go_sem];refine LG ad cB (xa h) (by simp[bS,cV,cR]) ⟨xR (n:=(jg N A).length) (by simp[hZ,iu,cV,cR,vd]),zC rfl,zC rfl,tV⟩ (λr s h=>by obtain⟨rfl,N2,A2,rfl,h2,_⟩:=h;exact⟨rfl,xa h2⟩) ?_;rintro r' s⟨rfl,N2,A2,rfl,aa,ar⟩hle I' pick au;simp[go_sem];exact Tq au (by rw[yL];exact A7 _) (xa aa) hle rfl ⟨rfl,N2,A2,rfl,aa,ar.trans hM⟩
def nR(l:eF):US:=l.stmts.foldl (su kS) []
theorem QD:∀(n:Nat)(q l:List bJ),(∀e∈q,Good e)->(∀e∈l,Good e)->∀e∈uP n q l,Good e
 |0,_,_,_,hl=>hl|n+1,[],_,_,hl=>by rw[uP];exact hl|n+1,x::q,l,hq,hl=>by
  have hx:=hq x (B2 ..);have aa:∀e∈q,Good e:=λe he=>hq e (Bg _ he)
  rw[uP];split;.exact QD n _ _ (λe he=>by
    rcases Ai.1 he with he|he;.exact aa e he
    .exact hx.sub e he) hl
  .exact QD n _ _ aa (λe he=>by
    rcases Ai.1 he with he|he;.exact hl e he
    .rw[Bl]at he;subst he;exact hx)
theorem WA{st:bZ}(h:Good st.cH):MK st:=λe he name s v ha=>by
 have hg:Good e:=by
  unfold pj at he;split at he;.exact QD 4096 [st.cH] [] (λe he=>by rw[Bl]at he;subst he;exact h) (λe he=>by cases he) e he
  .cases he
 have aa:∃a∈e.args,a.v=v:=by
  unfold pn at ha;split at ha
  .rename_i a b heq ab;rw[ab];split at ha
   .split at ha;.cases ha;exact⟨a,sM,rfl⟩
    .cases ha
   .split at ha;.cases ha;exact⟨b,sM,rfl⟩
    .cases ha
  .cases ha
 obtain⟨a,ad,rfl⟩:=aa;exact(hg.sub a ad).v
theorem xW0(l:eF)(hl:l.stmts.length<=24)(hs:∀st∈l.stmts,lq st):Pure prog 108 [dW bO,.agg l.row] (.sl .ro ((nR l).map p8)):=by
 refine wg2 kS (λt r n uJ h=>wn6 t r n uJ h) l (by unfold maxLen;omega) (λst aa=>WA (hs st aa).cH.eD) ?_ (λst aa=>by have:=(hs st aa).rows.1;unfold maxLen;omega) (λst aa hk ht=>?_)
 .have:∀L:List bZ,(∀st∈L,lq st)->(L.map lA).sum<=20*L.length:=by intro L;induction L with |nil=>intro _;exact A7 _|cons x L ih=>
    intro h;have h1:=ih (λst aa=>h st (Bg _ aa));have h2:=(h x (B2 ..)).rows.1;rw[Ag,List.sum_cons,Ah];have:lA x<=20:=by unfold lA;split<;>omega
    omega
  have:=this _ hs;omega
 .intro r hr N A hN hB;obtain⟨ah,ab⟩:=(hs st aa).rows.2 r hr;have ad:=MJ st.table;obtain⟨tn,ae⟩:∃tn:Nat,xO st.table=(tn:Int):=⟨(xO st.table).toNat,om⟩;rw[ae]at ad⊢;have af:tn<bO.length:=by show tn<3;omega
  exact wG1 tn _ (A0 af) r om ab N A hN hB
theorem WB:∀a b:alW,Op.bytesLess a b=true\/a=b\/Op.bytesLess b a=true
 |[],[]=>.inr (.inl rfl)|[],_::_=>.inl rfl|_::_,[]=>.inr (.inr rfl)|x::a,y::b=>by
  rw[Mx,Mx];by_cases q:x.toNat<y.toNat;.rw[alq q];exact .inl rfl
  by_cases q2:y.toNat<x.toNat;.rw[alp q,alq q2,alq q2];exact .inr (.inr rfl)
  rw[alp q,alp q2,alp q2,alp q];have e:x=y:=E5.1 om;rcases WB a b with h|h|h;.exact .inl h
  .exact .inr (.inl (by rw[e,h]))
  .exact .inr (.inr h)
structure DT(uJ:US):Prop where sr:(uJ.map (·.1)).Pairwise (·<·)cj:∀y∈uJ,y.2≠[]/\y.2.Nodup/\∀x∈y.2,Op.bytesLess x.lo x.hi=true
def Has(uJ:US)(dN:Int)(x:ca):Prop:=∃y∈uJ,y.1=dN/\x∈y.2
theorem xA7{uJ:US}(h:DT uJ)(dN:Int)(x:ca)(hx:Op.bytesLess x.lo x.hi):DT (jw dN x uJ)/\Has (jw dN x uJ) dN x/\(∀r z,Has uJ r z->Has (jw dN x uJ) r z)/\(Has uJ dN x->jw dN x uJ=uJ):=by obtain⟨k,hk⟩:=eX (kn (uJ.map (·.1)) dN);obtain⟨ax,aq,ar,aa⟩:=VZ h.sr hk;cases af:(uJ.map (·.1)).contains dN with
 |true=>
  rw[af]at aa;have ab:k<uJ.length:=by
   split at aa;.rename_i h1;simpa using h1
   .cases aa
  rw[dif_pos (sU ab)]at aa;obtain⟨⟨r0,sp⟩,hU⟩:∃y,uJ[k]=y:=⟨_,rfl⟩;have au:r0=dN:=by
   have:(uJ.map (·.1))[k]'(sU ab)=r0:=by rw[D1,hU]
   rw[this]at aa;simpa using aa
  subst au;have aj:uJ[k]?=some (r0,sp):=by rw[A0 ab,hU]
  have ah:(r0,sp)∈uJ:=hU▸A9 ab;have ak:=h.cj _ ah;have uniq:∀y∈uJ,y.1=r0->y=(r0,sp):=λy hy hr=>by
   obtain⟨j,hj,rfl⟩:=Dy hy;have ha:=Cz.1 h.sr;rcases Bc j k with q|q|q;.have:=ha j k (sU hj) (sU ab) q;rw[D1,D1,hr,hU]at this;exact absurd this (Int.lt_irrefl _)
   .subst q;exact hU
   .have:=ha k j (sU ab) (sU hj) q;rw[D1,D1,hr,hU]at this;exact absurd this (Int.lt_irrefl _)
  cases hc:sp.contains x with |true=>have e:=V0 hk af aj hc;rw[e];exact⟨h,⟨_,ah,rfl,by simpa using hc⟩,λ_ _ h=>h,λ_=>rfl⟩|false=>
   have e:=V1 hk af aj hc;have al:x∉sp:=sU hc;rw[e];refine⟨⟨?_,λy hy=>?_⟩,⟨(r0,sp++[x]),List.mem_set ab _,rfl,sM⟩,λr z hz=>?_,λhz=>?_⟩
   .have:(uJ.set k (r0,sp++[x])).map (·.1)=uJ.map (·.1):=by
     rw[Cq];refine List.ext_getElem sM λj h1 h2=>?_;rw[List.getElem_set];split;.rename_i q;subst q;rw[D1,hU]
     .rfl
    rw[this];exact h.sr
   .rcases Dw hy with hy|rfl;.exact h.cj y hy
    .refine⟨sM,?_,λz hz=>?_⟩;.simp only;rw[Ct];exact⟨ak.2.1,sM,λa ha b hb=>by rw[Bl]at hb;subst hb;exactλe=>al (e▸ha)⟩
     .rcases Ai.1 hz with hz|hz;.exact ak.2.2 z hz
      .rw[Bl]at hz;subst hz;exact hx
   .obtain⟨y,hy,ad,ae⟩:=hz;by_cases q:y.1=r0;.have:=uniq y hy q;subst this;exact⟨(r0,sp++[x]),List.mem_set ab _,ad,alM _ ae⟩
    .obtain⟨j,hj,ai⟩:=Dy hy;refine⟨y,?_,ad,ae⟩;have av:k≠j:=λe=>by subst e;rw[hU]at ai;exact q (by rw[<-ai])
     have:(uJ.set k (r0,sp++[x]))[j]'(sU hj)=y:=by rw[List.getElem_set,alp av];exact ai
     exact this▸A9 _
   .obtain⟨y,hy,ad,ae⟩:=hz;have:=uniq y hy ad;subst this;exact absurd ae al
 |false=>
  have an:∀y∈uJ,y.1≠dN:=λy hy hr=>by have:dN∈uJ.map (·.1):=Ab.2 ⟨y,hy,hr⟩;rw[<-alL,af]at this;cases this
  have e:jw dN x uJ=uJ.take k++(dN,[x])::uJ.drop k:=by unfold jw;rw[alp (by rw[af];exact Bool.false_ne_true),hk]
  have aw:∀y∈uJ,y∈uJ.take k++(dN,[x])::uJ.drop k:=λy hy=>by
   rw[<-B0 k uJ]at hy;rcases Ai.1 hy with hy|hy;.exact alM _ hy
   .exact List.mem_append_right _ (Bg _ hy)
  have ao:∀y∈uJ.take k++(dN,[x])::uJ.drop k,y∈uJ\/y=(dN,[x]):=λy hy=>by
   rcases Ai.1 hy with hy|hy;.exact .inl (B6 hy)
   .rcases Af.1 hy with rfl|hy;.exact .inr rfl
    .exact .inl (Bz hy)
  rw[e];refine⟨⟨?_,λy hy=>?_⟩,⟨(dN,[x]),sM,rfl,sM⟩,λr z⟨y,hy,ad,ae⟩=>⟨y,aw y hy,ad,ae⟩,λ⟨y,hy,ad,_⟩=>absurd ad (an y hy)⟩
  .rw[C2,Ag,List.map_take,E2,Bw];refine⟨h.sr.sublist (List.take_sublist _ _),Ck.2 ⟨λb hb=>?_,h.sr.sublist (List.drop_sublist _ _)⟩,λa ha b hb=>?_⟩
   .obtain⟨j,hj,rfl⟩:=Dy hb;rw[List.getElem_drop];have h1:=ar (k+j) (by rw[D9]at hj;omega) om;have h2:(uJ.map (·.1))[k+j]'(by rw[D9]at hj;omega)≠dN:=λe=>by rw[D1]at e;exact an _ (A9 _) e
    show dN<_;omega
   .obtain⟨j,hj,rfl⟩:=Dy ha;rw[Cf]at hj;have h1:=aq j om om;rw[alS];rcases Af.1 hb with rfl|hb;.exact h1
    .obtain⟨i,hi,rfl⟩:=Dy hb;rw[D9]at hi;rw[List.getElem_drop];exact Cz.1 h.sr j (k+i) om om om
  .rcases ao y hy with hy|rfl;.exact h.cj y hy
   .exact⟨sM,sM,λz hz=>by rw[Bl]at hz;subst hz;exact hx⟩
def oK(ps:List (Int×ca))(uJ:US):US:=ps.foldl (λuJ p=>mI p.1 p.2 uJ) uJ
def MQ(x:ca):Bool:=Op.bytesLess x.hi x.lo||x.hi==x.lo
theorem xj5{uJ:US}(h:DT uJ)(dN:Int)(x:ca):DT (mI dN x uJ)/\(MQ x=true\/Has (mI dN x uJ) dN x)/\(∀r z,Has uJ r z->Has (mI dN x uJ) r z)/\(MQ x=true\/Has uJ dN x->mI dN x uJ=uJ):=by unfold mI;cases q:MQ x with |true=>have q':(Op.bytesLess x.hi x.lo||x.hi==x.lo)=true:=q;rw[alq q'];exact⟨h,.inl rfl,λ_ _ h=>h,λ_=>rfl⟩|false=>
  have q':(Op.bytesLess x.hi x.lo||x.hi==x.lo)=false:=q;rw[alp (by rw[q'];exact Bool.false_ne_true)];have hx:Op.bytesLess x.lo x.hi:=by
   rw[Bool.or_eq_false_iff]at q';rcases WB x.lo x.hi with h|h|h;.exact h
   .rw[h]at q';simp at q'
   .rw[h]at q';simp at q'
  obtain⟨h1,h2,h3,h4⟩:=xA7 h dN x hx;exact⟨h1,.inr h2,h3,λh=>h4 (h.resolve_left sM)⟩
theorem WC:∀(ps:List (Int×ca)){uJ:US},DT uJ->DT (oK ps uJ)/\(∀p∈ps,MQ p.2=true\/Has (oK ps uJ) p.1 p.2)/\(∀r z,Has uJ r z->Has (oK ps uJ) r z)
 |[],_,h=>⟨h,λp hp=>(by cases hp),λ_ _ h=>h⟩|p::ps,uJ,h=>by
  obtain⟨h1,h2,h3,_⟩:=xj5 h p.1 p.2;obtain⟨g1,g2,g3⟩:=WC ps h1;refine⟨g1,λq hq=>?_,λr z hz=>g3 r z (h3 r z hz)⟩;rcases Af.1 hq with rfl|hq;.exact h2.imp id (g3 _ _)
  .exact g2 q hq
theorem wq4:DT []:=⟨List.Pairwise.nil,λy hy=>by cases hy⟩
def qf(t:Int)(r:List bJ):List (Int×ca):=match bO[t.toNat]?with
 |none=>[]|some T=>if r.length<=T.key.toNat then[]else if(k7 (r.getD T.key.toNat dw)).2≠0\/(k7 (r.getD T.key.toNat dw)).1.kind=0then[]else match vi T r with|none=>[]|some g=>if(xJ t g).2≠0then[]else[((xJ t g).1,⟨oz 3 t (k7 (r.getD T.key.toNat dw)).1,oz 3 t (k7 (r.getD T.key.toNat dw)).1++[0]⟩)]
theorem wn7(t:Int)(r:List bJ)(uJ:US):kS t r uJ=oK (qf t r) uJ:=by unfold kS qf;cases bO[t.toNat]?with|none=>rfl|some T=>
  simp only;generalize k7 (r.getD T.key.toNat dw)=kv;by_cases a:r.length<=T.key.toNat;.rw[alq a,alq a];rfl
  rw[alp a,alp a];by_cases b:kv.2≠0\/kv.1.kind=0;.rw[alq b,alq b];rfl
  rw[alp b,alp b];cases vi T r with|none=>rfl|some g=>
   simp only;by_cases d:(xJ t g).2≠0;.rw[alq d,alq d];rfl
   .rw[alp d,alp d];rfl
def qX(st:bZ):List (Int×ca):=if xO st.table<0then[]else if st.kind=2then st.rows.flatMap (qf (xO st.table))else(wJ (xO st.table) st).map λrg=>((xJ (xO st.table) rg).1,⟨(oC bO (xO st.table) st).1,(oC bO (xO st.table) st).2⟩)
theorem WD(ps qs:List (Int×ca))(uJ:US):oK (ps++qs) uJ=oK qs (oK ps uJ):=D4 ..
theorem wb7(uJ:US)(st:bZ):su kS uJ st=oK (qX st) uJ:=by
 unfold su qX;split;.rfl
 .split
  .have:∀(rs:List (List bJ))(uJ:US),rs.foldl (λuJ r=>kS (xO st.table) r uJ) uJ=oK (rs.flatMap (qf (xO st.table))) uJ:=by intro rs;induction rs with |nil=>intro uJ;rfl|cons r rs ih=>intro uJ;rw[B7,Br,WD,ih,wn7]
   exact this _ _
  .unfold oK;rw[List.foldl_map];rfl
theorem JR:∀(l:List bZ)(uJ:US),l.foldl (su kS) uJ=oK (l.flatMap qX) uJ |[],_=>rfl|x::l,uJ=>by rw[B7,Br,WD,JR l,wb7]
theorem WE(l:eF):DT (nR l):=by unfold nR;rw[JR];exact(WC _ wq4).1
def MR(r:Int)(e:bJ):Bool:=match pn e [82]with|none=>true|some (s,v)=>!(s==[61]&&(v.kind==2&&!(v.n==r)))
theorem QE:∀(l:List bJ)(rs:alZ),jv l rs=rs.filter λr=>l.all (MR r)
 |[],rs=>(D6.2 sM).symm|e::l,rs=>by
  have ih:=QE l;have h:jv (e::l) rs=jv l (match pn e [82]with|none=>rs|some (s,v)=>if s=[61]/\v.kind=2then ly v.n rs else rs):=rfl;rw[h,ih];have h2:(match pn e [82]with|none=>rs|some (s,v)=>if s=[61]/\v.kind=2then ly v.n rs else rs)=rs.filter (MR · e):=by unfold MR;cases pn e [82]with |none=>exact(D6.2 sM).symm|some p=>
    obtain⟨s,v⟩:=p;simp only;by_cases q:s=[61]/\v.kind=2;.rw[alq q];unfold ly;grind
    .rw[alp q];refine(D6.2 λr _=>?_).symm;grind
  simp_all[Bool.and_comm]
def g1(r:Int)(f:Int->List ca):US:=if(f r).isEmpty=true then[]else[(r,f r)]
def HM(tn:Nat)(row:List bK):Int:=if tn=0then(row.getD 0 zeroV).n else if tn=1then-1 else 1
def fT(tn:Nat)(T:bL)(row:List bK):Int×alW×Int:=if fC T.cw row≠0then(0,[],fC T.cw row)else if tn=0/\¬((row.getD 0 zeroV).n=0\/(row.getD 0 zeroV).n=1)then(0,[],19)else((xJ tn (HM tn row)).1,oz 3 tn (row.getD T.key.toNat zeroV),0)
end Go.Proofs.YtegbonbgofjlcaaGreat
namespace Go.Proofs.YtegbonbgofjlcaaGreat
open Go Go.Vx Go.Proofs.Tryz
set_option maxRecDepth 100000
variable {U:Type}
abbrev Pl:=Int×alW
def iD(p:Pl):V:=.agg [.int .i64 p.1,.str p.2]
abbrev vj:Kk:= .st [.i .i64,.s]
def gP{U:Type}(g:U->V):List (Pl×U)->List V|[]=>[]|e::W=>iD e.1::g e.2::gP g W
structure Mp(U:Type)where
 W:List (Pl×U)bs:alX
 dm:Nat
def Mp.ob(g:U->V)(m:Mp U):Ob:=.mp (gP g m.W) m.bs m.dm
structure Mp.ok{U:Type}(m:Mp U):Prop where
 len:m.bs.length=m.W.length
 nd:m.bs.Nodup
 lt:∀b∈m.bs,b<m.dm
 keys:(m.W.map (·.1)).Nodup
def xc (U:Type):Mp U:=⟨[],[],0⟩
theorem WG(U:Type):(xc U).ok:=⟨rfl,Bo,λb hb=>(by cases hb),Bo⟩
def ep{U:Type}(p:Pl):List (Pl×U)->Option (Nat×U) |[]=>none|e::W=>if e.1=p then some (0,e.2)else(ep p W).map λq=>(q.1+1,q.2)
def Mp.at(m:Mp U)(p:Pl):Option (Nat×U):=ep p m.W
def Mp.get(m:Mp U)(p:Pl):Option U:=(m.at p).map (·.2)
def Mp.put(m:Mp U)(p:Pl)(v:U):Mp U:=match m.at p with |some (i,_)=>⟨m.W.set i (p,v),m.bs,m.dm⟩|none=>⟨m.W++[(p,v)],m.bs++[m.dm],m.dm+1⟩
def Mp.del(m:Mp U)(p:Pl):Mp U:=match m.at p with |some (i,_)=>⟨m.W.eraseIdx i,m.bs.eraseIdx i,m.dm⟩|none=>m
theorem QF(p q:Pl):lf vj (iD p) (iD q)=some (decide (p=q)):=by obtain⟨a,b⟩:=p;obtain⟨c,d⟩:=q;simp only[lf,iD,lV,ka,and_self,alB,Av,Bf,Dg,alu];grind
theorem WH(p:Pl):nH vj (iD p)=true:=by rfl
section
variable {U:Type} {g:U->V}
variable{m:Mp U}{p:Pl}{I:St}{z:U}{i:Nat}{r:Int}{k:alW}
theorem QG(p:Pl):∀(W:List (Pl×U))(i:Nat),pe vj (iD p) (gP g W) i=some ((ep p W).map λq=>(i+q.1,g q.2))
 |[],_=>rfl|e::W,i=>by
  rw[gP,pe,QF,ep];by_cases h:e.1=p;.grind
  .rw[alp h];have:decide (p=e.1)=false:=(by grind);rw[this];simp only;rw[QG p W (i+1)];cases ep p W<;>grind
theorem WI(m:Mp U)(p:Pl):pe vj (iD p) (gP g m.W) 0=some ((m.at p).map λq=>(q.1,g q.2)):=by grind[QG,Mp.at]
theorem zq{p:Pl}{i:Nat}{v:U}:∀{W:List (Pl×U)},ep p W=some (i,v)->W[i]?=some (p,v)
 |[],h=>by trivial|e::W,h=>by
  rw[ep]at h;by_cases q:e.1=p;.grind
  .rw[alp q]at h;simp only[As,alD]at h;obtain⟨⟨j,u⟩,h1,rfl,rfl⟩:=h;simpa using zq h1
theorem MS{p:Pl}:∀{W:List (Pl×U)},ep p W=none->∀e∈W,e.1≠p
 |[],_,e,he=>by cases he|e::W,h,x,hx=>by
  rw[ep]at h;by_cases q:e.1=p;.grind
  .rw[alp q]at h;simp only[Option.map_eq_none_iff]at h;rcases Af.1 hx with rfl|hx;.exact q
   .exact MS h x hx
theorem WJ{p:Pl}{v:U}:∀{W:List (Pl×U)},(W.map (·.1)).Nodup->(p,v)∈W->∃i,ep p W=some (i,v)
 |[],_,h=>by cases h|e::W,hn,h=>by
  rw[Ag,C6]at hn;rw[ep];rcases Af.1 h with rfl|h;.simp
  .have:e.1≠p:=(by grind);obtain⟨i,hi⟩:=WJ hn.2 h;grind
theorem Mp.get_mem(hm:m.ok){v:U}:m.get p=some v↔(p,v)∈m.W:=by
 constructor;.intro h;unfold Mp.get Mp.at at h;rw[As]at h;obtain⟨⟨i,u⟩,h1,rfl⟩:=h;exact Bp (zq h1)
 .intro h;obtain⟨i,hi⟩:=WJ hm.keys h;unfold Mp.get Mp.at;grind
theorem WK(W:List (Pl×U))(p:Pl)(v:U):gP g W++[iD p,g v]=gP g (W++[(p,v)]):=by induction W with|nil=>rfl|cons e W ih=>rw[gP,Bk,Bk,ih];rfl
theorem WL(p:Pl)(v:U):∀(W:List (Pl×U))(i:Nat),rE (gP g W) i (iD p) (g v)=gP g (W.set i (p,v))
 |[],i=>by rfl|e::W,0=>by rfl|e::W,i+1=>by have ih:=WL p v W i;unfold rE at ih⊢;rw[show 2*(i+1)=2*i+1+1by omega,gP];simp only[C4];rw[ih];rfl
theorem QH(v:U):∀(W:List (Pl×U))(i:Nat)(p:Pl)(u:U),W[i]?=some (p,u)->(gP g W).set (2*i+1) (g v)=gP g (W.set i (p,v))
 |[],i,_,_,h=>by rfl|e::W,0,p,u,h=>by grind[gP]|e::W,i+1,p,u,h=>by have ih:=QH v W i p u (sU h);rw[show 2*(i+1)+1=2*i+1+1+1by omega,gP];simp only[C4];rw[ih];rfl
theorem WM:∀(W:List (Pl×U))(i:Nat),i<W.length->BI (gP g W) i=gP g (W.eraseIdx i)
 |[],i,h=>by grind|e::W,0,_=>by rfl|e::W,i+1,h=>by have ih:=WM W i (sU h);unfold BI at ih⊢;rw[show 2*(i+1)=2*i+1+1by omega,show 2*i+1+1+2=2*i+2+1+1by omega,gP];simp only[Bx,C7,Bk];rw[ih];rfl
theorem MT{z:V}{id:Nat}(cP:I[id]?=some (m.ob g))(p:Pl)(ok:Bool):wI (some (vj,z)) I (.mp id) (iD p) ok=.ok (match m.get p with |some v=>if ok then .cC [g v,.bool true]else g v|none=>if ok then .cC [z,.bool false]else z):=by unfold wI;simp only[WH,alB,cP,Mp.ob,WI];unfold Mp.get;cases m.at p<;>rfl
def Mp.nu{U:Type}(m:Mp U)(p:Pl)(z:U):Mp U:=match m.at p with|some _=>m|none=>⟨m.W++[(p,z)],m.bs++[m.dm],m.dm+1⟩
def Mp.eO{U:Type}(m:Mp U)(p:Pl):Nat:=match m.at p with |some (i,_)=>m.bs.getD i 0|none=>m.dm
theorem WN{id:Nat}(hm:m.ok)(cP:I[id]?=some (m.ob g))(p:Pl):wL (some (vj,g z)) I (.mp id) (iD p)=(match m.at p with |some (_,v)=>.ok (.cC [g v,.int .i64 (m.eO p:Int)])|none=>.st (.cC [g z,.int .i64 (m.eO p:Int)]) (I.set id ((m.nu p z).ob g))):=by unfold wL Mp.eO Mp.nu;simp only[WH,alB,cP,Mp.ob,WI];cases h:m.at p with|none=>grind[WK]|some q=>
  have:=(A3.1 (zq (W:=m.W) (i:=q.1) (v:=q.2) h)).1;have hb:m.bs[q.1]?=some (m.bs.getD q.1 0):=by rw[Aj,A0 (by rw[hm.len];omega)];rfl
  grind
theorem WO{bs:alX}(hn:bs.Nodup){b:Nat}(h:bs[i]?=some b):bs.findIdx? (λ(x:Nat)=>((x:Int)==(b:Int)))=some i:=by obtain⟨hi,rfl⟩:=A3.1 h;rw[List.findIdx?_eq_some_iff_getElem];refine⟨hi,sM,λj hj=>?_⟩;intro q;rw[alx]at q;grind[List.getElem_inj]
theorem WQ{id:Nat}(hm:m.ok)(hg:∀v,nU (g v))(p:Pl)(cP:I[id]?=some ((m.nu p z).ob g))(v:U):xZ I (.mp id) (.int .i64 (m.eO p:Int)) (g v)=.st .u (I.set id ((m.put p v).ob g)):=by unfold xZ;simp only[hg,alB,cP];unfold Mp.ob Mp.nu Mp.eO Mp.put;cases h:m.at p with
 |none=>
  have hf:(m.bs++[m.dm]).findIdx? (λ(b:Nat)=>((b:Int)==(m.dm:Int)))=some m.W.length:=by
   refine WO ?_ ?_;.rw[Ct];refine⟨hm.nd,sM,λa ha b hb=>?_⟩;have:=hm.lt a ha;grind
   .rw[<-hm.len];simp
  grind[QH]|some q=>
  have h1:=zq (W:=m.W) (i:=q.1) (v:=q.2) h;have hl:=(A3.1 h1).1;have hb:m.bs[q.1]?=some (m.bs.getD q.1 0):=by rw[Aj,A0 (by rw[hm.len];exact hl)];rfl
  simp only[WO hm.nd hb];grind[QH]
theorem Mp.mN(hm:m.ok)(p:Pl)(z:U):(m.nu p z).ok:=by unfold Mp.nu;cases h:m.at p with |some q=>exact hm|none=>
  refine⟨by simp[hm.len],?_,λb hb=>?_,?_⟩;.rw[Ct];refine⟨hm.nd,sM,λa ha b hb=>?_⟩;have:=hm.lt a ha;grind
  .rcases Ai.1 hb with hb|hb;.have:=hm.lt b hb;grind
   grind
  .rw[C2,Ct];refine⟨hm.keys,sM,λa ha b hb=>?_⟩;obtain⟨e,he,rfl⟩:=Ab.1 ha;simp at hb;subst hb;exact MS h e he
theorem Mp.jy(hm:m.ok)(p:Pl)(v:U):(m.put p v).ok:=by unfold Mp.put;cases h:m.at p with
 |some q=>
  have h1:=zq (W:=m.W) (i:=q.1) (v:=q.2) h;have:((m.W.set q.1 (p,v)).map (·.1))=m.W.map (·.1):=by rw[Cq];exact yP _ _ _ (by grind)
  exact⟨by simp[hm.len],hm.nd,hm.lt,by rw[this];exact hm.keys⟩|none=>have:=Mp.mN hm p v;unfold Mp.nu at this;grind
theorem Mp.F2(hm:m.ok)(p:Pl):(m.del p).ok:=by unfold Mp.del;cases h:m.at p with
 |some q=>
  refine⟨?_,alF (by grind) hm.nd,λb hb=>hm.lt b (List.mem_of_mem_eraseIdx hb),?_⟩;.simp only[List.length_eraseIdx,hm.len]
  .exact alF (by grind) hm.keys|none=>exact hm
theorem Mp.vl{q:Nat×U}(h:m.at p=some q):m.nu p z=m:=by grind[Mp.nu]
theorem MU{p:Pl}{v:U}:∀{W:List (Pl×U)},ep p W=none->ep p (W++[(p,v)])=some (W.length,v)
 |[],_=>by simp[ep]|e::W,h=>by
  rw[ep]at h;by_cases q:e.1=p;.grind
  .rw[alp q,Option.map_eq_none_iff]at h;rw[Bk,ep,alp q,MU h];rfl
theorem Mp.zr(h:m.at p=none):(m.nu p z).get p=some z:=by unfold Mp.get Mp.at Mp.nu;rw[h];simp only;unfold Mp.at at h;rw[MU h];rfl
theorem Mp.get_none(h:m.at p=none):m.get p=none:=by unfold Mp.get;grind
theorem Mp.get_some{v:U}(h:m.at p=some (i,v)):m.get p=some v:=by unfold Mp.get;grind
theorem xP8{md:Option (Kk×V)}(hz:md=some (vj,g z))(h:m.at p=none):wI md [(m.nu p z).ob g] (.mp 0) (iD p) false=wI md [m.ob g] (.mp 0) (iD p) false:=by subst hz;rw[MT (m:=m.nu p z) rfl,MT (m:=m) rfl,Mp.zr h,Mp.get_none h];rfl
theorem WR{p:Pl}{v u:U}:∀{W:List (Pl×U)}{i:Nat},ep p W=some (i,u)->ep p (W.set i (p,v))=some (i,v)
 |[],_,h=>by trivial|e::W,i,h=>by
  rw[ep]at h;by_cases q:e.1=p;.rw[alq q]at h;simp only[alu,alD]at h;obtain⟨rfl,rfl⟩:=h;rw[Cj,ep,alq rfl]
  .rw[alp q,As]at h;obtain⟨⟨j,w⟩,h1,h2⟩:=h;simp only[alD]at h2;obtain⟨rfl,rfl⟩:=h2;rw[C4,ep,alp q,WR h1];rfl
theorem Mp.vm(m:Mp U)(p:Pl)(v:U):∃i,ep p (m.put p v).W=some (i,v):=by unfold Mp.put;cases h:m.at p with |none=>exact⟨_,MU h⟩|some q=>exact⟨q.1,WR (u:=q.2) h⟩
theorem qh{W:List (Pl×U)}:pe (.st [.i .i64,.s]) (.agg [.int .i64 r,.str k]) (gP g W) 0=some ((ep (r,k) W).map λq=>(q.1,g q.2)):=by show pe vj (iD (r,k)) (gP g W) 0=_;simp[QG]
theorem WS{id:Nat}(hm:m.ok)(cP:I[id]?=some (m.ob g))(h:m.at p=none):wL (some (vj,g z)) I (.mp id) (iD p)=.st (.cC [g z,.int .i64 (m.eO p:Int)]) (I.set id ((m.nu p z).ob g)):=by have:=WN hm (z:=z) cP p;grind
theorem xP7{id:Nat}(hm:m.ok){v:U}(cP:I[id]?=some (m.ob g))(h:m.at p=some (i,v)):wL (some (vj,g z)) I (.mp id) (iD p)=.ok (.cC [g v,.int .i64 (m.eO p:Int)]):=by have:=WN hm (z:=z) cP p;grind
theorem WT{id:Nat}{m:Mp Int}(hm:m.ok)(h:m.at (r,k)=none)(cP:I[id]?=some (m.ob (V.int .i64))):wL (some (.st [.i .i64,.s],.int .i64 0)) I (.mp id) (.agg [.int .i64 r,.str k])=.st (.cC [.int .i64 0,.int .i64 (m.eO (r,k):Int)]) (I.set id ((m.nu (r,k) 0).ob (V.int .i64))):=WS (g:=V.int .i64) hm (z:=0) cP h
theorem WU{id:Nat}{m:Mp Int}{v:Int}(hm:m.ok)(h:m.at (r,k)=some (i,v))(cP:I[id]?=some (m.ob (V.int .i64))):wL (some (.st [.i .i64,.s],.int .i64 0)) I (.mp id) (.agg [.int .i64 r,.str k])=.ok (.cC [.int .i64 v,.int .i64 (m.eO (r,k):Int)]):=xP7 (g:=V.int .i64) hm (z:=0) cP h
theorem MV{id:Nat}{m:Mp alW}(hm:m.ok)(h:m.at (r,k)=none)(cP:I[id]?=some (m.ob V.str)):wL (some (.st [.i .i64,.s],.str [])) I (.mp id) (.agg [.int .i64 r,.str k])=.st (.cC [.str [],.int .i64 (m.eO (r,k):Int)]) (I.set id ((m.nu (r,k) []).ob V.str)):=WS (g:=V.str) hm (z:=[]) cP h
theorem WV{id:Nat}{m:Mp Int}{v:Int}(hm:m.ok)(cP:I[id]?=some ((m.nu p 0).ob (V.int .i64))):xZ I (.mp id) (.int .i64 (m.eO p:Int)) (.int .i64 v)=.st .u (I.set id ((m.put p v).ob (V.int .i64))):=WQ (g:=V.int .i64) hm (λ_=>rfl) p cP v
theorem MW{id:Nat}{m:Mp alW}{v:alW}(hm:m.ok)(cP:I[id]?=some ((m.nu p []).ob V.str)):xZ I (.mp id) (.int .i64 (m.eO p:Int)) (.str v)=.st .u (I.set id ((m.put p v).ob V.str)):=WQ (g:=V.str) hm (λ_=>rfl) p cP v
theorem yF2{id:Nat}{m:Mp Int}{q:Nat×Int}{v:Int}(hm:m.ok)(h:m.at p=some q)(cP:I[id]?=some (m.ob (V.int .i64))):xZ I (.mp id) (.int .i64 (m.eO p:Int)) (.int .i64 v)=.st .u (I.set id ((m.put p v).ob (V.int .i64))):=(by grind[WV,Mp.vl])
end
end Go.Proofs.YtegbonbgofjlcaaGreat
