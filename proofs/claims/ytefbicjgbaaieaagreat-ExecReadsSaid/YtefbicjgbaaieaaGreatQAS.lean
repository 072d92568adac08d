/-
  Contracts of functions that the claimed statement reaches, each proved over trees (the library Vx); used by the theorem at the end of the claim.
  Conditions: as each theorem states them.
-/
import Derived.Test.YtefbicjgbaaieaaGreatQAR
import Derived.Test.YtefbicjgbaaieaaGreatQAP
import Derived.Lib.Bytealg
set_option maxHeartbeats 8000000
namespace Go.Proofs.YtefbicjgbaaieaaGreat
open Go Go.Vx R Go.Proofs.Tryz
set_option maxRecDepth 100000
variable {j:Nat}{a:Int}
theorem xN7(T:GTable)(hT:T.cols.length<=1000)(st:GStmt)(hs:SOk st):Pure prog 143 [.agg T.row,.agg st.row] (.int .i64 (zf9 T [] st.sets)):=by
 obtain⟨L,hL⟩:=eX st.sets;obtain⟨al,ak⟩:=hs.sets;rw[hL]at al ak;rw[hL];generalize hM:zf9 T [] L=M;refine iV 0 func143 ntmps143 results143 λc hc hb=>?_;refine zA ?_;simp[go_sem,hL];refine zH (S:=Nat) [2,3,10,11,12] (λi=>[.ptr 0 0,.ptr 1 0,.sl .ro (L.map GAssign.row),.int .i64 L.length,.int .i64 (i:Int)]) (λ_=>[.box T.row,.box st.row]) (λi=>L.length-i) (λi=>i<=L.length/\zf9 T (L.take i) (L.drop i)=M) hc hb 0 ⟨A2 _,hM⟩ ?_ ?_;.exact at_n 2 (by simp[go_sem,hL]) rfl (st_T T st 2) (A2 _) (zC sg rfl)
 rintro i⟨hi,hinv⟩;by_cases q:i<L.length;rotate_left;.rw[A9 om,zf9]at hinv;refine zA ?_;simp[go_sem,q];exact iret hinv
 have ei:=zS q om;obtain⟨x,hx⟩:=eX (L[i]);obtain⟨aq,hE⟩:=ak x (hx▸A8 q);have aa:=yo9 T x.name (by unfold maxLen;omega);rw[show wH (λc:GCol=>c.name==x.name) T.cols 0=colF T x.name from rfl]at aa;have ag:=xU8 x (L.take i) (by simp;omega);have an:L.take (i+1)=L.take i++[x]:=by rw[D9,A0 q,hx];rfl
 rw[A5 q,hx,zf9,<-an]at hinv;generalize((L.take i).any λy=>y.name==x.name)=b at ag hinv;by_cases qc:colF T x.name<0;.have ae:decide (colF T x.name<0)=true:=decide_eq_true qc;rw[if_pos qc]at hinv;refine zA ?_;simp[go_sem,q,hx];refine zJ aa cB (zL sg rfl) rfl ?_;simp[go_sem,ae];exact iret hinv
 have ae:decide (colF T x.name<0)=false:=decide_eq_false qc;rw[if_neg qc]at hinv;obtain⟨j,hj,ai⟩:=zA7 T x.name qc;obtain⟨C,hC⟩:=eX (T.cols[j]);have ao:colK T (colF T x.name)=C.kind:=by unfold colK;rw[hj,Az,A0 ai,hC];rfl
 rw[ao]at hinv;have ab:=yb7 T (by unfold maxLen;omega) x.e hE C.kind;generalize zr7 T x.e C.kind=kc at ab hinv;rw[hj]at aa hinv ae;by_cases qk:(j:Int)=T.key∨((j:Int)=0/\T.place=0)
 .rw[if_pos qk]at hinv;refine zA ?_;simp[go_sem,q,hx];refine zJ aa cB (zL sg rfl) rfl ?_;simp[go_sem,ae];by_cases k1:(j:Int)=T.key
  .have af:((j:Int)==T.key)=true:=by simpa using k1
   simp[go_sem,af];exact iret hinv
  .have af:((j:Int)==T.key)=false:=by simpa using k1
   obtain⟨k2,k3⟩:=qk.resolve_left k1;have ah:((j:Int)==0)=true:=by simpa using k2
   have aj:(T.place==0)=true:=by simpa using k3
   simp[go_sem,af,ah,aj];exact iret hinv
 rw[if_neg qk]at hinv;have af:((j:Int)==T.key)=false:=by simpa usingλh=>qk (.inl h)
 have key:((j:Int)==0)=false∨(((j:Int)==0)=true/\(T.place==0)=false):=by
  by_cases k2:(j:Int)=0;.exact .inr ⟨by simpa using k2,by simpa usingλh=>qk (.inr ⟨k2,h⟩)⟩
  .exact .inl (by simpa using k2)
 refine key.elim (λah=>?_) (λ⟨ah,aj⟩=>?_)
 .refine zA ?_;simp[go_sem,q,hx];refine zJ aa cB (zL sg rfl) rfl ?_;simp[go_sem,ae,af,ah,hL];refine zI ⟨hi,yc8 λ_=>rfl⟩ ?_;simp[go_sem,<-List.map_take];refine zk6 2 ag cB rfl (st_x x) ⟨zQ,.inl (by simp[renS,renA,renC,renK,ren]),tV⟩ (λr σ h=>⟨_,h.2,st_x x⟩) ?_;rintro r o2⟨rfl,h2⟩;obtain rfl:o2=.box x.row:=by simpa using h2
  refine(A4 b).elim (λp=>?_) (λp=>?_);.rw[if_pos p]at hinv;simp[go_sem,p];exact iret hinv
  rw[if_neg (by rw[p];decide)]at hinv;simp[go_sem,p];refine yR [(9,0)] 3 sm kR kR ?_;simp[go_sem,ai,hC];refine xE ab cB (λ_=>⟨zD rfl,zH0 x.e,zD rfl,tV⟩) rfl ?_;simp[go_sem];by_cases qe:kc=0
  .have ad:(kc !=0)=false:=by simpa using qe
   rw[if_neg (λh=>h qe)]at hinv;simp[go_sem,ad,ei];exact zG (i+1) ⟨om,⟨om,hinv⟩,at_n 2 (by simp[go_sem,hL]) rfl (st_T T st 2) (A2 _) (zC sg rfl)⟩
  .have ad:(kc !=0)=true:=by simpa using qe
   rw[if_pos qe]at hinv;simp[go_sem,ad];exact iret hinv
 .refine zA ?_;simp[go_sem,q,hx];refine zJ aa cB (zL sg rfl) rfl ?_;simp[go_sem,ae,af,ah,aj,hL];refine zI ⟨hi,yc8 λ_=>rfl⟩ ?_;simp[go_sem,<-List.map_take];refine zk6 2 ag cB rfl (st_x x) ⟨zQ,.inl (by simp[renS,renA,renC,renK,ren]),tV⟩ (λr σ h=>⟨_,h.2,st_x x⟩) ?_;rintro r o2⟨rfl,h2⟩;obtain rfl:o2=.box x.row:=by simpa using h2
  refine(A4 b).elim (λp=>?_) (λp=>?_);.rw[if_pos p]at hinv;simp[go_sem,p];exact iret hinv
  rw[if_neg (by rw[p];decide)]at hinv;simp[go_sem,p];refine yR [(9,0)] 3 sm kR kR ?_;simp[go_sem,ai,hC];refine xE ab cB (λ_=>⟨zD rfl,zH0 x.e,zD rfl,tV⟩) rfl ?_;simp[go_sem];by_cases qe:kc=0
  .have ad:(kc !=0)=false:=by simpa using qe
   rw[if_neg (λh=>h qe)]at hinv;simp[go_sem,ad,ei];exact zG (i+1) ⟨om,⟨om,hinv⟩,at_n 2 (by simp[go_sem,hL]) rfl (st_T T st 2) (A2 _) (zC sg rfl)⟩
  .have ad:(kc !=0)=true:=by simpa using qe
   rw[if_pos qe]at hinv;simp[go_sem,ad];exact iret hinv
def zm5(st:GStmt):Int:=match tabsS[(ze0 st.table).toNat]?with |none=>14|some T=>if ze0 st.table<0then 14 else if st.kind=1then zD5 T st else if st.kind=2then zN5 T st.rows else if st.kind=3then(if zf9 T [] st.sets≠0then zf9 T [] st.sets else zm9 T st)else zm9 T st
theorem xr1(st:GStmt)(hs:SOk st):Pure prog 85 [schR tabsS,.agg st.row] (.int .i64 (zm5 st)):=by
 have ad:=xo9 tabsS st.table dc;rw[show wH (λt:GTable=>t.name==st.table) tabsS 0=ze0 st.table from rfl]at ad;generalize hM:zm5 st=M;unfold zm5 at hM;have al:=zJ4 st.table;generalize ze0 st.table=t at ad al hM;refine iW 0 func85 ntmps85 results85 λc hc hb=>zO ?_;simp[go_sem,schR];refine zJ ad cB (zL (by simp[go_sem,schR]) rfl) rfl ?_;simp[go_sem];by_cases ah:t=-1
 .have hM:14=M:=by rw[<-hM,ah];rfl
  subst ah;simp[go_sem];exact iret hM
 have ai:¬t<0:=om;have aj:decide (t<0)=false:=decide_eq_false ai;obtain⟨j,rfl⟩:∃j:Nat,t=j:=⟨t.toNat,om⟩;have ae:j<tabsS.length:=by show j<3;omega
 obtain⟨T,hT⟩:=eX (tabsS[j]);have ak:T.cols.length<=1000:=by rw[<-hT];match j,ae with |0,_=>exact(by decide:tabT.cols.length<=1000)|1,_=>exact(by decide:tabG.cols.length<=1000)|2,_=>exact(by decide:tabH.cols.length<=1000)
 simp only[Az,A0 ae,hT]at hM;rw[if_neg ai]at hM;have h1:=xr5 T (by unfold maxLen;omega) st hs;have h2:=xi2 T ak st hs;have h3:=xN7 T ak st hs;have h4:=yP9 T (by unfold maxLen;omega) st hs;simp[go_sem,aj,ae,hT];by_cases k1:st.kind=1
 .have aa:(st.kind==1)=true:=by simpa using k1
  rw[if_pos k1]at hM;simp[go_sem,aa];refine zJ h1 cB (zL sg rfl) rfl ?_;simp[go_sem];exact iret hM
 have aa:(st.kind==1)=false:=by simpa using k1
 rw[if_neg k1]at hM;by_cases k2:st.kind=2
 .have ab:(st.kind==2)=true:=by simpa using k2
  rw[if_pos k2]at hM;simp[go_sem,aa,ab];refine zJ h2 cB (zL sg rfl) rfl ?_;simp[go_sem];exact iret hM
 have ab:(st.kind==2)=false:=by simpa using k2
 rw[if_neg k2]at hM;by_cases k3:st.kind=3
 .have af:(st.kind==3)=true:=by simpa using k3
  rw[if_pos k3]at hM;generalize zf9 T [] st.sets=sc at h3 hM;simp[go_sem,aa,ab,af];refine zJ h3 cB (zL sg rfl) rfl ?_;by_cases qe:sc=0
  .have ag:(sc !=0)=false:=by simpa using qe
   rw[if_neg (λh=>h qe)]at hM;simp[go_sem,ag];refine zJ h4 cB (zL sg rfl) rfl ?_;simp[go_sem];exact iret hM
  .have ag:(sc !=0)=true:=by simpa using qe
   rw[if_pos qe]at hM;simp[go_sem,ag];exact iret hM
 have af:(st.kind==3)=false:=by simpa using k3
 rw[if_neg k3]at hM;simp[go_sem,aa,ab,af];refine zJ h4 cB (zL sg rfl) rfl ?_;simp[go_sem];exact iret hM
def zv7(mode:Int):List GStmt->Nat->Int×Int |[],_=>(0,0)|x::l,i=>if mode≠0/\x.kind≠1then((i:Int),1)else if zm5 x≠0then((i:Int),zm5 x)else zv7 mode l (i+1)
def zn6(l:GLot):Int×Int:=if mayL l=true then zv7 l.mode l.stmts 0 else(0,9)
theorem yM0(l:GLot)(hl:LOk l):Pure prog 40 [schR tabsS,.agg l.row] (yL (zn6 l)):=by
 have ad:=xn9 l hl;obtain⟨L,hL⟩:=eX l.stmts;obtain⟨ag,af⟩:=hl.stmts;rw[hL]at ag af;obtain⟨m,hm⟩:=eX l.mode;generalize hM:zn6 l=M;unfold zn6 at hM;rw[hL,hm]at hM;generalize mayL l=b at ad hM;refine iV 0 func40 ntmps40 results40 λc hc hb=>?_;refine zA ?_;simp[go_sem,schR];refine zJ ad cB (zL sg rfl) rfl ?_;refine(A4 b).elim (λp=>?_) (λp=>?_);rotate_left;.rw[if_neg (by rw[p];decide)]at hM;simp[go_sem,p];exact wJ hM
 rw[if_pos p]at hM;simp[go_sem,p,hL];refine zH (S:=Nat) [2,3,13,14,15] (λi=>[.ptr 0 0,.ptr 1 0,.sl .ro (L.map GStmt.row),.int .i64 L.length,.int .i64 (i:Int)]) (λ_=>[.box [.sl .ro yT,.sl .ro (tabsS.map GTable.row)],.box l.row]) (λi=>L.length-i) (λi=>i<=L.length/\zv7 m (L.drop i) i=M) hc hb 0 ⟨A2 _,hM⟩ ?_ ?_;.exact at_n 2 (by simp[go_sem,hL]) rfl (by simp[ltOb,ltC,ltK,GLot.row]) (A2 _) (zC sg rfl)
 rintro i⟨hi,hinv⟩;by_cases q:i<L.length;rotate_left;.rw[A9 om,zv7]at hinv;refine zA ?_;simp[go_sem,q];exact wJ hinv
 have ei:=zS q om;obtain⟨st,ae⟩:=eX (L[i]);have aa:=xr1 st (af st (ae▸A8 q));rw[A5 q,ae,zv7]at hinv;generalize zm5 st=ce at aa hinv;refine zA ?_;simp[go_sem,q,ae,hm];by_cases q1:m≠0/\st.kind≠1
 .rw[if_pos q1]at hinv;have ah:(m !=0)=true:=by simpa using q1.1
  have ai:(st.kind !=1)=true:=by simpa using q1.2
  simp[go_sem,ah,ai];exact wJ hinv
 rw[if_neg q1]at hinv;have key:(m !=0)=false∨((m !=0)=true/\(st.kind !=1)=false):=by
  by_cases h:m=0;.exact .inl (by simpa using h)
  .refine .inr ⟨by simpa using h,?_⟩;simp only[bne_eq_false_iff_eq];exact E6 λg=>q1 ⟨h,g⟩
 refine key.elim (λa1=>?_) (λ⟨a1,a2⟩=>?_)
 .simp[go_sem,a1];refine zJ aa cB (zL (by simp[go_sem,schR]) rfl) rfl ?_;by_cases qe:ce=0
  .have ab:(ce !=0)=false:=by simpa using qe
   rw[if_neg (λh=>h qe)]at hinv;simp[go_sem,ab,ei];exact zG (i+1) ⟨om,⟨om,hinv⟩,at_n 2 (by simp[go_sem,hL,hm]) rfl (by simp[ltOb,ltC,ltK]) (A2 _) (zC sg rfl)⟩
  .have ab:(ce !=0)=true:=by simpa using qe
   rw[if_pos qe]at hinv;simp[go_sem,ab];exact wJ hinv
 .simp[go_sem,a1,a2];refine zJ aa cB (zL (by simp[go_sem,schR]) rfl) rfl ?_;by_cases qe:ce=0
  .have ab:(ce !=0)=false:=by simpa using qe
   rw[if_neg (λh=>h qe)]at hinv;simp[go_sem,ab,ei];exact zG (i+1) ⟨om,⟨om,hinv⟩,at_n 2 (by simp[go_sem,hL,hm]) rfl (by simp[ltOb,ltC,ltK]) (A2 _) (zC sg rfl)⟩
  .have ab:(ce !=0)=true:=by simpa using qe
   rw[if_pos qe]at hinv;simp[go_sem,ab];exact wJ hinv
def oneB (k w:Int):Bool:=k==w||k==0
theorem zR4(T:GTable)(e:GExpr)(w:Int):zr7 T e w=if(xW T e).2≠0then(xW T e).2else if oneB (xW T e).1 w=true then 0 else 15:=by unfold zr7 oneB;by_cases h1:(xW T e).1=w<;>by_cases h2:(xW T e).1=0<;>simp[h1,h2]
theorem xR6{X Y C:Int}(h:(if X≠0then X else Y)=C):(X≠0/\X=C)∨(X=0/\Y=C):=by
 by_cases q:X=0;.rw[if_neg (λg=>g q)]at h;exact .inr ⟨q,h⟩
 .rw[if_pos q]at h;exact .inl ⟨q,h⟩
theorem zP3(T:GTable)(hT:T.cols.length<=maxLen)(st:GStmt)(hs:SOk st):Pure prog 56 [.agg T.row,.agg st.row] (.int .i64 (zm9 T st)):=by
 have h:=zL7 T hT st.where_ hs.where_;generalize hM:zm9 T st=M;unfold zm9 at hM;rw[zR4]at hM;generalize xW T st.where_=k at h hM;have ho:Pure prog 102 [.int .i64 k.1,.int .i64 1] (.bool (oneB k.1 1)):=yc1 k.1 1;generalize oneB k.1 1=ob at ho hM;refine iW 0 func56 ntmps56 results56 λc hc hb=>zO ?_;simp[go_sem];refine(A4 st.filtered).elim (λw=>?_) (λw=>?_);rotate_left;.rw[if_neg (by rw[w];decide)]at hM;simp[go_sem,w];exact iret hM
 rw[if_pos w]at hM;simp[go_sem,w];refine zJ h cB (zL sg (by rw[GExpr.row_eq];rfl)) rfl ?_;simp[go_sem,yL];by_cases q:k.2=0
 .have q':(k.2!=0)=false:=by simpa using q
  rw[if_neg (λh=>h q)]at hM;simp[go_sem,q'];refine pC ho ?_;refine(A4 ob).elim (λp=>?_) (λp=>?_);.rw[if_pos p]at hM;simp[go_sem,p];exact iret hM
  .rw[if_neg (by rw[p];decide)]at hM;simp[go_sem,p];exact iret hM
 .have q':(k.2!=0)=true:=by simpa using q
  rw[if_pos q]at hM;simp[go_sem,q'];exact iret hM
theorem yA3(T:GTable)(_hT:T.cols.length<=1000)(st:GStmt)(hs:SOk st):Pure prog 54 [.agg T.row,.agg st.row] (.int .i64 (zN5 T st.rows)):=by
 obtain⟨R,hR⟩:=eX st.rows;obtain⟨ai,ag⟩:=hs.rows;rw[hR]at ai ag;rw[hR];generalize hM:zN5 T R=M;refine iV 0 func54 ntmps54 results54 λc hc hb=>?_;refine zA ?_;simp[go_sem,hR];refine zH (S:=Nat) [2,3,5] (λi=>[.ptr 0 0,.ptr 1 0,.int .i64 (i:Int)]) (λ_=>[.box T.row,.box st.row]) (λi=>R.length-i) (λi=>i<=R.length/\zN5 T (R.drop i)=M) hc hb 0 ⟨A2 _,hM⟩ ?_ ?_;.exact at_n 2 (by simp[go_sem,hR]) rfl (st_T T st 2) (A2 _) (zC sg rfl)
 rintro i⟨hi,hinv⟩;by_cases q:i<R.length;rotate_left;.rw[A9 om]at hinv;refine zA ?_;simp[go_sem,hR,q];exact iret hinv
 have ei:=zS q om;obtain⟨r,hr⟩:=eX (R[i]);obtain⟨ak,aj⟩:=ag r (hr▸A8 q);rw[A5 q,hr,zN5]at hinv;by_cases q2:r.length=T.cols.length;rotate_left
 .have ad:((r.length:Int)!=T.cols.length)=true:=by simp;omega
  have ae:zA0 T r=9:=by unfold zA0;rw[if_pos q2]
  rw[ae,if_pos dc]at hinv;refine zA ?_;simp[go_sem,hR,q];refine yR [] 2 sm kR kR ?_;simp[go_sem,q,hr,ad];exact iret hinv
 have ad:((r.length:Int)!=T.cols.length)=false:=by simp;omega
 have ae:zA0 T r=zz7 T.cols r:=by unfold zA0;rw[if_neg (λh=>h q2)]
 rw[ae]at hinv;obtain⟨C,hC⟩:=eX (zz7 T.cols r);rw[hC]at hinv;refine zA ?_;simp[go_sem,hR,q];refine yR [] 2 sm kR kR ?_;simp[go_sem,q,hr,ad];refine zH (S:=Nat) [2,3,5,6] (λk=>[.ptr 0 0,.ptr 1 0,.int .i64 (i:Int),.int .i64 (k:Int)]) (λ_=>[.box T.row,.box st.row]) (λk=>r.length-k) (λk=>k<=r.length/\zz7 (T.cols.drop k) (r.drop k)=C) hc hb 0 ⟨A2 _,hC⟩ ?_ ?_;.exact at_n 2 (by simp[go_sem,hR]) rfl (st_T T st 2) (A2 _) (zC sg rfl)
 rintro k⟨hk,aa⟩;by_cases qk:k<r.length;rotate_left;.rw[A9 om,A9 om]at aa;have aa:C=0:=aa.symm;rw[if_neg (λh=>h aa)]at hinv;refine zA ?_;simp[go_sem,hR,q,hr,qk,ei];exact zG (i+1) ⟨om,⟨om,hinv⟩,at_n 2 (by simp[go_sem,hR]) rfl (st_T T st 2) (A2 _) (zC sg rfl)⟩
 have ek:=zS qk om;have qc:k<T.cols.length:=om;obtain⟨e,he⟩:=eX (r[k]);obtain⟨c1,ah⟩:=eX (T.cols[k]);have hE:=aj e (he▸A8 qk);rw[A5 qk,A5 qc,he,ah,zz7,zR4]at aa;have ab:=zL7 tab00 dc e hE;generalize xW tab00 e=ty at ab aa;have aa:=xR6 aa;have ho:Pure prog 102 [.int .i64 ty.1,.int .i64 c1.kind] (.bool (oneB ty.1 c1.kind)):=yc1 ty.1 c1.kind;generalize oneB ty.1 c1.kind=ob at ho aa;refine zA ?_;simp[go_sem,hR,q,hr,qk,he];refine zJ ab cB ⟨xp8,zH0 e,tV⟩ rfl ?_;simp[go_sem,yL];by_cases qe:ty.2=0;rotate_left
 .have af:(ty.2!=0)=true:=by simpa using qe
  rw[if_pos qe]at aa;have aa:ty.2=C:=aa.elim (·.2) (λh=>absurd h.1 qe);rw[if_pos (by rw[<-aa];exact qe)]at hinv;simp[go_sem,af];exact iret (aa.trans hinv)
 have af:(ty.2!=0)=false:=by simpa using qe
 rw[if_neg (λh=>h qe)]at aa;simp[go_sem,af,qc,ah];refine pC ho ?_;refine(A4 ob).elim (λp=>?_) (λp=>?_);.rw[if_pos p]at aa;have aa:=aa.elim (λh=>absurd rfl h.1) (·.2);simp[go_sem,p,ek];exact zG (k+1) ⟨om,⟨om,aa⟩,at_n 2 (by simp[go_sem,hR]) rfl (st_T T st 2) (A2 _) (zC sg rfl)⟩
 .rw[if_neg (by rw[p];decide)]at aa;have aa:15=C:=aa.elim (·.2) (λh=>by cases h.1);rw[<-aa,if_pos dc]at hinv;simp[go_sem,p];exact iret hinv
def setB(T:GTable)(p:List GAssign):List (List V):=(List.range T.cols.length).map λ(j:Nat)=>[.bool (p.any λy=>colF T y.name==(j:Int))]
theorem zS5(T:GTable)(p:List GAssign):(setB T p).length=T.cols.length:=by simp[setB]
theorem xC1(T:GTable):setB T []=List.replicate T.cols.length [.bool false]:=by unfold setB;rw[List.eq_replicate_iff];exact⟨sm,λr hr=>by obtain⟨j,_,rfl⟩:=Ac.1 hr;rfl⟩
theorem yj3(T:GTable)(p:List GAssign)(h:j<T.cols.length):(setB T p)[j]?=some [.bool (p.any λy=>colF T y.name==(j:Int))]:=by unfold setB;rw[B0,Co h];rfl
theorem xC0(T:GTable)(p:List GAssign)(x:GAssign)(hj:colF T x.name=j)(h:j<T.cols.length):(setB T p).set j [.bool true]=setB T (p++[x]):=by
 apply Bx;intro i;by_cases hi:i<T.cols.length
 .rw[yj3 T _ hi,List.any_append,D8,List.any_nil,E2,hj];by_cases e:i=j;.subst e;rw[Aj (by rw[zS5];exact h)];simp
  .rw[Ad (λq=>e q.symm),yj3 T _ hi];have:((j:Int)==(i:Int))=false:=by simp;omega
   rw[this,E2]
 .rw[Bd (by simp[zS5];omega),Bd (by rw[zS5];omega)]
theorem yq7{α:Type}(p:α->Bool):∀(l:List α)(i j:Nat),wH p l i=((i+j:Nat):Int)->∃x,l[j]?=some x/\p x=true
 |[],i,j,h=>by rw[wH]at h;omega|x::l,i,j,h=>by
  rw[wH]at h;split at h;.rename_i hp;have:j=0:=om;subst this;exact⟨x,rfl,hp⟩
  .have aa:=zr4 p l (i+1);cases j with|zero=>omega|succ j=>exact yq7 p l (i+1) j (by rw[h];congr 1;omega)
theorem yp5{T:GTable}{s:List UInt8}(h:colF T s=j):(T.cols[j]?).map (·.name)=some s:=by
 obtain⟨x,hx,hp⟩:=yq7 (λc:GCol=>c.name==s) T.cols 0 j (by rw[Ab];exact h);rw[hx];have:x.name=s:=by simpa using hp
 rw[<-this];rfl
theorem xC2(T:GTable)(p:List GAssign)(x:GAssign)(hj:colF T x.name=j):(p.any λy=>colF T y.name==(j:Int))=p.any λy=>y.name==x.name:=by induction p with|nil=>rfl|cons y p ih=>
  rw[D8,D8,ih];congr 1;by_cases e:y.name=x.name;.rw[e,hj];simp
  .have:¬colF T y.name=j:=λh=>by have a1:=yp5 hj;have a2:=yp5 h;rw[a1]at a2;exact e (by simpa using a2.symm)
   have n1:(colF T y.name==(j:Int))=false:=by simpa using this
   have n2:(y.name==x.name)=false:=by simpa using e
   rw[n1,n2]
theorem yA7(T:GTable)(hT:T.cols.length<=1000)(st:GStmt)(hs:SOk st):Pure prog 55 [.agg T.row,.agg st.row] (.int .i64 (if zf9 T [] st.sets≠0then zf9 T [] st.sets else zm9 T st)):=by
 have ao:=zP3 T (by unfold maxLen;omega) st hs;obtain⟨L,hL⟩:=eX st.sets;obtain⟨av,aq⟩:=hs.sets;rw[hL]at av aq;rw[hL];generalize hM:(if zf9 T [] L≠0then zf9 T [] L else zm9 T st)=M;generalize zm9 T st=wh at ao hM;obtain⟨n,hn⟩:=eX T.cols.length;have ai:=xC1 T;rw[hn]at ai;refine iV 0 func55 ntmps55 results55 λc hc hb=>?_;refine zp2 13 dc ?_;refine zA ?_;simp[go_sem,hL,hn];refine zI om ?_;simp[go_sem,<-ai];refine zH (S:=Nat) [2,3,5,6] (λi=>[.ptr 0 0,.ptr 1 0,.lsv 2 1 n 0 n,.int .i64 (i:Int)]) (λi=>[.box T.row,.box st.row,.lst (setB T (L.take i)) 1]) (λi=>L.length-i) (λi=>i<=L.length/\(if zf9 T (L.take i) (L.drop i)≠0then zf9 T (L.take i) (L.drop i)else wh)=M) hc hb 0 ⟨A2 _,hM⟩ ?_ ?_;.exact at_n 3 (by simp[go_sem,hL]) rfl (by simp[ltOb,ltC,ltK,setB,GTable.row,GStmt.row]) (A2 _) (zC sg rfl)
 rintro i⟨hi,hinv⟩;have hok:∀p:List GAssign,([.box T.row,.box st.row,.lst (setB T p) 1]:St).all (ltOb 3)=true:=λp=>by simp[ltOb,ltC,ltK,setB,GTable.row,GStmt.row]
 by_cases q:i<L.length;rotate_left;.rw[A9 om,zf9]at hinv;refine zA ?_;simp[go_sem,hL,q];refine zJ ao cB (zL (by rw[<-hL];rfl) rfl) rfl ?_;simp[go_sem];exact iret hinv
 have ei:=zS q om;obtain⟨x,hx⟩:=eX (L[i]);obtain⟨ay,hE⟩:=aq x (hx▸A8 q);have aa:=yi7 T x.name (by unfold maxLen;omega);rw[show wH (λc:GCol=>c.name==x.name) T.cols 0=colF T x.name from rfl]at aa;have ar:L.take (i+1)=L.take i++[x]:=by rw[D9,A0 q,hx];rfl
 rw[A5 q,hx]at hinv;generalize hS:zf9 T (L.take i) (x::L.drop (i+1))=S at hinv;rw[zf9,<-ar]at hS;have bad:S≠0->S=M:=λh=>by rw[if_pos h]at hinv;exact hinv
 by_cases qc:colF T x.name<0;.have ad:decide (colF T x.name<0)=true:=decide_eq_true qc;rw[if_pos qc]at hS;have hM:=bad (by rw[<-hS];decide);refine zA ?_;simp[go_sem,hL,q];refine yR [(7,0)] 2 sm kR kR ?_;simp[go_sem,q,hx];refine xE aa cB (λ_=>zL sg rfl) rfl ?_;simp[go_sem,ad];exact iret (hS.trans hM)
 have ad:decide (colF T x.name<0)=false:=decide_eq_false qc;rw[if_neg qc]at hS;obtain⟨j,hj,ab⟩:=zA7 T x.name qc;obtain⟨C,hC⟩:=eX (T.cols[j]);have aw:colK T (colF T x.name)=C.kind:=by unfold colK;rw[hj,Az,A0 ab,hC];rfl
 rw[aw,zR4]at hS;have au:=zL7 T (by unfold maxLen;omega) x.e hE;generalize xW T x.e=ty at au hS;have ho:Pure prog 102 [.int .i64 ty.1,.int .i64 C.kind] (.bool (oneB ty.1 C.kind)):=yc1 ty.1 C.kind;generalize oneB ty.1 C.kind=ob at ho hS;have ax:=xC2 T (L.take i) x hj;have ak:=yj3 T (L.take i) ab;have aj:=xC0 T (L.take i) x hj ab;rw[<-ar]at aj;rw[ax]at ak;generalize((L.take i).any λy=>y.name==x.name)=b at ak hS;have ae:=(A1.1 ak).2;have ah:=zS5 T (L.take i);rw[hn]at ab ah;rw[hj]at aa hS ad;by_cases qk:(j:Int)=T.key∨((j:Int)=0/\T.place=0)
 .rw[if_pos qk]at hS;have hM:=bad (by rw[<-hS];decide);refine zA ?_;simp[go_sem,hL,q];refine yR [(7,0)] 2 sm kR kR ?_;simp[go_sem,q,hx];refine xE aa cB (λ_=>zL sg rfl) rfl ?_;simp[go_sem,ad];by_cases k1:(j:Int)=T.key
  .have af:((j:Int)==T.key)=true:=by simpa using k1
   simp[go_sem,af];exact iret (hS.trans hM)
  .have af:((j:Int)==T.key)=false:=by simpa using k1
   obtain⟨k2,k3⟩:=qk.resolve_left k1;have ag:((j:Int)==0)=true:=by simpa using k2
   have al:(T.place==0)=true:=by simpa using k3
   simp[go_sem,af,ag,al];exact iret (hS.trans hM)
 rw[if_neg qk]at hS;have af:((j:Int)==T.key)=false:=by simpa usingλh=>qk (.inl h)
 have key:((j:Int)==0)=false∨(((j:Int)==0)=true/\(T.place==0)=false):=by
  by_cases k2:(j:Int)=0;.exact .inr ⟨by simpa using k2,by simpa usingλh=>qk (.inr ⟨k2,h⟩)⟩
  .exact .inl (by simpa using k2)
 refine zA ?_;simp[go_sem,hL,q];refine yR [(7,0)] 2 sm kR kR ?_;simp[go_sem,q,hx];refine xE aa cB (λ_=>zL sg rfl) rfl ?_;simp[go_sem,ad,af];rcases key with ag|⟨ag,al⟩;case' inl=>simp[go_sem,ag,ah,ab,ae]
 case' inr=>simp[go_sem,ag,al,ah,ab,ae]
 all_goals
  refine(A4 b).elim (λp=>?_) (λp=>?_);.rw[if_pos p]at hS;simp[go_sem,p];exact iret (hS.trans (bad (by rw[<-hS];decide)))
  rw[if_neg (by rw[p];decide)]at hS;have hS:=xR6 hS;simp[go_sem,p,ah,ab];refine yR [(7,0)] 3 sm kR kR ?_;simp[go_sem,q,hx];refine xE au cB (λ_=>⟨zD rfl,zH0 x.e,tV⟩) rfl ?_;simp[go_sem,yL];by_cases qe:ty.2=0;rotate_left
  .have an:(ty.2!=0)=true:=by simpa using qe
   rw[if_pos qe]at hS;have hS:ty.2=S:=hS.elim (·.2) (λh=>absurd h.1 qe);simp[go_sem,an];exact iret (hS.trans (bad (by rw[<-hS];exact qe)))
  have an:(ty.2!=0)=false:=by simpa using qe
  rw[if_neg (λh=>h qe)]at hS;simp[go_sem,an,hn,ab,hC];refine pC ho ?_;refine(A4 ob).elim (λp=>?_) (λp=>?_);.rw[if_pos p]at hS;have hS:=hS.elim (λh=>absurd rfl h.1) (·.2);rw[<-hS]at hinv;simp[go_sem,p,ei];exact zG (i+1) ⟨om,⟨om,hinv⟩,at_n 3 (by simp[go_sem,hL,ae,aj]) rfl (hok _) (A2 _) (zC sg rfl)⟩
  .rw[if_neg (by rw[p];decide)]at hS;have hS:15=S:=hS.elim (·.2) (λh=>by cases h.1);simp[go_sem,p];exact iret (hS.trans (bad (by rw[<-hS];decide)))
theorem yQ0(x:GItem)(l:List GItem):zc6 (x::l)=((x.kind==3||x.kind==4)||zc6 l):=by unfold zc6;rw[D8]
theorem yL7(x:GItem)(l:List GItem):zd1 (x::l)=((x.kind==2)||zd1 l):=by unfold zd1;rw[D8]
theorem yA5(T:GTable)(hT:T.cols.length<=maxLen)(st:GStmt)(hs:SOk st)(hk:∀x∈st.items,x.kind=1∨x.kind=2∨x.kind=3∨x.kind=4):Pure prog 53 [.agg T.row,.agg st.row] (.int .i64 (zD5 T st)):=by
 obtain⟨L,hL⟩:=eX st.items;obtain⟨ak,af⟩:=hs.items;rw[hL]at ak af hk;have ag:=zP3 T hT st hs;have ab:=yi7 T st.order hT;rw[show wH (λc:GCol=>c.name==st.order) T.cols 0=colF T st.order from rfl]at ab;generalize hM:zD5 T st=M;unfold zD5 endC at hM;rw[hL]at hM;generalize zm9 T st=wh at ag hM;generalize colF T st.order=co at ab hM;refine iV 0 func53 ntmps53 results53 λc hc hb=>?_;refine zR (zA ?_);simp[go_sem];refine zR (zA ?_);simp[go_sem];refine xX (S:=Nat×Nat) [2,3,5,6] (λu=>[.ptr 0 0,.ptr 1 0,.int .i64 (u.1:Int),.int .i64 (u.2:Int)]) (λ_=>[.box T.row,.box st.row]) (λu=>decide (0<u.1)=zc6 L/\decide (0<u.2)=zd1 L/\zc2 T L=0) hc hb ?_ ?_
 .refine zR (zA ?_);simp[go_sem];refine za2 ?_;refine zH (S:=Nat×Nat×Nat) [2,3,5,6,7] (λu=>[.ptr 0 0,.ptr 1 0,.int .i64 (u.2.1:Int),.int .i64 (u.2.2:Int),.int .i64 (u.1:Int)]) (λ_=>[.box T.row,.box st.row]) (λu=>L.length-u.1) (λu=>u.1<=L.length/\u.2.1<=u.1/\u.2.2<=u.1/\(decide (0<u.2.1)||zc6 (L.drop u.1))=zc6 L/\(decide (0<u.2.2)||zd1 (L.drop u.1))=zd1 L/\zc2 T (L.drop u.1)=zc2 T L) hc hb (0,0,0) ⟨A2 _,A3 _,A3 _,sm,sm,sm⟩ ?_ ?_;.exact at_n 2 (by simp[go_sem,hL]) rfl (st_T T st 2) (A2 _) (zC sg rfl)
  rintro⟨i,s,p⟩⟨hi,al,an,hw,hp,hinv⟩;simp only at hi al an hw hp hinv;by_cases q:i<L.length;rotate_left
  .rw[A9 om]at hw hp hinv;have hw:decide (0<s)=zc6 L:=by rw[<-hw];exact(E2 _).symm
   have hp:decide (0<p)=zd1 L:=by rw[<-hp];exact(E2 _).symm
   refine zA ?_;simp[go_sem,hL,q];exact zG (s,p) ⟨⟨hw,hp,hinv.symm⟩,at_n 2 (by simp[go_sem,hL]) rfl (st_T T st 2) (A2 _) (zC sg rfl)⟩
  have ei:=zS q om;have es:IntKind.i64.wrap ((s:Int)+1)=((s+1:Nat):Int):=by rw[i64_id om om];omega
  have ep:IntKind.i64.wrap ((p:Int)+1)=((p+1:Nat):Int):=by rw[i64_id om om];omega
  obtain⟨x,hx⟩:=eX (L[i]);have ah:x∈L:=hx▸A8 q;have hE:=(af x ah).2;have ao:=hk x ah;rw[A5 q,hx]at hp hw hinv;rw[yL7]at hp;rw[yQ0]at hw;rw[zc2]at hinv;have bad:zM8 T x≠0->zM8 T x=M:=λh=>by rw[if_pos h]at hinv;rw[<-hM,<-hinv,if_pos h]
  have good:zM8 T x=0->zc2 T (L.drop (i+1))=zc2 T L:=λh=>by rw[if_neg (λg=>g h)]at hinv;exact hinv
  clear hinv;unfold zM8 at bad good;rw[zR4]at bad good;have ad:=zL7 T hT x.e hE;generalize xW T x.e=ty at ad bad good;have ho:Pure prog 102 [.int .i64 ty.1,.int .i64 2] (.bool (oneB ty.1 2)):=yc1 ty.1 2;generalize oneB ty.1 2=ob at ho bad good;have go:∀(a b:Nat)(e σ),a<=i+1->b<=i+1->(decide (0<a)||zc6 (L.drop (i+1)))=zc6 L->(decide (0<b)||zd1 (L.drop (i+1)))=zd1 L->zc2 T (L.drop (i+1))=zc2 T L->At 0 [2,3,5,6,7] [.ptr 0 0,.ptr 1 0,.int .i64 (a:Int),.int .i64 (b:Int),.int .i64 ((i+1:Nat):Int)] [.box T.row,.box st.row] e σ->Vx.Next (λs':Nat×Nat×Nat=>L.length-s'.1<L.length-i/\(s'.1<=L.length/\s'.2.1<=s'.1/\s'.2.2<=s'.1/\(decide (0<s'.2.1)||zc6 (L.drop s'.1))=zc6 L/\(decide (0<s'.2.2)||zd1 (L.drop s'.1))=zd1 L/\zc2 T (L.drop s'.1)=zc2 T L)/\At 0 [2,3,5,6,7] [.ptr 0 0,.ptr 1 0,.int .i64 (s'.2.1:Int),.int .i64 (s'.2.2:Int),.int .i64 (s'.1:Int)] [.box T.row,.box st.row] e σ) fx:=λa b e σ h0 aq h1 h2 h3 h4=>zG (i+1,a,b) ⟨by simp only;omega,⟨by simp only;omega,h0,aq,h1,h2,h3⟩,h4⟩;refine zA ?_;simp[go_sem,hL,q,hx];rcases ao with k1|k2|k3|k4;.simp only[k1]at bad good hw hp;simp[go_sem,k1,ei];exact go s p _ _ om om (by simpa using hw) (by simpa using hp) (good rfl) (at_n 2 (by simp[go_sem,hL]) rfl (st_T T st 2) (A2 _) (zC sg rfl))
  .simp only[k2,if_true]at bad good hw hp;simp[go_sem,k2];refine zJ ad cB (zL sg (by rw[GExpr.row_eq];rfl)) rfl ?_;simp[go_sem,yL];by_cases qe:ty.2=0
   .have aa:(ty.2!=0)=false:=by simpa using qe
    simp[go_sem,aa,ei,ep];exact go s (p+1) _ _ om om (by simpa using hw) (by simpa using hp) (good qe) (at_n 2 (by simp[go_sem,hL]) rfl (st_T T st 2) (A2 _) (zC sg rfl))
   .have aa:(ty.2!=0)=true:=by simpa using qe
    simp[go_sem,aa];exact iret (bad qe)
  .simp only[k3]at bad good hw hp;simp[go_sem,k3,ei,es];exact go (s+1) p _ _ om om (by simpa using hw) (by simpa using hp) (good rfl) (at_n 2 (by simp[go_sem,hL]) rfl (st_T T st 2) (A2 _) (zC sg rfl))
  .have n42:¬(4:Int)=2:=dc;simp only[k4,if_neg n42,if_true]at bad good hw hp;simp[go_sem,k4];refine zJ ad cB (zL sg (by rw[GExpr.row_eq];rfl)) rfl ?_;simp[go_sem,yL];by_cases qe:ty.2=0;rotate_left
   .have aa:(ty.2!=0)=true:=by simpa using qe
    rw[if_pos qe]at bad;simp[go_sem,aa];exact iret (bad qe)
   have aa:(ty.2!=0)=false:=by simpa using qe
   rw[if_neg (λh=>h qe)]at bad good;simp[go_sem,aa,es];refine pC ho ?_;refine(A4 ob).elim (λp1=>?_) (λp1=>?_);.rw[if_pos p1]at good;simp[go_sem,p1,ei];exact go (s+1) p _ _ om om (by simpa using hw) (by simpa using hp) (good rfl) (at_n 2 (by simp[go_sem,hL]) rfl (st_T T st 2) (A2 _) (zC sg rfl))
   .rw[if_neg (by rw[p1];decide)]at bad;simp[go_sem,p1];exact iret (bad dc)
 .rintro⟨s,p⟩⟨hw,hp,hI⟩;simp only at hw hp;rw[if_neg (λh=>h hI),<-hp,<-hw]at hM;clear hw hp hI;have ar:(st.order==[])=st.order.isEmpty:=by cases st.order<;>rfl
  generalize ai:decide (0<s)=bs at hM;generalize aj:decide (0<p)=bp at hM;have key:(bs=true/\bp=true)∨(bs=true/\bp=false)∨bs=false:=by cases bs<;>cases bp<;>simp
  have tail:¬(bp&&bs)=true->(if wh≠0then wh else if st.order.isEmpty=true then 0 else if co<0then 14 else if bs=true then 9 else 0)=M:=λh=>by rw[if_neg h]at hM;exact hM
  refine zA ?_;simp[go_sem,ai];rcases key with⟨w1,w2⟩|⟨w1,w2⟩|w1;.rw[w1,w2]at hM;simp[go_sem,aj,w1,w2];exact iret hM
  case' inr.inl=>have hT:=tail (by rw[w2,C7];decide);simp[go_sem,aj,w1,w2]
  case' inr.inr=>have hT:=tail (by rw[w1,Bool.and_false];decide);simp[go_sem,w1]
  all_goals
   refine zJ ag cB (zL sg rfl) rfl ?_;by_cases qe:wh=0;rotate_left
   .have aa:(wh !=0)=true:=by simpa using qe
    rw[if_pos qe]at hT;simp[go_sem,aa];exact iret hT
   have aa:(wh !=0)=false:=by simpa using qe
   rw[if_neg (λh=>h qe)]at hT;simp[go_sem,aa,ar];refine(A4 st.order.isEmpty).elim (λw3=>?_) (λw3=>?_);.rw[if_pos w3]at hT;simp[go_sem,w3];exact iret (qe.trans hT)
   rw[if_neg (by rw[w3];decide)]at hT;simp[go_sem,w3];refine zJ ab cB (zL sg rfl) rfl ?_;by_cases w4:co<0;.have ae:decide (co<0)=true:=decide_eq_true w4;rw[if_pos w4]at hT;simp[go_sem,ae];exact iret hT
   have ae:decide (co<0)=false:=decide_eq_false w4;rw[if_neg w4]at hT;simp[go_sem,ae,ai,w1];exact iret (by rw[<-hT,w1];rfl)
def selS(st:GStmt):Bool:=zY9 st.items&&(((st.order.isEmpty&&!st.down)||ze1 st.order)&&decide (-1<=st.limit))
theorem xF7:ze1 []=false:=dc
theorem yi8(st:GStmt)(hs:SOk st):Pure prog 173 [.agg st.row] (.bool (selS st)):=by
 have ah:=zq0 st.order (by have:=hs.order;unfold maxLen;omega);obtain⟨L,hL⟩:=eX st.items;obtain⟨ai,aj⟩:=hs.items;rw[hL]at ai aj;obtain⟨d,hd⟩:=eX st.down;generalize hM:selS st=M;unfold selS zY9 at hM;rw[hL,hd]at hM;have aq:(st.order !=[])=!st.order.isEmpty:=by cases st.order<;>rfl
 have ak:(st.order==[])=st.order.isEmpty:=by cases st.order<;>rfl
 have al:st.order.isEmpty=true->ze1 st.order=false:=λh=>by
  have:st.order=[]:=by simpa using h
  rw[this];exact xF7
 have an:decide (st.limit< -1)=!decide (-1<=st.limit):=by by_cases h:st.limit< -1<;>simp[h]<;>omega
 have af:decide ((L.length:Int)<1)=!decide (1<=L.length):=by
  by_cases h:1<=L.length;.rw[decide_eq_true h,decide_eq_false om];rfl
  .rw[decide_eq_false h,decide_eq_true om];rfl
 have ag:decide (6<(L.length:Int))=!decide (L.length<=6):=by
  by_cases h:L.length<=6;.rw[decide_eq_true h,decide_eq_false om];rfl
  .rw[decide_eq_false h,decide_eq_true om];rfl
 generalize st.order.isEmpty=oe at aq ak al hM;generalize ze1 st.order=wo at ah al hM;generalize decide (-1<=st.limit)=lm at an hM;refine iV 0 func173 ntmps173 results173 λc hc hb=>?_;refine zR (zA ?_);simp[go_sem];refine xX (S:=Unit) [1] (λ_=>[.ptr 0 0]) (λ_=>[.box st.row]) (λ_=>L.all (mayI L.length)=M) hc hb ?_ ?_
 .generalize decide (1<=L.length)=n1 at af hM;generalize decide (L.length<=6)=n6 at ag hM;generalize hA:L.all (mayI L.length)=A at hM;refine zA ?_;simp[go_sem,hL,an];repeat'(first |(refine zY (λq=>?_) (λq=>?_)<;>simp[go_sem,q,hd,ak,af,ag])|(refine zN (λq=>?_) (λq=>?_)<;>simp[go_sem,q])|(refine pC ah ?_;simp[go_sem]))
  all_goals first |exact bret (by rw[<-hM];simp_all)|exact zG () ⟨by rw[<-hM];simp_all,at_n 1 (by simp[go_sem,hL,hd]<;>simp_all) rfl (by simp[ltOb,ltC,ltK]) (A2 _) (zC sg rfl)⟩|skip
 .rintro _ ab;obtain⟨n,hn⟩:=eX L.length;rw[hn]at ab ai;clear hM af ag;refine zA ?_;simp[go_sem];refine zH (S:=Nat) [1,3] (λi=>[.ptr 0 0,.int .i64 (i:Int)]) (λ_=>[.box st.row]) (λi=>n-i) (λi=>i<=n/\(L.drop i).all (mayI n)=M) hc hb 0 ⟨A2 _,ab⟩ ?_ ?_;.exact aN 1 (by simp[ltOb,ltC,ltK,GStmt.row])
  rintro i⟨hi,hinv⟩;by_cases q:i<n;rotate_left;.rw[A9 om]at hinv;refine zA ?_;simp[go_sem,hL,hn,q];exact bret hinv
  have ei:=zS q om;have ql:i<L.length:=om;obtain⟨x,hx⟩:=eX (L[i]);have hE:=(aj x (hx▸A8 ql)).2;have hz:=yt3 x.e;have hm:=zF1 x.e hE.wide hE.good;rw[zi1 _ _ _ ql,hx]at hinv;obtain⟨tl,ao⟩:=eX ((L.drop (i+1)).all (mayI n));rw[ao]at hinv;unfold mayI at hinv;generalize zm4 x.e=bl at hz hinv;generalize mayE 16 x.e=me at hm hinv;refine zA ?_;simp[go_sem,hL,hn,q,hx];have yes:∀e σ,tl=M->At 0 [1,3] [.ptr 0 0,.int .i64 ((i+1:Nat):Int)] [.box st.row] e σ->Vx.Next (λs':Nat=>n-s'<n-i/\(s'<=n/\(L.drop s').all (mayI n)=M)/\At 0 [1,3] [.ptr 0 0,.int .i64 (s':Int)] [.box st.row] e σ) fx:=λe σ h1 h2=>zG (i+1) ⟨om,⟨om,ao.trans h1⟩,h2⟩;by_cases k1:x.kind=1
  .rw[if_pos k1]at hinv;have aa:(x.kind==1)=true:=by simpa using k1
   simp[go_sem,aa,hn];by_cases z:n<=1;rotate_left;.have z':decide (1<(n:Int))=true:=decide_eq_true om;rw[decide_eq_false z,C7,C7]at hinv;simp[go_sem,z'];exact bret hinv
   have z':decide (1<(n:Int))=false:=decide_eq_false om;rw[decide_eq_true z,Ar]at hinv;simp[go_sem,z'];refine zJ hz cB (zL sg (by rw[GExpr.row_eq];rfl)) rfl ?_;refine(A4 bl).elim (λp=>?_) (λp=>?_);.rw[p,Ar]at hinv;simp[go_sem,p,ei];exact yes _ _ hinv (at_n 1 (by simp[go_sem,hL]) rfl (by simp[ltOb,ltC,ltK,GStmt.row]) (A2 _) (zC sg rfl))
   .rw[p,C7]at hinv;simp[go_sem,p];exact bret hinv
  rw[if_neg k1]at hinv;have aa:(x.kind==1)=false:=by simpa using k1
  by_cases k3:x.kind=3
  .rw[if_pos k3]at hinv;have ad:(x.kind==3)=true:=by simpa using k3
   simp[go_sem,aa,ad];refine zJ hz cB (zL sg (by rw[GExpr.row_eq];rfl)) rfl ?_;refine(A4 bl).elim (λp=>?_) (λp=>?_);.rw[p,Ar]at hinv;simp[go_sem,p,ei];exact yes _ _ hinv (at_n 1 (by simp[go_sem,hL]) rfl (by simp[ltOb,ltC,ltK,GStmt.row]) (A2 _) (zC sg rfl))
   .rw[p,C7]at hinv;simp[go_sem,p];exact bret hinv
  rw[if_neg k3]at hinv;have ad:(x.kind==3)=false:=by simpa using k3
  by_cases ae:x.kind=2∨x.kind=4
  .rw[if_pos ae]at hinv;have key:(x.kind==2)=true∨((x.kind==2)=false/\(x.kind==4)=true):=by
    rcases ae with h|h;.exact .inl (by simpa using h)
    .exact .inr ⟨by simp[h],by simp[h]⟩
   rcases key with k2|⟨k2,k4⟩;case' inl=>simp[go_sem,aa,ad,k2]
   case' inr=>simp[go_sem,aa,ad,k2,k4]
   all_goals
    refine zJ hm cB (zL sg (by rw[GExpr.row_eq];rfl)) rfl ?_;refine(A4 me).elim (λp=>?_) (λp=>?_);.rw[p,Ar]at hinv;simp[go_sem,p,ei];exact yes _ _ hinv (at_n 1 (by simp[go_sem,hL]) rfl (by simp[ltOb,ltC,ltK,GStmt.row]) (A2 _) (zC sg rfl))
    .rw[p,C7]at hinv;simp[go_sem,p];exact bret hinv
  .rw[if_neg ae,C7]at hinv;have k2:(x.kind==2)=false:=by simpa usingλh=>ae (.inl h)
   have k4:(x.kind==4)=false:=by simpa usingλh=>ae (.inr h)
   simp[go_sem,aa,ad,k2,k4];exact bret hinv
theorem xq5(st:GStmt):yF2 st=if st.kind=1then selS st else if st.kind=2then zR8 st.rows&&!st.filtered else if st.kind=3then zR7 st.sets else st.kind==4:=rfl
theorem yA4(st:GStmt)(hs:SOk st):Pure prog 100 [.agg st.row] (.bool (mayS st)):=by
 have ar:=zq0 st.table (by have:=hs.table;unfold maxLen;omega);have au:=zF1 st.where_ hs.where_.wide hs.where_.good;have av:=yt3 st.where_;have aw:=yi8 st hs;generalize hM:mayS st=M;unfold mayS xv5 yW0 at hM;rw[xq5]at hM;obtain⟨Rs,hR⟩:∃R,st.rows=R:=⟨_,rfl⟩;obtain⟨As,hA⟩:∃A,st.sets=A:=⟨_,rfl⟩;obtain⟨ax,ay⟩:=hs.rows;obtain⟨az,a1⟩:=hs.sets;obtain⟨k,hk⟩:=eX st.kind;obtain⟨f,hf⟩:=eX st.filtered;obtain⟨d,hd⟩:=eX st.down;rw[hR]at ax ay;rw[hA]at az a1;have a6:=zv0 Rs;have a7:=zv0 As;rw[hk,hf,hd,hR,hA]at hM;generalize ze1 st.table=wt at ar hM;generalize mayE 16 st.where_=me at au hM;generalize zm4 st.where_=bl at av hM;generalize selS st=ss at aw hM;have a8:=zv0 st.items;have aL:(st.order !=[])=!st.order.isEmpty:=by cases st.order<;>rfl
 generalize st.items.isEmpty=ie at a8 hM;have an:((wt&&(if f=true then me else bl))=false->false=M)/\((wt&&(if f=true then me else bl))=true->(!((!(k==1)&&(!ie||(!st.order.isEmpty||(d||!(st.limit==0)))))||((!(k==2)&&!Rs.isEmpty)||(!(k==3)&&!As.isEmpty)))&&(if k=1then ss else if k=2then zR8 Rs&&!f else if k=3then zR7 As else k==4))=M):=by
  constructor;.intro h;rw[h]at hM;exact hM
  .intro h;rw[h,Ar]at hM;exact hM
 obtain⟨ai,al⟩:=an;clear hM;refine iV 0 func100 ntmps100 results100 λc hc hb=>?_;refine zR (zA ?_);simp[go_sem];refine xX (S:=Unit) [1] (λ_=>[.ptr 0 0]) (λ_=>[.box st.row]) (λ_=>(wt&&(if f=true then me else bl))=true) hc hb ?_ ?_
 .refine zA ?_;simp[go_sem];refine zJ ar cB (zL sg rfl) rfl ?_;refine(A4 wt).elim (λw=>?_) (λw=>?_);rotate_left;.simp[go_sem,w];exact bret (ai (by rw[w];rfl))
  simp[go_sem,w,hf];refine(A4 f).elim (λw2=>?_) (λw2=>?_)
  .simp[go_sem,w2];refine zJ au cB (zL sg (by rw[GExpr.row_eq];rfl)) rfl ?_;refine(A4 me).elim (λw3=>?_) (λw3=>?_);.simp[go_sem,w3,w2];exact zG () ⟨by rw[w,w2,w3];rfl,at_n 1 (by simp[go_sem,hk,hf,hd,w2]) rfl (by simp[ltOb,ltC,ltK]) (A2 _) (zC sg rfl)⟩
   .simp[go_sem,w3];exact bret (ai (by rw[w,w2,w3];rfl))
  .simp[go_sem,w2];refine zJ av cB (zL sg (by rw[GExpr.row_eq];rfl)) rfl ?_;refine(A4 bl).elim (λw3=>?_) (λw3=>?_);.simp[go_sem,w3];exact zG () ⟨by rw[w,w2,w3];rfl,at_n 1 (by simp[go_sem,hk,hf,hd,w2]) rfl (by simp[ltOb,ltC,ltK]) (A2 _) (zC sg rfl)⟩
   .simp[go_sem,w3];exact bret (ai (by rw[w,w2,w3];rfl))
 .rintro _ h1;have hM:=al h1;clear ai al;generalize hB:(if k=1then ss else if k=2then zR8 Rs&&!f else if k=3then zR7 As else k==4)=B at hM;obtain⟨re,aH⟩:=eX Rs.isEmpty;obtain⟨se,aA⟩:∃se,As.isEmpty=se:=⟨_,rfl⟩;rw[aH]at a6 hM;rw[aA]at a7 hM;obtain⟨S,hS⟩:=eX (((!(k==1)&&(!ie||(!st.order.isEmpty||(d||!(st.limit==0)))))||((!(k==2)&&!re)||(!(k==3)&&!se))));rw[hS]at hM;have no:S=true->false=M:=λh=>by rw[h]at hM;exact hM
  have yes:S=false->B=M:=λh=>by rw[h]at hM;exact hM
  clear hM;have aB:(st.limit !=0)=!(st.limit==0):=rfl;have aC:(st.kind !=2)=!(k==2):=by rw[hk];rfl
  have aD:(st.kind !=3)=!(k==3):=by rw[hk];rfl
  have aE:(st.kind !=1)=!(k==1):=by rw[hk];rfl
  refine xX (S:=Unit) [1] (λ_=>[.ptr 0 0]) (λ_=>[.box st.row]) (λ_=>S=false) hc hb ?_ ?_
  .generalize(st.limit==0)=l0 at aB hS;generalize(k==1)=k1 at aE hS;generalize(k==2)=k2 at aC hS;generalize(k==3)=k3 at aD hS;clear yes hB;refine zA ?_;simp[go_sem,aE,hR,hA];repeat'(first |(refine zY (λw=>?_) (λw=>?_)<;>simp[go_sem,w,aC,aD,aB,a8,a6,a7,hd])|(refine zN (λw=>?_) (λw=>?_)<;>simp[go_sem,w]))
   all_goals first |exact bret (no (by rw[<-hS];simp_all))|exact zG () ⟨by rw[<-hS];simp_all,at_n 1 (by simp[go_sem,hd,hR,hA]<;>simp_all) rfl (by simp[ltOb,ltC,ltK]) (A2 _) (zC sg rfl)⟩
  .rintro _ aI;have hM:=yes aI;rw[<-hB]at hM;clear yes no hS hB;refine zA ?_;simp[go_sem,hk];by_cases k1:k=1
   .have af:(k==1)=true:=by simpa using k1
    rw[if_pos k1]at hM;simp[go_sem,af];refine zJ aw cB (zL (by rw[<-hk];rfl) rfl) rfl ?_;simp[go_sem];exact bret hM
   have af:(k==1)=false:=by simpa using k1
   rw[if_neg k1]at hM;by_cases k2:k=2
   .have aj:(k==2)=true:=by simpa using k2
    rw[if_pos k2]at hM;simp[go_sem,af,aj];unfold zR8 at hM;obtain⟨nR,aa⟩:=eX Rs.length;rw[aa]at hM ax;have ae:decide (1<=(nR:Int))=decide (1<=nR):=by
      by_cases h:1<=nR;.rw[decide_eq_true h,decide_eq_true om]
      .rw[decide_eq_false h,decide_eq_false om]
    have ab:decide ((nR:Int)<=16)=decide (nR<=16):=by
      by_cases h:nR<=16;.rw[decide_eq_true h,decide_eq_true om]
      .rw[decide_eq_false h,decide_eq_false om]
    generalize decide (1<=nR)=n1 at ae hM;generalize decide (nR<=16)=n6 at ab hM;refine zH (S:=Nat) [1,3] (λi=>[.ptr 0 0,.int .i64 (i:Int)]) (λ_=>[.box st.row]) (λi=>nR-i) (λi=>i<=nR/\((Rs.drop i).all mayR&&(n1&&n6)&&!f)=M) hc hb 0 ⟨A2 _,hM⟩ ?_ ?_;.exact at_n 1 (by simp[go_sem,hk,hR]) rfl (by simp[ltOb,ltC,ltK,GStmt.row]) (A2 _) (zC sg rfl)
    rintro i⟨hi,hinv⟩;by_cases q:i<nR;rotate_left
    .rw[A9 om,C3,Ar]at hinv;refine zA ?_;simp[go_sem,hR,aa,q,hf];repeat'(first |(refine zY (λw=>?_) (λw=>?_)<;>simp[go_sem,w,aa,ae,ab])|(refine zN (λw=>?_) (λw=>?_)<;>simp[go_sem,w,hR,aa,ae,ab]))
     all_goals exact bret (by rw[<-hinv];simp_all)
    have ei:=zS q om;have ql:i<Rs.length:=om;obtain⟨r,hr⟩:=eX (Rs[i]);obtain⟨aJ,aK⟩:=ay r (hr▸A8 ql);obtain⟨m,hm⟩:=eX r.length;rw[zi1 _ _ _ ql,hr]at hinv;obtain⟨tl,ag⟩:=eX ((Rs.drop (i+1)).all mayR);rw[ag]at hinv;unfold mayR at hinv;rw[hm]at hinv aJ;refine zA ?_;simp[go_sem,hR,aa,q,hr,hm];by_cases z1:m<1;.have ak:decide ((m:Int)<1)=true:=decide_eq_true om;rw[show decide (1<=m)=false from decide_eq_false om]at hinv;simp[go_sem,ak];exact bret (by rw[<-hinv];simp)
    have ak:decide ((m:Int)<1)=false:=decide_eq_false om;by_cases z2:6<m;.have ao:decide (6<(m:Int))=true:=decide_eq_true om;rw[show decide (m<=6)=false from decide_eq_false om]at hinv;simp[go_sem,ak,ql,hr,hm,ao];exact bret (by rw[<-hinv];simp)
    have ao:decide (6<(m:Int))=false:=decide_eq_false om;rw[show decide (1<=m)=true from decide_eq_true om,show decide (m<=6)=true from decide_eq_true om,Ar,Ar]at hinv;simp[go_sem,ak,ql,hr,hm,ao];refine zH (S:=Nat) [1,3,4] (λj=>[.ptr 0 0,.int .i64 (i:Int),.int .i64 (j:Int)]) (λ_=>[.box st.row]) (λj=>m-j) (λj=>j<=m/\((r.drop j).all (mayE 16)&&tl&&(n1&&n6)&&!f)=M) hc hb 0 ⟨A2 _,hinv⟩ ?_ ?_;.exact at_n 1 (by simp[go_sem,hk,hR]) rfl (by simp[ltOb,ltC,ltK,GStmt.row]) (A2 _) (zC sg rfl)
    rintro j⟨hj,ad⟩;by_cases qj:j<m;rotate_left;.rw[A9 om,C3,Ar,<-ag]at ad;refine zA ?_;simp[go_sem,hR,aa,q,hr,hm,qj,ei];exact zG (i+1) ⟨om,⟨om,ad⟩,at_n 1 (by simp[go_sem,hR]) rfl (by simp[ltOb,ltC,ltK]) (A2 _) (zC sg rfl)⟩
    have ej:=zS qj om;have aF:j<r.length:=om;obtain⟨x,hx⟩:=eX (r[j]);have hE:=aK x (hx▸A8 aF);have ah:=zF1 x hE.wide hE.good;rw[zi1 _ _ _ aF,hx]at ad;generalize mayE 16 x=me at ah ad;refine zA ?_;simp[go_sem,hR,aa,q,hr,hm,qj,hx];refine zJ ah cB (zL sg (by rw[GExpr.row_eq];rfl)) rfl ?_;refine(A4 me).elim (λp=>?_) (λp=>?_);.rw[p,Ar]at ad;simp[go_sem,p,ej];exact zG (j+1) ⟨om,⟨om,ad⟩,at_n 1 (by simp[go_sem,hR]) rfl (by simp[ltOb,ltC,ltK]) (A2 _) (zC sg rfl)⟩
    .simp[go_sem,p];exact bret (by rw[<-ad,p];simp)
   have aj:(k==2)=false:=by simpa using k2
   rw[if_neg k2]at hM;by_cases k3:k=3
   .have aq:(k==3)=true:=by simpa using k3
    rw[if_pos k3]at hM;simp[go_sem,af,aj,aq];unfold zR7 at hM;obtain⟨nR,aa⟩:=eX As.length;rw[aa]at hM az;have ae:decide (1<=(nR:Int))=decide (1<=nR):=by
      by_cases h:1<=nR;.rw[decide_eq_true h,decide_eq_true om]
      .rw[decide_eq_false h,decide_eq_false om]
    have ab:decide ((nR:Int)<=6)=decide (nR<=6):=by
      by_cases h:nR<=6;.rw[decide_eq_true h,decide_eq_true om]
      .rw[decide_eq_false h,decide_eq_false om]
    generalize decide (1<=nR)=n1 at ae hM;generalize decide (nR<=6)=n6 at ab hM;refine zH (S:=Nat) [1,5] (λi=>[.ptr 0 0,.int .i64 (i:Int)]) (λ_=>[.box st.row]) (λi=>nR-i) (λi=>i<=nR/\((n1&&n6)&&(As.drop i).all mayA)=M) hc hb 0 ⟨A2 _,hM⟩ ?_ ?_;.exact at_n 1 (by simp[go_sem,hk,hA]) rfl (by simp[ltOb,ltC,ltK,GStmt.row]) (A2 _) (zC sg rfl)
    rintro i⟨hi,hinv⟩;by_cases q:i<nR;rotate_left
    .rw[A9 om,C3,Ck]at hinv;refine zA ?_;simp[go_sem,hA,aa,q];repeat'(first |(refine zY (λw=>?_) (λw=>?_)<;>simp[go_sem,w,aa,ab])|(refine zN (λw=>?_) (λw=>?_)<;>simp[go_sem,w,hA,aa,ae,ab]))
     all_goals exact bret (by rw[<-hinv];simp_all)
    have ei:=zS q om;have ql:i<As.length:=om;obtain⟨x,hx⟩:=eX (As[i]);obtain⟨aP,hE⟩:=a1 x (hx▸A8 ql);have ah:=zF1 x.e hE.wide hE.good;have aG:=zq0 x.name (by unfold maxLen;omega);rw[zi1 _ _ _ ql,hx]at hinv;unfold mayA at hinv;obtain⟨tl,ag⟩:=eX ((As.drop (i+1)).all (λx=>ze1 x.name&&mayE 16 x.e));rw[ag]at hinv;generalize mayE 16 x.e=me at ah hinv;generalize ze1 x.name=wx at aG hinv;refine zA ?_;simp[go_sem,hA,aa,q,hx];refine zJ aG cB (zL sg rfl) rfl ?_;refine(A4 wx).elim (λp=>?_) (λp=>?_);rotate_left;.simp[go_sem,p];exact bret (by rw[<-hinv,p];simp)
    rw[p,Ar]at hinv;simp[go_sem,p,aa,q,hx];refine zJ ah cB (zL sg (by rw[GExpr.row_eq];rfl)) rfl ?_;refine(A4 me).elim (λp=>?_) (λp=>?_);.rw[p,Ar,<-ag]at hinv;simp[go_sem,p,ei];exact zG (i+1) ⟨om,⟨om,hinv⟩,at_n 1 (by simp[go_sem,hA]) rfl (by simp[ltOb,ltC,ltK]) (A2 _) (zC sg rfl)⟩
    .simp[go_sem,p];exact bret (by rw[<-hinv,p];simp)
   have aq:(k==3)=false:=by simpa using k3
   rw[if_neg k3]at hM;simp[go_sem,af,aj,aq];exact bret hM
theorem yM2(l:GLot)(hl:LOk l):Pure prog 51 [.agg l.row] (.bool (mayL l)):=by
 obtain⟨L,hL⟩:=eX l.stmts;obtain⟨m,hm⟩:=eX l.mode;obtain⟨n,hn⟩:=eX l.n;obtain⟨ag,ae⟩:=hl.stmts;rw[hL]at ag ae;generalize hM:mayL l=M;unfold mayL xv4 at hM;rw[hL,hm,hn]at hM;have no:∀h:Bool,(h&&L.all mayS)=M->h=false->false=M:=λh q w=>by rw[w]at q;exact q
 refine iV 0 func51 ntmps51 results51 λc hc hb=>?_;refine zR (zA ?_);simp[go_sem];refine xX (S:=Unit) [1] (λ_=>[.ptr 0 0]) (λ_=>[.box l.row]) (λ_=>L.all mayS=M) hc hb ?_ ?_
 .have d1:decide (m<0)=!decide (0<=m):=by
   by_cases h:0<=m;.rw[decide_eq_true h,decide_eq_false om];rfl
   .rw[decide_eq_false h,decide_eq_true om];rfl
  have d2:decide (2<m)=!decide (m<=2):=by
   by_cases h:m<=2;.rw[decide_eq_true h,decide_eq_false om];rfl
   .rw[decide_eq_false h,decide_eq_true om];rfl
  have d3:decide (n<0)=!decide (0<=n):=by
   by_cases h:0<=n;.rw[decide_eq_true h,decide_eq_false om];rfl
   .rw[decide_eq_false h,decide_eq_true om];rfl
  have d4:decide ((L.length:Int)<1)=!decide (1<=L.length):=by
   by_cases h:1<=L.length;.rw[decide_eq_true h,decide_eq_false om];rfl
   .rw[decide_eq_false h,decide_eq_true om];rfl
  have d5:decide ((8:Int)<L.length)=!decide (L.length<=8):=by
   by_cases h:L.length<=8;.rw[decide_eq_true h,decide_eq_false om];rfl
   .rw[decide_eq_false h,decide_eq_true om];rfl
  have d6:(n !=0)=!(n==0):=rfl;generalize decide (0<=m)=b1 at d1 hM;generalize decide (m<=2)=b2 at d2 hM;generalize decide (0<=n)=b3 at d3 hM;generalize decide (1<=L.length)=b4 at d4 hM;generalize decide (L.length<=8)=b5 at d5 hM;generalize(n==0)=b6 at d6 hM;have af:=no _ hM;have ab:((b1&&(b2&&(b3&&(!(m==0&&!b6)))))&&(b4&&b5))=true->L.all mayS=M:=λh=>by rw[h,Ar]at hM;exact hM
  generalize ah:(m==0)=b7 at af ab;clear hM no;refine zA ?_;simp[go_sem,hm,hn,hL,d1];repeat'(first |(refine zY (λw=>?_) (λw=>?_)<;>simp[go_sem,w,ah,d2,d3,d4,d5,d6])|(refine zN (λw=>?_) (λw=>?_)<;>simp[go_sem,w]))
  all_goals first |exact bret (af (by simp_all))|exact zG () ⟨ab (by simp_all),at_n 1 (by simp[go_sem,hm,hn,hL]) rfl (by simp[ltOb,ltC,ltK]) (A2 _) (zC sg rfl)⟩
 .rintro _ hM;refine zA ?_;simp[go_sem,hL];refine zH (S:=Nat) [1,3] (λi=>[.ptr 0 0,.int .i64 (i:Int)]) (λ_=>[.box l.row]) (λi=>L.length-i) (λi=>i<=L.length/\(L.drop i).all mayS=M) hc hb 0 ⟨A2 _,by rw[B8];exact hM⟩ ?_ ?_;.exact at_n 1 (by simp[go_sem,hm,hn,hL]) rfl (by simp[ltOb,ltC,ltK,GLot.row]) (A2 _) (zC sg rfl)
  rintro i⟨hi,hinv⟩;by_cases q:i<L.length;rotate_left;.rw[A9 om]at hinv;refine zA ?_;simp[go_sem,hL,q];exact bret hinv
  have ei:=zS q om;rw[zi1 _ _ _ q]at hinv;obtain⟨st,ad⟩:=eX (L[i]);have aa:=yA4 st (ae st (ad▸A8 q));rw[ad]at hinv;generalize mayS st=b at aa hinv;refine zA ?_;simp[go_sem,hL,q,ad];refine zJ aa cB (zL sg rfl) rfl ?_;refine(A4 b).elim (λp=>?_) (λp=>?_);.rw[p,Ar]at hinv;simp[go_sem,p,ei];exact zG (i+1) ⟨om,⟨om,hinv⟩,at_n 1 (by simp[go_sem,hL]) rfl (by simp[ltOb,ltC,ltK]) (A2 _) (zC sg rfl)⟩
  .rw[p,C7]at hinv;simp[go_sem,p];exact bret hinv
theorem xx3{st:GStmt}(h:mayS st=true)(k:st.kind=1):∀x∈st.items,x.kind=1∨x.kind=2∨x.kind=3∨x.kind=4:=λx hx=>by
 unfold mayS yF2 at h;rw[if_pos k]at h;simp only[A6]at h;have h1:=h.2.2.1;unfold zY9 at h1;rw[A6]at h1;have h2:=Af.1 h1.1 x hx;unfold mayI at h2;split at h2;.exact .inl (by assumption)
 split at h2;.exact .inr (.inr (.inl (by assumption)))
 split at h2;.rename_i h3;exact h3.elim (λh=>.inr (.inl h)) (λh=>.inr (.inr (.inr h)))
 .cases h2
theorem yU8(l:GLot)(hl:LOk l):Pure prog 25 [schR tabsS,.agg l.row] (yL (zn6 l)):=by
 have aj:=yM2 l hl;obtain⟨L,hL⟩:=eX l.stmts;obtain⟨av,aq⟩:=hl.stmts;rw[hL]at av aq;obtain⟨m,hm⟩:=eX l.mode;have ag:mayL l=true->∀st∈L,mayS st=true:=λh st ad=>by unfold mayL at h;rw[hL,A6]at h;exact Af.1 h.2 st ad
 generalize hM:zn6 l=M;unfold zn6 at hM;rw[hL,hm]at hM;generalize mayL l=b at aj hM ag;refine iV 0 func25 ntmps25 results25 λc hc hb=>?_;refine zA ?_;simp[go_sem,schR];refine zJ aj cB (zL sg rfl) rfl ?_;refine(A4 b).elim (λp=>?_) (λp=>?_);rotate_left;.rw[if_neg (by rw[p];decide)]at hM;simp[go_sem,p];exact wJ hM
 rw[if_pos p]at hM;have ag:=ag p;simp[go_sem,p,hL];refine zH (S:=Nat) [2,3,6] (λi=>[.ptr 0 0,.ptr 1 0,.int .i64 (i:Int)]) (λ_=>[.box [.sl .ro yT,.sl .ro (tabsS.map GTable.row)],.box l.row]) (λi=>L.length-i) (λi=>i<=L.length/\zv7 m (L.drop i) i=M) hc hb 0 ⟨A2 _,hM⟩ ?_ ?_;.exact at_n 2 (by simp[go_sem,hL]) rfl (by simp[ltOb,ltC,ltK,GLot.row]) (A2 _) (zC sg rfl)
 rintro i⟨hi,hinv⟩;by_cases q:i<L.length;rotate_left;.rw[A9 om,zv7]at hinv;refine zA ?_;simp[go_sem,hL,q];exact wJ hinv
 have ei:=zS q om;obtain⟨st,ad⟩:=eX (L[i]);have ar:st∈L:=ad▸A8 q;have hs:=aq st ar;have aw:=ag st ar;rw[A5 q,ad,zv7]at hinv;obtain⟨ce,aa⟩:=eX (zm5 st);rw[aa]at hinv;unfold zm5 at aa;have al:=xm3 tabsS st.table dc;rw[show wH (λt:GTable=>t.name==st.table) tabsS 0=ze0 st.table from rfl]at al;have ax:=zJ4 st.table;generalize ze0 st.table=t at al ax aa;have go:∀(e σ),ce=0->At 0 [2,3,6] [.ptr 0 0,.ptr 1 0,.int .i64 ((i+1:Nat):Int)] [.box [.sl .ro yT,.sl .ro (tabsS.map GTable.row)],.box l.row] e σ->¬(m≠0/\st.kind≠1)->Vx.Next (λs':Nat=>L.length-s'<L.length-i/\(s'<=L.length/\zv7 m (L.drop s') s'=M)/\At 0 [2,3,6] [.ptr 0 0,.ptr 1 0,.int .i64 (s':Int)] [.box [.sl .ro yT,.sl .ro (tabsS.map GTable.row)],.box l.row] e σ) fx:=λe σ h1 h2 h3=>by rw[if_neg h3,if_neg (λg=>g h1)]at hinv;exact zG (i+1) ⟨om,⟨om,hinv⟩,h2⟩
 have bad:ce≠0->¬(m≠0/\st.kind≠1)->((i:Int),ce)=M:=λh1 h3=>by rw[if_neg h3,if_pos h1]at hinv;exact hinv
 refine zA ?_;simp[go_sem,hL,q,ad,hm];by_cases q1:m≠0/\st.kind≠1
 .rw[if_pos q1]at hinv;have ay:(m !=0)=true:=by simpa using q1.1
  have az:(st.kind !=1)=true:=by simpa using q1.2
  simp[go_sem,ay,az];exact wJ hinv
 have key:(m !=0)=false∨((m !=0)=true/\(st.kind !=1)=false):=by
  by_cases h:m=0;.exact .inl (by simpa using h)
  .refine .inr ⟨by simpa using h,?_⟩;simp only[bne_eq_false_iff_eq];exact E6 λg=>q1 ⟨h,g⟩
 clear hinv;have calls:¬t=-1->∃(j:Nat)(T:GTable),t=j/\j<3/\tabsS[j]?=some T/\(st.kind=1->Pure prog 53 [.agg T.row,.agg st.row] (.int .i64 ce))/\(st.kind=2->Pure prog 54 [.agg T.row,.agg st.row] (.int .i64 ce))/\(st.kind=3->Pure prog 55 [.agg T.row,.agg st.row] (.int .i64 ce))/\(¬st.kind=1->¬st.kind=2->¬st.kind=3->Pure prog 56 [.agg T.row,.agg st.row] (.int .i64 ce)):=λah=>by
  have a7:¬t<0:=om;obtain⟨j,hj⟩:∃j:Nat,t=j:=⟨t.toNat,om⟩;have ae:j<tabsS.length:=by show j<3;omega
  obtain⟨T,hT⟩:=eX (tabsS[j]);have au:T.cols.length<=1000:=by rw[<-hT];match j,ae with |0,_=>exact(by decide:tabT.cols.length<=1000)|1,_=>exact(by decide:tabG.cols.length<=1000)|2,_=>exact(by decide:tabH.cols.length<=1000)
  rw[hj,Az,A0 ae,hT]at aa;simp only at aa;rw[if_neg om]at aa;refine⟨j,T,hj,ae,by rw[A0 ae,hT],λk=>?_,λk=>?_,λk=>?_,λk1 k2 k3=>?_⟩;.rw[if_pos k]at aa;rw[<-aa];exact yA5 T (by unfold maxLen;omega) st hs (xx3 aw k)
  .rw[if_neg om,if_pos k]at aa;rw[<-aa];exact yA3 T au st hs
  .rw[if_neg om,if_neg om,if_pos k]at aa;rw[<-aa];exact yA7 T au st hs
  .rw[if_neg k1,if_neg k2,if_neg k3]at aa;rw[<-aa];exact zP3 T (by unfold maxLen;omega) st hs
 rcases key with a1|⟨a1,a2⟩;case' inl=>simp[go_sem,a1]
 case' inr=>simp[go_sem,a1,a2]
 all_goals
  refine zJ al cB (zL (by simp[go_sem,schR]) rfl) rfl ?_;by_cases ah:t=-1
  .have aa:14=ce:=by rw[<-aa,ah];rfl
   simp[go_sem,ah];exact wJ (by rw[aa];exact bad om q1)
  obtain⟨j,T,hj,ae,an,c1,c2,c3,c4⟩:=calls ah;obtain⟨a6,an⟩:=A1.1 an;have ak:decide (t<0)=false:=decide_eq_false om;rw[hj]at ak;simp[go_sem,hj,ak,a6,an];by_cases k1:st.kind=1
  .have af:(st.kind==1)=true:=by simpa using k1
   simp[go_sem,af];refine zJ (c1 k1) cB (zL sg rfl) rfl ?_;by_cases qe:ce=0
   .have ab:(ce !=0)=false:=by simpa using qe
    simp[go_sem,ab,ei];exact go _ _ qe (at_n 2 (by simp[go_sem,hL,hm]) rfl (by simp[ltOb,ltC,ltK,GLot.row]) (A2 _) (zC sg rfl)) q1
   .have ab:(ce !=0)=true:=by simpa using qe
    simp[go_sem,ab];exact wJ (bad qe q1)
  have af:(st.kind==1)=false:=by simpa using k1
  by_cases k2:st.kind=2
  .have ai:(st.kind==2)=true:=by simpa using k2
   simp[go_sem,af,ai];refine zJ (c2 k2) cB (zL sg rfl) rfl ?_;by_cases qe:ce=0
   .have ab:(ce !=0)=false:=by simpa using qe
    simp[go_sem,ab,ei];exact go _ _ qe (at_n 2 (by simp[go_sem,hL,hm]) rfl (by simp[ltOb,ltC,ltK,GLot.row]) (A2 _) (zC sg rfl)) q1
   .have ab:(ce !=0)=true:=by simpa using qe
    simp[go_sem,ab];exact wJ (bad qe q1)
  have ai:(st.kind==2)=false:=by simpa using k2
  by_cases k3:st.kind=3
  .have ao:(st.kind==3)=true:=by simpa using k3
   simp[go_sem,af,ai,ao];refine zJ (c3 k3) cB (zL sg rfl) rfl ?_;by_cases qe:ce=0
   .have ab:(ce !=0)=false:=by simpa using qe
    simp[go_sem,ab,ei];exact go _ _ qe (at_n 2 (by simp[go_sem,hL,hm]) rfl (by simp[ltOb,ltC,ltK,GLot.row]) (A2 _) (zC sg rfl)) q1
   .have ab:(ce !=0)=true:=by simpa using qe
    simp[go_sem,ab];exact wJ (bad qe q1)
  have ao:(st.kind==3)=false:=by simpa using k3
  simp[go_sem,af,ai,ao];refine zJ (c4 k1 k2 k3) cB (zL sg rfl) rfl ?_;by_cases qe:ce=0
  .have ab:(ce !=0)=false:=by simpa using qe
   simp[go_sem,ab,ei];exact go _ _ qe (at_n 2 (by simp[go_sem,hL,hm]) rfl (by simp[ltOb,ltC,ltK,GLot.row]) (A2 _) (zC sg rfl)) q1
  .have ab:(ce !=0)=true:=by simpa using qe
   simp[go_sem,ab];exact wJ (bad qe q1)
abbrev okI(n:Int):Prop:=-9223372036854775808<=n/\n<=9223372036854775807
def rngF(n:Int):Int×Int:=if okI n then(n,0)else(0,5)
theorem zM7{n:Int}(h:okI n):IntKind.i64.wrap n=n:=Vx.i64_id h.1 h.2
theorem zU3(a b:Int)(ha:okI a)(aa:okI b):Pure prog 291 [.int .i64 a,.int .i64 b] (yL (rngF (a+b))):=by
 generalize hM:rngF (a+b)=M;unfold rngF at hM;have q:(0<b/\decide (0<b)=true/\decide (b<0)=false)∨(b<0/\decide (0<b)=false/\decide (b<0)=true)∨(b=0/\decide (0<b)=false/\decide (b<0)=false):=by simp only[decide_eq_true_eq,decide_eq_false_iff_not];omega
 unfold okI at ha aa hM;refine iW 0 func291 ntmps291 results291 λc hc hb=>zO ?_;rcases q with⟨q,q1,q2⟩|⟨q,q1,q2⟩|⟨q,q1,q2⟩
 .have w1:IntKind.i64.wrap (9223372036854775807-b)=9223372036854775807-b:=zM7 ⟨om,om⟩;by_cases r:9223372036854775807-b<a;.have r':decide (9223372036854775807-b<a)=true:=decide_eq_true r;simp[go_sem,q1,w1,r'];exact wZ (by rw[<-hM,if_neg om])
  .have r':decide (9223372036854775807-b<a)=false:=decide_eq_false r;have w2:IntKind.i64.wrap (a+b)=a+b:=zM7 ⟨om,om⟩;simp[go_sem,q1,q2,w1,r',w2];exact wZ (by rw[<-hM,if_pos om])
 .have w1:IntKind.i64.wrap (-9223372036854775808-b)=-9223372036854775808-b:=zM7 ⟨om,om⟩;by_cases r:a< -9223372036854775808-b;.have r':decide (a< -9223372036854775808-b)=true:=decide_eq_true r;simp[go_sem,q1,q2,w1,r'];exact wZ (by rw[<-hM,if_neg om])
  .have r':decide (a< -9223372036854775808-b)=false:=decide_eq_false r;have w2:IntKind.i64.wrap (a+b)=a+b:=zM7 ⟨om,om⟩;simp[go_sem,q1,q2,w1,r',w2];exact wZ (by rw[<-hM,if_pos om])
 .have w2:IntKind.i64.wrap (a+b)=a+b:=zM7 ⟨om,om⟩;simp[go_sem,q1,q2,w2];exact wZ (by rw[<-hM,if_pos om])
theorem yg8(x:Nat)(hx:x<18446744073709551616):zf5 .and .u64 (x:Int) 4294967295=((x%4294967296:Nat):Int):=by
 unfold zf5;have h1:(BitVec.ofInt IntKind.u64.bits (x:Int)).toNat=x:=by rw[BitVec.toNat_ofInt];show((x:Int)%(18446744073709551616:Nat)).toNat=x;omega
 have h2:(BitVec.ofInt IntKind.u64.bits 4294967295).toNat=4294967295:=dc;simp only[BitVec.toNat_and,h1,h2];have h3:=Nat.and_two_pow_sub_one_eq_mod x 32;have h4:(2:Nat)^32-1=4294967295:=dc;have h5:(2:Nat)^32=4294967296:=dc;rw[h4,h5]at h3;rw[h3];exact Vx.u64_id om om
theorem zS6(x:Nat):(x:Int).fdiv 4294967296=((x/4294967296:Nat):Int):=by rw[Ct _ dc];rfl
theorem wd2(n:Nat):IntKind.u64.wrap (n:Int)=((n%18446744073709551616:Nat):Int):=by unfold IntKind.wrap;simp[IntKind.bits,IntKind.signed]
theorem natU{n:Nat}(h:n<18446744073709551616):IntKind.u64.wrap (n:Int)=(n:Int):=Vx.u64_id om om
theorem xk6(a b c d:Nat)(ha:a<4294967296)(hb:b<4294967296)(hc:c<4294967296)(hd:d<4294967296):a*d<=18446744065119617025/\b*c<=18446744065119617025/\a*c<=18446744065119617025/\b*d<=18446744065119617025/\(a*4294967296+b)*(c*4294967296+d)=(a*c)*18446744073709551616+(a*d)*4294967296+(b*c)*4294967296+b*d:=by
 have m:∀x y:Nat,x<4294967296->y<4294967296->x*y<=18446744065119617025:=λx y hx hy=>by have:=Nat.mul_le_mul (show x<=4294967295by omega) (show y<=4294967295by omega);simpa using this
 refine⟨m _ _ ha hd,m _ _ hb hc,m _ _ ha hc,m _ _ hb hd,?_⟩;rw[Am,Nat.mul_add,Nat.mul_add];have e1:a*4294967296*(c*4294967296)=(a*c)*18446744073709551616:=by rw[Nat.mul_mul_mul_comm]
 have e2:a*4294967296*d=(a*d)*4294967296:=by rw[Nat.mul_right_comm]
 have e3:b*(c*4294967296)=(b*c)*4294967296:=by rw[Eg]
 rw[e1,e2,e3];omega
theorem zn8(x y:Nat):(x:Int)*(y:Int)=((x*y:Nat):Int):=sm
theorem zQ1(x y:Nat):(x:Int)+(y:Int)=((x+y:Nat):Int):=sm
theorem xH0(x y:Nat)(hx:x<18446744073709551616)(hy:y<18446744073709551616):Pure prog 360 [.int .u64 x,.int .u64 y] (.tup [.int .u64 ((x*y/18446744073709551616:Nat):Int),.int .u64 ((x*y%18446744073709551616:Nat):Int)]):=by
 obtain⟨m1,m2,m3,m4,m5⟩:=xk6 (x/4294967296) (x%4294967296) (y/4294967296) (y%4294967296) om om om om;have ex:x/4294967296*4294967296+x%4294967296=x:=Nat.div_add_mod' x 4294967296;have ey:y/4294967296*4294967296+y%4294967296=y:=Nat.div_add_mod' y 4294967296;rw[ex,ey]at m5;have a1:=yg8 x hx;have a2:=yg8 y hy;have a3:=zS6 x;have a4:=zS6 y;generalize aa:x/4294967296=x1 at*;generalize ab:x%4294967296=x0 at*;generalize ad:y/4294967296=y1 at*;generalize ae:y%4294967296=y0 at*;obtain⟨p,hp⟩:∃p,p=x1*y1:=⟨_,rfl⟩;obtain⟨q,hq⟩:∃q,q=x1*y0:=⟨_,rfl⟩;obtain⟨r,hr⟩:∃r,r=x0*y1:=⟨_,rfl⟩;obtain⟨s,hs⟩:∃s,s=x0*y0:=⟨_,rfl⟩;rw[<-hq]at m1 m5;rw[<-hr]at m2 m5;rw[<-hp]at m3 m5;rw[<-hs]at m4 m5;refine iW 0 func360 ntmps360 results360 λc hc hb=>zO ?_;simp[go_sem,a1,a2,a3,a4];refine wA (zD rfl) ⟨?_,rfl⟩;rw[zn8 x1 y1,<-hp,zn8 x1 y0,<-hq,zn8 x0 y1,<-hr,zn8 x0 y0,<-hs,natU (n:=s) om,natU (n:=p) om,natU (n:=q) om,natU (n:=r) om,zS6 s,zQ1,natU (n:=q+s/4294967296) om,zS6,yg8 _ om,zQ1,zQ1,natU (n:=p+(q+s/4294967296)/4294967296) om,natU (n:=(q+s/4294967296)%4294967296+r) om,zS6,zQ1,natU om,zn8,wd2];have e:p+(q+s/4294967296)/4294967296+((q+s/4294967296)%4294967296+r)/4294967296=x*y/18446744073709551616:=by rw[m5];omega
 rw[e];rfl
theorem xG0(h:a<0)(h2:-9223372036854775808<=a):IntKind.u64.wrap (-IntKind.u64.wrap a)=(a.natAbs:Int):=by
 have e:IntKind.u64.wrap a=a+18446744073709551616:=by unfold IntKind.wrap;simp[IntKind.bits,IntKind.signed];omega
 rw[e];unfold IntKind.wrap;simp[IntKind.bits,IntKind.signed];omega
theorem xC4(a:Int)(ha:okI a):Pure prog 361 [.int .i64 a] (.int .u64 (a.natAbs:Int)):=by
 unfold okI at ha;refine iW 0 func361 ntmps361 results361 λc hc hb=>zO ?_;simp[go_sem];by_cases q:a<0;.have q1:decide (a<0)=true:=decide_eq_true q;simp[go_sem,q1];refine wA (zD rfl) ⟨?_,rfl⟩;rw[xG0 q ha.1]
 .have q1:decide (a<0)=false:=decide_eq_false q;simp[go_sem,q1];refine wA (zD rfl) ⟨?_,rfl⟩;rw[Vx.u64_id om om];congr 1;omega
def yh3(a b:Int):Nat:=if decide (a<0)=decide (b<0)then 9223372036854775807 else 9223372036854775808
theorem xW2(a b:Int):okI (a*b)↔a.natAbs*b.natAbs<=yh3 a b:=by
 obtain⟨n,hn⟩:=Int.eq_nat_or_neg a;obtain⟨m,hm⟩:=Int.eq_nat_or_neg b;have e:a.natAbs=n/\b.natAbs=m:=⟨om,om⟩;rw[e.1,e.2];have z1:n=0->n*m=0:=λh=>by subst h;exact Cf m
 have z2:m=0->n*m=0:=λh=>by subst h;exact Nat.mul_zero n
 unfold yh3 okI;rcases hn with rfl|rfl<;>rcases hm with rfl|rfl;.rw[zn8,decide_eq_false om,decide_eq_false om,if_pos rfl];generalize n*m=p at*;omega
 .rw[Int.mul_neg,zn8];generalize n*m=p at*;rw[decide_eq_false om];by_cases q:-(m:Int)<0;.rw[decide_eq_true q,if_neg sm];omega
  .rw[decide_eq_false q,if_pos rfl];have:=z2 om;omega
 .rw[Int.neg_mul,zn8];generalize n*m=p at*;rw[decide_eq_false (p:=(m:Int)<0) om];by_cases q:-(n:Int)<0;.rw[decide_eq_true q,if_neg sm];omega
  .rw[decide_eq_false q,if_pos rfl];have:=z1 om;omega
 .rw[Int.neg_mul_neg,zn8];generalize n*m=p at*;by_cases q:-(n:Int)<0<;>by_cases q2:-(m:Int)<0;.rw[decide_eq_true q,decide_eq_true q2,if_pos rfl];omega
  .have:=z2 om;rw[decide_eq_true q,decide_eq_false q2,if_neg sm];omega
  .have:=z1 om;rw[decide_eq_false q,decide_eq_true q2,if_neg sm];omega
  .have:=z1 om;rw[decide_eq_false q,decide_eq_false q2,if_pos rfl];omega
theorem xW1(a b:Int):((!(decide (a<0)==decide (b<0)))=true->yh3 a b=9223372036854775808)/\((!(decide (a<0)==decide (b<0)))=false->yh3 a b=9223372036854775807):=by unfold yh3;generalize decide (a<0)=x;generalize decide (b<0)=y;cases x<;>cases y<;>simp
theorem wa0(a b:Int)(ha:okI a)(ab:okI b):Pure prog 349 [.int .i64 a,.int .i64 b] (yL (rngF (a*b))):=by
 have af:=xC4 a ha;have ag:=xC4 b ab;have ad:a.natAbs<18446744073709551616/\b.natAbs<18446744073709551616:=by unfold okI at ha ab;omega
 have hm:=xH0 a.natAbs b.natAbs ad.1 ad.2;have hok:=xW2 a b;have ah:yh3 a b<=9223372036854775808:=by unfold yh3;split<;>omega
 have ae:=xW1 a b;generalize hP:a.natAbs*b.natAbs=p at*;have ai:p/18446744073709551616*18446744073709551616+p%18446744073709551616=p:=Nat.div_add_mod' _ _;have aj:p%18446744073709551616<18446744073709551616:=Cy _ dc;generalize p/18446744073709551616=hi at*;generalize p%18446744073709551616=lo at*;generalize hM:rngF (a*b)=M;unfold rngF at hM;refine iW 0 func349 ntmps349 results349 λc hc hb=>zO ?_;simp[go_sem];refine pC af ?_;simp[go_sem];refine pC ag ?_;simp[go_sem];refine pC hm ?_;simp[go_sem];have u1:IntKind.u64.wrap 9223372036854775808=9223372036854775808:=dc;refine zN (λv2=>?_) (λv2=>?_)
 .rw[ae.1 v2]at hok;by_cases q:p<=9223372036854775808;.have f1:decide (0<hi)=false:=decide_eq_false om;have f3:decide ((9223372036854775808:Int)<(lo:Int))=false:=decide_eq_false om;have w:=zM7 (hok.2 q);simp[go_sem,f1,f3,w,u1];exact wZ (by rw[<-hM,if_pos (hok.2 q)])
  .have aa:¬okI (a*b):=λh=>q (hok.1 h);have f4:decide (0<hi)=true∨(decide (0<hi)=false/\decide ((9223372036854775808:Int)<(lo:Int))=true):=by simp only[decide_eq_true_eq,decide_eq_false_iff_not];omega
   rcases f4 with f4|⟨f4,f5⟩;.simp[go_sem,f4];exact wZ (by rw[<-hM,if_neg aa])
   .simp[go_sem,f4,f5,u1];exact wZ (by rw[<-hM,if_neg aa])
 .rw[ae.2 v2]at hok;by_cases q:p<=9223372036854775807;.have f1:decide (0<hi)=false:=decide_eq_false om;have f3:decide ((9223372036854775807:Int)<(lo:Int))=false:=decide_eq_false om;have w:=zM7 (hok.2 q);simp[go_sem,f1,f3,w];exact wZ (by rw[<-hM,if_pos (hok.2 q)])
  .have aa:¬okI (a*b):=λh=>q (hok.1 h);have f4:decide (0<hi)=true∨(decide (0<hi)=false/\decide ((9223372036854775807:Int)<(lo:Int))=true):=by simp only[decide_eq_true_eq,decide_eq_false_iff_not];omega
   rcases f4 with f4|⟨f4,f5⟩;.simp[go_sem,f4];exact wZ (by rw[<-hM,if_neg aa])
   .simp[go_sem,f4,f5];exact wZ (by rw[<-hM,if_neg aa])
theorem yz3(a b:Int)(ha:okI a)(ab:okI b):Pure prog 317 [.int .i64 a,.int .i64 b] (yL (rngF (a-b))):=by
 by_cases q:b=-9223372036854775808
 .generalize hM:rngF (a-b)=M;unfold rngF at hM;unfold okI at ha;have q1:(b !=-9223372036854775808)=false:=by simpa using q
  refine iW 0 func317 ntmps317 results317 λc hc hb=>zO ?_;simp[go_sem,q1];by_cases r:0<=a;.have r1:decide (0<=a)=true:=decide_eq_true r;simp[go_sem,r1];exact wZ (by rw[<-hM,if_neg om])
  .have r1:decide (0<=a)=false:=decide_eq_false r;have w:IntKind.i64.wrap (a-b)=a-b:=zM7 ⟨om,om⟩;simp[go_sem,r1,w];exact wZ (by rw[<-hM,if_pos (by unfold okI;omega)])
 .have hn:okI (-b):=by unfold okI at*;omega
  have w:IntKind.i64.wrap (-b)=-b:=zM7 hn;have q1:(b !=-9223372036854775808)=true:=by simpa using q
  have aa:=zU3 a (-b) ha hn;have e:a+-b=a-b:=om;rw[e]at aa;generalize rngF (a-b)=M at*;refine iW 0 func317 ntmps317 results317 λc hc hb=>zO ?_;simp[go_sem,q1,w];refine pC aa ?_;simp[go_sem,yL];exact wR
def zy7(s:List UInt8)(a b:Int):Int×Int:=if s=[43]then rngF (a+b)else if s=[45]then rngF (a-b)else if s=[42]then rngF (a*b)else if b=0then(0,17)else if s=[37]then(a.tmod b,0)else rngF (a.tdiv b)
theorem xO8{b:Int}(ha:okI a)(hb:okI b):okI (a.tmod b):=by
 unfold okI at*;by_cases q:b=0;.subst q;rw[Int.tmod_zero];exact ha
 .have h2:(a.tmod b).natAbs=a.natAbs%b.natAbs:=Int.natAbs_tmod a b;have h3:a.natAbs%b.natAbs<=a.natAbs:=Nat.mod_le _ _;have h4:(a.tmod b).natAbs<b.natAbs:=by rw[h2];exact Cy _ om
  omega
theorem xO7{b:Int}(ha:okI a)(_hb:okI b)(h:b≠-1):okI (a.tdiv b):=by
 unfold okI at*;have h2:(a.tdiv b).natAbs=a.natAbs/b.natAbs:=Int.natAbs_tdiv a b;by_cases q:b.natAbs<=1
 .have:b=0∨b=1:=om;rcases this with rfl|rfl;.rw[Int.tdiv_zero];omega
  .rw[Int.tdiv_one];exact ha
 .have h3:a.natAbs/b.natAbs<=a.natAbs/2:=Nat.div_le_div_left om om;omega
theorem xA6(s:List UInt8)(a b:Int)(ha:okI a)(aa:okI b):Pure prog 319 [.str s,.int .i64 a,.int .i64 b] (yL (zy7 s a b)):=by
 have c1:=zU3 a b ha aa;have c2:=yz3 a b ha aa;have c3:=wa0 a b ha aa;have c4:=yz3 0 a dc ha;have e4:rngF (0-a)=rngF (-a):=by congr 1;omega
 rw[e4]at c4;have wr:∀{x:Int×Int}{M:Int×Int}{σ:St},x=M->wret (some (.tup [.int .i64 x.1,.int .i64 x.2])) 0 (λv s=>v=yL M/\s=[]) σ:=λh=>wZ h.symm;generalize hM:zy7 s a b=M;unfold zy7 at hM;refine iW 0 func319 ntmps319 results319 λc hc hb=>zO ?_;simp[go_sem];by_cases s1:s=[43];.simp only[s1,if_pos]at hM;simp[go_sem,s1];refine pC c1 ?_;simp[go_sem,yL];exact wr hM
 by_cases s2:s=[45];.rw[if_neg s1,if_pos s2]at hM;simp[go_sem,s2];refine pC c2 ?_;simp[go_sem,yL];exact wr hM
 by_cases s3:s=[42];.rw[if_neg s1,if_neg s2,if_pos s3]at hM;simp[go_sem,s3];refine pC c3 ?_;simp[go_sem,yL];exact wr hM
 rw[if_neg s1,if_neg s2,if_neg s3]at hM;have af:(s==[43])=false:=by simpa using s1
 have ag:(s==[45])=false:=by simpa using s2
 have ah:(s==[42])=false:=by simpa using s3
 simp[go_sem,af,ag,ah];by_cases b0:b=0
 .rw[if_pos b0]at hM;have ab:(b==0)=true:=by simpa using b0
  simp[go_sem,ab];exact wZ hM.symm
 rw[if_neg b0]at hM;have ab:(b==0)=false:=by simpa using b0
 simp[go_sem,ab];by_cases s4:s=[37]
 .rw[if_pos s4]at hM;have ad:(s==[37])=true:=by simpa using s4
  simp[go_sem,ad];refine zI b0 ?_;simp[go_sem];exact wZ hM.symm
 rw[if_neg s4]at hM;have ad:(s==[37])=false:=by simpa using s4
 simp[go_sem,ad];by_cases b1:b=-1
 .rw[b1,Int.tdiv_neg,Int.tdiv_one]at hM;have ae:(b==-1)=true:=by simpa using b1
  simp[go_sem,ae];refine pC c4 ?_;simp[go_sem,yL];exact wr hM
 have ae:(b==-1)=false:=by simpa using b1
 have ok:=xO7 ha aa b1;unfold rngF at hM;rw[if_pos ok]at hM;simp[go_sem,ae,zM7 ok];refine zI b0 ?_;simp[go_sem];exact wZ hM.symm
def cmpS(a b:List UInt8):Int:=if Op.bytesLess a b=true then-1 else if Op.bytesLess b a=true then 1 else 0
theorem yZ3:∀a b:List UInt8,Lib.compareBytes a b=cmpS a b
 |[],[]=>rfl|[],_::_=>rfl|_::_,[]=>rfl|x::a,y::b=>by
  have ih:=yZ3 a b;rw[Lib.compareBytes];unfold cmpS at ih⊢;rw[yZ1,yZ1];have h1:(x<y)↔x.toNat<y.toNat:=UInt8.lt_iff_toNat_lt;have h2:(y<x)↔y.toNat<x.toNat:=UInt8.lt_iff_toNat_lt;by_cases q:x<y;.have:=h1.1 q;rw[if_pos q,if_pos this];rfl
  by_cases q2:y<x;.have:=h2.1 q2;have n1:¬x.toNat<y.toNat:=λh=>q (h1.2 h);rw[if_neg q,if_pos q2,if_neg n1,if_pos this,if_pos this];rfl
  .have n1:=λh=>q (h1.2 h);have n2:=λh=>q2 (h2.2 h);rw[if_neg q,if_neg q2,if_neg n1,if_neg n2,if_neg n2,if_neg n1];exact ih
theorem yG2{a b:List UInt8}{c:Ctx}{σ:St}{K:V->St->Prop}{e:Fx K}(hk:K (.int .i64 (cmpS a b)) σ):wVC prog c (.fn 309 []) [.str a,.str b] σ K e:=by refine⟨_,[],rfl,.inr λw L β aa hm ha=>?_⟩;match aa,ha with |[v1,v2],⟨h1,h2,_⟩=>rw[wW h1,wW h2];refine⟨.int .i64 (cmpS a b),.int .i64 (cmpS a b),w,L,σ,β,?_,hk,hm,Le.refl _ _,Ext.refl _ _,RdP.int _ _⟩;rw[run_callFunc_extern func309 kR kR kR (e:=Extern.BytealgCompare.compare) kR,Lib.run_compareString];rw[List.toList_toArray,List.toList_toArray,yZ3];rfl
theorem xh2(a b:List UInt8):Pure prog 247 [.str a,.str b] (.int .i64 (cmpS a b)):=by refine iW 0 func247 ntmps247 results247 λc hc hb=>zO ?_;simp[go_sem];refine yG2 ?_;simp[go_sem];exact wR
theorem yG1(a b:List UInt8):Pure prog 164 [.str a,.str b] (.int .i64 (cmpS a b)):=by refine iW 0 func164 ntmps164 results164 λc hc hb=>zO ?_;simp[go_sem];refine pC (xh2 a b) ?_;simp[go_sem];exact wR
theorem ye1(x:Int):Pure prog 303 [.int .i64 x] (.bool false):=by refine iW 0 func303 ntmps303 results303 λc hc hb=>zO ?_;simp[go_sem];exact wR
theorem yR5(x y:Int):Pure prog 236 [.int .i64 x,.int .i64 y] (.int .i64 (cmpI x y)):=by
 generalize hM:cmpI x y=M;have ret:∀(r:Int)(σ:St),r=M->wret (some (.int .i64 r)) 0 (λr s=>r=.int .i64 M/\s=[]) σ:=λr σ h=>by subst h;exact wR
 unfold cmpI at hM;refine iW 0 func236 ntmps236 results236 λc hc hb=>zO ?_;simp[go_sem];refine pC (ye1 x) ?_;simp[go_sem];refine pC (ye1 y) ?_;simp[go_sem];repeat'(first|(refine zN (λq=>?_) (λq=>?_)<;>simp[go_sem,q]))
 all_goals exact ret _ _ (by rw[<-hM];simp only[decide_eq_true_eq,decide_eq_false_iff_not]at*;(repeat' split)<;>omega)
end Go.Proofs.YtefbicjgbaaieaaGreat
