/-
  The kinds of expressions by the document, over trees (the library Vx); used by the theorem at the end of the claim.
  Conditions: as each theorem states them.
-/
import Derived.Test.YtefbicjgbaaieaaGreatLAK
import Derived.Test.YtefbicjgbaaieaaGreatLAJ
set_option maxHeartbeats 8000000
namespace Go.Proofs.YtefbicjgbaaieaaGreat
open Go Go.Vx R Go.Proofs.Tryz
set_option maxRecDepth 100000
def xE{J:Type}(p:J->Bool):List J->Nat->Int |[],_=>-1|x::l,i=>if p x=true then(i:Int)else xE p l (i+1)
theorem xh{J:Type}(p:J->Bool):∀(l:List J)(i:Nat),xE p l i=-1\/((i:Int)<=xE p l i/\xE p l i<i+l.length)
 |[],i=>.inl rfl|x::l,i=>by
  unfold xE;split;.right;simp;omega
  .have:=xh p l (i+1);simp only[Af];omega
theorem wt7(t:bH)(name:aij):bL prog 105 [.agg t.row,.ptr 0 0] [.box [.str name]] (λr s=>r=.bool (t.name==name)/\s=[.box [.str name]]):=by refine iW 1 func105 ntmps105 results105 λc hc hb=>zM ?_;simp[go_sem];exact qI 1 rfl rfl (A6 _) (zD rfl) ⟨rfl,rfl⟩
theorem wt4(t:eG)(name:aij):bL prog 231 [.agg t.row,.ptr 0 0] [.box [.str name]] (λr s=>r=.bool (t.name==name)/\s=[.box [.str name]]):=by refine iW 1 func231 ntmps231 results231 λc hc hb=>zM ?_;simp[go_sem];exact qI 1 rfl rfl (A6 _) (zD rfl) ⟨rfl,rfl⟩
theorem wn0(l:List bH)(name:aij)(hl:l.length<=maxLen):bL prog 104 [.sl .ro (l.map bH.row),.fn 105 [.ptr 0 0]] [.box [.str name]] (λr s=>r=.int .i64 (xE (λt:bH=>t.name==name) l 0)/\s=[.box [.str name]]):=by
 generalize hM:xE (λt:bH=>t.name==name) l 0=M;have ret:∀(r:Int)(U:St),r=M->bW (some (.int .i64 r)) 1 (λr s=>r=.int .i64 M/\s=[.box [.str name]]) (.box [.str name]::U):=λr U h=>by subst h;exact qI 1 rfl rfl (A6 _) (zD rfl) ⟨rfl,rfl⟩
 refine iV 1 func104 ntmps104 results104 λc hc hb=>?_;refine zA ?_;simp[go_sem];refine zG (S:=Nat) [0,1,7,8] (λi=>[.sl .ro (l.map bH.row),.fn 105 [.ptr 0 0],.int .i64 l.length,.int .i64 i]) (λ_=>[.box [.str name]]) (λi=>l.length-i) (λi=>i<=l.length/\xE (λt:bH=>t.name==name) (l.drop i) i=M) hc hb 0 ⟨A3 _,hM⟩ ?_ ?_;.exact aN 1 rfl
 rintro i⟨hi,hinv⟩;by_cases q:i<l.length;rotate_left;.rw[Bj om,xE]at hinv;refine zA ?_;simp[go_sem,q];exact ret _ _ hinv
 have ei:=zR q (by unfold maxLen at hl;omega);obtain⟨x,hx⟩:=eX (l[i]);rw[A2 q,hx,xE]at hinv;obtain⟨b,ab⟩:=eX ((x.name==name));have aa:=wt7 x name;rw[ab]at aa hinv;refine zA ?_;simp[go_sem,q,hx];refine pd 0 aa cB rfl rfl ⟨zD rfl,.inl rfl,tV⟩ (by rintro r s⟨rfl,rfl⟩;exact⟨_,rfl,rfl⟩) ?_;rintro r o⟨rfl,ho⟩;cases ho;simp[go_sem];refine zO (λw=>?_) (λw=>?_);.rw[ahP w]at hinv;simp[go_sem];exact ret _ _ hinv
 .rw[ahO (by rw[w];decide)]at hinv;simp[go_sem,ei];exact zH (i+1) ⟨om,⟨q,hinv⟩,aN 1 rfl⟩
theorem wm7(l:List eG)(name:aij)(hl:l.length<=maxLen):bL prog 230 [.sl .ro (l.map eG.row),.fn 231 [.ptr 0 0]] [.box [.str name]] (λr s=>r=.int .i64 (xE (λt:eG=>t.name==name) l 0)/\s=[.box [.str name]]):=by
 generalize hM:xE (λt:eG=>t.name==name) l 0=M;have ret:∀(r:Int)(U:St),r=M->bW (some (.int .i64 r)) 1 (λr s=>r=.int .i64 M/\s=[.box [.str name]]) (.box [.str name]::U):=λr U h=>by subst h;exact qI 1 rfl rfl (A6 _) (zD rfl) ⟨rfl,rfl⟩
 refine iV 1 func230 ntmps230 results230 λc hc hb=>?_;refine zA ?_;simp[go_sem];refine zG (S:=Nat) [0,1,7,8] (λi=>[.sl .ro (l.map eG.row),.fn 231 [.ptr 0 0],.int .i64 l.length,.int .i64 i]) (λ_=>[.box [.str name]]) (λi=>l.length-i) (λi=>i<=l.length/\xE (λt:eG=>t.name==name) (l.drop i) i=M) hc hb 0 ⟨A3 _,hM⟩ ?_ ?_;.exact aN 1 rfl
 rintro i⟨hi,hinv⟩;by_cases q:i<l.length;rotate_left;.rw[Bj om,xE]at hinv;refine zA ?_;simp[go_sem,q];exact ret _ _ hinv
 have ei:=zR q (by unfold maxLen at hl;omega);obtain⟨x,hx⟩:=eX (l[i]);rw[A2 q,hx,xE]at hinv;obtain⟨b,ab⟩:=eX ((x.name==name));have aa:=wt4 x name;rw[ab]at aa hinv;refine zA ?_;simp[go_sem,q,hx];refine pd 0 aa cB rfl rfl ⟨zD rfl,.inl rfl,tV⟩ (by rintro r s⟨rfl,rfl⟩;exact⟨_,rfl,rfl⟩) ?_;rintro r o⟨rfl,ho⟩;cases ho;simp[go_sem];refine zO (λw=>?_) (λw=>?_);.rw[ahP w]at hinv;simp[go_sem];exact ret _ _ hinv
 .rw[ahO (by rw[w];decide)]at hinv;simp[go_sem,ei];exact zH (i+1) ⟨om,⟨q,hinv⟩,aN 1 rfl⟩
theorem S2(ts:List bH)(name:aij)(hl:ts.length<=maxLen):Pure prog 58 [cA ts,.str name] (.int .i64 (xE (λt:bH=>t.name==name) ts 0)):=by have hx:=wn0 ts name hl;refine iW 0 func58 ntmps58 results58 λc hc hb=>zM ?_;simp[go_sem,cA];refine pd 1 hx cB rfl rfl ⟨zD rfl,.inl rfl,tV⟩ (by rintro r s⟨rfl,rfl⟩;exact⟨_,rfl,rfl⟩) ?_;rintro r o⟨rfl,ho⟩;cases ho;simp[go_sem];exact wR
theorem F9(t:bH)(name:aij)(hl:t.bP.length<=maxLen):Pure prog 156 [.agg t.row,.str name] (.int .i64 (xE (λt:eG=>t.name==name) t.bP 0)):=by have hx:=wm7 t.bP name hl;refine iW 0 func156 ntmps156 results156 λc hc hb=>zM ?_;simp[go_sem];refine pd 1 hx cB rfl rfl ⟨zD rfl,.inl rfl,tV⟩ (by rintro r s⟨rfl,rfl⟩;exact⟨_,rfl,rfl⟩) ?_;rintro r o⟨rfl,ho⟩;cases ho;simp[go_sem];exact wR
theorem S3(ts:List bH)(name:aij)(hl:ts.length<=maxLen):Pure prog 52 [cA ts,.str name] (.int .i64 (xE (λt:bH=>t.name==name) ts 0)):=by
 generalize hM:xE (λt:bH=>t.name==name) ts 0=M;have ret:∀(r:Int)(U:St),r=M->bW (some (.int .i64 r)) 0 (λr s=>r=.int .i64 M/\s=[]) U:=λr U h=>by subst h;exact wR
 refine iV 0 func52 ntmps52 results52 λc hc hb=>?_;refine zA ?_;simp[go_sem,cA];refine zG (S:=Nat) [1,2,5] (λi=>[.str name,.ptr 0 0,.int .i64 i]) (λ_=>[.box [.sl .ro yL,.sl .ro (ts.map bH.row)]]) (λi=>ts.length-i) (λi=>i<=ts.length/\xE (λt:bH=>t.name==name) (ts.drop i) i=M) hc hb 0 ⟨A3 _,hM⟩ ?_ ?_;.exact aN 1 rfl
 rintro i⟨hi,hinv⟩;refine zA ?_;simp[go_sem];refine zO (λq=>?_) (λq=>?_)
 .have q:i<ts.length:=sU q;have ei:=zR q (by unfold maxLen at hl;omega);obtain⟨x,hx⟩:=eX (ts[i]);rw[A2 q,hx,xE]at hinv;simp[go_sem,q,hx];refine zO (λw=>?_) (λw=>?_);.rw[ahP w]at hinv;simp[go_sem];exact ret _ _ hinv
  .rw[ahO (by rw[w];decide)]at hinv;simp[go_sem,ei];exact zH (i+1) ⟨om,⟨q,hinv⟩,aN 1 rfl⟩
 .have q:i=ts.length:=by have:¬i<ts.length:=sU q;omega
  subst q;rw[B7]at hinv;simp[go_sem];exact ret _ _ hinv
theorem Ga(t:bH)(name:aij)(hl:t.bP.length<=maxLen):Pure prog 103 [.agg t.row,.str name] (.int .i64 (xE (λc:eG=>c.name==name) t.bP 0)):=by
 generalize hM:xE (λc:eG=>c.name==name) t.bP 0=M;have ret:∀(r:Int)(U:St),r=M->bW (some (.int .i64 r)) 0 (λr s=>r=.int .i64 M/\s=[]) U:=λr U h=>by subst h;exact wR
 refine iV 0 func103 ntmps103 results103 λc hc hb=>?_;refine zA ?_;simp[go_sem];refine zG (S:=Nat) [1,2,5] (λi=>[.str name,.ptr 0 0,.int .i64 i]) (λ_=>[.box t.row]) (λi=>t.bP.length-i) (λi=>i<=t.bP.length/\xE (λc:eG=>c.name==name) (t.bP.drop i) i=M) hc hb 0 ⟨A3 _,hM⟩ ?_ ?_;.exact aN 1 rfl
 rintro i⟨hi,hinv⟩;refine zA ?_;simp[go_sem];refine zO (λq=>?_) (λq=>?_)
 .have q:i<t.bP.length:=sU q;have ei:=zR q (by unfold maxLen at hl;omega);obtain⟨x,hx⟩:=eX (t.bP[i]);rw[A2 q,hx,xE]at hinv;simp[go_sem,q,hx];refine zO (λw=>?_) (λw=>?_);.rw[ahP w]at hinv;simp[go_sem];exact ret _ _ hinv
  .rw[ahO (by rw[w];decide)]at hinv;simp[go_sem,ei];exact zH (i+1) ⟨om,⟨q,hinv⟩,aN 1 rfl⟩
 .have q:i=t.bP.length:=by have:¬i<t.bP.length:=sU q;omega
  subst q;rw[B7]at hinv;simp[go_sem];exact ret _ _ hinv
def cq(T:bH)(name:aij):Int:=xE (λc:eG=>c.name==name) T.bP 0
def iY(T:bH)(c:Int):Int:=((T.bP[c.toNat]?).map (·.kind)).getD 0
def k5(v:bF):Bool:=v.kind==0&&(v.n==0&&v.s.isEmpty)
theorem HR(v:bF):(!(v.kind==0)||(!(v.n==0)||!v.s.isEmpty))=!k5 v:=by unfold k5;cases v.kind==0<;>cases v.n==0<;>cases v.s.isEmpty<;>rfl
mutual
def jx(T:bH):bG->Int×Int |.mk k s v args=>if k=1then(if s.isEmpty=false\/args.isEmpty=false\/dw v=false then(0,9)else(v.kind,0))else if k=2then(if cq T s<0then(0,14)else if args.isEmpty=false\/k5 v=false then(0,9)else(iY T (cq T s),0))else if k=3then(if(xK T args).2≠0then(0,(xK T args).2)else if k5 v=false then(0,9)else mb s (xK T args).1)else(0,9)def xK(T:bH):List bG->aim×Int|[]=>([],0)|e::l=>if(jx T e).2≠0then([],(jx T e).2)else((jx T e).1::(xK T l).1,(xK T l).2)end
theorem Gb(T:bH)(e:bG):jx T e=if e.kind=1then(if e.s.isEmpty=false\/e.args.isEmpty=false\/dw e.v=false then(0,9)else(e.v.kind,0))else if e.kind=2then(if cq T e.s<0then(0,14)else if e.args.isEmpty=false\/k5 e.v=false then(0,9)else(iY T (cq T e.s),0))else if e.kind=3then(if(xK T e.args).2≠0then(0,(xK T e.args).2)else if k5 e.v=false then(0,9)else mb e.s (xK T e.args).1)else(0,9):=by cases e;rw[jx];rfl
theorem wT{M:Int×Int}{a e:Int}{U:St}(h:(a,e)=M):bW (some (.cm [.int .i64 a,.int .i64 e])) 0 (λr s=>r=yN M/\s=[]) U:=by subst h;exact wR
theorem Ex(T:bH)(s:aij)(h:¬cq T s<0):∃j:Nat,cq T s=j/\j<T.bP.length:=by have:=xh (λc:eG=>c.name==s) T.bP 0;unfold cq at h⊢;refine⟨(xE (λc:eG=>c.name==s) T.bP 0).toNat,om,om⟩
theorem S4(l:List bG):decide ((0:Int)<l.length)=!l.isEmpty:=by cases l with|nil=>rfl|cons _ _=>exact ahR (by simp only[Af];omega)
theorem S5(l:List bG):decide (0<l.length)=!l.isEmpty:=by cases l with|nil=>rfl|cons _ _=>exact ahR (by simp only[Af];omega)
theorem S6(T:bH)(hT:T.bP.length<=maxLen):∀(n:Nat)(e:bG),xG e<=n->eN e->Good e->Pure prog 253 [.agg T.row,.agg e.row] (yN (jx T e))
 |0,e,h,_,_=>by have:=u9 e;omega|n+1,e,h,hw,hg=>by
  have ih:=S6 T hT n;have ay:=nH e;have hlen:=hw.len;have ak:=hw.sub;have au:=hg.sub;have al:=F3 e.v;have an:=F9 T e.s hT;obtain⟨M,hM⟩:=eX (jx T e);rw[hM];rw[Gb]at hM;rw[show xE (λc:eG=>c.name==e.s) T.bP 0=cq T e.s from rfl]at an;have hz:=HR e.v;have av:=S4 e.args;have ah:=S5 e.args;have ret:∀(a b:Int)(U:St),(a,b)=M->bW (some (.cm [.int .i64 a,.int .i64 b])) 0 (λr s=>r=yN M/\s=[]) U:=λa b U h=>wT h;refine iV 0 func253 ntmps253 results253 λc hc hb=>?_;refine zA ?_;simp[go_sem];by_cases q1:e.kind=1
  .have af:(e.kind==1)=true:=sU q1;rw[ahP q1]at hM;generalize dw e.v=b at al hM;generalize e.args.isEmpty=ae at av ah hM;simp[go_sem,af];repeat'(first |(refine yA (λq=>?_) (λq=>?_)<;>simp[go_sem,q,ah])|(refine zO (λq=>?_) (λq=>?_)<;>simp[go_sem,q])|(refine zJ al cB (zK sg rfl) rfl ?_;simp[go_sem]))
   all_goals exact ret _ _ _ (by rw[<-hM];simp_all)
  rw[ahO q1]at hM;have af:(e.kind==1)=false:=sU q1;by_cases q2:e.kind=2
  .have ai:(e.kind==2)=true:=sU q2;rw[ahP q2]at hM;simp[go_sem,af,ai];refine zJ an cB (zK sg rfl) rfl ?_;by_cases qc:cq T e.s<0;.have aj:decide (cq T e.s<0)=true:=ahR qc;rw[ahP qc]at hM;simp[go_sem,aj];exact ret _ _ _ hM
   have aj:decide (cq T e.s<0)=false:=ahQ qc;rw[ahO qc]at hM;obtain⟨j,hj,aw⟩:=Ex T e.s qc;obtain⟨C,hC⟩:=eX (T.bP[j]);have az:iY T (cq T e.s)=C.kind:=by unfold iY;rw[hj,Ai,A0 aw,hC];rfl
   rw[az]at hM;rw[hj]at aj⊢;generalize k5 e.v=z at hz hM;generalize e.args.isEmpty=ae at av ah hM;simp[go_sem,aj,ah];repeat'(first |(refine yA (λq=>?_) (λq=>?_)<;>simp[go_sem,q,hz])|(refine zO (λq=>?_) (λq=>?_)<;>simp[go_sem,q,aw,hC]))
   all_goals exact ret _ _ _ (by rw[<-hM];simp_all)
  rw[ahO q2]at hM;have ai:(e.kind==2)=false:=sU q2;by_cases q3:e.kind=3;rotate_left;.rw[ahO q3]at hM;have ao:(e.kind==3)=false:=sU q3;simp[go_sem,af,ai,ao];exact ret _ _ _ hM
  have ao:(e.kind==3)=true:=sU q3;rw[ahP q3]at hM;obtain⟨args,ab⟩:=eX e.args;rw[ab]at ay hlen ak au hM;obtain⟨K,hK⟩:=eX (xK T args);rw[hK]at hM;simp[go_sem,af,ai,ao,ab];refine wL 7 1 dc sg ?_;refine zG (S:=Nat×aim) [2,3,7,61,62,63] (λu=>[.ptr 0 0,.ptr 1 0,.sl (.app 2) (u.2.map λn=>[V.int .i64 n]),.sl .ro (args.map bG.row),.int .i64 args.length,.int .i64 (u.1:Int)]) (λu=>[.box T.row,.box e.row,.app u.2.length 1]) (λu=>args.length-u.1) (λu=>u.1<=args.length/\u.2.length=u.1/\(xK T (args.drop u.1)).2=K.2/\(K.2=0->u.2++(xK T (args.drop u.1)).1=K.1)) hc hb (0,[]) ⟨A3 _,rfl,by simp only[Au];rw[hK],λ_=>by simp only[Au];rw[hK];rfl⟩ ?_ ?_;.exact bT 3 (by simp[go_sem,ab]) rfl (by simp[bO,cH,cF,bG.bK,bH.row]) (A3 _) (zC sg rfl)
  rintro⟨i,l⟩⟨hi,hl,hinv,aa⟩;simp only at hi hl hinv aa;by_cases q:i<args.length;rotate_left
  .rw[A4 om,xK]at hinv aa;have ag:K.2=0:=hinv.symm;have a1:l=K.1:=by have:=aa ag;simpa using this
   rw[ahO (λh=>h ag),<-a1]at hM;have ax:=ZW e.s l (by unfold maxLen;omega);generalize mb e.s l=o at ax hM;generalize k5 e.v=z at hz hM;refine zA ?_;simp[go_sem,q,hz];refine(A1 z).elim (λw=>?_) (λw=>?_);.rw[ahO (by rw[w];decide)]at hM;subst w;simp[go_sem];refine pC ax ?_;simp[go_sem,yN];exact ret _ _ _ hM
   .rw[ahP w]at hM;subst w;simp[go_sem];exact ret _ _ _ hM
  have ei:=zR q om;obtain⟨x,hx⟩:=eX (args[i]);have aq:x∈args:=hx▸A7 q;have a6:=wF args x aq;rw[A2 q,hx,xK]at hinv aa;have ad:=ih x om (ak x aq) (au x aq);generalize jx T x=kx at ad hinv aa;by_cases q4:kx.2=0;.rw[ahO (λh=>h q4)]at hinv aa;have ar:(kx.2!=0)=false:=sU q4;refine zA ?_;simp[go_sem,q,hx];refine zJ ad cB (zK sg (by rw[bG.bK];rfl)) rfl ?_;simp[go_sem,yN,ar];refine zF ⟨om,zT rfl⟩ ?_;simp[go_sem,ei];refine zH (i+1,l++[kx.1]) ⟨by simp only;omega,⟨by simp only;omega,by simp;omega,hinv,λh=>by have:=aa h;simpa using this⟩,?_⟩;exact aN 3 (by simp[bO,cH,cF,bG.bK])
  .rw[ahP q4]at hinv;have ar:(kx.2!=0)=true:=sU q4;have ag:kx.2=K.2:=hinv;rw[ahP (by rw[<-ag];exact q4),<-ag]at hM;refine zA ?_;simp[go_sem,q,hx];refine zJ ad cB (zK sg (by rw[bG.bK];rfl)) rfl ?_;simp[go_sem,yN,ar];exact ret _ _ _ hM
def fM(s:aij)(x:Int):Bool:=(p5 s&&(!(x==1)&&!(x==0)))||(nh s&&(!(x==2)&&!(x==0)))
def Gc(l:aim):Bool:=match l with|[x,y]=>!(x==y)&&(!(x==0)&&!(y==0))|_=>false
def N2(s:aij)(l:aim):Int×Int:=if iM s=0\/iM s≠l.length then(0,9)else if l.any (fM s)=true then(0,15)else if nh s=true then(2,0)else if(!p5 s&&Gc l)=true then(0,15)else(1,0)
theorem S7{s:aij}{l:aim}{k:Int}(h:∀x,fM s x=!(x==k||x==0)):l.any (fM s)=!gu l k:=by unfold gu;grind
theorem Jr{s:aij}{l:aim}(h:∀x,fM s x=false):l.any (fM s)=false:=by grind
theorem xQ6(s:aij)(l:aim):N2 s l=mb s l:=by
 have one:∀k:Int,iM s=1->∀b,(∀x,fM s x=!(x==k||x==0))->((if iM s=0\/iM s≠l.length then(0,9)else if l.any (fM s)=true then(0,15)else b:Int×Int)=if((l.length:Int)==1)=false then(0,9)else if gu l k=false then(0,15)else b):=λk h1 b hb=>by rw[S7 hb,h1];grind
 have two:∀k:Int,iM s=2->∀b,(∀x,fM s x=!(x==k||x==0))->((if iM s=0\/iM s≠l.length then(0,9)else if l.any (fM s)=true then(0,15)else b:Int×Int)=if((l.length:Int)==2)=false then(0,9)else if gu l k=false then(0,15)else b):=λk h1 b hb=>by rw[S7 hb,h1];grind
 unfold N2 mb uO;by_cases h1:s=[73,83,78,85,76,76]\/s=[78,79,84,78,85,76,76]
 .rw[ahP h1];have hb:∀x,fM s x=false:=λx=>by rcases h1 with rfl|rfl<;>rfl
  have ha:iM s=1:=by rcases h1 with rfl|rfl<;>decide
  have hl:p5 s=false:=by rcases h1 with rfl|rfl<;>decide
  have hr:nh s=false:=by rcases h1 with rfl|rfl<;>decide
  rw[Jr hb,ha,hr,hl];by_cases q:(l.length:Int)=1
  .have hw:Gc l=false:=by match l,q with|[x],_=>rfl
   rw[ahO om,hw];simp[q]
  grind
 rw[ahO h1];by_cases h2:s=[78,79,84];.subst h2;have:=one 1 dc (1,0) (λx=>by unfold fM;rw[show p5 [78,79,84]=true from rfl,show nh [78,79,84]=false from rfl];simp);rw[ahP rfl,<-this];rfl
 rw[ahO h2];by_cases h3:s=[78,69,71];.subst h3;have:=one 2 dc (2,0) (λx=>by unfold fM;rw[show p5 [78,69,71]=false from rfl,show nh [78,69,71]=true from rfl];simp);rw[ahP rfl,<-this];rfl
 rw[ahO h3];by_cases h4:s=[79,82]\/s=[65,78,68]
 .have hl:p5 s:=by rcases h4 with rfl|rfl<;>decide
  have hr:nh s=false:=by rcases h4 with rfl|rfl<;>decide
  have:=two 1 (by rcases h4 with rfl|rfl<;>decide) (1,0) (λx=>by unfold fM;rw[hl,hr];simp);grind
 rw[ahO h4];by_cases h5:s=[43]\/s=[45]\/s=[42]\/s=[47]\/s=[37]
 .have hl:p5 s=false:=by rcases h5 with rfl|rfl|rfl|rfl|rfl<;>decide
  have hr:nh s:=by rcases h5 with rfl|rfl|rfl|rfl|rfl<;>decide
  have:=two 2 (by rcases h5 with rfl|rfl|rfl|rfl|rfl<;>decide) (2,0) (λx=>by unfold fM;rw[hl,hr];simp);grind
 rw[ahO h5];by_cases h6:s=[61]\/s=[60,62]\/s=[60]\/s=[60,61]\/s=[62]\/s=[62,61]
 .have ha:iM s=2:=by rcases h6 with rfl|rfl|rfl|rfl|rfl|rfl<;>decide
  have hl:p5 s=false:=by rcases h6 with rfl|rfl|rfl|rfl|rfl|rfl<;>decide
  have hr:nh s=false:=by rcases h6 with rfl|rfl|rfl|rfl|rfl|rfl<;>decide
  have hb:∀x,fM s x=false:=λx=>by unfold fM;rw[hl,hr];rfl
  rw[ahP h6,Jr hb,ha,hr,hl];by_cases q:l.length=2;.match l,q with |[x,y],_=>by_cases p1:x=y<;>by_cases p2:x=0<;>by_cases p3:y=0<;>simp[Gc,p1,p2,p3]
  grind
 simp_all[iM,iS,jM]
theorem xL8(T:bH)(n:Nat)(ih:∀x,xG x<=n->eN x->Good x->Pure prog 175 [.agg T.row,.agg x.row] (yN (jx T x)))(e:bG)(h:xG e<=n+1)(hw:eN e)(hg:Good e)(hk:e.kind=3):Pure prog 251 [.agg T.row,.agg e.row] (yN (jx T e)):=by
 have a1:=nH e;have hlen:=hw.len;have ah:=hw.sub;have aq:=hg.sub;obtain⟨M,hM⟩:=eX (jx T e);rw[hM];rw[Gb,ahO om,ahO om,ahP hk]at hM;have hz:=HR e.v;obtain⟨args,aa⟩:=eX e.args;rw[aa]at a1 hlen ah aq hM;obtain⟨K,hK⟩:=eX (xK T args);rw[hK]at hM;have ret:∀(a b:Int)(U:St),(a,b)=M->bW (some (.cm [.int .i64 a,.int .i64 b])) 0 (λr s=>r=yN M/\s=[]) U:=λa b U h=>wT h;have hA:=RD e.s;have ae:=ZS e.s;have ag:=Nb e.s;refine iV 0 func251 ntmps251 results251 λc hc hb=>?_;refine zN (zA ?_);simp[go_sem];refine zN (zA ?_);simp[go_sem];refine wL 6 1 dc (by rfl) ?_;refine wM (S:=aim) [2,3,6] (λl=>[.ptr 0 0,.ptr 1 0,.sl (.app 2) (l.map λn=>[V.int .i64 n])]) (λl=>[.box T.row,.box e.row,.app l.length 1]) (λl=>K.2=0/\l=K.1/\l.length<=1000000) hc hb ?_ ?_
 .refine zN (zA ?_);simp[go_sem];refine pX ?_;refine zG (S:=Nat×aim) [2,3,6,7] (λu=>[.ptr 0 0,.ptr 1 0,.sl (.app 2) (u.2.map λn=>[V.int .i64 n]),.int .i64 (u.1:Int)]) (λu=>[.box T.row,.box e.row,.app u.2.length 1]) (λu=>args.length-u.1) (λu=>u.1<=args.length/\u.2.length=u.1/\(xK T (args.drop u.1)).2=K.2/\(K.2=0->u.2++(xK T (args.drop u.1)).1=K.1)) hc hb (0,[]) (by grind) ?_ ?_;.exact bT 3 sg rfl (by simp[bO,cH,cF,bG.bK,bH.row]) om (zC (by rfl) rfl)
  rintro⟨i,l⟩⟨hi,hl,hinv,ab⟩;simp only at hi hl hinv ab;by_cases q:i<args.length;rotate_left
  .rw[A4 om,xK]at hinv ab;have ai:K.2=0:=hinv.symm;have ar:l=K.1:=by grind
   refine zA ?_;simp[go_sem,q,aa];exact zH l ⟨(by grind),bT 3 (by simp[go_sem,aa]) rfl (by simp[bO,cH,cF,bG.bK]) om (zC (by rfl) rfl)⟩
  have ei:=zR q om;obtain⟨x,hx⟩:=eX (args[i]);have aj:x∈args:=(by grind);have aB:=wF args x aj;rw[A2 q,hx,xK]at hinv ab;have ad:=ih x om (ah x aj) (aq x aj);generalize jx T x=kx at ad hinv ab;by_cases q4:kx.2=0
  .rw[ahO om]at hinv ab;have ak:(kx.2!=0)=false:=by grind
   refine zA ?_;simp[go_sem,q,aa];refine zW [(6,0)] 2 sm (by rfl) kR ?_;simp[go_sem,q,hx];refine yF ad cB (λ_=>zK sg (by rw[bG.bK];rfl)) rfl ?_;simp[go_sem,yN,ak];refine zF ⟨om,zT rfl⟩ ?_;simp[go_sem,ei];refine zH (i+1,l++[kx.1]) ⟨om,(by grind),?_⟩;exact bT 3 (by simp[go_sem,aa]) rfl (by simp[bO,cH,cF,bG.bK]) om (zC sg rfl)
  .rw[ahP q4]at hinv;have ak:(kx.2!=0)=true:=by grind
   have ai:kx.2=K.2:=hinv;rw[ahP om,<-ai]at hM;refine zA ?_;simp[go_sem,q,aa];refine zW [(6,0)] 2 sm (by rfl) kR ?_;simp[go_sem,q,hx];refine yF ad cB (λ_=>zK sg (by rw[bG.bK];rfl)) rfl ?_;simp[go_sem,yN,ak];exact ret _ _ _ hM
 .rintro l⟨ai,ar,hl⟩;rw[ahO om,<-ar,<-xQ6]at hM;unfold N2 at hM;obtain⟨X,hX⟩:∃X,(if l.any (fM e.s)=true then(0,15)else if nh e.s=true then(2,0)else if(!p5 e.s&&Gc l)=true then(0,15)else(1,0):Int×Int)=X:=⟨_,rfl⟩;rw[hX]at hM;generalize iM e.s=a at hA hM;generalize k5 e.v=z at hz hM;have aC:(if a=0\/a≠l.length then(0,9)else if z=false then(0,9)else X:Int×Int)=M:=by grind
  clear hM;rename _=M=>hM;refine zN (zA ?_);simp[go_sem];refine zJ hA cB (zK (by rfl) rfl) rfl ?_;by_cases g1:a=0
  .have al:(a==0)=true:=by grind
   rw[ahP (.inl g1)]at hM;simp[go_sem,al];exact ret _ _ _ hM
  have al:(a==0)=false:=by grind
  simp[go_sem,al];refine zJ hA cB (zK (by rfl) rfl) rfl ?_;by_cases g2:a=l.length;rotate_left
  .have an:(a !=(l.length:Int))=true:=by grind
   rw[ahP (.inr g2)]at hM;simp[go_sem,an];exact ret _ _ _ hM
  have an:(a !=(l.length:Int))=false:=by grind
  rw[ahO om]at hM;simp[go_sem,an,hz];refine(A1 z).elim (λw=>?_) (λw=>?_);rotate_left;.rw[ahP w]at hM;subst w;simp[go_sem];exact ret _ _ _ hM
  rw[ahO (by grind)]at hM;subst w;simp[go_sem];subst hM;refine wM (S:=Unit) [3,6] (λ_=>[.ptr 0 0,.sl (.app 1) (l.map λn=>[V.int .i64 n])]) (λ_=>[.box e.row,.app l.length 1]) (λ_=>l.any (fM e.s)=false) hc hb ?_ ?_
  .refine zN (zA ?_);simp[go_sem];refine pX ?_;refine zG (S:=Nat) [3,6,10] (λi=>[.ptr 0 0,.sl (.app 1) (l.map λn=>[V.int .i64 n]),.int .i64 (i:Int)]) (λ_=>[.box e.row,.app l.length 1]) (λi=>l.length-i) (λi=>i<=l.length/\(l.drop i).any (fM e.s)=l.any (fM e.s)) hc hb 0 sm ?_ ?_;.exact AL [1,2] dc rfl ⟨by simp[yO,dz,dE,bG.bK],by rfl,tV⟩ ⟨.inl (by rfl),.inl (by rfl),zD rfl,tV⟩
   rintro i⟨hi,hinv⟩;by_cases q:i<l.length;rotate_left;.rw[A4 om]at hinv;have hinv:l.any (fM e.s)=false:=hinv.symm;refine zA ?_;simp[go_sem,q];exact zH () ⟨hinv,bT 2 sg rfl (by simp[bO,cH,cF,bG.bK]) om (zC (by rfl) rfl)⟩
   have ei:=zR q om;obtain⟨x,hx⟩:=eX (l[i]);obtain⟨bl,au⟩:∃b,p5 e.s=b:=⟨_,rfl⟩;obtain⟨ba,av⟩:∃b,nh e.s=b:=⟨_,rfl⟩;obtain⟨b1,h1⟩:∃b,(x==1)=b:=⟨_,rfl⟩;obtain⟨b2,h2⟩:∃b,(x==2)=b:=⟨_,rfl⟩;obtain⟨b0,h0⟩:∃b,(x==0)=b:=⟨_,rfl⟩;have aw:fM e.s x=((bl&&(!b1&&!b0))||(ba&&(!b2&&!b0))):=by grind[fM]
   rw[A2 q,hx,Bx,aw]at hinv;have bad:((bl&&(!b1&&!b0))||(ba&&(!b2&&!b0)))=true->X=(0,15):=(by grind);have cN:((bl&&(!b1&&!b0))||(ba&&(!b2&&!b0)))=false->(l.drop (i+1)).any (fM e.s)=l.any (fM e.s):=(by grind);have ax:X=(0,15)->∀U:St,bW (some (.cm [.int .i64 0,.int .i64 15])) 0 (λr s=>r=yN X/\s=[]) U:=λh U=>by rw[h];exact wT rfl
   have a6:(x !=1)=!b1:=by rw[<-h1];rfl
   have a7:(x !=2)=!b2:=by rw[<-h2];rfl
   have a8:(x !=0)=!b0:=by rw[<-h0];rfl
   rw[au]at ae;rw[av]at ag;clear hinv ret hX au av h1 h2 h0 aw hz;refine zA ?_;simp[go_sem,q];refine zJ ae cB (zK (by rfl) rfl) rfl ?_;simp[go_sem];repeat'(first |(refine yA (λw=>?_) (λw=>?_)<;>simp[go_sem,q,w,hx,a6,a7,a8,ei])|(refine zO (λw=>?_) (λw=>?_)<;>simp[go_sem,w,ei])|(refine zJ ag cB (zK sg rfl) rfl ?_;simp[go_sem]))
   all_goals first |exact ax (by grind) _|exact zH (i+1) ⟨om,(by grind),bT 2 sg rfl (by simp[bO,cH,cF,bG.bK]) om (zC sg rfl)⟩
  .rintro _ ay;rw[ay]at hX;simp only[Cf,ai3]at hX;generalize nh e.s=ba at ag hX;generalize p5 e.s=bl at ae hX;have af:∀(a b:Int)(U:St),(a,b)=X->bW (some (.cm [.int .i64 a,.int .i64 b])) 0 (λr s=>r=yN X/\s=[]) U:=λa b U h=>wT h;clear ret;refine zA ?_;simp[go_sem];refine zJ ag cB (zK (by rfl) rfl) rfl ?_;refine(A1 ba).elim (λw=>?_) (λw=>?_);.rw[ahP w]at hX;subst w;simp[go_sem];exact af _ _ _ hX
   rw[ahO (by grind)]at hX;subst w;simp[go_sem];by_cases h2:l.length=2
   .have ao:((l.length:Int)==2)=true:=by grind
    obtain⟨x,y,az⟩:∃x y,l=[x,y]:=by match l,h2 with|[x,y],_=>simp
    rw[az]at hX;unfold Gc at hX;simp only at hX;refine zW [(2,0)] 1 sm (by rfl) kR ?_;simp[go_sem];refine yF ae cB (λ_=>zK (by rfl) rfl) rfl ?_;simp[go_sem,az];repeat'(first |(refine yA (λw=>?_) (λw=>?_)<;>simp[go_sem,w])|(refine zO (λw=>?_) (λw=>?_)<;>simp[go_sem,w]))
    all_goals exact af _ _ _ (by rw[<-hX];simp_all)
   .have ao:((l.length:Int)==2)=false:=by grind
    have aA:Gc l=false:=by match l,h2 with |[],_=>rfl|[x],_=>rfl|x::y::z::l,_=>rfl
    rw[aA,Bool.and_false,ahO dc]at hX;refine zW [(2,0)] 1 sm (by rfl) kR ?_;simp[go_sem];refine yF ae cB (λ_=>zK (by rfl) rfl) rfl ?_;simp[go_sem];repeat'(first |(refine yA (λw=>?_) (λw=>?_)<;>simp[go_sem,w,ao])|(refine zO (λw=>?_) (λw=>?_)<;>simp[go_sem,w,ao]))
    all_goals exact af _ _ _ hX
theorem S8(T:bH)(hT:T.bP.length<=maxLen):∀(n:Nat)(e:bG),xG e<=n->eN e->Good e->Pure prog 175 [.agg T.row,.agg e.row] (yN (jx T e))
 |0,e,h,_,_=>by grind[u9]|n+1,e,h,hw,hg=>by
  have ih:=S8 T hT n;have aa:=λhk=>xL8 T n ih e h hw hg hk;have ah:=F4 e.v;have ai:=Ga T e.s hT;obtain⟨M,hM⟩:=eX (jx T e);rw[hM];rw[hM]at aa;rw[Gb]at hM;rw[show xE (λc:eG=>c.name==e.s) T.bP 0=cq T e.s from rfl]at ai;have hz:=HR e.v;have ak:=S4 e.args;have ad:=S5 e.args;have ret:∀(a b:Int)(U:St),(a,b)=M->bW (some (.cm [.int .i64 a,.int .i64 b])) 0 (λr s=>r=yN M/\s=[]) U:=λa b U h=>wT h;refine iV 0 func175 ntmps175 results175 λc hc hb=>?_;refine zA ?_;simp[go_sem];by_cases q1:e.kind=1
  .have ab:(e.kind==1)=true:=by grind
   rw[ahP q1]at hM;clear aa;generalize dw e.v=b at ah hM;generalize e.args.isEmpty=ae at ak ad hM;simp[go_sem,ab,ad];repeat'(first |(refine yA (λq=>?_) (λq=>?_)<;>simp[go_sem,q])|(refine zO (λq=>?_) (λq=>?_)<;>simp[go_sem,q])|(refine zJ ah cB (zK sg rfl) rfl ?_;simp[go_sem]))
   all_goals exact ret _ _ _ (by rw[<-hM];simp_all)
  rw[ahO q1]at hM;have ab:(e.kind==1)=false:=by grind
  by_cases q2:e.kind=2
  .have af:(e.kind==2)=true:=by grind
   rw[ahP q2]at hM;clear aa;simp[go_sem,ab,af];refine zJ ai cB (zK (by rfl) rfl) rfl ?_;by_cases qc:cq T e.s<0;.have ag:decide (cq T e.s<0)=true:=(by grind);rw[ahP qc]at hM;simp[go_sem,ag];exact ret _ _ _ hM
   have ag:decide (cq T e.s<0)=false:=(by grind);rw[ahO qc]at hM;obtain⟨j,hj,al⟩:=Ex T e.s qc;obtain⟨C,hC⟩:=eX (T.bP[j]);have an:iY T (cq T e.s)=C.kind:=by unfold iY;grind
   rw[an]at hM;rw[hj]at ag⊢;generalize k5 e.v=z at hz hM;generalize e.args.isEmpty=ae at ak ad hM;simp[go_sem,ag,ad];repeat'(first |(refine yA (λq=>?_) (λq=>?_)<;>simp[go_sem,q,hz])|(refine zO (λq=>?_) (λq=>?_)<;>simp[go_sem,q,al,hC]))
   all_goals exact ret _ _ _ (by rw[<-hM];simp_all)
  rw[ahO q2]at hM;have af:(e.kind==2)=false:=by grind
  by_cases q3:e.kind=3;rotate_left
  .rw[ahO q3]at hM;have aj:(e.kind==3)=false:=by grind
   simp[go_sem,ab,af,aj];exact ret _ _ _ hM
  have aj:(e.kind==3)=true:=by grind
  have aa:=aa q3;simp[go_sem,ab,af,aj];refine zJ aa cB (zK sg (by rw[bG.bK];rfl)) rfl ?_;simp[go_sem,yN];exact ret _ _ _ rfl
def xO(T:bH)(e:bG):Int×Int:=if xG e<=64then jx T e else(0,3)
theorem Gd:∀(n:Nat)(e:bG),jP e<=n->xG e<=n
 |0,e,h=>by grind[F0]|n+1,e,h=>by
  rw[wy]at h;rw[nH];have:∀l:List bG,j6 l<=n->xZ l<=n:=by intro l;induction l with |nil=>intro _;simpa|cons x l ih=>intro hl;rw[j6]at hl;rw[xZ];have h1:=Gd n x om;omega
  grind
theorem Ks(T:bH)(hT:T.bP.length<=maxLen)(e:bG)(he:jS e):Pure prog 176 [.agg T.row,.agg e.row] (yN (xO T e)):=by
 have hs:=he.size;have hd:=Gd 4000 e hs;have ab:=Ss 4000 e 1 0 hd he.wide om om om om;have aa:=S6 T hT 4000 e hd he.wide he.cN;generalize hM:xO T e=M;unfold xO at hM;generalize jx T e=k at aa hM;have ret:∀(x:Int×Int)(U:St),x=M->bW (some (.cm [.int .i64 x.1,.int .i64 x.2])) 0 (λr s=>r=yN M/\s=[]) U:=λx U h=>wT h;refine iW 0 func176 ntmps176 results176 λc hc hb=>zM ?_;simp[go_sem];refine pd 2 ab cB rfl (by rfl) ⟨.inl (by simp[go_sem,dG,dQ,dz,dE]),zD rfl,.inl rfl,tV⟩ (λr U h=>by obtain⟨_,m2,rfl,_⟩:=h;exact⟨_,rfl,rfl⟩) ?_;rintro r o2⟨rfl,m2,h1,h2,h3⟩;obtain rfl:o2=.box [.int .i64 m2]:=by grind
 by_cases q:xG e<=64;.rw[ahP q]at hM;rw[ahR om];simp[go_sem];refine zJ aa cB (zK sg (by rw[bG.bK];rfl)) rfl ?_;simp[go_sem,yN];exact ret _ _ hM
 .rw[ahO q]at hM;rw[ahQ om];simp[go_sem];exact ret (0,3) _ hM
theorem HS(T:bH)(hT:T.bP.length<=maxLen)(e:bG)(he:jS e):Pure prog 101 [.agg T.row,.agg e.row] (yN (xO T e)):=by
 have hs:=he.size;have hd:=Gd 4000 e hs;have aa:=Sq 4000 e 1 4096 hd he.wide om om om om;have ab:=S8 T hT 4000 e hd he.wide he.cN;generalize hM:xO T e=M;unfold xO at hM;generalize jx T e=k at ab hM;unfold tO at aa;have ret:∀(x:Int×Int)(U:St),x=M->bW (some (.cm [.int .i64 x.1,.int .i64 x.2])) 0 (λr s=>r=yN M/\s=[]) U:=λx U h=>wT h;refine iW 0 func101 ntmps101 results101 λc hc hb=>zM ?_;simp[go_sem];by_cases q:xG e<=64;.rw[ahP q]at hM;rw[ahP om]at aa;refine zJ aa cB (zK sg (by rw[bG.bK];rfl)) rfl ?_;simp[go_sem,rA];refine zJ ab cB (zK sg (by rw[bG.bK];rfl)) rfl ?_;simp[go_sem,yN];exact ret _ _ hM
 .rw[ahO q]at hM;rw[ahO om]at aa;refine zJ aa cB (zK sg (by rw[bG.bK];rfl)) rfl ?_;simp[go_sem,rA];exact ret (0,3) _ hM
end Go.Proofs.YtefbicjgbaaieaaGreat
