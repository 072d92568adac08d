/-
  Contracts of functions that the claimed statement reaches, each proved over trees (the library Vx); used by the theorem at the end of the claim.
  Conditions: as each theorem states them.
-/
import Derived.Test.YtefbicjgbaaieaaGreatQAM
import Derived.Test.YtefbicjgbaaieaaGreatQAL
import Derived.Test.YtefbicjgbaaieaaGreatQAH
import Derived.Test.YtefbicjgbaaieaaGreatQAG
set_option maxHeartbeats 8000000
namespace Go.Proofs.YtefbicjgbaaieaaGreat
open Go Go.Vx Go.Proofs.Tryz
set_option maxRecDepth 100000
variable {τ:St}{s':RS}
def yu5(i:Nat)(w:List UInt8):TR:=if 64<w.length then(zn5,0,3)else(⟨3,0,w,0⟩,i+1,0)
def zj2:Nat->List UInt8->List UInt8->TR |_,_,[]=>(zn5,0,13)|i,w,[c]=>if c.toNat=39then yu5 i w else(zn5,0,13)|i,w,c::c2::l=>if c.toNat=39then(if c2.toNat=39then zj2 (i+2) (w++[c2]) l else yu5 i w)else zj2 (i+1) (w++[c]) (c2::l)
theorem yW9(i:Nat)(w:List UInt8)(c:UInt8)(l:List UInt8)(h:¬c.toNat=39):zj2 i w (c::l)=zj2 (i+1) (w++[c]) l:=by cases l with|nil=>rw[zj2,zj2,if_neg h]|cons c2 l=>rw[zj2,if_neg h]
theorem xj3(s:List UInt8)(hl:s.length<=maxLen)(a:Nat)(ha:a<s.length):Pure prog 207 [.str s,.int .i64 a] (trV (zj2 (a+1) [] (s.drop (a+1)))):=by
 generalize hM:zj2 (a+1) [] (s.drop (a+1))=M;unfold maxLen at hl;have ea:IntKind.i64.wrap ((a:Int)+1)=((a+1:Nat):Int):=zS ha om;refine iV 0 func207 ntmps207 results207 λc hc hb=>?_;refine zA ?_;simp[go_sem,ea];refine zH (S:=Nat×List UInt8) [0,4,7,8] (λu=>[.str s,.ptr 0 0,.str u.2,.int .i64 u.1]) (λ_=>[.box [.int .i64 0,.int .i64 0,.str [],.int .i64 0]]) (λu=>s.length-u.1) (λu=>u.1<=s.length/\u.2.length<=u.1/\zj2 u.1 u.2 (s.drop u.1)=M) hc hb (a+1,[]) ⟨ha,A2 _,hM⟩ ?_ ?_;.exact aN 1 (by rfl)
 rintro⟨i,w⟩⟨hi,hw,hinv⟩;simp only at hi hw hinv;by_cases q:i<s.length;rotate_left;.obtain rfl:i=s.length:=om;rw[C6]at hinv;refine zA ?_;simp[go_sem];exact ze2 (t:=zn5) hinv
 have ei:=zS q om;obtain⟨x,hx⟩:=eX (s[i]);have aa:=yk3 x 39;simp only[Cb]at aa;rw[A5 q,hx]at hinv;by_cases ae:x.toNat=39;rotate_left
 .rw[decide_eq_false ae]at aa;rw[yW9 _ _ _ _ ae]at hinv;have ah:(s.take (i+1)).drop i=[x]:=by rw[D9,A0 q,hx,List.drop_append,A9 (by simp;omega),Cd,Dl om];simp
  refine zA ?_;simp[go_sem,q,hx,aa,ei];refine zI om ?_;simp[go_sem,ah];refine zI om ?_;simp[go_sem,ei];refine zG (i+1,w++[x]) ⟨by simp only;omega,⟨by simp only;omega,by simp;omega,hinv⟩,?_⟩;exact aN 1 (by rfl)
 rw[decide_eq_true ae]at aa;by_cases q2:i+1<s.length;rotate_left
 .have ak:s.drop (i+1)=[]:=A9 om;rw[ak,zj2,if_pos ae]at hinv;unfold yu5 at hinv;have e1:((i:Int)+1==(s.length:Int))=true:=by simp;omega
  refine zA ?_;simp[go_sem,q,hx,aa,ei,e1];by_cases af:64<w.length;.have ab:decide ((64:Int)<w.length)=true:=decide_eq_true om;rw[if_pos af]at hinv;simp[go_sem,ab];exact ze2 (t:=zn5) hinv
  .have ab:decide ((64:Int)<w.length)=false:=decide_eq_false om;rw[if_neg af]at hinv;simp[go_sem,ab,ei];exact ze2 (t:=⟨3,0,w,0⟩) hinv
 have e1:((i:Int)+1==(s.length:Int))=false:=by simp;omega
 have al:=zS q2 om;obtain⟨y,hy⟩:=eX (s[i+1]);have ag:=yk3 y 39;simp only[Cb]at ag;have aj:s[i+1]?.getD 0=y:=by rw[A0 q2,hy];rfl
 have ai:IntKind.i64.wrap ((i:Int)+1+1)=(i:Int)+2:=by rw[i64_id om om];omega
 rw[A5 q2,hy,zj2,if_pos ae]at hinv;by_cases qy:y.toNat=39;rotate_left
 .rw[if_neg qy]at hinv;unfold yu5 at hinv;rw[decide_eq_false qy]at ag;have ad:((y.toNat:Int)!=39)=true:=by simp;omega
  refine zA ?_;simp[go_sem,q,hx,aa,ei,e1];refine zI om ?_;simp[go_sem,aj,ad];by_cases af:64<w.length;.have ab:decide ((64:Int)<w.length)=true:=decide_eq_true om;rw[if_pos af]at hinv;simp[go_sem,ab];exact ze2 (t:=zn5) hinv
  .have ab:decide ((64:Int)<w.length)=false:=decide_eq_false om;rw[if_neg af]at hinv;simp[go_sem,ab,ei];exact ze2 (t:=⟨3,0,w,0⟩) hinv
 rw[if_pos qy]at hinv;rw[decide_eq_true qy]at ag;have ad:((y.toNat:Int)!=39)=false:=by simp;omega
 have ah:(s.take (i+2)).drop (i+1)=[y]:=by rw[D9,A0 q2,hy,List.drop_append,A9 (by simp;omega),Cd,Dl om];simp
 refine zA ?_;simp[go_sem,q,hx,aa,ei,e1];have et:((i:Int)+2).toNat=i+2:=om;have an:IntKind.i64.wrap ((i:Int)+1+1)=((i+2:Nat):Int):=by rw[ai];omega
 refine zI om ?_;simp[go_sem,aj,ad,ei,ai,et];refine zI om ?_;simp[go_sem,ah];refine zI om ?_;simp[go_sem,ai];refine zG (i+2,w++[y]) ⟨by simp only;omega,⟨by simp only;omega,by simp;omega,hinv⟩,?_⟩;exact aN 1 (by rfl)
def wrdF (c:UInt8):Bool:=za9 c||wU c
def signsL:List UInt8:=[40,41,44,59,42,61,60,62,43,45,47,37]
def oneF(s:List UInt8)(a:Nat):TR:=if za9 (s.getD a 0)=true then(⟨1,0,((s.drop a).takeWhile wrdF).map yF,0⟩,a+((s.drop a).takeWhile wrdF).length,0)else if wU (s.getD a 0)=true then numT a (s.drop a)else if(s.getD a 0).toNat=39then zj2 (a+1) [] (s.drop (a+1))else if a+1<s.length/\((s.drop a).take 2=[60,61]∨(s.drop a).take 2=[62,61]∨(s.drop a).take 2=[60,62])then(⟨4,0,(s.drop a).take 2,0⟩,a+2,0)else if signsL.contains (s.getD a 0)=true then(⟨4,0,[s.getD a 0],0⟩,a+1,0)else(zn5,0,13)
theorem xA7(s:List UInt8)(hl:s.length<=maxLen)(a:Nat)(ha:a<s.length):Pure prog 134 [.str s,.int .i64 a] (trV (oneF s a)):=by
 generalize hM:oneF s a=M;have ah:=yM3 s hl a om;have ai:=xj3 s hl a ha;unfold oneF at hM;unfold maxLen at hl;have ay:s.getD a 0=s[a]:=by rw[A7,A0 ha];rfl
 rw[ay]at hM;obtain⟨x,hx⟩:=eX (s[a]);rw[hx]at hM;have ae:=zy8 x;have af:=zw8 x;generalize numT a (s.drop a)=n at ah hM;generalize zj2 (a+1) [] (s.drop (a+1))=t at ai hM;have ret:∀(y:TR)(τ:St),y=M->wret (some (.tup [.agg [.int .i64 y.1.kind,.int .i64 y.1.place,.str y.1.s,.int .i64 y.1.n],.int .i64 y.2.1,.int .i64 y.2.2])) 0 (λr σ=>r=trV M/\σ=[]) τ:=λy τ h=>ze2 (t:=y.1) h;refine iV 0 func134 ntmps134 results134 λc hc hb=>?_;refine zA ?_;simp[go_sem,ha,hx];by_cases q1:za9 x=true
 .rw[if_pos q1]at hM;rw[q1]at ae;refine pC ae ?_;simp[go_sem];refine zH (S:=Nat×List UInt8) [0,1,4,7] (λu=>[.str s,.int .i64 u.1,.ptr 0 0,.str u.2]) (λ_=>[.box [.int .i64 0,.int .i64 0,.str [],.int .i64 0]]) (λu=>s.length-u.1) (λu=>u.1<=s.length/\u.2.length<=u.1/\((⟨1,0,u.2++((s.drop u.1).takeWhile wrdF).map yF,0⟩,u.1+((s.drop u.1).takeWhile wrdF).length,0):TR)=M) hc hb (a,[]) ⟨by simp only;omega,A2 _,hM⟩ ?_ ?_;.exact aN 1 (by rfl)
  rintro⟨i,w⟩⟨hi,hw,hinv⟩;simp only at hi hw hinv;by_cases q:i<s.length;rotate_left;.obtain rfl:i=s.length:=om;rw[C6]at hinv;simp only[List.takeWhile_nil,Bs,Bc,Dc,Cg]at hinv;refine zA ?_;simp[go_sem];exact ze2 (t:=⟨1,0,w,0⟩) hinv
  have ei:=zS q om;obtain⟨y,hy⟩:=eX (s[i]);rw[A5 q,hy]at hinv;have az:=zy8 y;have ag:=zw8 y;have ar:=yy2 y;have yes:wrdF y=true->((⟨1,0,(w++[yF y])++((s.drop (i+1)).takeWhile wrdF).map yF,0⟩,i+1+((s.drop (i+1)).takeWhile wrdF).length,0):TR)=M:=λh=>by rw[Dp h]at hinv;rw[<-hinv,Al,Bp,Ah,By i 1,E8 1];rfl
  have no:wrdF y=false->((⟨1,0,w,0⟩,i,0):TR)=M:=λh=>by rw[List.takeWhile_cons_of_neg (by rw[h];decide)]at hinv;rw[<-hinv];simp
  have au:zR2 [[V.int .u8 ((yF y).toNat:Int)]]:=xL [yF y];have av:zq5 [V.int .u8 ((yF y).toNat:Int)]=yF y:=(List.cons.inj (ze3 [yF y])).1;refine zA ?_;simp[go_sem,q,hy];refine pC az ?_;refine(A4 (za9 y)).elim (λp1=>?_) (λp1=>?_);.have ab:=yes (by unfold wrdF;rw[p1];rfl);simp[go_sem,p1,q,hy];refine pC ar ?_;simp[go_sem];refine zI au ?_;simp[go_sem,av];refine zI om ?_;simp[go_sem,ei];refine zG (i+1,w++[yF y]) ⟨by simp only;omega,⟨by simp only;omega,by simp;omega,ab⟩,?_⟩;exact aN 1 (by rfl)
  refine(A4 (wU y)).elim (λp2=>?_) (λp2=>?_);.have ab:=yes (by unfold wrdF;rw[p1,p2];rfl);simp[go_sem,p1,q,hy];refine pC ag ?_;simp[go_sem,p2,q,hy];refine pC ar ?_;simp[go_sem];refine zI au ?_;simp[go_sem,av];refine zI om ?_;simp[go_sem,ei];refine zG (i+1,w++[yF y]) ⟨by simp only;omega,⟨by simp only;omega,by simp;omega,ab⟩,?_⟩;exact aN 1 (by rfl)
  .have a1:=no (by unfold wrdF;rw[p1,p2];rfl);simp[go_sem,p1,q,hy];refine pC ag ?_;simp[go_sem,p2];exact ze2 (t:=⟨1,0,w,0⟩) a1
 have q1:za9 x=false:=by simpa using q1
 rw[if_neg (by rw[q1];decide)]at hM;rw[q1]at ae;refine pC ae ?_;simp[go_sem,ha,hx];by_cases q2:wU x=true;.rw[if_pos q2]at hM;rw[q2]at af;refine pC af ?_;simp[go_sem];refine zJ ah cB (yA rfl) (yC4 _) ?_;simp[go_sem,trV];exact ret _ _ hM
 have q2:wU x=false:=by simpa using q2
 rw[if_neg (by rw[q2];decide)]at hM;rw[q2]at af;refine pC af ?_;simp[go_sem,ha,hx];have aa:=yk3 x 39;simp only[Cb]at aa;by_cases q3:x.toNat=39;.rw[if_pos q3]at hM;rw[decide_eq_true q3]at aa;simp[go_sem,aa];refine zJ ai cB (yA rfl) (yC4 _) ?_;simp[go_sem,trV];exact ret _ _ hM
 rw[if_neg q3]at hM;rw[decide_eq_false q3]at aa;simp[go_sem,aa];have aw:∀(y:UInt8),((y.toNat:Int)==(x.toNat:Int))=(y==x):=λy=>by rw[Du];simp only[beq_iff_eq];exact⟨λh=>Et.1 om,λh=>by rw[h]⟩
 have ea:IntKind.i64.wrap ((a:Int)+1)=((a+1:Nat):Int):=zS ha om;have aj:(s.take (a+1)).drop a=[x]:=by rw[D9,A0 ha,hx,List.drop_append,A9 (by simp;omega),Cd,Dl om];simp
 by_cases qa:a+1<s.length;rotate_left
 .have ak:decide ((a:Int)+1<s.length)=false:=decide_eq_false om;rw[if_neg (λh=>qa h.1)]at hM;simp[go_sem,ea,ak];refine zH (S:=Nat) [0,1,4,9] (λk=>[.str s,.int .i64 a,.ptr 0 0,.int .i64 (k:Int)]) (λ_=>[.box [.int .i64 0,.int .i64 0,.str [],.int .i64 0]]) (λk=>12-k) (λk=>k<=12/\(if(signsL.drop k).contains x=true then(⟨4,0,[x],0⟩,a+1,0)else(zn5,0,13):TR)=M) hc hb 0 ⟨A2 _,hM⟩ ?_ ?_;.exact aN 1 (by rfl)
  rintro k⟨hk,hinv⟩;by_cases qk:k<12;rotate_left;.obtain rfl:k=12:=om;refine zA ?_;simp[go_sem];exact ze2 (t:=zn5) hinv
  have ad:k<signsL.length:=qk;have ek:=zS qk dc;have al:decide ((k:Int)<12)=true:=decide_eq_true om;obtain⟨y,hy⟩:=eX (signsL[k]);rw[A5 ad,hy]at hinv;have an:[40,41,44,59,42,61,60,62,43,45,47,37][k]?.getD (0:UInt8)=y:=by
   have:signsL[k]?.getD 0=y:=by rw[A0 ad,hy];rfl
   exact this
  refine zA ?_;simp[go_sem,al];refine yU [] 1 sm kR kR ?_;simp[go_sem];refine zI om ?_;simp[go_sem,ha,hx,an,aw];by_cases qe:(y==x)=true
  .have ao:y=x:=by simpa using qe
   rw[if_pos (by simp[ao])]at hinv;simp[go_sem,qe,ea];refine zI om ?_;simp[go_sem,aj,ea];exact ze2 (t:=⟨4,0,[x],0⟩) hinv
  .have qe:(y==x)=false:=by simpa using qe
   have aq:(y::signsL.drop (k+1)).contains x=(signsL.drop (k+1)).contains x:=by rw[Dt,show(x==y)=false by rw[<-qe];exact Du.2 ⟨λh=>by simp_all,λh=>by simp_all⟩];rfl
   rw[aq]at hinv;simp[go_sem,qe,ek];exact zG (k+1) ⟨om,⟨om,hinv⟩,aN 1 (by rfl)⟩
 have ak:decide ((a:Int)+1<s.length)=true:=decide_eq_true om;have ax:IntKind.i64.wrap ((a:Int)+2)=(a:Int)+2:=by rw[i64_id om om]
 have et:((a:Int)+2).toNat=a+2:=om;have ag:(s.drop a).take 2=(s.take (a+2)).drop a:=by rw[List.drop_take];congr 1;omega
 rw[ag]at hM;simp[go_sem,ea,ax,et,ak];refine zI om ?_;simp[go_sem];generalize(s.take (a+2)).drop a=two at hM;have yes:(two=[60,61]∨two=[62,61]∨two=[60,62])->((⟨4,0,two,0⟩,a+2,0):TR)=M:=λh=>by rw[if_pos ⟨qa,h⟩]at hM;exact hM
 have no:¬(two=[60,61]∨two=[62,61]∨two=[60,62])->(if signsL.contains x=true then(⟨4,0,[x],0⟩,a+1,0)else(zn5,0,13):TR)=M:=λh=>by rw[if_neg (λhh=>h hh.2)]at hM;exact hM
 clear hM;by_cases qt:two=[60,61]∨two=[62,61]∨two=[60,62]
 .have hM:=yes qt;rcases qt with rfl|rfl|rfl;all_goals simp[go_sem,ax]
  all_goals exact ze2 (t:=⟨4,0,_,0⟩) hM
 .have hM:=no qt;have p1:(two==[60,61])=false:=by simpa usingλh=>qt (.inl h)
  have p2:(two==[62,61])=false:=by simpa usingλh=>qt (.inr (.inl h))
  have p3:(two==[60,62])=false:=by simpa usingλh=>qt (.inr (.inr h))
  clear yes no qt;simp[go_sem,p1,p2,p3];refine zH (S:=Nat) [0,1,4,9] (λk=>[.str s,.int .i64 a,.ptr 0 0,.int .i64 (k:Int)]) (λ_=>[.box [.int .i64 0,.int .i64 0,.str [],.int .i64 0]]) (λk=>12-k) (λk=>k<=12/\(if(signsL.drop k).contains x=true then(⟨4,0,[x],0⟩,a+1,0)else(zn5,0,13):TR)=M) hc hb 0 ⟨A2 _,hM⟩ ?_ ?_;.exact aN 1 (by rfl)
  rintro k⟨hk,hinv⟩;by_cases qk:k<12;rotate_left;.obtain rfl:k=12:=om;refine zA ?_;simp[go_sem];exact ze2 (t:=zn5) hinv
  have ad:k<signsL.length:=qk;have ek:=zS qk dc;have al:decide ((k:Int)<12)=true:=decide_eq_true om;obtain⟨y,hy⟩:=eX (signsL[k]);rw[A5 ad,hy]at hinv;have an:[40,41,44,59,42,61,60,62,43,45,47,37][k]?.getD (0:UInt8)=y:=by
   have:signsL[k]?.getD 0=y:=by rw[A0 ad,hy];rfl
   exact this
  refine zA ?_;simp[go_sem,al];refine yU [] 1 sm kR kR ?_;simp[go_sem];refine zI om ?_;simp[go_sem,ha,hx,an,aw];by_cases qe:(y==x)=true
  .have ao:y=x:=by simpa using qe
   rw[if_pos (by simp[ao])]at hinv;simp[go_sem,qe,ea];refine zI om ?_;simp[go_sem,aj,ea];exact ze2 (t:=⟨4,0,[x],0⟩) hinv
  .have qe:(y==x)=false:=by simpa using qe
   have aq:(y::signsL.drop (k+1)).contains x=(signsL.drop (k+1)).contains x:=by rw[Dt,show(x==y)=false by rw[<-qe];exact Du.2 ⟨λh=>by simp_all,λh=>by simp_all⟩];rfl
   rw[aq]at hinv;simp[go_sem,qe,ek];exact zG (k+1) ⟨om,⟨om,hinv⟩,aN 1 (by rfl)⟩
def lexL(s:List UInt8):Nat->Nat->List GToken->List GToken×Int |0,_,_=>([],0)|n+1,a,l=>if a<s.length then(if zO0 (s.getD a 0)=true then lexL s n (a+1) l else if(oneF s a).2.2=0then lexL s n (oneF s a).2.1 (l++[{(oneF s a).1with place:=a}])else([],(oneF s a).2.2))else(l++[⟨0,s.length,[],0⟩],0)
def lexF(s:List UInt8):List GToken×Int:=if 2000<s.length then([],3)else lexL s (s.length+1) 0 []
theorem yK9:∀(l:List UInt8)(v r:Int),0<=v->v<=9223372036854775807->numL v l=some r->0<=r/\r<=9223372036854775807
 |[],v,r,h0,h1,h=>by rw[numL]at h;cases h;exact⟨h0,h1⟩|c::l,v,r,h0,h1,h=>by
  rw[numL]at h;split at h
  .rename_i hd;have hr:=ye3 hd;split at h;.cases h
   .exact yK9 l _ r om om h
  .cases h;exact⟨h0,h1⟩
theorem yk2:∀(k:Nat)(l:List UInt8),l.length<=k->∀(i:Nat)(w:List UInt8),(zj2 i w l).2.2=0->i<(zj2 i w l).2.1/\(zj2 i w l).2.1<=i+l.length/\(zj2 i w l).1.s.length<=64/\(zj2 i w l).1.n=0
 |0,l,hk,i,w,h=>by have:l=[]:=B6 om;subst this;simp[zj2]at h|k+1,l,hk,i,w,h=>by match l,hk with
  |[],_=>simp[zj2]at h|[c],_=>
   rw[zj2]at h⊢;split at h
   .rename_i hc;rw[if_pos hc];unfold yu5 at h⊢;split at h;.simp at h
    .rename_i aa;rw[if_neg aa];exact⟨sm,sm,by simp only;omega,rfl⟩
   .simp at h|c::c2::l,hk=>
   rw[zj2]at h⊢;split at h
   .rename_i hc;rw[if_pos hc];split at h;.rename_i ab;rw[if_pos ab];have:=yk2 k l (by simp at hk;omega) _ _ h;simp only[Ah];omega
    .rename_i ab;rw[if_neg ab];unfold yu5 at h⊢;split at h;.simp at h
     .rename_i aa;rw[if_neg aa];exact⟨sm,sm,by simp only;omega,rfl⟩
   .rename_i hc;rw[if_neg hc];have:=yk2 k (c2::l) (by simp at hk⊢;omega) _ _ h;simp only[Ah]at this⊢;omega
theorem yX1{p:UInt8->Bool}:∀l:List UInt8,(l.takeWhile p).length<=l.length
 |[]=>A3 _|c::l=>by rw[List.takeWhile_cons];have:=yX1 (p:=p) l;split<;>simp only[Ah,Dc]<;>omega
theorem xd3{s:List UInt8}{a:Nat}(ha:a<s.length)(h:(oneF s a).2.2=0):a<(oneF s a).2.1/\(oneF s a).2.1<=s.length/\(oneF s a).1.s.length<=s.length+64/\0<=(oneF s a).1.n/\(oneF s a).1.n<=9223372036854775807:=by
 have aa:s.getD a 0=s[a]:=by rw[A7,A0 ha];rfl
 have ab:=A5 ha;unfold oneF at h⊢;rw[aa,ab]at h⊢;obtain⟨x,hx⟩:=eX (s[a]);rw[hx]at h⊢;have hl:(s.drop (a+1)).length=s.length-(a+1):=E9;generalize s.drop (a+1)=l at h hl⊢;split at h
 .rename_i q1;rw[if_pos q1];have hw:wrdF x=true:=by unfold wrdF;rw[q1];rfl
  have:=yX1 (p:=wrdF) l;rw[Dp hw];simp only[Ah,Ay];omega
 rename_i q1;rw[if_neg q1];split at h
 .rename_i q2;rw[if_pos q2];unfold numT at h⊢;split at h;.simp at h
  rename_i r hr;have ad:=yK9 _ 0 r (Int.le_refl _) dc hr;split at h;.simp at h
  rename_i hle;rw[if_neg hle,Dp q2];have:=yX1 (p:=wU) l;simp only[Ah,Dc];omega
 rename_i q2;rw[if_neg q2];split at h;.rename_i q3;rw[if_pos q3];have:=yk2 l.length l (A3 _) _ _ h;omega
 rename_i q3;rw[if_neg q3];split at h;.rename_i q4;rw[if_pos q4];simp only[Cd];omega
 rename_i q4;rw[if_neg q4];split at h;.rename_i q5;rw[if_pos q5];simp only[Bh];omega
 .simp at h
def yY2(t:GToken):Prop:=t.s.length<=3000/\0<=t.n/\t.n<=9223372036854775807
theorem yy9{s:List UInt8}(hs:s.length<=2000):∀(n a:Nat)(l:List GToken),s.length<n+a->a<=s.length->l.length<=a->(∀t∈l,yY2 t)->(lexL s n a l).2=0->∃l',(lexL s n a l).1=l'++[⟨0,s.length,[],0⟩]/\l'.length<=s.length/\∀t∈l',yY2 t
 |0,a,l,hf,ha,_,_,_=>by omega|n+1,a,l,hf,ha,hl,ht,h=>by
  unfold lexL at h⊢;by_cases q:a<s.length;rotate_left;.rw[if_neg q];exact⟨l,rfl,om,ht⟩
  rw[if_pos q]at h⊢;by_cases q2:zO0 (s.getD a 0)=true;.rw[if_pos q2]at h⊢;exact yy9 hs n (a+1) l om om om ht h
  rw[if_neg q2]at h⊢;by_cases q3:(oneF s a).2.2=0
  .rw[if_pos q3]at h⊢;have ho:=xd3 q q3;refine yy9 hs n _ _ om om (by simp;omega) (λt aa=>?_) h;rw[Aq]at aa;rcases aa with aa|aa;.exact ht t aa
   .simp only[Ag,Be,or_false]at aa;subst aa;unfold yY2;simp only;omega
  .rw[if_neg q3]at h;exact absurd h q3
theorem xb7{s:List UInt8}(h:(lexF s).2=0):s.length<=2000/\LIn (lexF s).1/\LGood (lexF s).1/\1<=(lexF s).1.length/\(lexF s).1.length<=2001:=by
 unfold lexF at h⊢;split at h;.simp at h
 rename_i hl;rw[if_neg hl];obtain⟨l',h1,h2,h3⟩:=yy9 om _ _ _ om (A2 _) (A3 _) (λt ht=>by cases ht) h;have h4:∀t∈l'++[⟨0,s.length,[],0⟩],yY2 t:=λt ht=>by
  rw[Aq]at ht;rcases ht with ht|ht;.exact h3 t ht
  .simp only[Ag,Be,or_false]at ht;subst ht;exact⟨A2 _,Int.le_refl _,sm⟩
 rw[h1];refine⟨om,⟨by simp;omega,λi hi=>?_,λt ht=>?_⟩,⟨λt ht=>?_,λt ht=>(h4 t ht).2⟩,sm,by simp;omega⟩
 .have:i=l'.length:=by simp at hi;omega
  subst this;rw[A7,Ai (A3 _),Nat.sub_self];rfl
 .have:=(h4 t ht).1;unfold maxLen;omega
 .have:=(h4 t ht).1;omega
def lexV(x:List GToken×Int):V:=.tup [.sl .ro (x.1.map GToken.row),.int .i64 x.2]
theorem yD4{g:Tag}{l:List GToken}{e:Int}{M:List GToken×Int}(h:(l,e)=M):wret (some (.tup [.sl g (l.map GToken.row),.int .i64 e])) 0 (λr σ=>r=lexV M/\σ=[]) τ:=by subst h;exact wA (r:=.tup [.sl .ro (l.map GToken.row),.int .i64 e]) (wF ⟨zt7,zb4 rfl,tV⟩) ⟨rfl,rfl⟩
theorem xZ9(s:List UInt8)(hl:s.length<=maxLen):Pure prog 70 [.str s] (lexV (lexF s)):=by
 generalize hM:lexF s=M;unfold lexF at hM;unfold maxLen at hl;refine iV 0 func70 ntmps70 results70 λc hc hb=>?_;refine zA ?_;simp[go_sem];by_cases q0:2000<s.length;.rw[if_pos q0]at hM;have ad:decide ((2000:Int)<s.length)=true:=decide_eq_true om;simp[go_sem,ad];exact yD4 (l:=[]) hM
 rw[if_neg q0]at hM;have ad:decide ((2000:Int)<s.length)=false:=decide_eq_false om;simp[go_sem,ad];refine zk1 4 4 dc sg ?_;refine zH (S:=Nat×List GToken) [0,4,5] (λu=>[.str s,.sl (.app 0) (u.2.map GToken.row),.int .i64 u.1]) (λu=>[.app u.2.length 4]) (λu=>s.length-u.1) (λu=>u.1<=s.length/\u.2.length<=u.1/\∃n,s.length<n+u.1/\lexL s n u.1 u.2=M) hc hb (0,[]) ⟨A2 _,A3 _,s.length+1,by simp only;omega,hM⟩ ?_ ?_;.exact aN 1 (by rfl)
 rintro⟨a,l⟩⟨ha,af,n,hn,hinv⟩;simp only at ha af hn hinv;obtain⟨n,rfl⟩:∃m,n=m+1:=⟨n-1,om⟩;rw[lexL]at hinv;by_cases q:a<s.length;rotate_left;.rw[if_neg q]at hinv;refine zA ?_;simp[go_sem,q];refine zI ⟨om,zV rfl⟩ ?_;simp[go_sem];have hr:=λg τ=>yD4 (g:=g) (τ:=τ) hinv;simp at hr;exact hr _ _
 rw[if_pos q]at hinv;have ea:=zS q om;obtain⟨x,hx⟩:=eX (s[a]);have ag:s.getD a 0=x:=by rw[A7,A0 q,hx];rfl
 rw[ag]at hinv;have aa:=yU7 x;by_cases q2:zO0 x=true;.rw[if_pos q2]at hinv;rw[q2]at aa;refine zA ?_;simp[go_sem,q,hx];refine pC aa ?_;simp[go_sem,ea];exact zG (a+1,l) ⟨by simp only;omega,⟨by simp only;omega,by simp only;omega,n,by simp only;omega,hinv⟩,aN 1 (by rfl)⟩
 have q2:zO0 x=false:=by simpa using q2
 rw[if_neg (by rw[q2];decide)]at hinv;rw[q2]at aa;have ab:=xA7 s (by unfold maxLen;omega) a q;have hok:=xd3 q;generalize oneF s a=o at ab hok hinv;by_cases q3:o.2.2=0
 .rw[if_pos q3]at hinv;have hok:=hok q3;have ae:(o.2.2!=0)=false:=by simpa using q3
  refine zA ?_;simp[go_sem,q,hx];refine pC aa ?_;simp[go_sem];refine zJ ab cB (yA rfl) (yC4 _) ?_;simp[go_sem,trV,ae];refine zI ⟨om,zV rfl⟩ ?_;simp[go_sem];refine zG (o.2.1,l++[{o.1with place:=a}]) ⟨by simp only;omega,⟨by simp only;omega,by simp;omega,n,by simp only;omega,hinv⟩,?_⟩;exact aN 1 (by rfl)
 .rw[if_neg q3]at hinv;have ae:(o.2.2!=0)=true:=by simpa using q3
  refine zA ?_;simp[go_sem,q,hx];refine pC aa ?_;simp[go_sem];refine zJ ab cB (yA rfl) (yC4 _) ?_;simp[go_sem,trV,ae];exact yD4 (l:=[]) hinv
variable {L:List GToken}
def yd5:List UInt8:=[83,69,76,69,67,84]
def yd3:List UInt8:=[73,78,83,69,82,84]
def yd6:List UInt8:=[85,80,68,65,84,69]
def zF7:List UInt8:=[68,69,76,69,84,69]
def zl8(L:List GToken)(s:RS):GStmt×RS:=if isT L yd5 s=true then zl7 L (zP s)else if isT L yd3 s=true then zk9 L (zP s)else if isT L yd6 s=true then zl9 L (zP s)else let n:=yX L (zZ L zC6 (zZ L zF7 s))
  (⟨4,n.1,[],[],[],(whE L n.2).1,(whE L n.2).2,[],false,0⟩,whS L n.2)
theorem yV8(hL:LIn L){s:RS}(h:RIn L s)(ho:s.opn=0):UI L s (zl7 L s).2:=by unfold zl7;have h1:=yg1 hL h ho;have h2:=h1.trans (yB hL zC6 h1.rin);have h3:=h2.trans (zd7 hL h2.rin);have h4:=h3.trans (yv2 hL h3.rin (h3.opn.trans ho));have h5:=h4.trans (yi1 hL h4.rin);exact h5.trans (yJ5 hL h5.rin)
theorem yC0(hL:LIn L){s:RS}(h:RIn L s)(ho:s.opn=0):UI L s (zl8 L s).2:=by
 unfold zl8;split;.have h1:=yV hL h ‹_›;exact h1.trans (yV8 hL h1.rin (h1.opn.trans ho))
 split;.have h1:=yV hL h ‹_›;exact h1.trans (yS4 hL h1.rin (h1.opn.trans ho))
 split;.have h1:=yV hL h ‹_›;exact h1.trans (yX3 hL h1.rin (h1.opn.trans ho))
 .have h1:=yB hL zF7 h;have h2:=h1.trans (yB hL zC6 h1.rin);have h3:=h2.trans (zd7 hL h2.rin);exact h3.trans (yv2 hL h3.rin (h3.opn.trans ho))
theorem xY5(L:List GToken)(hL:LIn L)(s:RS)(hs:RIn L s)(ho:s.opn=0):VCalls prog 73 [.ptr 0 0] [rB L s] (RT L (zl8 L s)):=by
 generalize hM:zl8 L s=M;unfold zl8 at hM;have ret:∀(x:GStmt×RS)(τ:St),x=M->wret (some (.agg x.1.row)) 1 (RT L M) (rB L x.2::τ):=λx τ h=>zi0 (g1:=.ro) (g2:=.ro) (g3:=.ro) (g4:=.ro) (st:=x.1) h;refine iW 1 func73 ntmps73 results73 λc hc hb=>zO ?_;simp[go_sem];by_cases q1:isT L yd5 s=true;.rw[if_pos q1]at hM;have aa:=xn1 L hL (zP s) (hs.next hL q1) ho;generalize zl7 L (zP s)=x at aa hM;refine pR (xN L hL s hs _ q1) ?_;simp[go_sem];refine yk8 aa cB rd_1 (yh5 _) ?_;simp[go_sem];exact ret x _ hM
 have q1:isT L yd5 s=false:=by simpa using q1
 rw[if_neg (by rw[q1];decide)]at hM;refine pR (wV L hL s hs _ q1) ?_;simp[go_sem];by_cases q2:isT L yd3 s=true;.rw[if_pos q2]at hM;have aa:=xi3 L hL (zP s) (hs.next hL q2) ho;generalize zk9 L (zP s)=x at aa hM;refine pR (xN L hL s hs _ q2) ?_;simp[go_sem];refine yk8 aa cB rd_1 (yh5 _) ?_;simp[go_sem];exact ret x _ hM
 have q2:isT L yd3 s=false:=by simpa using q2
 rw[if_neg (by rw[q2];decide)]at hM;refine pR (wV L hL s hs _ q2) ?_;simp[go_sem];by_cases q3:isT L yd6 s=true;.rw[if_pos q3]at hM;have aa:=xo1 L hL (zP s) (hs.next hL q3) ho;generalize zl9 L (zP s)=x at aa hM;refine pR (xN L hL s hs _ q3) ?_;simp[go_sem];refine yk8 aa cB rd_1 (yh5 _) ?_;simp[go_sem];exact ret x _ hM
 have q3:isT L yd6 s=false:=by simpa using q3
 rw[if_neg (by rw[q3];decide)]at hM;refine pR (wV L hL s hs _ q3) ?_;simp[go_sem];have af:=ze7 L hL s hs zF7;have ab:=yB hL zF7 hs;generalize zZ L zF7 s=s1 at af ab hM;have ag:=ze7 L hL s1 ab.rin zC6;have ad:=ab.trans (yB hL zC6 ab.rin);generalize zZ L zC6 s1=s2 at ag ad hM;have hn:=zO7 L hL s2 ad.rin;have ae:=ad.trans (zd7 hL ad.rin);generalize yX L s2=n at hn ae hM;obtain⟨nm,s3⟩:=n;simp only at hn ae hM;obtain⟨gw,hw⟩:=yl1 L hL s3 ae.rin (ae.opn.trans ho) [zSt,.box [.int .i64 4,.str nm,.sl .full [],.sl .full [],.sl .full [],.bool false,.int .i64 0,.str [],.int .i64 0,.int .i64 0,.str [],.sl .full [],.str [],.bool false,.int .i64 0]] 1 _ _ _ _ _ _ _ _ rfl;generalize whS L s3=s4 at hw hM;generalize whE L s3=w at hw hM;refine pR af ?_;simp[go_sem];refine pR ag ?_;simp[go_sem];refine pR hn ?_;simp[go_sem];refine zC7 hw cB ?_;rintro r σ⟨rfl,rfl⟩_;simp[go_sem];exact zi0 (st:=⟨4,nm,[],[],[],w.1,w.2,[],false,0⟩) hM
theorem wY{P:Program}{c:Ctx}{f:FuncId}{caps args args':List V}{o:Ob}{L:List GToken}{s:RS}{v:V}{KV:V->St->Prop}(hc:VCalls P f args' [rB L s] (λr σ=>r=v/\σ=[rB L s']))(hb:wG P f=true) (aa:All2 (argS (ren [1] (τ.length+2))) args' (args++caps))(hn:noS v=true)(hk:KV v (o::rB L s'::τ)):wVC P c (.fn f caps) args (o::rB L s::τ) KV fx:=by
 refine zk6 1 hc hb rfl (zN4 _ _ _) aa (λr σ h=>⟨_,h.2,zN4 _ _ _⟩) ?_;rintro r o2⟨rfl,h2⟩;obtain rfl:o2=rB L s':=by simpa using h2
 rw[zz1 hn];exact hk
theorem xg1{P:Program}{c:Ctx}{n:Nat}{f:FuncId}{caps args args':List V}{o:Ob}{L:List GToken}{s:RS}{v:V}{KV:V->St->Prop}(hc:VCalls P f args' [rB L s] (λr σ=>r=v/\σ=[rB L s']))(hb:wG P f=true) (aa:All2 (argS (ren [1] (τ.length+2))) args' (args++caps))(hn:noS v=true)(hk:KV v (o::rB L s'::τ)):wVD P c ⟨2,n,[],none⟩ 3 (.fn f caps) args (o::rB L s::τ) KV fx:=by
 have ab:∀(N:Nat)(s:RS),yC (ren [1] N) (rB L s)=rB L s:=λN s=>wL (n:=0) (λ_ h=>absurd h (Bg _)) (zN4 _ _ _);have e:xC [1] (o::rB L s::τ) [rB L s']=o::rB L s'::τ:=by simp only[xC,Bh,C1,Ds,Dn,B8,Al,Bs,mset,Bc,ab];rfl
 refine yP7 hc hb [1] sm rfl (λi j q h1 h2=>?_) aa (.inr ?_) ?_;.match i with |0=>simp at h1 h2;subst h1;subst h2;rw[ab];rfl|i+1=>simp at h1
 .rw[e];exact Kp.of_set (σ:=o::rB L s::τ) (id:=1) (o:=rB L s') (.inl sm)
 .rw[e,zz1 hn];exact hk
theorem zc7{N:Nat}{l l':List V}(h:All2 (argS (ren [1] N)) l l'):All2 (argS (ren [1] N)) (.ptr 0 0::l) (.ptr 1 0::l'):=⟨.inl rfl,h⟩
theorem yi4{N:Nat}:All2 (argS (ren [1] N)) [.ptr 0 0] [.ptr 1 0]:=zc7 trivial
variable {L:List GToken}
def wAS:List UInt8:= [65,83]
def wOF:List UInt8:= [79,70]
def zT5:List UInt8:=[83,89,83,84,69,77]
def yP3:List UInt8:= [84,73,77,69]
def yX4:List UInt8:= [66,79,85,78,68]
def yW2:List (List UInt8):=[yd5,yd3,yd6,zF7]
def beg4(L:List GToken)(s:RS):Bool:=!(anyF L s yW2).isEmpty
def zt0(L:List GToken):Nat->List GStmt->RS->List GStmt×RS
 |0,l,s=>(l,s)|n+1,l,s=>if s.err=0then if(zg8 L l.length 8 (beg4 L s) s).err=0then if isT L [59] (zl8 L s).2=true then if isT L wAS (zP (zl8 L s).2)=true∨(tokF L (zP (zl8 L s).2)).kind=0then(l++[(zl8 L s).1],zP (zl8 L s).2)else zt0 L n (l++[(zl8 L s).1]) (zP (zl8 L s).2)else(l++[(zl8 L s).1],(zl8 L s).2)else(l,zg8 L l.length 8 (beg4 L s) s)else(l,s)
def asS(L:List GToken)(s:RS):RS:=zZ L yP3 (zZ L zT5 (zZ L wOF (zP s)))
def asF(L:List GToken)(s:RS):(Int×Int)×RS:=if isT L wAS s=true then if isT L yX4 (asS L s)=true then((2,(numF L (zP (asS L s))).1),(numF L (zP (asS L s))).2)else((1,(numF L (asS L s)).1),(numF L (asS L s)).2)else((0,0),s)
def endF(L:List GToken)(s:RS):RS:=if s.err=0/\(tokF L s).kind≠0then za8 13 (tokF L s).place s else s
def rs0:RS:=⟨0,0,0,0⟩
def lot0:GLot:=⟨0,0,[]⟩
def xd9(L:List GToken):GLot×Int×Int:=let x:=zt0 L 9 [] rs0
 let a:=asF L x.2
 let e:=endF L a.2
 if e.err=0then(⟨a.1.1,a.1.2,x.1⟩,0,0)else(lot0,e.place,e.err)
def zm6(s:List UInt8):GLot×Int×Int:=if(lexF s).2=0then xd9 (lexF s).1else(lot0,0,(lexF s).2)
theorem yu3(hL:LIn L):∀(n:Nat)(l:List GStmt)(s:RS),RIn L s->s.opn=0->UI L s (zt0 L n l s).2
 |0,_,_,h,_=>UI.refl h|n+1,l,s,h,ho=>by
  unfold zt0;split
  .split
   .have h1:=yC0 hL h ho;split
    .have h2:=h1.trans (yV hL h1.rin ‹_›);split;.exact h2
     .exact h2.trans (yu3 hL n _ _ h2.rin (h2.opn.trans ho))
    .exact h1
   .exact zo5 h
  .exact UI.refl h
theorem xq0(hL:LIn L){s:RS}(h:RIn L s)(hi:isT L wAS s=true):UI L s (asS L s):=by unfold asS;have h1:=yV hL h hi;have h2:=h1.trans (yB hL wOF h1.rin);have h3:=h2.trans (yB hL zT5 h2.rin);exact h3.trans (yB hL yP3 h3.rin)
theorem xQ9(hL:LIn L){s:RS}(h:RIn L s):UI L s (asF L s).2:=by
 unfold asF;split
 .rename_i hi;have h1:=xq0 hL h hi;split;.have h2:=h1.trans (yV hL h1.rin ‹_›);exact h2.trans (yT6 hL h2.rin)
  .exact h1.trans (yT6 hL h1.rin)
 .exact UI.refl h
def parV(x:GLot×Int×Int):V:=.tup [.agg x.1.row,.int .i64 x.2.1,.int .i64 x.2.2]
theorem yl3{g:Tag}{l:GLot}{p e:Int}{M:GLot×Int×Int}(h:(l,p,e)=M):wret (some (.tup [.agg [.int .i64 l.mode,.int .i64 l.n,.sl g (l.stmts.map GStmt.row)],.int .i64 p,.int .i64 e])) 0 (λr σ=>r=parV M/\σ=[]) τ:=by subst h;exact wA (r:=.tup [.agg [.int .i64 l.mode,.int .i64 l.n,.sl .ro (l.stmts.map GStmt.row)],.int .i64 p,.int .i64 e]) (wF ⟨zd4 ⟨zU rfl,zU rfl,yY,tV⟩,zb4 rfl,zb4 rfl,tV⟩) ⟨rfl,rfl⟩
def lotB(m n:Int)(l:List GStmt):Ob:=.box [.int .i64 m,.int .i64 n,.sl (.app 3) (l.map GStmt.row)]
def lotZ:Ob:=.box [.int .i64 0,.int .i64 0,.sl .full []]
theorem xH2(s:List UInt8)(hl:s.length<=maxLen):Pure prog 36 [.str s] (parV (zm6 s)):=by
 generalize hM:zm6 s=M;unfold zm6 at hM;have ah:=xZ9 s hl;have hok:=xb7 (s:=s);generalize lexF s=x at ah hok hM;obtain⟨L,e⟩:=x;simp only at hok hM;refine iV 0 func36 ntmps36 results36 λc hc hb=>?_;by_cases qe:e=0;rotate_left
 .rw[if_neg qe]at hM;have au:(e !=0)=true:=by simpa using qe
  refine zA ?_;simp[go_sem];refine pC ah ?_;simp[go_sem,lexV,au];exact yl3 (l:=lot0) hM
 obtain⟨_,hL,hG,aD,aE⟩:=hok qe;rw[if_pos qe]at hM;have au:(e !=0)=false:=by simpa using qe
 have h0:RIn L rs0:=⟨by show 0<_;omega,by show(0:Int)<=0/\(0:Int)<=100000;omega⟩;unfold xd9 at hM;obtain⟨X,hX⟩:=eX (zt0 L 9 [] rs0);rw[hX]at hM;refine zR (zA ?_);simp[go_sem];refine zR (zA ?_);simp[go_sem];refine pC ah ?_;simp[go_sem,lexV];refine zR (zA ?_);simp[go_sem,au];refine zR (zA ?_);simp[go_sem];refine zR (zA ?_);simp[go_sem];refine zJ9 2 2 15 _ dc rfl rfl ?_;simp only[Ca,Dd];refine xX (S:=List GStmt×RS) [2,7,8] (λ_=>[.ptr 0 0,.ptr 1 0,.ptr 2 0]) (λu=>[lotZ,rB L u.2,lotB 0 0 u.1,.app u.1.length 15]) (λu=>RIn L u.2/\u.2.opn=0/\u=X) hc hb ?_ ?_
 .refine za2 ?_;refine zH (S:=List GStmt×RS) [2,7,8] (λ_=>[.ptr 0 0,.ptr 1 0,.ptr 2 0]) (λu=>[lotZ,rB L u.2,lotB 0 0 u.1,.app u.1.length 15]) (λu=>9-u.1.length) (λu=>u.1.length<=8/\RIn L u.2/\u.2.opn=0/\zt0 L (9-u.1.length) u.1 u.2=X) hc hb ([],rs0) ⟨A2 _,h0,rfl,hX⟩ ?_ ?_;.exact at_n 4 (by simp[go_sem];exact⟨rfl,rfl,rfl⟩) rfl (by simp[rB,lotZ,lotB,ltOb,ltC,ltK]) dc (zC sg rfl)
  rintro⟨l,s1⟩⟨aB,hs,ho,hinv⟩;simp only at aB hs ho hinv;rw[show 9-l.length=(8-l.length)+1by omega,zt0]at hinv;by_cases q1:s1.err=0;rotate_left
  .rw[if_neg q1]at hinv;have ab:(s1.err==0)=false:=by simpa using q1
   refine zA ?_;simp[go_sem,rB,ab];exact zG (l,s1) ⟨⟨hs,ho,hinv⟩,aN 4 (by simp[lotZ,lotB,ltOb,ltC,ltK])⟩
  have ab:(s1.err==0)=true:=by simpa using q1
  rw[if_pos q1]at hinv;have ae:=zX3 L hL s1 hs yW2 dc;have aa:=yh2 L hL s1 hs l.length 8 (beg4 L s1);have ao:=zh4 (L:=L) (n:=l.length) (most:=8) (b:=beg4 L s1) (s:=s1);have ai:=zo5 (L:=L) (n:=l.length) (most:=8) (b:=beg4 L s1) hs;unfold beg4 at aa ao ai hinv;generalize anyF L s1 yW2=an at ae aa ao ai hinv;generalize zg8 L l.length 8 (!an.isEmpty) s1=m at aa ao ai hinv;by_cases q2:m.err=0;rotate_left
  .rw[if_neg q2]at hinv;have ad:(m.err==0)=false:=by simpa using q2
   rw[ad]at aa;refine zA ?_;simp[go_sem,rB,ab];refine wY ae cB (zc7 ⟨zQ,tV⟩) rfl ?_;simp[go_sem,lotB];refine wY aa cB (zc7 ⟨zD rfl,zD rfl,zD rfl,tV⟩) rfl ?_;simp[go_sem,rB];exact zG (l,m) ⟨⟨ai.rin,ai.opn.trans ho,hinv⟩,aN 4 (by simp[lotZ,ltOb,ltC,ltK])⟩
  have ad:(m.err==0)=true:=by simpa using q2
  rw[ad]at aa;obtain⟨_,aF,rfl⟩:=ao q2;rw[if_pos q2]at hinv;have av:=xY5 L hL m hs ho;have aq:=yC0 hL hs ho;generalize zl8 L m=x at av aq hinv;obtain⟨st,s2⟩:=x;simp only at aq hinv;have af:=aq.rin;have ar:=aq.opn.trans ho;by_cases q3:isT L [59] s2=true;rotate_left
  .have q3:isT L [59] s2=false:=by simpa using q3
   rw[if_neg (by rw[q3];decide)]at hinv;refine zA ?_;simp[go_sem,rB,ab];refine wY ae cB (zc7 ⟨zQ,tV⟩) rfl ?_;simp[go_sem,lotB];refine wY aa cB (zc7 ⟨zD rfl,zD rfl,zD rfl,tV⟩) rfl ?_;simp[go_sem];refine zb0 [(3,3)] 2 4 sm kR kR ?_;simp[go_sem];refine xg1 av cB yi4 (yh5 _) ?_;simp[go_sem];refine zI ⟨om,zV rfl⟩ ?_;simp[go_sem];refine wY (wV L hL s2 af _ q3) cB (zc7 ⟨zD rfl,tV⟩) rfl ?_;simp[go_sem,rB];exact zG (l++[st],s2) ⟨⟨af,ar,hinv⟩,aN 4 (by simp[lotZ,ltOb,ltC,ltK])⟩
  rw[if_pos q3]at hinv;have aj:=af.next hL q3;have a1:=is_w L hL (zP s2) aj wAS;have ag:=zs2 L hL (zP s2) aj;generalize isT L wAS (zP s2)=ba at a1 hinv;generalize tokF L (zP s2)=tk at ag hinv;refine zA ?_;simp[go_sem,rB,ab];refine wY ae cB (zc7 ⟨zQ,tV⟩) rfl ?_;simp[go_sem,lotB];refine wY aa cB (zc7 ⟨zD rfl,zD rfl,zD rfl,tV⟩) rfl ?_;simp[go_sem];refine zb0 [(3,3)] 2 4 sm kR kR ?_;simp[go_sem];refine xg1 av cB yi4 (yh5 _) ?_;simp[go_sem];refine zI ⟨om,zV rfl⟩ ?_;simp[go_sem];refine wY (xN L hL s2 af _ q3) cB (zc7 ⟨zD rfl,tV⟩) rfl ?_;simp[go_sem];refine wY a1 cB (zc7 ⟨zD rfl,tV⟩) rfl ?_;refine(A4 ba).elim (λq4=>?_) (λq4=>?_);.rw[if_pos (.inl q4)]at hinv;simp[go_sem,q4,rB];exact zG (l++[st],zP s2) ⟨⟨aj,ar,hinv⟩,aN 4 (by simp[lotZ,ltOb,ltC,ltK])⟩
  simp[go_sem,q4];refine wY ag cB yi4 rfl ?_;by_cases q5:tk.kind=0
  .have aw:(tk.kind==0)=true:=by simpa using q5
   rw[if_pos (.inr q5)]at hinv;simp[go_sem,aw,rB];exact zG (l++[st],zP s2) ⟨⟨aj,ar,hinv⟩,aN 4 (by simp[lotZ,ltOb,ltC,ltK])⟩
  .have aw:(tk.kind==0)=false:=by simpa using q5
   rw[if_neg (by rw[q4];simp[q5])]at hinv;simp[go_sem,aw,rB];refine zG (l++[st],zP s2) ⟨by simp;omega,⟨by simp;omega,aj,ar,by simp only[B2,Bh,show 9-(l.length+1)=8-l.length by omega];exact hinv⟩,aN 4 (by simp[lotZ,ltOb,ltC,ltK])⟩
 .rintro⟨l,s1⟩⟨hs,ho,aC⟩;simp only at hs ho;rw[<-aC]at hM;simp only at hM;have ax:=xQ9 hL hs;refine xX (S:=(Int×Int)×RS) [2,7,8] (λ_=>[.ptr 0 0,.ptr 1 0,.ptr 2 0]) (λu=>[lotZ,rB L u.2,lotB u.1.1 u.1.2 l,.app l.length 15]) (λu=>u=asF L s1) hc hb ?_ ?_
  .obtain⟨A,hA⟩:=eX (asF L s1);rw[hA];unfold asF asS at hA;by_cases q1:isT L wAS s1=true;rotate_left
   .have q1:isT L wAS s1=false:=by simpa using q1
    rw[if_neg (by rw[q1];decide)]at hA;refine zA ?_;simp[go_sem];refine wY (wV L hL s1 hs _ q1) cB (zc7 ⟨zD rfl,tV⟩) rfl ?_;simp[go_sem];exact zG ((0,0),s1) ⟨hA,aN 4 (by simp[rB,lotZ,lotB,ltOb,ltC,ltK])⟩
   rw[if_pos q1]at hA;have a6:=hs.next hL q1;have a7:=ze7 L hL _ a6 wOF;have ay:=zl2 hL (w:=wOF) a6;generalize zZ L wOF (zP s1)=u1 at a7 ay hA;have a8:=ze7 L hL _ ay zT5;have az:=zl2 hL (w:=zT5) ay;generalize zZ L zT5 u1=u2 at a8 az hA;have aA:=ze7 L hL _ az yP3;have ak:=zl2 hL (w:=yP3) az;generalize zZ L yP3 u2=u3 at aA ak hA;refine zA ?_;simp[go_sem];refine wY (xN L hL s1 hs _ q1) cB (zc7 ⟨zD rfl,tV⟩) rfl ?_;simp[go_sem];refine wY a7 cB (zc7 ⟨zD rfl,tV⟩) rfl ?_;simp[go_sem];refine wY a8 cB (zc7 ⟨zD rfl,tV⟩) rfl ?_;simp[go_sem];refine wY aA cB (zc7 ⟨zD rfl,tV⟩) rfl ?_;simp[go_sem,lotB];by_cases q2:isT L yX4 u3=true;.rw[if_pos q2]at hA;have al:=ys8 L hL _ (ak.next hL q2);generalize numF L (zP u3)=nn at al hA;refine wY (xN L hL u3 ak _ q2) cB (zc7 ⟨zD rfl,tV⟩) rfl ?_;simp[go_sem];refine wY al cB yi4 rfl ?_;simp[go_sem];exact zG ((2,nn.1),nn.2) ⟨hA,aN 4 (by simp[rB,lotZ,ltOb,ltC,ltK])⟩
   .have q2:isT L yX4 u3=false:=by simpa using q2
    rw[if_neg (by rw[q2];decide)]at hA;have al:=ys8 L hL _ ak;generalize numF L u3=nn at al hA;refine wY (wV L hL u3 ak _ q2) cB (zc7 ⟨zD rfl,tV⟩) rfl ?_;simp[go_sem];refine wY al cB yi4 rfl ?_;simp[go_sem];exact zG ((1,nn.1),nn.2) ⟨hA,aN 4 (by simp[rB,lotZ,ltOb,ltC,ltK])⟩
  .rintro _ rfl;generalize asF L s1=A at ax hM;obtain⟨⟨m,n⟩,s2⟩:=A;simp only at ax hM;have af:=ax.rin;refine xX (S:=RS) [2,7,8] (λ_=>[.ptr 0 0,.ptr 1 0,.ptr 2 0]) (λu=>[lotZ,rB L u,lotB m n l,.app l.length 15]) (λu=>u=endF L s2) hc hb ?_ ?_
   .have ag:=zs2 L hL s2 af;have hf:=zH8 L s2 13 (tokF L s2).place;obtain⟨E,hE⟩:=eX (endF L s2);rw[hE];unfold endF at hE;generalize tokF L s2=tk at ag hf hE;generalize za8 13 tk.place s2=f at hf hE;refine zA ?_;simp[go_sem,rB];by_cases q1:s2.err=0;rotate_left
    .have ab:(s2.err==0)=false:=by simpa using q1
     rw[if_neg (λh=>q1 h.1)]at hE;simp[go_sem,ab];exact zG s2 ⟨hE,aN 4 (by simp[lotZ,lotB,ltOb,ltC,ltK])⟩
    have ab:(s2.err==0)=true:=by simpa using q1
    simp[go_sem,ab];refine wY ag cB yi4 rfl ?_;by_cases q2:tk.kind=0
    .have ad:(tk.kind !=0)=false:=by simpa using q2
     rw[if_neg (λh=>h.2 q2)]at hE;simp[go_sem,ad,rB];exact zG s2 ⟨hE,aN 4 (by simp[lotZ,lotB,ltOb,ltC,ltK])⟩
    .have ad:(tk.kind !=0)=true:=by simpa using q2
     rw[if_pos ⟨q1,q2⟩]at hE;simp[go_sem,ad];refine wY ag cB yi4 rfl ?_;simp[go_sem];refine wY hf cB (zc7 ⟨zD rfl,zD rfl,tV⟩) rfl ?_;simp[go_sem,rB];exact zG f ⟨hE,aN 4 (by simp[lotZ,lotB,ltOb,ltC,ltK])⟩
   .rintro _ rfl;generalize endF L s2=E at hM;refine zA ?_;simp[go_sem,rB];by_cases q1:E.err=0
    .have ab:(E.err !=0)=false:=by simpa using q1
     rw[if_pos q1]at hM;simp[go_sem,ab,lotZ,lotB];exact yl3 (l:=⟨m,n,l⟩) hM
    .have ab:(E.err !=0)=true:=by simpa using q1
     rw[if_neg q1]at hM;simp[go_sem,ab,lotZ,lotB];refine zb0 [(9,3)] 1 4 sm kR kR ?_;simp[go_sem];exact yl3 (l:=lot0) hM
theorem xp1(s:List UInt8)(hl:s.length<=maxLen):Pure prog 14 [.str s] (.agg (zm6 s).1.row):=by have h:=xH2 s hl;generalize zm6 s=x at h⊢;refine iW 0 func14 ntmps14 results14 λc hc hb=>zO ?_;simp[go_sem];refine pC h ?_;simp[go_sem,parV];exact wR
variable {L:List GToken}
structure EOk(e:GExpr):Prop where
 good:Good e
 wide:Wide e
 size:zk4 e<=4000
structure SOk(st:GStmt):Prop where
 kind:i64R st.kind
 table:st.table.length<=1048576items:st.items.length<=12/\∀x∈st.items,i64R x.kind/\EOk x.e
 rows:st.rows.length<=20/\∀r∈st.rows,r.length<=12/\∀e∈r,EOk e
 sets:st.sets.length<=12/\∀x∈st.sets,x.name.length<=1048576/\EOk x.e
 where_:EOk st.where_
 order:st.order.length<=1048576limit:i64R st.limit
structure LOk(l:GLot):Prop where
 mode:i64R l.mode
 n:i64R l.n
 stmts:l.stmts.length<=12/\∀st∈l.stmts,SOk st
theorem xc0:LOk lot0:=⟨by show i64R 0;unfold i64R;decide,by show i64R 0;unfold i64R;decide,A2 _,λst aa=>by cases aa⟩
structure ES(s:RS)(e:GExpr):Prop where
 good:Good e
 wide:Wide e
 size:s.err=0->zk4 e<=2001
theorem ES.mono{s:RS}{e:GExpr}(h:ES s e)(u:UI L s s'):ES s' e:=⟨h.good,h.wide,λq=>h.size (u.err q)⟩
theorem ES.ok{s:RS}{e:GExpr}(h:ES s e)(hs:s.err=0):EOk e:=⟨h.good,h.wide,by have:=h.size hs;omega⟩
theorem zQ4(s:RS):ES s zeroE:=⟨xu9,xF5 rfl,λ_=>by rw[yu1 rfl];decide⟩
theorem yH5(hL:LIn L)(hG:LGood L)(h2:L.length<=2001){s:RS}(hs:RIn L s)(ho:s.opn=0):ES (exF L s).2 (exF L s).1:=by have h:=xt9 hL hs ho;have k:=ex_j hL hG hs ho;exact⟨k.good,h.wide,λq=>by have:=k.size q;have:=h.rin.at_;omega⟩
theorem yh6(hG:LGood L){s:RS}(hs:RIn L s):i64R (numF L s).1:=by
 unfold numF i64R;split;.have:=hG.num _ (zC2 hs);simp only;omega
 .simp
structure SS(s:RS)(st:GStmt):Prop where
 kind:i64R st.kind
 table:st.table.length<=1048576items:st.items.length<=12/\∀x∈st.items,i64R x.kind/\ES s x.e
 rows:st.rows.length<=20/\∀r∈st.rows,r.length<=12/\∀e∈r,ES s e
 sets:st.sets.length<=12/\∀x∈st.sets,x.name.length<=1048576/\ES s x.e
 where_:ES s st.where_
 order:st.order.length<=1048576limit:i64R st.limit
theorem SS.mono{s:RS}{st:GStmt}(h:SS s st)(u:UI L s s'):SS s' st:=⟨h.kind,h.table,⟨h.items.1,λx hx=>⟨(h.items.2 x hx).1,(h.items.2 x hx).2.mono u⟩⟩,⟨h.rows.1,λr hr=>⟨(h.rows.2 r hr).1,λe he=>((h.rows.2 r hr).2 e he).mono u⟩⟩,⟨h.sets.1,λx hx=>⟨(h.sets.2 x hx).1,(h.sets.2 x hx).2.mono u⟩⟩,h.where_.mono u,h.order,h.limit⟩
theorem SS.ok{s:RS}{st:GStmt}(h:SS s st)(hs:s.err=0):SOk st:=⟨h.kind,h.table,⟨h.items.1,λx hx=>⟨(h.items.2 x hx).1,(h.items.2 x hx).2.ok hs⟩⟩,⟨h.rows.1,λr hr=>⟨(h.rows.2 r hr).1,λe he=>((h.rows.2 r hr).2 e he).ok hs⟩⟩,⟨h.sets.1,λx hx=>⟨(h.sets.2 x hx).1,(h.sets.2 x hx).2.ok hs⟩⟩,h.where_.ok hs,h.order,h.limit⟩
theorem xJ0{s:RS}(h:(endF L s).err=0):s.err=0:=by
 unfold endF at h;split at h;.exact absurd h (zn2 dc)
 .exact h
section
variable(hL:LIn L)(hG:LGood L)(h2:L.length<=2001)
include hL hG h2
theorem xK5{s:RS}(h:RIn L s)(ho:s.opn=0):i64R (zw0 L s).1.kind/\ES (zw0 L s).2 (zw0 L s).1.e:=by
 unfold zw0;split;.exact⟨by unfold i64R;simp,zQ4 _⟩
 split;.rename_i hi;have h1:=yV hL h hi;have h3:=h1.trans (yB hL [40] h1.rin);have hx:=yH5 hL hG h2 h3.rin (h3.opn.trans ho);exact⟨by unfold i64R;simp,hx.mono (yB hL [41] (h3.trans (zM5 hL h3.rin (h3.opn.trans ho))).rin)⟩
 .exact⟨by unfold i64R;simp,yH5 hL hG h2 h ho⟩
theorem yr9:∀(n:Nat)(l:List GItem)(s:RS),RIn L s->s.opn=0->l.length<=6->(∀x∈l,i64R x.kind/\ES s x.e)->(zw1 L n l s).1.length<=12/\∀x∈(zw1 L n l s).1,i64R x.kind/\ES (zw1 L n l s).2 x.e
 |0,l,s,_,_,hl,hx=>⟨by simp only[zw1];omega,hx⟩|n+1,l,s,h,ho,hl,hx=>by
  unfold zw1;split
  .rename_i he;obtain⟨_,h6,_⟩:=zh4 he;have hu:=yy8 hL h ho;have hi:=xK5 hL hG h2 h ho;have ab:∀x∈l++[(zw0 L s).1],i64R x.kind/\ES (zw0 L s).2 x.e:=λx aa=>by
    rw[Aq]at aa;rcases aa with aa|aa;.exact⟨(hx x aa).1,(hx x aa).2.mono hu⟩
    .simp only[Ag,Be,or_false]at aa;subst aa;exact hi
   split;.have hn:=yV hL hu.rin ‹_›;exact yr9 n _ _ hn.rin ((hu.trans hn).opn.trans ho) (by simp;omega) (λx aa=>⟨(ab x aa).1,(ab x aa).2.mono hn⟩)
   .exact⟨by simp;omega,ab⟩
  .exact⟨by simp only;omega,λx aa=>⟨(hx x aa).1,(hx x aa).2.mono (zo5 h)⟩⟩
theorem xw2{s:RS}(h:RIn L s)(ho:s.opn=0):(zp7 L s).1.length<=12/\∀x∈(zp7 L s).1,i64R x.kind/\ES (zp7 L s).2 x.e:=by
 unfold zp7;split;.refine⟨sm,λx hx=>?_⟩;simp only[Ag,Be,or_false]at hx;subst hx;exact⟨by unfold i64R;simp,zQ4 _⟩
 .exact yr9 hL hG h2 7 [] s h ho sm (λx hx=>by cases hx)
theorem xF4{s:RS}(h:RIn L s)(ho:s.opn=0):ES (whS L s) (whE L s).2:=by
 unfold whS whE;by_cases q:isT L zP9 s=true;.rw[if_pos q,if_pos q];exact yH5 hL hG h2 (h.next hL q) ho
 .rw[if_neg q,if_neg q];exact zQ4 _
theorem xe5:∀(n:Nat)(l:List GExpr)(s:RS),RIn L s->s.opn=0->l.length<=6->(∀e∈l,ES s e)->(rowL L n l s).2.1.length<=12/\∀e∈(rowL L n l s).2.1,ES (rowL L n l s).2.2 e
 |0,l,s,_,_,hl,hx=>⟨by simp only[rowL];omega,hx⟩|n+1,l,s,h,ho,hl,hx=>by
  unfold rowL;split
  .rename_i he;obtain⟨_,h6,_⟩:=zh4 he;have hu:=zM5 hL h ho;have hi:=yH5 hL hG h2 h ho;have ab:∀x∈l++[(exF L s).1],ES (exF L s).2 x:=λx aa=>by
    rw[Aq]at aa;rcases aa with aa|aa;.exact(hx x aa).mono hu
    .simp only[Ag,Be,or_false]at aa;subst aa;exact hi
   split;.have hn:=yV hL hu.rin ‹_›;exact xe5 n _ _ hn.rin ((hu.trans hn).opn.trans ho) (by simp;omega) (λx aa=>(ab x aa).mono hn)
   .exact⟨by simp;omega,ab⟩
  .exact⟨by simp only;omega,λx aa=>(hx x aa).mono (zo5 h)⟩
theorem yN0:∀(n:Nat)(R:List (List GExpr))(s:RS),RIn L s->s.opn=0->R.length<=16->(∀r∈R,r.length<=12/\∀e∈r,ES s e)->(zG7 L n R s).1.length<=20/\∀r∈(zG7 L n R s).1,r.length<=12/\∀e∈r,ES (zG7 L n R s).2 e
 |0,R,s,_,_,hl,hx=>⟨by simp only[zG7];omega,hx⟩|n+1,R,s,h,ho,hl,hx=>by
  unfold zG7;split
  .rename_i he;obtain⟨_,h6,_⟩:=zh4 he;have aa:=yB hL [40] h;have hr:=xe5 hL hG h2 7 [] _ aa.rin (aa.opn.trans ho) sm (λe he=>by cases he);have ab:=aa.trans (yB4 hL 7 [] _ aa.rin (aa.opn.trans ho));generalize rowL L 7 [] (zZ L [40] s)=r at hr ab;split
   .have ad:=yB hL [41] ab.rin;have ae:∀y∈R++[r.2.1],y.length<=12/\∀e∈y,ES (zZ L [41] r.2.2) e:=λy hy=>by
     rw[Aq]at hy;rcases hy with hy|hy;.exact⟨(hx y hy).1,λe he=>((hx y hy).2 e he).mono (ab.trans ad)⟩
     .simp only[Ag,Be,or_false]at hy;subst hy;exact⟨hr.1,λe he=>(hr.2 e he).mono ad⟩
    split;.have hn:=yV hL ad.rin ‹_›;exact yN0 n _ _ hn.rin (((ab.trans ad).trans hn).opn.trans ho) (by simp;omega) (λy hy=>⟨(ae y hy).1,λe he=>((ae y hy).2 e he).mono hn⟩)
    .exact⟨by simp;omega,ae⟩
   .exact⟨by simp only;omega,λy hy=>⟨(hx y hy).1,λe he=>((hx y hy).2 e he).mono ab⟩⟩
  .exact⟨by simp only;omega,λy hy=>⟨(hx y hy).1,λe he=>((hx y hy).2 e he).mono (zo5 h)⟩⟩
theorem yN8:∀(n:Nat)(l:List GAssign)(s:RS),RIn L s->s.opn=0->l.length<=6->(∀x∈l,x.name.length<=1048576/\ES s x.e)->(zB8 L n l s).2.1.length<=12/\∀x∈(zB8 L n l s).2.1,x.name.length<=1048576/\ES (zB8 L n l s).2.2 x.e
 |0,l,s,_,_,hl,hx=>⟨by simp only[zB8];omega,hx⟩|n+1,l,s,h,ho,hl,hx=>by
  unfold zB8;split
  .rename_i he;obtain⟨_,h6,_⟩:=zh4 he;have af:=zj9 hG h;have ad:=zd7 hL h;have aa:=ad.trans (yB hL [61] ad.rin);have hi:=yH5 hL hG h2 aa.rin (aa.opn.trans ho);have hu:=aa.trans (zM5 hL aa.rin (aa.opn.trans ho));generalize exF L (zZ L [61] (yX L s).2)=x at hi hu;have ab:∀y∈l++[⟨(yX L s).1,x.1⟩],y.name.length<=1048576/\ES x.2 y.e:=λy hy=>by
    rw[Aq]at hy;rcases hy with hy|hy;.exact⟨(hx y hy).1,(hx y hy).2.mono hu⟩
    .simp only[Ag,Be,or_false]at hy;subst hy;exact⟨af,hi⟩
   split;.have hn:=yV hL hu.rin ‹_›;exact yN8 n _ _ hn.rin ((hu.trans hn).opn.trans ho) (by simp;omega) (λy hy=>⟨(ab y hy).1,(ab y hy).2.mono hn⟩)
   .exact⟨by simp;omega,ab⟩
  .exact⟨by simp only;omega,λx ae=>⟨(hx x ae).1,(hx x ae).2.mono (zo5 h)⟩⟩
theorem yV7{s:RS}(h:RIn L s)(ho:s.opn=0):SS (zl7 L s).2 (zl7 L s).1:=by
 unfold zl7;simp only;have hx:=xw2 hL hG h2 h ho;have h1:=yg1 hL h ho;generalize zp7 L s=x at hx h1;have u2:=yB hL zC6 h1.rin;have aa:=zj9 hG (h1.trans u2).rin;have u3:=zd7 hL (h1.trans u2).rin;generalize yX L (zZ L zC6 x.2)=n at aa u3;have hw:=xF4 hL hG h2 u3.rin ((h1.trans (u2.trans u3)).opn.trans ho);have u4:=yv2 hL u3.rin ((h1.trans (u2.trans u3)).opn.trans ho);have u5:=yi1 hL u4.rin;have ab:(zI6 L (whS L n.2)).1.1.length<=1048576:=by
  unfold zI6;split
  .rename_i hi;have v1:=yV hL u4.rin hi;have v2:=v1.trans (yB hL wBY v1.rin);split;.exact zj9 hG v2.rin
   split;.exact zj9 hG v2.rin
   .exact zj9 hG v2.rin
  .exact A2 _
 generalize zI6 L (whS L n.2)=o at u5 ab;have u6:=yJ5 hL u5.rin;have ad:i64R (zI5 L o.2).1:=by
  unfold zI5;split;.exact yh6 hG (u5.rin.next hL ‹_›)
  .unfold i64R;simp
 generalize zI5 L o.2=l at u6 ad;have u:=u2.trans (u3.trans (u4.trans (u5.trans u6)));exact⟨by unfold i64R;simp,aa,⟨hx.1,λx ae=>⟨(hx.2 x ae).1,(hx.2 x ae).2.mono u⟩⟩,⟨A2 _,λr hr=>by cases hr⟩,⟨A2 _,λr hr=>by cases hr⟩,hw.mono (u5.trans u6),ab,ad⟩
theorem yS3{s:RS}(h:RIn L s)(ho:s.opn=0):SS (zk9 L s).2 (zk9 L s).1:=by unfold zk9;have u1:=yB hL yk7 h;have aa:=zj9 hG u1.rin;have u2:=u1.trans (zd7 hL u1.rin);generalize yX L (zZ L yk7 s)=n at aa u2;have u3:=u2.trans (yB hL zM0 u2.rin);have hr:=yN0 hL hG h2 17 [] _ u3.rin (u3.opn.trans ho) sm (λr hr=>by cases hr);exact⟨by unfold i64R;simp,aa,⟨A2 _,λr hr=>by cases hr⟩,hr,⟨A2 _,λr hr=>by cases hr⟩,zQ4 _,A2 _,by unfold i64R;simp⟩
theorem yX2{s:RS}(h:RIn L s)(ho:s.opn=0):SS (zl9 L s).2 (zl9 L s).1:=by
 unfold zl9;have aa:=zj9 hG h;have u2:=zd7 hL h;generalize yX L s=n at aa u2;have u3:=u2.trans (yB hL wSET u2.rin);have hr:=yN8 hL hG h2 7 [] _ u3.rin (u3.opn.trans ho) sm (λr hr=>by cases hr);have u4:=u3.trans (yj5 hL 7 [] _ u3.rin (u3.opn.trans ho));simp only;generalize zB8 L 7 [] (zZ L wSET n.2)=r at hr u4;split;.have hw:=xF4 hL hG h2 u4.rin (u4.opn.trans ho);have u5:=yv2 hL u4.rin (u4.opn.trans ho);exact⟨by unfold i64R;simp,aa,⟨A2 _,λr hr=>by cases hr⟩,⟨A2 _,λr hr=>by cases hr⟩,⟨hr.1,λx hx=>⟨(hr.2 x hx).1,(hr.2 x hx).2.mono u5⟩⟩,hw,A2 _,by unfold i64R;simp⟩
 .exact⟨by unfold i64R;simp,aa,⟨A2 _,λr hr=>by cases hr⟩,⟨A2 _,λr hr=>by cases hr⟩,hr,zQ4 _,A2 _,by unfold i64R;simp⟩
theorem xO2{s:RS}(h:RIn L s)(ho:s.opn=0):SS (zl8 L s).2 (zl8 L s).1:=by
 unfold zl8;split;.exact yV7 hL hG h2 (h.next hL ‹_›) ho
 split;.exact yS3 hL hG h2 (h.next hL ‹_›) ho
 split;.exact yX2 hL hG h2 (h.next hL ‹_›) ho
 .have u1:=yB hL zF7 h;have u2:=u1.trans (yB hL zC6 u1.rin);have aa:=zj9 hG u2.rin;have u3:=u2.trans (zd7 hL u2.rin);exact⟨by unfold i64R;simp,aa,⟨A2 _,λr hr=>by cases hr⟩,⟨A2 _,λr hr=>by cases hr⟩,⟨A2 _,λr hr=>by cases hr⟩,xF4 hL hG h2 u3.rin (u3.opn.trans ho),A2 _,by unfold i64R;simp⟩
theorem yu2:∀(n:Nat)(l:List GStmt)(s:RS),RIn L s->s.opn=0->l.length<=8->(∀x∈l,SS s x)->(zt0 L n l s).1.length<=8/\∀x∈(zt0 L n l s).1,SS (zt0 L n l s).2 x
 |0,l,s,_,_,hl,hx=>⟨hl,hx⟩|n+1,l,s,h,ho,hl,hx=>by
  unfold zt0;split
  .split
   .rename_i he;obtain⟨_,h8,_⟩:=zh4 he;have hu:=yC0 hL h ho;have hi:=xO2 hL hG h2 h ho;have ad:∀x∈l++[(zl8 L s).1],SS (zl8 L s).2 x:=λx aa=>by
     rw[Aq]at aa;rcases aa with aa|aa;.exact(hx x aa).mono hu
     .simp only[Ag,Be,or_false]at aa;subst aa;exact hi
    have ab:(l++[(zl8 L s).1]).length<=8:=by simp;omega
    split
    .have hn:=yV hL hu.rin ‹_›;have ae:=λx aa=>(ad x aa).mono hn;split;.exact⟨ab,ae⟩
     .exact yu2 n _ _ hn.rin ((hu.trans hn).opn.trans ho) ab ae
    .exact⟨ab,ad⟩
   .exact⟨hl,λx aa=>(hx x aa).mono (zo5 h)⟩
  .exact⟨hl,hx⟩
theorem xM8(h1:1<=L.length):LOk (xd9 L).1:=by
 have h0:RIn L rs0:=⟨by show 0<_;omega,by show(0:Int)<=0/\(0:Int)<=100000;omega⟩;unfold xd9;simp only;have hs:=yu2 hL hG h2 9 [] rs0 h0 rfl (A2 _) (λx hx=>by cases hx);have hu:=yu3 hL 9 [] rs0 h0 rfl;generalize zt0 L 9 [] rs0=x at hs hu;have ha:=xQ9 hL hu.rin;have hm:i64R (asF L x.2).1.1/\i64R (asF L x.2).1.2:=by
  unfold asF;split
  .rename_i hi;have v1:=xq0 hL hu.rin hi;split;.exact⟨by unfold i64R;simp,yh6 hG (v1.rin.next hL ‹_›)⟩
   .exact⟨by unfold i64R;simp,yh6 hG v1.rin⟩
  .exact⟨by unfold i64R;simp,by unfold i64R;simp⟩
 generalize asF L x.2=a at ha hm;split;.rename_i he;have h3:=ha.err (xJ0 he);exact⟨hm.1,hm.2,by simp only;omega,λst aa=>(hs.2 st aa).ok h3⟩
 .exact xc0
end
theorem yi2(s:List UInt8):LOk (zm6 s).1:=by
 unfold zm6;split;.rename_i h;obtain⟨_,hL,hG,h1,h2⟩:=xb7 h;exact xM8 hL hG h2 h1
 .exact xc0
theorem zZ3(l:List GExpr)(i:Nat)(h:i<l.length):zg3 (l.drop i)=zk4 l[i]+zg3 (l.drop (i+1)):=by rw[A5 h,zg3]
theorem zX7(l:List GExpr)(i:Nat)(h:i<l.length):xM (l.drop i)=max (xK l[i]) (xM (l.drop (i+1))):=by rw[A5 h,xM]
theorem yu0(e:GExpr):1<=zk4 e:=by rw[zB9];omega
theorem zu8(e:GExpr):1<=xK e:=by rw[zg6];omega
def tooF(e:GExpr)(deep left:Int):Int×Bool:=if(xK e:Int)+deep<=65then(left-zk4 e,false)else(0,true)
def tooV(p:Int×Bool):V:=.tup [.int .i64 p.1,.bool p.2]
theorem yC3{a:Int}{b:Bool}{M:Int×Bool}{σ:St}(h:(a,b)=M):wret (some (.tup [.int .i64 a,.bool b])) 0 (λr s=>r=tooV M/\s=[]) σ:=by subst h;exact wR
theorem yr3:∀(n:Nat)(e:GExpr)(deep left:Int),xK e<=n->Wide e->(zk4 e:Int)<=left->left<=1000000->0<=deep->deep<=1000000->Pure prog 174 [.agg e.row,.int .i64 deep,.int .i64 left] (tooV (tooF e deep left))
 |0,e,_,_,h,_,_,_,_,_=>by have:=zu8 e;omega|n+1,e,deep,left,h,hw,hs,hl,aq,ar=>by
  have ih:=yr3 n;have aj:=zg6 e;have ak:=zB9 e;obtain⟨M,hM⟩:=eX (tooF e deep left);rw[hM];unfold tooF at hM;obtain⟨args,aa⟩:=eX e.args;have hlen:=hw.len;have ad:=hw.sub;rw[aa]at aj ak hlen ad;have e1:IntKind.i64.wrap (left-1)=left-1:=i64_id om om;have e2:IntKind.i64.wrap (deep+1)=deep+1:=i64_id om om;refine iV 0 func174 ntmps174 results174 λc hc hb=>?_;refine zA ?_;simp[go_sem];by_cases q1:64<deep;.have ae:decide (64<deep)=true:=decide_eq_true q1;rw[if_neg om]at hM;simp[go_sem,ae];exact yC3 hM
  have ae:decide (64<deep)=false:=decide_eq_false q1;have al:decide (left<=0)=false:=decide_eq_false om;simp[go_sem,ae,al,e1];refine zH (S:=Nat×Int) [1,2,3,8] (λu=>[.int .i64 deep,.int .i64 u.2,.ptr 0 0,.int .i64 (u.1:Int)]) (λ_=>[.box e.row]) (λu=>args.length-u.1) (λu=>u.1<=args.length/\(zg3 (args.drop u.1):Int)<=u.2/\u.2<=1000000/\(if(xM (args.drop u.1):Int)+(deep+1)<=65then(u.2-zg3 (args.drop u.1),false)else(0,true))=M) hc hb (0,left-1) ⟨A2 _,by simp only[B8];omega,by simp only;omega,by
    rw[<-hM,B8];by_cases q:(xM args:Int)+(deep+1)<=65;.rw[if_pos q,if_pos om];congr 1;simp only;omega
    .rw[if_neg q,if_neg om]⟩ ?_ ?_;.exact aN 1 (by simp[ltOb,ltC,ltK,GExpr.row_eq])
  rintro⟨i,lf⟩⟨hi,af,an,hinv⟩;simp only at hi af an hinv;by_cases q:i<args.length;rotate_left
  .rw[A9 om]at hinv;have hinv:(lf,false)=M:=by rw[<-hinv,xM,zg3,if_pos om];simp
   refine zA ?_;simp[go_sem,q,aa];exact yC3 hinv
  have ei:=zS q om;have ag:=zZ3 args i q;have ah:=zX7 args i q;obtain⟨x,hx⟩:=eX (args[i]);have ai:x∈args:=hx▸A8 q;have au:=zg1 args x ai;rw[hx]at ag ah;have ao:=af;rw[ag]at af;have ab:=ih x (deep+1) lf om (ad x ai) om om om om;have av:=yu0 x;unfold tooF at ab;rw[ag,ah]at hinv;by_cases q3:(xK x:Int)+(deep+1)<=65
  .rw[if_pos q3]at ab;refine zA ?_;simp[go_sem,q,aa,hx,e2];refine zJ ab cB (zL sg (by rw[GExpr.row_eq];rfl)) rfl ?_;simp[go_sem,tooV,ei];refine zG (i+1,lf-zk4 x) ⟨by simp only;omega,⟨by simp only;omega,by simp only;omega,by simp only;omega,?_⟩,?_⟩
   .rw[<-hinv];by_cases q4:(xM (args.drop (i+1)):Int)+(deep+1)<=65;.rw[if_pos q4,if_pos om];congr 1;simp only;omega
    .rw[if_neg q4,if_neg om]
   .exact at_n 1 (by simp[go_sem,aa]) rfl (by simp[ltOb,ltC,ltK,GExpr.row_eq]) (A2 _) (zC sg rfl)
  .rw[if_neg q3]at ab;rw[if_neg om]at hinv;refine zA ?_;simp[go_sem,q,aa,hx,e2];refine zJ ab cB (zL sg (by rw[GExpr.row_eq];rfl)) rfl ?_;simp[go_sem,tooV];exact yC3 hinv
def xC5(e:GExpr)(deep n:Int)(r:V)(σ:St):Prop:=r=.bool (decide ((xK e:Int)+deep<=65))/\∃m:Int,σ=[.box [.int .i64 m]]/\n<=m/\m<=n+zk4 e
theorem xe9:∀(k:Nat)(e:GExpr)(deep n:Int),xK e<=k->Wide e->0<=n->n+zk4 e<=4096->0<=deep->deep<=1000000->VCalls prog 252 [.agg e.row,.int .i64 deep,.ptr 0 0] [.box [.int .i64 n]] (xC5 e deep n)
 |0,e,_,_,h,_,_,_,_,_=>by have:=zu8 e;omega|k+1,e,deep,n,h,hw,ar,al,au,av=>by
  have ih:=xe9 k;have an:=zg6 e;have ag:=zB9 e;obtain⟨M,hM⟩:=eX (decide ((xK e:Int)+deep<=65));unfold xC5;rw[hM];obtain⟨args,aa⟩:=eX e.args;have hlen:=hw.len;have ae:=hw.sub;rw[aa]at an ag hlen ae;have e1:IntKind.i64.wrap (n+1)=n+1:=i64_id om om;have e2:IntKind.i64.wrap (deep+1)=deep+1:=i64_id om om;obtain⟨sz,ao⟩:=eX (zk4 e);rw[ao]at ag al⊢;have ret:∀(b:Bool)(m:Int)(τ:St),b=M->n<=m->m<=n+sz->wret (some (.bool b)) 1 (λr σ=>r=.bool M/\∃m:Int,σ=[.box [.int .i64 m]]/\n<=m/\m<=n+sz) (.box [.int .i64 m]::τ):=λb m τ h1 h2 h3=>by subst h1;exact xP 1 rfl rfl (by rfl) (A3 _) (zD rfl) ⟨rfl,m,rfl,h2,h3⟩
  refine iV 1 func252 ntmps252 results252 λc hc hb=>?_;refine zA ?_;simp[go_sem,e1];by_cases q1:64<deep
  .have af:decide (64<deep)=true:=decide_eq_true q1;have hM:false=M:=by rw[<-hM];exact(decide_eq_false om).symm
   simp[go_sem,af];exact ret _ _ _ hM om om
  have af:decide (64<deep)=false:=decide_eq_false q1;have aq:decide (4096<n+1)=false:=decide_eq_false om;simp[go_sem,af,aq,aa];refine zH (S:=Nat×Int) [1,2,23,24,25] (λu=>[.int .i64 deep,.ptr 0 0,.sl .ro (args.map GExpr.row),.int .i64 args.length,.int .i64 (u.1:Int)]) (λu=>[.box [.int .i64 u.2]]) (λu=>args.length-u.1) (λu=>u.1<=args.length/\n<=u.2/\u.2+zg3 (args.drop u.1)<=n+sz/\decide ((xM (args.drop u.1):Int)+(deep+1)<=65)=M) hc hb (0,n+1) ⟨A2 _,by simp only;omega,by simp only[B8];omega,by rw[<-hM,B8];exact decide_eq_decide.2 om⟩ ?_ ?_;.exact aN 1 (by rfl)
  rintro⟨i,m⟩⟨hi,ah,ad,hinv⟩;simp only at hi ah ad hinv;by_cases q:i<args.length;rotate_left
  .rw[A9 om]at hinv ad;have hinv:true=M:=by rw[<-hinv,xM];exact(decide_eq_true om).symm
   refine zA ?_;simp[go_sem,q];exact ret _ _ _ hinv ah (by rw[zg3]at ad;omega)
  have ei:=zS q om;have ai:=zZ3 args i q;have aj:=zX7 args i q;obtain⟨x,hx⟩:=eX (args[i]);have ak:x∈args:=hx▸A8 q;have aw:=zg1 args x ak;rw[hx]at ai aj;rw[ai]at ad;rw[aj]at hinv;have ab:=ih x (deep+1) m om (ae x ak) om om om om;by_cases q3:(xK x:Int)+(deep+1)<=65
  .refine zA ?_;simp[go_sem,q,hx,e2];refine zk6 0 ab cB rfl (by rfl) ⟨.inl (by simp[go_sem,renS,renA,renC,renK]),zD rfl,.inl rfl,tV⟩ (λr σ h=>by obtain⟨_,m2,rfl,_⟩:=h;exact⟨_,rfl,rfl⟩) ?_;rintro r o2⟨rfl,m2,h1,h2,h3⟩;obtain rfl:o2=.box [.int .i64 m2]:=by simpa using h1
   rw[decide_eq_true q3];simp[go_sem,ei];refine zG (i+1,m2) ⟨by simp only;omega,⟨by simp only;omega,by simp only;omega,by simp only;omega,?_⟩,?_⟩;.rw[<-hinv];show decide ((xM (args.drop (i+1)):Int)+(deep+1)<=65)=_;exact decide_eq_decide.2 om
   .exact aN 1 (by rfl)
  .have hinv:false=M:=by rw[<-hinv];exact(decide_eq_false om).symm
   refine zA ?_;simp[go_sem,q,hx,e2];refine zk6 0 ab cB rfl (by rfl) ⟨.inl (by simp[go_sem,renS,renA,renC,renK]),zD rfl,.inl rfl,tV⟩ (λr σ h=>by obtain⟨_,m2,rfl,_⟩:=h;exact⟨_,rfl,rfl⟩) ?_;rintro r o2⟨rfl,m2,h1,h2,h3⟩;obtain rfl:o2=.box [.int .i64 m2]:=by simpa using h1
   rw[decide_eq_false q3];simp[go_sem];exact ret _ _ _ hinv om om
def xb1(e:GExpr):Bool:=e.kind==3&&e.s==[65,78,68]&&e.args.length==2
def bfs:Nat->List GExpr->List GExpr->List GExpr |0,_,l=>l|_+1,[],l=>l|n+1,e::q,l=>if xb1 e=true then bfs n (q++e.args) l else bfs n q (l++[e])
def zt4(st:GStmt):List GExpr:=if st.filtered=true then bfs 4096 [st.where_] []else[]
theorem yq5(l:List GExpr):uni 6 (l.map GExpr.row):=yc8 λe=>by rw[GExpr.row_eq];rfl
theorem zX5(st:GStmt):Pure prog 109 [.agg st.row] (.sl .ro ((zt4 st).map GExpr.row)):=by
 generalize hM:zt4 st=M;have ret:∀(r:List GExpr)(g:Tag)(σ:St),r=M->wret (some (.sl g (r.map GExpr.row))) 0 (λr s=>r=.sl .ro (M.map GExpr.row)/\s=[]) σ:=λr g σ h=>by subst h;exact wA zQ ⟨rfl,rfl⟩
 unfold zt4 at hM;refine iV 0 func109 ntmps109 results109 λc hc hb=>?_;refine zp2 26 dc ?_;refine zA ?_;simp[go_sem];by_cases hf:st.filtered=true;rotate_left
 .have ad:st.filtered=false:=by simpa using hf
  rw[if_neg hf]at hM;simp[go_sem,ad];exact ret [] _ _ hM
 rw[if_pos hf]at hM;simp[go_sem,hf];refine xF0 4 6 [st.where_.row] dc (yq5 [st.where_]) sg ?_;refine zk1 3 6 dc sg ?_;refine zH (S:=Nat×List GExpr×List GExpr) [3,4,5,100026] (λu=>[.sl (.app 1) (u.2.2.map GExpr.row),.sl (.app 0) (u.2.1.map GExpr.row),.int .i64 u.1,.tup []]) (λu=>[.app u.2.1.length 6,.app u.2.2.length 6]) (λu=>4096-u.1) (λu=>u.1<=4096/\u.2.1.length<=1+u.1/\u.2.2.length<=u.1/\bfs (4096-u.1) u.2.1 u.2.2=M) hc hb (0,[st.where_],[]) ⟨A2 _,sm,sm,hM⟩ ?_ ?_;.exact zD2 [1,2] dc rfl ⟨by simp[go_sem,yC],by simp[go_sem,yC],tV⟩ ⟨.inl (by simp[go_sem,renS,renA,renC,renK,ren]),.inl (by simp[go_sem,renS,renA,renC,renK,ren]),zD rfl,zD rfl,tV⟩
 rintro⟨n,q,l⟩⟨hn,ab,ae,hinv⟩;simp only at hn ab ae hinv;cases q with
 |nil=>
  have hl:l=M:=by rw[<-hinv];cases h:4096-n<;>rfl
  refine zA ?_;simp[go_sem];exact ret l _ _ hl|cons e q=>
 by_cases af:n<4096;rotate_left
 .have hl:l=M:=by rw[<-hinv,show 4096-n=0 by omega];rfl
  have hd:decide ((n:Int)<4096)=false:=decide_eq_false om;refine zA ?_;simp[go_sem,hd];exact ret l _ _ hl
 have hd:decide ((n:Int)<4096)=true:=decide_eq_true om;rw[show 4096-n=(4096-(n+1))+1by omega,bfs]at hinv;have ei:IntKind.i64.wrap ((n:Int)+1)=((n+1:Nat):Int):=by rw[i64_id om om];omega
 refine zA ?_;simp[go_sem,hd];refine zI om ?_;simp[go_sem];by_cases hA:xb1 e=true;.rw[if_pos hA]at hinv;have aa:=hA;unfold xb1 at aa;simp only[A6,beq_iff_eq]at aa;obtain⟨⟨q1,q2⟩,q3⟩:=aa;simp[go_sem,q1,q2,q3];refine zI ⟨by simp at ab;omega,yq5 _⟩ ?_;simp[go_sem,ei];refine zG (n+1,q++e.args,l) ⟨by simp only;omega,⟨by simp only;omega,by simp at ab⊢;omega,by simp only;omega,hinv⟩,?_⟩;exact zD2 [3,1] dc rfl ⟨by simp[go_sem,yC,q3],by simp[go_sem,yC],tV⟩ ⟨.inl (by simp[go_sem,renS,renA,renC,renK,ren]),.inl (by simp[go_sem,renS,renA,renC,renK,ren]),zD rfl,zD rfl,tV⟩
 .have aa:(e.kind==3&&e.s==[65,78,68]&&e.args.length==2)=false:=by simpa[xb1]using hA
  rw[if_neg hA]at hinv;have key:(e.kind==3)=false∨((e.kind==3)=true/\(e.s==[65,78,68])=false)∨((e.kind==3)=true/\(e.s==[65,78,68])=true/\((e.args.length:Int)==2)=false):=by
   revert aa;have e3:((e.args.length:Int)==2)=(e.args.length==2):=by rw[Du];simp;omega
   rw[e3];cases e.kind==3<;>cases e.s==[65,78,68]<;>cases e.args.length==2<;>simp
  refine key.elim (λq1=>?_) λkey=>key.elim (λq1=>?_) λq1=>?_;all_goals simp[go_sem,q1]
  all_goals refine zI ⟨om,zV rfl⟩ ?_
  all_goals simp[go_sem,ei]
  all_goals refine zG (n+1,q,l++[e]) ⟨by simp only;omega,⟨by simp only;omega,by simp at ab⊢;omega,by simp;omega,hinv⟩,?_⟩
  all_goals exact zD2 [3,1] dc rfl ⟨by simp[go_sem,yC],by simp[go_sem,yC],tV⟩ ⟨.inl (by simp[go_sem,renS,renA,renC,renK,ren]),.inl (by simp[go_sem,renS,renA,renC,renK,ren]),zD rfl,zD rfl,tV⟩
def xc8:V:=.tup [.str [],.agg [.int .i64 0,.int .i64 0,.str []],.bool false]
def ze9(e:GExpr)(name:List UInt8):Option (List UInt8×GValue):=match e.kind==3,e.args with |true,[a,b]=>if b.kind=2then(if b.s=name/\a.kind=1/\a.v.kind≠0then some (xf0 e.s,a.v)else none)else if a.kind=2/\a.s=name/\b.kind=1/\b.v.kind≠0then some (e.s,b.v)else none|_,_=>none
def cutV:Option (List UInt8×GValue)->V |none=>xc8|some (s,v)=>.tup [.str s,.agg v.row,.bool true]
theorem yp2(e:GExpr)(name:List UInt8):Pure prog 110 [.agg e.row,.str name] (cutV (ze9 e name)):=by
 generalize hM:ze9 e name=M;have no:∀(σ:St),none=M->wret (some xc8) 0 (λr s=>r=cutV M/\s=[]) σ:=λσ h=>by subst h;exact wR
 have yes:∀(s:List UInt8)(v:GValue)(σ:St),some (s,v)=M->wret (some (.tup [.str s,.agg v.row,.bool true])) 0 (λr s=>r=cutV M/\s=[]) σ:=λs v σ h=>by subst h;exact wR
 unfold ze9 at hM;refine iW 0 func110 ntmps110 results110 λc hc hb=>zO ?_;simp[go_sem];by_cases q1:e.kind=3;rotate_left
 .have ab:(e.kind !=3)=true:=by simpa using q1
  have aa:(e.kind==3)=false:=by simpa using q1
  simp only[aa]at hM;simp[go_sem,ab];exact no _ hM
 have ab:(e.kind !=3)=false:=by simpa using q1
 have aa:(e.kind==3)=true:=by simpa using q1
 simp only[aa]at hM;obtain⟨k,hk⟩:=eX e.kind;simp[go_sem,ab];by_cases q2:e.args.length=2;rotate_left
 .have ad:((e.args.length:Int)!=2)=true:=by simpa using(show¬(e.args.length:Int)=2by omega)
  simp[go_sem,ad];refine no _ ?_;rw[<-hM];split;.rename_i h;rw[h]at q2;exact absurd rfl q2
  .rfl
 have ad:((e.args.length:Int)!=2)=false:=by simpa using(show(e.args.length:Int)=2by omega)
 simp[go_sem,ad];obtain⟨a,b,af⟩:∃a b,e.args=[a,b]:=by match e.args,q2 with|[a,b],_=>exact⟨a,b,rfl⟩
 simp only[af]at hM;refine xZ3 [(12,3),(13,3)] 1 10 sm kR (by rw[hc];exact A2 _) hb kR rfl (by repeat'(first|exact LtE.env0|refine LtE.upd ?_ (by simp[ltS,ltA,ltC,ltK]))) (by simp only[C1,Ds];exact rfl) (by simp only[Dn,B8];exact rfl) ?_;simp[go_sem,af];refine⟨by repeat'(first|exact LtE.env0|refine LtE.upd ?_ (by simp[ltS,ltA,ltC,ltK])),?_⟩;by_cases q3:b.kind=2
 .have ae:(b.kind==2)=true:=by simpa using q3
  rw[if_pos q3]at hM;simp[go_sem,ae];refine yR [(0,2),(1,2),(3,0),(4,3),(5,3)] 2 sm kR kR ?_;simp[go_sem];refine pD (xD8 e.s) ?_;have q4:(b.kind !=2)=false:=by simpa using q3
  simp[go_sem,q4];repeat'(first |(refine zY (λq=>?_) (λq=>?_)<;>simp[go_sem,q])|(refine zN (λq=>?_) (λq=>?_)<;>simp[go_sem,q])|(refine yR [(2,2),(4,3)] 1 sm kR kR ?_;simp[go_sem]))
  all_goals first|exact no _ (by rw[<-hM];simp_all)|exact yes _ _ _ (by rw[<-hM];simp_all)
 .have ae:(b.kind==2)=false:=by simpa using q3
  rw[if_neg q3]at hM;simp[go_sem,ae];repeat'(first |(refine zY (λq=>?_) (λq=>?_)<;>simp[go_sem,q])|(refine zN (λq=>?_) (λq=>?_)<;>simp[go_sem,q])|(refine yR [(2,2),(4,3)] 1 sm kR kR ?_;simp[go_sem]))
  all_goals first|exact no _ (by rw[<-hM];simp_all)|exact yes _ _ _ (by rw[<-hM];simp_all)
end Go.Proofs.YtefbicjgbaaieaaGreat
namespace Go.Proofs.YtefbicjgbaaieaaGreat.R
open Go Go.Vx Go.Proofs.Tryz
set_option maxRecDepth 100000
def bys(l:List UInt8):V:=.sl .ro (zM l)
theorem zK(l:List UInt8):(zM l).length=l.length:=by simp[zM]
theorem wB(l:List UInt8):uni 1 (zM l):=λr hr=>by obtain⟨x,_,rfl⟩:=Ac.1 hr;rfl
def byA(l:List UInt8):V:=.sl (.app 0) (zM l)
def stA(l:List UInt8):St:=[.app l.length 1]
abbrev maxB:Nat:=1000000000
theorem yV4(b:List UInt8)(n:Nat)(hb:b.length<=maxB)(hn:n<=maxB):VCalls prog 279 [bys b,.int .i64 n] [] λr s=>r=byA b/\s=stA b:=by
 refine iW 0 func279 ntmps279 results279 λc hc hb=>zO ?_;simp[go_sem,bys,zK];have e1:IntKind.i64.wrap ((b.length:Int)+n)=((b.length+n:Nat):Int):=by rw[i64_id (by unfold maxB at*;omega) (by unfold maxB at*;omega)];omega
 simp[go_sem,e1];refine zI ⟨om,by unfold maxB at*;omega⟩ ?_;simp[go_sem,zK];refine zI ⟨by unfold maxB at*;omega,wB b⟩ ?_;simp[go_sem];exact zx4 1 rfl rfl om (zq2 rfl) ⟨rfl,rfl⟩
def varF(v:Nat):List UInt8:=if v<128then[UInt8.ofNat v]else UInt8.ofNat (v%128+128)::varF (v/128)termination_by v
decreasing_by omega
theorem zT1{v:Nat}(h:v<128):varF v=[UInt8.ofNat v]:=by rw[varF,if_pos h]
theorem yc9{v:Nat}(h:¬v<128):varF v=UInt8.ofNat (v%128+128)::varF (v/128):=by rw[varF,if_neg h]
theorem xf9:∀(k v:Nat),v<128^(k+1)->(varF v).length<=k+1
 |0,v,h=>by rw[zT1 om];simp|k+1,v,h=>by
  by_cases hv:v<128;.rw[zT1 hv];simp
  .rw[yc9 hv,Ah];have:=xf9 k (v/128) (by rw[Cp om];rwa[Eb]at h);omega
theorem zT0{v:Nat}(h:v<18446744073709551616):(varF v).length<=10:=xf9 9 v om
structure VarS where
 out:List UInt8
 v:Nat
theorem u64_id{n:Int}(h:0<=n)(h2:n<=18446744073709551615):IntKind.u64.wrap n=n:=by unfold IntKind.wrap;simp[IntKind.bits,IntKind.signed];omega
theorem zJ8(n:Nat):IntKind.u8.wrap (n:Int)=((UInt8.ofNat n).toNat:Int):=by unfold IntKind.wrap;simp[IntKind.bits,IntKind.signed]
theorem xX4:((List.range 256).all λm=>zf5 .or .u8 (m:Int) 128==((m%128+128:Nat):Int))=true:=by decide+kernel
theorem wd0(v:Nat):zf5 .or .u8 (IntKind.u8.wrap (v:Int)) 128=((UInt8.ofNat (v%128+128)).toNat:Int):=by
 have h:=Af.1 xX4 (v%256) (Cj.2 om);have e:IntKind.u8.wrap (v:Int)=((v%256:Nat):Int):=by rw[zJ8];simp
 rw[e,beq_iff_eq.1 h];simp;omega
theorem xp3(b:List UInt8)(v0:Nat)(aa:b.length<=maxB)(hv:v0<18446744073709551616):VCalls prog 223 [bys b,.int .u64 v0] [] λr s=>r=byA (b++varF v0)/\s=stA (b++varF v0):=by
 refine iV 0 func223 ntmps223 results223 λc hc hb=>?_;refine zA ?_;simp[go_sem];refine zT6 (yV4 b 10 aa dc) cB (yA rfl) ?_;rintro r s⟨rfl,rfl⟩;simp[go_sem];refine zH (S:=VarS) [1,5] (λs=>[.int .u64 s.v,byA s.out]) (λs=>stA s.out) (λs=>s.v) (λs=>s.v<18446744073709551616/\s.out++varF s.v=b++varF v0) hc hb ⟨b,v0⟩ ⟨hv,rfl⟩ ?_ ?_;.exact at_n 1 rfl rfl rfl (A2 _) (zC sg rfl)
 rintro⟨out,v⟩⟨ab,hs⟩;simp only at ab hs;have hlen:out.length<=maxB+10:=by have:=congrArg List.length hs;have ae:=zT0 hv;simp only[B2]at this;omega
 refine zA ?_;simp[go_sem,byA,stA];refine zN (λh=>?_) (λh=>?_)
 .have h:¬v<128:=by have:=of_decide_eq_true h;omega
  have u1:=wd0 v;simp[go_sem,u1];refine zI ⟨zK out,by rw[zK];unfold maxB at*;omega,zV rfl⟩ ?_;have e5:(v:Int).fdiv 128=(v:Int)/128:=Ct _ om;simp[go_sem,e5];rw[yc9 h]at hs;refine zG ⟨out++[UInt8.ofNat (v%128+128)],v/128⟩ ⟨by simp only;omega,⟨by simp only;omega,by simpa using hs⟩,at_n 1 sm rfl rfl (A2 _) (zC (by simp[go_sem,zM]) rfl)⟩
 .have h:v<128:=by have:=of_decide_eq_false h;omega
  simp[go_sem,zK,zJ8];refine zI ⟨by unfold maxB at*;omega,zV rfl⟩ ?_;simp[go_sem];rw[zT1 h]at hs;have ad:b.length+(varF v0).length=out.length+1:=by have:=congrArg List.length hs;simpa using this.symm
  rw[<-hs];exact zx4 1 rfl rfl om (zq2 rfl) ⟨by simp[zM],by simp[ad]⟩
theorem xT5(b t:List UInt8)(aa:b.length<=maxB)(ht:t.length<=maxB):VCalls prog 281 [bys b,bys t] [] λr s=>r=byA (b++varF t.length++t)/\s=stA (b++varF t.length++t):=by refine iW 0 func281 ntmps281 results281 λc hc hb=>zO ?_;have e1:IntKind.u64.wrap (t.length:Int)=(t.length:Int):=u64_id om (by unfold maxB at*;omega);simp[go_sem,bys,zK,e1];refine zT6 (xp3 b t.length aa (by unfold maxB at*;omega)) cB (yA rfl) ?_;rintro r s⟨rfl,rfl⟩;have ab:=zT0 (v:=t.length) (by unfold maxB at*;omega);simp[go_sem,byA,stA,zK];refine zI ⟨by unfold maxB at*;omega,wB t⟩ ?_;simp[go_sem];exact zx4 1 rfl rfl om (zq2 rfl) ⟨by simp[zM],by simp[By]⟩
def zigF(n:Int):Nat:=if 0<=n then(2*n).toNat else(-2*n-1).toNat
theorem yD7{n:Int}(h:i64R n):zigF n<18446744073709551616:=by unfold zigF;unfold i64R at h;split<;>omega
theorem xS4(ek:Nat)(es:Option (List Pk))(a b:Int):zt5 .shr ek es (.int .i64 a) (.int .u64 b)=.need (0<=b) (.int .i64 (a.fdiv (2^(min b.toNat 64)))):=rfl
theorem wd4{x:Int}(h:0<=x)(h2:x<=18446744073709551615):zf5 .xor .u64 x 0=x:=by obtain⟨m,rfl⟩:=Ef h;show IntKind.u64.wrap ((BitVec.ofInt 64 (m:Int)^^^BitVec.ofInt 64 0).toNat:Int)=m;have e:BitVec.ofInt 64 (0:Int)=0#64:=rfl;rw[e,BitVec.xor_zero,BitVec.ofInt_natCast,BitVec.toNat_ofNat,Cn om];exact u64_id om om
theorem wd5{x:Int}(h:0<=x)(h2:x<=18446744073709551615):zf5 .xor .u64 x 18446744073709551615=18446744073709551615-x:=by
 obtain⟨m,rfl⟩:=Ef h;show IntKind.u64.wrap ((BitVec.ofInt 64 (m:Int)^^^BitVec.ofInt 64 18446744073709551615).toNat:Int)=_;have e:BitVec.ofInt 64 (18446744073709551615:Int)=BitVec.allOnes 64:=by decide+kernel
 rw[e,BitVec.xor_allOnes,BitVec.ofInt_natCast,BitVec.toNat_not,BitVec.toNat_ofNat,Cn om];rw[u64_id om om];omega
theorem wa4(n:Int)(hn:i64R n):Pure prog 280 [.int .i64 n] (.int .u64 (zigF n)):=by
 refine iW 0 func280 ntmps280 results280 λc hc hb=>zO ?_;unfold i64R at hn;rcases Int.lt_or_le n 0with h|h
 .have e1:IntKind.u64.wrap n=n+18446744073709551616:=by rw[IntKind.wrap_u64];omega
  have e2:IntKind.u64.wrap ((n+18446744073709551616)*2)=2*n+18446744073709551616:=by rw[IntKind.wrap_u64];omega
  have e3:n.fdiv 9223372036854775808=-1:=by rw[Ct _ om];omega
  have e4:IntKind.u64.wrap (-1)=18446744073709551615:=by decide+kernel
  have e5:zf5 .xor .u64 (2*n+18446744073709551616) 18446744073709551615=((zigF n:Nat):Int):=by rw[wd5 om om,zigF,if_neg om];omega
  simp[go_sem,e1,e2,xS4,e3,e4,e5];exact wR
 .have e1:IntKind.u64.wrap n=n:=u64_id h om;have e2:IntKind.u64.wrap (n*2)=2*n:=by rw[u64_id om om];omega
  have e3:n.fdiv 9223372036854775808=0:=by rw[Ct _ om];omega
  have e4:IntKind.u64.wrap 0=0:=u64_id om om;have e5:zf5 .xor .u64 (2*n) 0=((zigF n:Nat):Int):=by rw[wd4 om om,zigF,if_pos h];omega
  simp[go_sem,e1,e2,xS4,e3,e4,e5];exact wR
end Go.Proofs.YtefbicjgbaaieaaGreat.R
