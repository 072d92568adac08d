/-
  Contracts of functions that the claimed statement reaches, each proved over trees (the library Vx); used by the theorem at the end of the claim.
  Conditions: as each theorem states them.
-/
import Derived.Test.YtefbicjgbaaieaaGreatKAM
import Derived.Test.YtefbicjgbaaieaaGreatKAL
import Derived.Test.YtefbicjgbaaieaaGreatKAH
import Derived.Test.YtefbicjgbaaieaaGreatKAG
set_option maxHeartbeats 8000000
namespace Go.Proofs.YtefbicjgbaaieaaGreat
open Go Go.Vx Go.Proofs.Tryz
set_option maxRecDepth 100000
variable {τ:St}{s':RS}
def yw0 (i:Nat) (w:List UInt8):TR:=if 64<w.length then(zm6,0,3)else(⟨3,0,w,0⟩,i+1,0)
def zh7:Nat->List UInt8->List UInt8->TR
 |_,_,[]=>(zm6,0,13)
 |i,w,[c]=>if c.toNat=39 then yw0 i w else(zm6,0,13)
 |i,w,c::c2::l=>if c.toNat=39 then(if c2.toNat=39 then zh7 (i+2) (w++ [c2]) l else yw0 i w)else zh7 (i+1) (w++ [c]) (c2::l)
theorem yZ7 (i:Nat) (w:List UInt8) (c:UInt8) (l:List UInt8) (h: ¬c.toNat=39):zh7 i w (c::l)=zh7 (i+1) (w++ [c]) l:=by
 cases l with
 |nil=>rw[zh7,zh7,if_neg h]
 |cons c2 l=>rw[zh7,if_neg h]
theorem xo0 (s:List UInt8) (hl:s.length<=maxLen) (a:Nat) (ha:a<s.length):Pure prog 207 [.str s,.int .i64 a] (trV (zh7 (a+1) [] (s.drop (a+1)))):=by
 generalize hM:zh7 (a+1) [] (s.drop (a+1))=M
 unfold maxLen at hl
 have ea:IntKind.i64.wrap ((a:Int)+1)=((a+1:Nat):Int):=zQ ha om
 refine iV 0 func207 ntmps207 results207 fun c hc hb=> ?_
 refine zA ?_
 simp[go_sem,ea]
 refine zH (S:=Nat×List UInt8) [0,4,7,8] (fun u=> [.str s,.ptr 0 0,.str u.2,.int .i64 u.1]) (fun _=> [.box [.int .i64 0,.int .i64 0,.str [],.int .i64 0]]) (fun u=>s.length - u.1)
  (fun u=>u.1<=s.length/\u.2.length<=u.1/\zh7 u.1 u.2 (s.drop u.1)=M) hc hb (a+1,[]) ⟨ha,A4 _,hM⟩ ?_ ?_
 .exact aN 1 (by rfl)
 rintro⟨i,w⟩ ⟨hi,hw,hinv⟩
 simp only at hi hw hinv
 by_cases q:i<s.length
 rotate_left
 .obtain rfl:i=s.length:=om
  rw[D6]at hinv
  refine zA ?_
  simp[go_sem]
  exact zd1 (t:=zm6) hinv
 have ei:=zQ q om
 obtain⟨x,hx⟩:=eX (s[i])
 have aa:=yk7 x 39
 simp only[Cr]at aa
 rw[A8 q,hx]at hinv
 by_cases ae:x.toNat=39
 rotate_left
 .rw[decide_eq_false ae]at aa
  rw[yZ7 _ _ _ _ ae]at hinv
  have ah:(s.take (i+1)).drop i= [x]:=by
   rw[Du,A0 q,hx,List.drop_append,Ab (by simp;omega),Bi,Cj om]
   simp
  refine zA ?_
  simp[go_sem,q,hx,aa,ei]
  refine zI om ?_
  simp[go_sem,ah]
  refine zI om ?_
  simp[go_sem,ei]
  refine zG (i+1,w++ [x]) ⟨by simp only;omega,⟨by simp only;omega,by simp;omega,hinv⟩, ?_⟩
  exact aN 1 (by rfl)
 rw[decide_eq_true ae]at aa
 by_cases q2:i+1<s.length
 rotate_left
 .have ak:s.drop (i+1)= []:=Ab om
  rw[ak,zh7,if_pos ae]at hinv
  unfold yw0 at hinv
  have e1:((i:Int)+1==(s.length:Int))=true:=by simp;omega
  refine zA ?_
  simp[go_sem,q,hx,aa,ei,e1]
  by_cases af:64<w.length
  .have ab:decide ((64:Int)<w.length)=true:=decide_eq_true om
   rw[if_pos af]at hinv
   simp[go_sem,ab]
   exact zd1 (t:=zm6) hinv
  .have ab:decide ((64:Int)<w.length)=false:=decide_eq_false om
   rw[if_neg af]at hinv
   simp[go_sem,ab,ei]
   exact zd1 (t:=⟨3,0,w,0⟩) hinv
 have e1:((i:Int)+1==(s.length:Int))=false:=by simp;omega
 have al:=zQ q2 om
 obtain⟨y,hy⟩:=eX (s[i+1])
 have ag:=yk7 y 39
 simp only[Cr]at ag
 have aj:s[i+1]?.getD 0=y:=by rw[A0 q2,hy];rfl
 have ai:IntKind.i64.wrap ((i:Int)+1+1)=(i:Int)+2:=by rw[i64_id om om];omega
 rw[A8 q2,hy,zh7,if_pos ae]at hinv
 by_cases qy:y.toNat=39
 rotate_left
 .rw[if_neg qy]at hinv
  unfold yw0 at hinv
  rw[decide_eq_false qy]at ag
  have ad:((y.toNat:Int) !=39)=true:=by simp;omega
  refine zA ?_
  simp[go_sem,q,hx,aa,ei,e1]
  refine zI om ?_
  simp[go_sem,aj,ad]
  by_cases af:64<w.length
  .have ab:decide ((64:Int)<w.length)=true:=decide_eq_true om
   rw[if_pos af]at hinv
   simp[go_sem,ab]
   exact zd1 (t:=zm6) hinv
  .have ab:decide ((64:Int)<w.length)=false:=decide_eq_false om
   rw[if_neg af]at hinv
   simp[go_sem,ab,ei]
   exact zd1 (t:=⟨3,0,w,0⟩) hinv
 rw[if_pos qy]at hinv
 rw[decide_eq_true qy]at ag
 have ad:((y.toNat:Int) !=39)=false:=by simp;omega
 have ah:(s.take (i+2)).drop (i+1)= [y]:=by
  rw[Du,A0 q2,hy,List.drop_append,Ab (by simp;omega),Bi,Cj om]
  simp
 refine zA ?_
 simp[go_sem,q,hx,aa,ei,e1]
 have et:((i:Int)+2).toNat=i+2:=om
 have an:IntKind.i64.wrap ((i:Int)+1+1)=((i+2:Nat):Int):=by rw[ai];omega
 refine zI om ?_
 simp[go_sem,aj,ad,ei,ai,et]
 refine zI om ?_
 simp[go_sem,ah]
 refine zI om ?_
 simp[go_sem,ai]
 refine zG (i+2,w++ [y]) ⟨by simp only;omega,⟨by simp only;omega,by simp;omega,hinv⟩, ?_⟩
 exact aN 1 (by rfl)
def wrdF (c:UInt8):Bool:=za3 c||wJ c
def signsL:List UInt8:= [40,41,44,59,42,61,60,62,43,45,47,37]
def oneF (s:List UInt8) (a:Nat):TR:=
 if za3 (s.getD a 0)=true then(⟨1,0,((s.drop a).takeWhile wrdF).map yL,0⟩,a+((s.drop a).takeWhile wrdF).length,0)
 else if wJ (s.getD a 0)=true then numT a (s.drop a)
 else if(s.getD a 0).toNat=39 then zh7 (a+1) [] (s.drop (a+1))
 else if a+1<s.length/\((s.drop a).take 2= [60,61]∨(s.drop a).take 2= [62,61]∨(s.drop a).take 2= [60,62])then(⟨4,0,(s.drop a).take 2,0⟩,a+2,0)
 else if signsL.contains (s.getD a 0)=true then(⟨4,0,[s.getD a 0],0⟩,a+1,0)
 else(zm6,0,13)
theorem xF3 (s:List UInt8) (hl:s.length<=maxLen) (a:Nat) (ha:a<s.length):Pure prog 134 [.str s,.int .i64 a] (trV (oneF s a)):=by
 generalize hM:oneF s a=M
 have ah:=yO9 s hl a om
 have ai:=xo0 s hl a ha
 unfold oneF at hM
 unfold maxLen at hl
 have ay:s.getD a 0=s[a]:=by rw[A7,A0 ha];rfl
 rw[ay]at hM
 obtain⟨x,hx⟩:=eX (s[a])
 rw[hx]at hM
 have ae:=zy6 x
 have af:=zw1 x
 generalize numT a (s.drop a)=n at ah hM
 generalize zh7 (a+1) [] (s.drop (a+1))=t at ai hM
 have ret: ∀(y:TR) (τ:St),y=M->wret (some (.tup [.agg [.int .i64 y.1.kind,.int .i64 y.1.place,.str y.1.s,.int .i64 y.1.n],.int .i64 y.2.1,.int .i64 y.2.2])) 0 (fun r σ=>r=trV M/\σ= []) τ:=fun y τ h=>zd1 (t:=y.1) h
 refine iV 0 func134 ntmps134 results134 fun c hc hb=> ?_
 refine zA ?_
 simp[go_sem,ha,hx]
 by_cases q1:za3 x=true
 .rw[if_pos q1]at hM
  rw[q1]at ae
  refine pC ae ?_
  simp[go_sem]
  refine zH (S:=Nat×List UInt8) [0,1,4,7] (fun u=> [.str s,.int .i64 u.1,.ptr 0 0,.str u.2]) (fun _=> [.box [.int .i64 0,.int .i64 0,.str [],.int .i64 0]]) (fun u=>s.length - u.1)
   (fun u=>u.1<=s.length/\u.2.length<=u.1/\((⟨1,0,u.2++((s.drop u.1).takeWhile wrdF).map yL,0⟩,u.1+((s.drop u.1).takeWhile wrdF).length,0):TR)=M) hc hb (a,[]) ⟨by simp only;omega,A4 _,hM⟩ ?_ ?_
  .exact aN 1 (by rfl)
  rintro⟨i,w⟩ ⟨hi,hw,hinv⟩
  simp only at hi hw hinv
  by_cases q:i<s.length
  rotate_left
  .obtain rfl:i=s.length:=om
   rw[D6]at hinv
   simp only[List.takeWhile_nil,Bx,Az,Dp,D1]at hinv
   refine zA ?_
   simp[go_sem]
   exact zd1 (t:=⟨1,0,w,0⟩) hinv
  have ei:=zQ q om
  obtain⟨y,hy⟩:=eX (s[i])
  rw[A8 q,hy]at hinv
  have az:=zy6 y
  have ag:=zw1 y
  have ar:=yA4 y
  have yes:wrdF y=true->((⟨1,0,(w++ [yL y])++((s.drop (i+1)).takeWhile wrdF).map yL,0⟩,i+1+((s.drop (i+1)).takeWhile wrdF).length,0):TR)=M:=fun h=>by
   rw[Dy h]at hinv
   rw[<-hinv,Aj,Cy,Ag,Ds i 1,Ei 1]
   rfl
  have no:wrdF y=false->((⟨1,0,w,0⟩,i,0):TR)=M:=fun h=>by
   rw[List.takeWhile_cons_of_neg (by rw[h];decide)]at hinv
   rw[<-hinv]
   simp
  have au:zR6 [[V.int .u8 ((yL y).toNat:Int)]]:=wS [yL y]
  have av:zp7 [V.int .u8 ((yL y).toNat:Int)]=yL y:=(List.cons.inj (zj4 [yL y])).1
  refine zA ?_
  simp[go_sem,q,hy]
  refine pC az ?_
  refine(A9 (za3 y)).elim (fun p1=> ?_) (fun p1=> ?_)
  .have ab:=yes (by unfold wrdF;rw[p1];rfl)
   simp[go_sem,p1,q,hy]
   refine pC ar ?_
   simp[go_sem]
   refine zI au ?_
   simp[go_sem,av]
   refine zI om ?_
   simp[go_sem,ei]
   refine zG (i+1,w++ [yL y]) ⟨by simp only;omega,⟨by simp only;omega,by simp;omega,ab⟩, ?_⟩
   exact aN 1 (by rfl)
  refine(A9 (wJ y)).elim (fun p2=> ?_) (fun p2=> ?_)
  .have ab:=yes (by unfold wrdF;rw[p1,p2];rfl)
   simp[go_sem,p1,q,hy]
   refine pC ag ?_
   simp[go_sem,p2,q,hy]
   refine pC ar ?_
   simp[go_sem]
   refine zI au ?_
   simp[go_sem,av]
   refine zI om ?_
   simp[go_sem,ei]
   refine zG (i+1,w++ [yL y]) ⟨by simp only;omega,⟨by simp only;omega,by simp;omega,ab⟩, ?_⟩
   exact aN 1 (by rfl)
  .have a1:=no (by unfold wrdF;rw[p1,p2];rfl)
   simp[go_sem,p1,q,hy]
   refine pC ag ?_
   simp[go_sem,p2]
   exact zd1 (t:=⟨1,0,w,0⟩) a1
 have q1:za3 x=false:=by simpa using q1
 rw[if_neg (by rw[q1];decide)]at hM
 rw[q1]at ae
 refine pC ae ?_
 simp[go_sem,ha,hx]
 by_cases q2:wJ x=true
 .rw[if_pos q2]at hM
  rw[q2]at af
  refine pC af ?_
  simp[go_sem]
  refine zJ ah cB (yC rfl) (yE2 _) ?_
  simp[go_sem,trV]
  exact ret _ _ hM
 have q2:wJ x=false:=by simpa using q2
 rw[if_neg (by rw[q2];decide)]at hM
 rw[q2]at af
 refine pC af ?_
 simp[go_sem,ha,hx]
 have aa:=yk7 x 39
 simp only[Cr]at aa
 by_cases q3:x.toNat=39
 .rw[if_pos q3]at hM
  rw[decide_eq_true q3]at aa
  simp[go_sem,aa]
  refine zJ ai cB (yC rfl) (yE2 _) ?_
  simp[go_sem,trV]
  exact ret _ _ hM
 rw[if_neg q3]at hM
 rw[decide_eq_false q3]at aa
 simp[go_sem,aa]
 have aw: ∀(y:UInt8),((y.toNat:Int)==(x.toNat:Int))=(y==x):=fun y=>by
  rw[D4]
  simp only[beq_iff_eq]
  exact⟨fun h=>Ev.1 om,fun h=>by rw[h]⟩
 have ea:IntKind.i64.wrap ((a:Int)+1)=((a+1:Nat):Int):=zQ ha om
 have aj:(s.take (a+1)).drop a= [x]:=by
  rw[Du,A0 ha,hx,List.drop_append,Ab (by simp;omega),Bi,Cj om]
  simp
 by_cases qa:a+1<s.length
 rotate_left
 .have ak:decide ((a:Int)+1<s.length)=false:=decide_eq_false om
  rw[if_neg (fun h=>qa h.1)]at hM
  simp[go_sem,ea,ak]
  refine zH (S:=Nat) [0,1,4,9] (fun k=> [.str s,.int .i64 a,.ptr 0 0,.int .i64 (k:Int)]) (fun _=> [.box [.int .i64 0,.int .i64 0,.str [],.int .i64 0]]) (fun k=>12 - k)
   (fun k=>k<=12/\(if(signsL.drop k).contains x=true then(⟨4,0,[x],0⟩,a+1,0)else(zm6,0,13):TR)=M) hc hb 0 ⟨A4 _,hM⟩ ?_ ?_
  .exact aN 1 (by rfl)
  rintro k ⟨hk,hinv⟩
  by_cases qk:k<12
  rotate_left
  .obtain rfl:k=12:=om
   refine zA ?_
   simp[go_sem]
   exact zd1 (t:=zm6) hinv
  have ad:k<signsL.length:=qk
  have ek:=zQ qk dC
  have al:decide ((k:Int)<12)=true:=decide_eq_true om
  obtain⟨y,hy⟩:=eX (signsL[k])
  rw[A8 ad,hy]at hinv
  have an: [40,41,44,59,42,61,60,62,43,45,47,37][k]?.getD (0:UInt8)=y:=by
   have:signsL[k]?.getD 0=y:=by rw[A0 ad,hy];rfl
   exact this
  refine zA ?_
  simp[go_sem,al]
  refine yS [] 1 sm kR kR ?_
  simp[go_sem]
  refine zI om ?_
  simp[go_sem,ha,hx,an,aw]
  by_cases qe:(y==x)=true
  .have ao:y=x:=by simpa using qe
   rw[if_pos (by simp[ao])]at hinv
   simp[go_sem,qe,ea]
   refine zI om ?_
   simp[go_sem,aj,ea]
   exact zd1 (t:=⟨4,0,[x],0⟩) hinv
  .have qe:(y==x)=false:=by simpa using qe
   have aq:(y::signsL.drop (k+1)).contains x=(signsL.drop (k+1)).contains x:=by
    rw[E2,show(x==y)=false by rw[<-qe];exact D4.2 ⟨fun h=>by simp_all,fun h=>by simp_all⟩]
    rfl
   rw[aq]at hinv
   simp[go_sem,qe,ek]
   exact zG (k+1) ⟨om,⟨om,hinv⟩,aN 1 (by rfl)⟩
 have ak:decide ((a:Int)+1<s.length)=true:=decide_eq_true om
 have ax:IntKind.i64.wrap ((a:Int)+2)=(a:Int)+2:=by rw[i64_id om om]
 have et:((a:Int)+2).toNat=a+2:=om
 have ag:(s.drop a).take 2=(s.take (a+2)).drop a:=by rw[List.drop_take];congr 1;omega
 rw[ag]at hM
 simp[go_sem,ea,ax,et,ak]
 refine zI om ?_
 simp[go_sem]
 generalize (s.take (a+2)).drop a=two at hM
 have yes:(two= [60,61]∨two= [62,61]∨two= [60,62])->((⟨4,0,two,0⟩,a+2,0):TR)=M:=fun h=>by rw[if_pos ⟨qa,h⟩]at hM;exact hM
 have no: ¬(two= [60,61]∨two= [62,61]∨two= [60,62])->(if signsL.contains x=true then(⟨4,0,[x],0⟩,a+1,0)else(zm6,0,13):TR)=M:=fun h=>by rw[if_neg (fun hh=>h hh.2)]at hM;exact hM
 clear hM
 by_cases qt:two= [60,61]∨two= [62,61]∨two= [60,62]
 .have hM:=yes qt
  rcases qt with rfl|rfl|rfl
  all_goals simp[go_sem,ax]
  all_goals exact zd1 (t:=⟨4,0,_,0⟩) hM
 .have hM:=no qt
  have p1:(two== [60,61])=false:=by simpa using fun h=>qt (.inl h)
  have p2:(two== [62,61])=false:=by simpa using fun h=>qt (.inr (.inl h))
  have p3:(two== [60,62])=false:=by simpa using fun h=>qt (.inr (.inr h))
  clear yes no qt
  simp[go_sem,p1,p2,p3]
  refine zH (S:=Nat) [0,1,4,9] (fun k=> [.str s,.int .i64 a,.ptr 0 0,.int .i64 (k:Int)]) (fun _=> [.box [.int .i64 0,.int .i64 0,.str [],.int .i64 0]]) (fun k=>12 - k)
   (fun k=>k<=12/\(if(signsL.drop k).contains x=true then(⟨4,0,[x],0⟩,a+1,0)else(zm6,0,13):TR)=M) hc hb 0 ⟨A4 _,hM⟩ ?_ ?_
  .exact aN 1 (by rfl)
  rintro k ⟨hk,hinv⟩
  by_cases qk:k<12
  rotate_left
  .obtain rfl:k=12:=om
   refine zA ?_
   simp[go_sem]
   exact zd1 (t:=zm6) hinv
  have ad:k<signsL.length:=qk
  have ek:=zQ qk dC
  have al:decide ((k:Int)<12)=true:=decide_eq_true om
  obtain⟨y,hy⟩:=eX (signsL[k])
  rw[A8 ad,hy]at hinv
  have an: [40,41,44,59,42,61,60,62,43,45,47,37][k]?.getD (0:UInt8)=y:=by
   have:signsL[k]?.getD 0=y:=by rw[A0 ad,hy];rfl
   exact this
  refine zA ?_
  simp[go_sem,al]
  refine yS [] 1 sm kR kR ?_
  simp[go_sem]
  refine zI om ?_
  simp[go_sem,ha,hx,an,aw]
  by_cases qe:(y==x)=true
  .have ao:y=x:=by simpa using qe
   rw[if_pos (by simp[ao])]at hinv
   simp[go_sem,qe,ea]
   refine zI om ?_
   simp[go_sem,aj,ea]
   exact zd1 (t:=⟨4,0,[x],0⟩) hinv
  .have qe:(y==x)=false:=by simpa using qe
   have aq:(y::signsL.drop (k+1)).contains x=(signsL.drop (k+1)).contains x:=by
    rw[E2,show(x==y)=false by rw[<-qe];exact D4.2 ⟨fun h=>by simp_all,fun h=>by simp_all⟩]
    rfl
   rw[aq]at hinv
   simp[go_sem,qe,ek]
   exact zG (k+1) ⟨om,⟨om,hinv⟩,aN 1 (by rfl)⟩
def lexL (s:List UInt8):Nat->Nat->List GToken->List GToken×Int
 |0,_,_=>([],0)
 |n+1,a,l=>
  if a<s.length then
   (if zO0 (s.getD a 0)=true then lexL s n (a+1) l
   else if(oneF s a).2.2=0 then lexL s n (oneF s a).2.1 (l++ [{(oneF s a).1 with place:=a}])else([],(oneF s a).2.2))
  else(l++ [⟨0,s.length,[],0⟩],0)
def lexF (s:List UInt8):List GToken×Int:=if 2000<s.length then([],3)else lexL s (s.length+1) 0 []
theorem yN5: ∀(l:List UInt8) (v r:Int),0<=v->v<=9223372036854775807->numL v l=some r->0<=r/\r<=9223372036854775807
 | [],v,r,h0,h1,h=>by rw[numL]at h;cases h;exact⟨h0,h1⟩
 |c::l,v,r,h0,h1,h=>by
  rw[numL]at h
  split at h
  .rename_i hd
   have hr:=ye7 hd
   split at h
   .cases h
   .exact yN5 l _ r om om h
  .cases h;exact⟨h0,h1⟩
theorem yk6: ∀(k:Nat) (l:List UInt8),l.length<=k-> ∀(i:Nat) (w:List UInt8),(zh7 i w l).2.2=0->i<(zh7 i w l).2.1/\(zh7 i w l).2.1<=i+l.length/\(zh7 i w l).1.s.length<=64/\(zh7 i w l).1.n=0
 |0,l,hk,i,w,h=>by
  have:l= []:=B7 om
  subst this
  simp[zh7]at h
 |k+1,l,hk,i,w,h=>by
  match l,hk with
  | [],_=>simp[zh7]at h
  | [c],_=>
   rw[zh7]at h⊢
   split at h
   .rename_i hc
    rw[if_pos hc]
    unfold yw0 at h⊢
    split at h
    .simp at h
    .rename_i aa
     rw[if_neg aa]
     exact⟨sm,sm,by simp only;omega,rfl⟩
   .simp at h
  |c::c2::l,hk=>
   rw[zh7]at h⊢
   split at h
   .rename_i hc
    rw[if_pos hc]
    split at h
    .rename_i ab
     rw[if_pos ab]
     have:=yk6 k l (by simp at hk;omega) _ _ h
     simp only[Ag]
     omega
    .rename_i ab
     rw[if_neg ab]
     unfold yw0 at h⊢
     split at h
     .simp at h
     .rename_i aa
      rw[if_neg aa]
      exact⟨sm,sm,by simp only;omega,rfl⟩
   .rename_i hc
    rw[if_neg hc]
    have:=yk6 k (c2::l) (by simp at hk⊢;omega) _ _ h
    simp only[Ag]at this⊢
    omega
theorem yZ9 {p:UInt8->Bool}: ∀l:List UInt8,(l.takeWhile p).length<=l.length
 | []=>A5 _
 |c::l=>by
  rw[List.takeWhile_cons]
  have:=yZ9 (p:=p) l
  split<;>simp only[Ag,Dp]<;>omega
theorem xh0 {s:List UInt8} {a:Nat} (ha:a<s.length) (h:(oneF s a).2.2=0):a<(oneF s a).2.1/\(oneF s a).2.1<=s.length/\(oneF s a).1.s.length<=s.length+64/\0<=(oneF s a).1.n/\(oneF s a).1.n<=9223372036854775807:=by
 have aa:s.getD a 0=s[a]:=by rw[A7,A0 ha];rfl
 have ab:=A8 ha
 unfold oneF at h⊢
 rw[aa,ab]at h⊢
 obtain⟨x,hx⟩:=eX (s[a])
 rw[hx]at h⊢
 have hl:(s.drop (a+1)).length=s.length - (a+1):=De
 generalize s.drop (a+1)=l at h hl⊢
 split at h
 .rename_i q1
  rw[if_pos q1]
  have hw:wrdF x=true:=by unfold wrdF;rw[q1];rfl
  have:=yZ9 (p:=wrdF) l
  rw[Dy hw]
  simp only[Ag,B1]
  omega
 rename_i q1
 rw[if_neg q1]
 split at h
 .rename_i q2
  rw[if_pos q2]
  unfold numT at h⊢
  split at h
  .simp at h
  rename_i r hr
  have ad:=yN5 _ 0 r (Int.le_refl _) dC hr
  split at h
  .simp at h
  rename_i hle
  rw[if_neg hle,Dy q2]
  have:=yZ9 (p:=wJ) l
  simp only[Ag,Dp]
  omega
 rename_i q2
 rw[if_neg q2]
 split at h
 .rename_i q3
  rw[if_pos q3]
  have:=yk6 l.length l (A5 _) _ _ h
  omega
 rename_i q3
 rw[if_neg q3]
 split at h
 .rename_i q4
  rw[if_pos q4]
  simp only[Bi]
  omega
 rename_i q4
 rw[if_neg q4]
 split at h
 .rename_i q5
  rw[if_pos q5]
  simp only[Bn]
  omega
 .simp at h
def xa9 (t:GToken):Prop:=t.s.length<=3000/\0<=t.n/\t.n<=9223372036854775807
theorem yB4 {s:List UInt8} (hs:s.length<=2000): ∀(n a:Nat) (l:List GToken),s.length<n+a->a<=s.length->l.length<=a->(∀t∈l,xa9 t)->(lexL s n a l).2=0->
  ∃l',(lexL s n a l).1=l'++ [⟨0,s.length,[],0⟩]/\l'.length<=s.length/\ ∀t∈l',xa9 t
 |0,a,l,hf,ha,_,_,_=>by omega
 |n+1,a,l,hf,ha,hl,ht,h=>by
  unfold lexL at h⊢
  by_cases q:a<s.length
  rotate_left
  .rw[if_neg q]
   exact⟨l,rfl,om,ht⟩
  rw[if_pos q]at h⊢
  by_cases q2:zO0 (s.getD a 0)=true
  .rw[if_pos q2]at h⊢
   exact yB4 hs n (a+1) l om om om ht h
  rw[if_neg q2]at h⊢
  by_cases q3:(oneF s a).2.2=0
  .rw[if_pos q3]at h⊢
   have ho:=xh0 q q3
   refine yB4 hs n _ _ om om (by simp;omega) (fun t aa=> ?_) h
   rw[Av]at aa
   rcases aa with aa|aa
   .exact ht t aa
   .simp only[Ae,Be,or_false]at aa
    subst aa
    unfold xa9
    simp only
    omega
  .rw[if_neg q3]at h
   exact absurd h q3
theorem xe9 {s:List UInt8} (h:(lexF s).2=0):s.length<=2000/\LIn (lexF s).1/\LGood (lexF s).1/\1<=(lexF s).1.length/\(lexF s).1.length<=2001:=by
 unfold lexF at h⊢
 split at h
 .simp at h
 rename_i hl
 rw[if_neg hl]
 obtain⟨l',h1,h2,h3⟩:=yB4 om _ _ _ om (A4 _) (A5 _) (fun t ht=>by cases ht) h
 have h4: ∀t∈l'++ [⟨0,s.length,[],0⟩],xa9 t:=fun t ht=>by
  rw[Av]at ht
  rcases ht with ht|ht
  .exact h3 t ht
  .simp only[Ae,Be,or_false]at ht
   subst ht
   exact⟨A4 _,Int.le_refl _,sm⟩
 rw[h1]
 refine⟨om,⟨by simp;omega,fun i hi=> ?_,fun t ht=> ?_⟩,⟨fun t ht=> ?_,fun t ht=>(h4 t ht).2⟩,sm,by simp;omega⟩
 .have:i=l'.length:=by simp at hi;omega
  subst this
  rw[A7,Am (A5 _),Nat.sub_self]
  rfl
 .have:=(h4 t ht).1;unfold maxLen;omega
 .have:=(h4 t ht).1;omega
def lexV (x:List GToken×Int):V:= .tup [.sl .ro (x.1.map GToken.row),.int .i64 x.2]
theorem yF2 {g:Tag} {l:List GToken} {e:Int} {M:List GToken×Int} (h:(l,e)=M):wret (some (.tup [.sl g (l.map GToken.row),.int .i64 e])) 0 (fun r σ=>r=lexV M/\σ= []) τ:=by
 subst h
 exact wG (r:= .tup [.sl .ro (l.map GToken.row),.int .i64 e]) (wD ⟨zx0,zb8 rfl,tV⟩) ⟨rfl,rfl⟩
theorem we8 (s:List UInt8) (hl:s.length<=maxLen):Pure prog 70 [.str s] (lexV (lexF s)):=by
 generalize hM:lexF s=M
 unfold lexF at hM
 unfold maxLen at hl
 refine iV 0 func70 ntmps70 results70 fun c hc hb=> ?_
 refine zA ?_
 simp[go_sem]
 by_cases q0:2000<s.length
 .rw[if_pos q0]at hM
  have ad:decide ((2000:Int)<s.length)=true:=decide_eq_true om
  simp[go_sem,ad]
  exact yF2 (l:= []) hM
 rw[if_neg q0]at hM
 have ad:decide ((2000:Int)<s.length)=false:=decide_eq_false om
 simp[go_sem,ad]
 refine zi6 4 4 dC sg ?_
 refine zH (S:=Nat×List GToken) [0,4,5] (fun u=> [.str s,.sl (.app 0) (u.2.map GToken.row),.int .i64 u.1]) (fun u=> [.app u.2.length 4]) (fun u=>s.length - u.1)
  (fun u=>u.1<=s.length/\u.2.length<=u.1/\ ∃n,s.length<n+u.1/\lexL s n u.1 u.2=M) hc hb (0,[]) ⟨A4 _,A5 _,s.length+1,by simp only;omega,hM⟩ ?_ ?_
 .exact aN 1 (by rfl)
 rintro⟨a,l⟩ ⟨ha,af,n,hn,hinv⟩
 simp only at ha af hn hinv
 obtain⟨n,rfl⟩: ∃m,n=m+1:=⟨n - 1,om⟩
 rw[lexL]at hinv
 by_cases q:a<s.length
 rotate_left
 .rw[if_neg q]at hinv
  refine zA ?_
  simp[go_sem,q]
  refine zI ⟨om,zV rfl⟩ ?_
  simp[go_sem]
  have hr:=fun g τ=>yF2 (g:=g) (τ:=τ) hinv
  simp at hr
  exact hr _ _
 rw[if_pos q]at hinv
 have ea:=zQ q om
 obtain⟨x,hx⟩:=eX (s[a])
 have ag:s.getD a 0=x:=by rw[A7,A0 q,hx];rfl
 rw[ag]at hinv
 have aa:=yX6 x
 by_cases q2:zO0 x=true
 .rw[if_pos q2]at hinv
  rw[q2]at aa
  refine zA ?_
  simp[go_sem,q,hx]
  refine pC aa ?_
  simp[go_sem,ea]
  exact zG (a+1,l) ⟨by simp only;omega,⟨by simp only;omega,by simp only;omega,n,by simp only;omega,hinv⟩,aN 1 (by rfl)⟩
 have q2:zO0 x=false:=by simpa using q2
 rw[if_neg (by rw[q2];decide)]at hinv
 rw[q2]at aa
 have ab:=xF3 s (by unfold maxLen;omega) a q
 have hok:=xh0 q
 generalize oneF s a=o at ab hok hinv
 by_cases q3:o.2.2=0
 .rw[if_pos q3]at hinv
  have hok:=hok q3
  have ae:(o.2.2 !=0)=false:=by simpa using q3
  refine zA ?_
  simp[go_sem,q,hx]
  refine pC aa ?_
  simp[go_sem]
  refine zJ ab cB (yC rfl) (yE2 _) ?_
  simp[go_sem,trV,ae]
  refine zI ⟨om,zV rfl⟩ ?_
  simp[go_sem]
  refine zG (o.2.1,l++ [{o.1 with place:=a}]) ⟨by simp only;omega,⟨by simp only;omega,by simp;omega,n,by simp only;omega,hinv⟩, ?_⟩
  exact aN 1 (by rfl)
 .rw[if_neg q3]at hinv
  have ae:(o.2.2 !=0)=true:=by simpa using q3
  refine zA ?_
  simp[go_sem,q,hx]
  refine pC aa ?_
  simp[go_sem]
  refine zJ ab cB (yC rfl) (yE2 _) ?_
  simp[go_sem,trV,ae]
  exact yF2 (l:= []) hinv
variable {L:List GToken}
def yd7:List UInt8:= [83,69,76,69,67,84]
def yd5:List UInt8:= [73,78,83,69,82,84]
def yd8:List UInt8:= [85,80,68,65,84,69]
def zF4:List UInt8:= [68,69,76,69,84,69]
def zk7 (L:List GToken) (s:RS):GStmt×RS:=
 if isT L yd7 s=true then zk6 L (zM s)
 else if isT L yd5 s=true then zj9 L (zM s)
 else if isT L yd8 s=true then zk8 L (zM s)
 else
  let n:=yY L (yB L zC4 (yB L zF4 s))
  (⟨4,n.1,[],[],[],(whE L n.2).1,(whE L n.2).2,[],false,0⟩,whS L n.2)
theorem yY7 (hL:LIn L) {s:RS} (h:RIn L s) (ho:s.opn=0):UI L s (zk6 L s).2:=by
 unfold zk6
 have h1:=yg6 hL h ho
 have h2:=h1.trans (yI hL zC4 h1.rin)
 have h3:=h2.trans (zc9 hL h2.rin)
 have h4:=h3.trans (yw7 hL h3.rin (h3.opn.trans ho))
 have h5:=h4.trans (yi6 hL h4.rin)
 exact h5.trans (yL6 hL h5.rin)
theorem yD8 (hL:LIn L) {s:RS} (h:RIn L s) (ho:s.opn=0):UI L s (zk7 L s).2:=by
 unfold zk7
 split
 .have h1:=yW hL h ‹_›
  exact h1.trans (yY7 hL h1.rin (h1.opn.trans ho))
 split
 .have h1:=yW hL h ‹_›
  exact h1.trans (yV1 hL h1.rin (h1.opn.trans ho))
 split
 .have h1:=yW hL h ‹_›
  exact h1.trans (xa1 hL h1.rin (h1.opn.trans ho))
 .have h1:=yI hL zF4 h
  have h2:=h1.trans (yI hL zC4 h1.rin)
  have h3:=h2.trans (zc9 hL h2.rin)
  exact h3.trans (yw7 hL h3.rin (h3.opn.trans ho))
theorem wd6 (L:List GToken) (hL:LIn L) (s:RS) (hs:RIn L s) (ho:s.opn=0):VCalls prog 73 [.ptr 0 0] [rB L s] (RT L (zk7 L s)):=by
 generalize hM:zk7 L s=M
 unfold zk7 at hM
 have ret: ∀(x:GStmt×RS) (τ:St),x=M->wret (some (.agg x.1.row)) 1 (RT L M) (rB L x.2::τ):=fun x τ h=>zg7 (g1:= .ro) (g2:= .ro) (g3:= .ro) (g4:= .ro) (st:=x.1) h
 refine iW 1 func73 ntmps73 results73 fun c hc hb=>zL ?_
 simp[go_sem]
 by_cases q1:isT L yd7 s=true
 .rw[if_pos q1]at hM
  have aa:=xr0 L hL (zM s) (hs.next hL q1) ho
  generalize zk6 L (zM s)=x at aa hM
  refine pR (xK L hL s hs _ q1) ?_
  simp[go_sem]
  refine yl2 aa cB rd_1 (yi0 _) ?_
  simp[go_sem]
  exact ret x _ hM
 have q1:isT L yd7 s=false:=by simpa using q1
 rw[if_neg (by rw[q1];decide)]at hM
 refine pR (wK L hL s hs _ q1) ?_
 simp[go_sem]
 by_cases q2:isT L yd5 s=true
 .rw[if_pos q2]at hM
  have aa:=xm9 L hL (zM s) (hs.next hL q2) ho
  generalize zj9 L (zM s)=x at aa hM
  refine pR (xK L hL s hs _ q2) ?_
  simp[go_sem]
  refine yl2 aa cB rd_1 (yi0 _) ?_
  simp[go_sem]
  exact ret x _ hM
 have q2:isT L yd5 s=false:=by simpa using q2
 rw[if_neg (by rw[q2];decide)]at hM
 refine pR (wK L hL s hs _ q2) ?_
 simp[go_sem]
 by_cases q3:isT L yd8 s=true
 .rw[if_pos q3]at hM
  have aa:=xs3 L hL (zM s) (hs.next hL q3) ho
  generalize zk8 L (zM s)=x at aa hM
  refine pR (xK L hL s hs _ q3) ?_
  simp[go_sem]
  refine yl2 aa cB rd_1 (yi0 _) ?_
  simp[go_sem]
  exact ret x _ hM
 have q3:isT L yd8 s=false:=by simpa using q3
 rw[if_neg (by rw[q3];decide)]at hM
 refine pR (wK L hL s hs _ q3) ?_
 simp[go_sem]
 have af:=zd6 L hL s hs zF4
 have ab:=yI hL zF4 hs
 generalize yB L zF4 s=s1 at af ab hM
 have ag:=zd6 L hL s1 ab.rin zC4
 have ad:=ab.trans (yI hL zC4 ab.rin)
 generalize yB L zC4 s1=s2 at ag ad hM
 have hn:=zO8 L hL s2 ad.rin
 have ae:=ad.trans (zc9 hL ad.rin)
 generalize yY L s2=n at hn ae hM
 obtain⟨nm,s3⟩:=n
 simp only at hn ae hM
 obtain⟨gw,hw⟩:=yl6 L hL s3 ae.rin (ae.opn.trans ho) [zSt,.box [.int .i64 4,.str nm,.sl .full [],.sl .full [],.sl .full [],.bool false,.int .i64 0,.str [],.int .i64 0,.int .i64 0,.str [],.sl .full [],.str [],.bool false,.int .i64 0]] 1 _ _ _ _ _ _ _ _ rfl
 generalize whS L s3=s4 at hw hM
 generalize whE L s3=w at hw hM
 refine pR af ?_
 simp[go_sem]
 refine pR ag ?_
 simp[go_sem]
 refine pR hn ?_
 simp[go_sem]
 refine zu2 hw cB ?_
 rintro r σ ⟨rfl,rfl⟩ _
 simp[go_sem]
 exact zg7 (st:=⟨4,nm,[],[],[],w.1,w.2,[],false,0⟩) hM
theorem wN {P:Program} {c:Ctx} {f:FuncId} {caps args args':List V} {o:Ob} {L:List GToken} {s:RS} {v:V} {KV:V->St->Prop} (hc:VCalls P f args' [rB L s] (fun r σ=>r=v/\σ= [rB L s'])) (hb:wB P f=true)
  (aa:All2 (argS (ren [1] (τ.length+2))) args' (args++caps)) (hn:noS v=true) (hk:KV v (o::rB L s'::τ)):wVC P c (.fn f caps) args (o::rB L s::τ) KV fx:=by
 refine zl9 1 hc hb rfl (zN7 _ _ _) aa (fun r σ h=>⟨_,h.2,zN7 _ _ _⟩) ?_
 rintro r o2 ⟨rfl,h2⟩
 obtain rfl:o2=rB L s':=by simpa using h2
 rw[zy9 hn]
 exact hk
theorem xk5 {P:Program} {c:Ctx} {n:Nat} {f:FuncId} {caps args args':List V} {o:Ob} {L:List GToken} {s:RS} {v:V} {KV:V->St->Prop} (hc:VCalls P f args' [rB L s] (fun r σ=>r=v/\σ= [rB L s'])) (hb:wB P f=true)
  (aa:All2 (argS (ren [1] (τ.length+2))) args' (args++caps)) (hn:noS v=true) (hk:KV v (o::rB L s'::τ)):wVD P c ⟨2,n,[],none⟩ 3 (.fn f caps) args (o::rB L s::τ) KV fx:=by
 have ab: ∀(N:Nat) (s:RS),yF (ren [1] N) (rB L s)=rB L s:=fun N s=>xT (n:=0) (fun _ h=>absurd h (Bc _)) (zN7 _ _ _)
 have e:xD [1] (o::rB L s::τ) [rB L s']=o::rB L s'::τ:=by
  simp only[xD,Bn,C8,Dt,Dm,Bg,Aj,Bx,mset,Az,ab]
  rfl
 refine yS4 hc hb [1] sm rfl (fun i j q h1 h2=> ?_) aa (.inr ?_) ?_
 .match i with
  |0=>simp at h1 h2;subst h1;subst h2;rw[ab];rfl
  |i+1=>simp at h1
 .rw[e];exact Kp.of_set (σ:=o::rB L s::τ) (id:=1) (o:=rB L s') (.inl sm)
 .rw[e,zy9 hn];exact hk
theorem zb9 {N:Nat} {l l':List V} (h:All2 (argS (ren [1] N)) l l'):All2 (argS (ren [1] N)) (.ptr 0 0::l) (.ptr 1 0::l'):=⟨.inl rfl,h⟩
theorem yi9 {N:Nat}:All2 (argS (ren [1] N)) [.ptr 0 0] [.ptr 1 0]:=zb9 trivial
variable {L:List GToken}
def wAS:List UInt8:= [65,83]
def wOF:List UInt8:= [79,70]
def zU0:List UInt8:= [83,89,83,84,69,77]
def yR9:List UInt8:= [84,73,77,69]
def xa2:List UInt8:= [66,79,85,78,68]
def yZ0:List (List UInt8):= [yd7,yd5,yd8,zF4]
def beg4 (L:List GToken) (s:RS):Bool:= !(anyF L s yZ0).isEmpty
def zs2 (L:List GToken):Nat->List GStmt->RS->List GStmt×RS
 |0,l,s=>(l,s)
 |n+1,l,s=>
  if s.err=0 then
   if(zf1 L l.length 8 (beg4 L s) s).err=0 then
    if isT L [59] (zk7 L s).2=true then
     if isT L wAS (zM (zk7 L s).2)=true∨(tokF L (zM (zk7 L s).2)).kind=0 then(l++ [(zk7 L s).1],zM (zk7 L s).2)
     else zs2 L n (l++ [(zk7 L s).1]) (zM (zk7 L s).2)
    else(l++ [(zk7 L s).1],(zk7 L s).2)
   else(l,zf1 L l.length 8 (beg4 L s) s)
  else(l,s)
def asS (L:List GToken) (s:RS):RS:=yB L yR9 (yB L zU0 (yB L wOF (zM s)))
def asF (L:List GToken) (s:RS):(Int×Int)×RS:=
 if isT L wAS s=true then
  if isT L xa2 (asS L s)=true then((2,(numF L (zM (asS L s))).1),(numF L (zM (asS L s))).2)
  else((1,(numF L (asS L s)).1),(numF L (asS L s)).2)
 else((0,0),s)
def endF (L:List GToken) (s:RS):RS:=if s.err=0/\(tokF L s).kind≠0 then za1 13 (tokF L s).place s else s
def rs0:RS:=⟨0,0,0,0⟩
def lot0:GLot:=⟨0,0,[]⟩
def xh7 (L:List GToken):GLot×Int×Int:=
 let x:=zs2 L 9 [] rs0
 let a:=asF L x.2
 let e:=endF L a.2
 if e.err=0 then(⟨a.1.1,a.1.2,x.1⟩,0,0)else(lot0,e.place,e.err)
def zl6 (s:List UInt8):GLot×Int×Int:=if(lexF s).2=0 then xh7 (lexF s).1 else(lot0,0,(lexF s).2)
theorem yv7 (hL:LIn L): ∀(n:Nat) (l:List GStmt) (s:RS),RIn L s->s.opn=0->UI L s (zs2 L n l s).2
 |0,_,_,h,_=>UI.refl h
 |n+1,l,s,h,ho=>by
  unfold zs2
  split
  .split
   .have h1:=yD8 hL h ho
    split
    .have h2:=h1.trans (yW hL h1.rin ‹_›)
     split
     .exact h2
     .exact h2.trans (yv7 hL n _ _ h2.rin (h2.opn.trans ho))
    .exact h1
   .exact zn3 h
  .exact UI.refl h
theorem xu2 (hL:LIn L) {s:RS} (h:RIn L s) (hi:isT L wAS s=true):UI L s (asS L s):=by
 unfold asS
 have h1:=yW hL h hi
 have h2:=h1.trans (yI hL wOF h1.rin)
 have h3:=h2.trans (yI hL zU0 h2.rin)
 exact h3.trans (yI hL yR9 h3.rin)
theorem xV9 (hL:LIn L) {s:RS} (h:RIn L s):UI L s (asF L s).2:=by
 unfold asF
 split
 .rename_i hi
  have h1:=xu2 hL h hi
  split
  .have h2:=h1.trans (yW hL h1.rin ‹_›)
   exact h2.trans (yW6 hL h2.rin)
  .exact h1.trans (yW6 hL h1.rin)
 .exact UI.refl h
def parV (x:GLot×Int×Int):V:= .tup [.agg x.1.row,.int .i64 x.2.1,.int .i64 x.2.2]
theorem ym0 {g:Tag} {l:GLot} {p e:Int} {M:GLot×Int×Int} (h:(l,p,e)=M):wret (some (.tup [.agg [.int .i64 l.mode,.int .i64 l.n,.sl g (l.stmts.map GStmt.row)],.int .i64 p,.int .i64 e])) 0 (fun r σ=>r=parV M/\σ= []) τ:=by
 subst h
 exact wG (r:= .tup [.agg [.int .i64 l.mode,.int .i64 l.n,.sl .ro (l.stmts.map GStmt.row)],.int .i64 p,.int .i64 e]) (wD ⟨zc7 ⟨zT rfl,zT rfl,yJ,tV⟩,zb8 rfl,zb8 rfl,tV⟩) ⟨rfl,rfl⟩
def lotB (m n:Int) (l:List GStmt):Ob:= .box [.int .i64 m,.int .i64 n,.sl (.app 3) (l.map GStmt.row)]
def lotZ:Ob:= .box [.int .i64 0,.int .i64 0,.sl .full []]
theorem xL3 (s:List UInt8) (hl:s.length<=maxLen):Pure prog 36 [.str s] (parV (zl6 s)):=by
 generalize hM:zl6 s=M
 unfold zl6 at hM
 have ah:=we8 s hl
 have hok:=xe9 (s:=s)
 generalize lexF s=x at ah hok hM
 obtain⟨L,e⟩:=x
 simp only at hok hM
 refine iV 0 func36 ntmps36 results36 fun c hc hb=> ?_
 by_cases qe:e=0
 rotate_left
 .rw[if_neg qe]at hM
  have au:(e !=0)=true:=by simpa using qe
  refine zA ?_
  simp[go_sem]
  refine pC ah ?_
  simp[go_sem,lexV,au]
  exact ym0 (l:=lot0) hM
 obtain⟨_,hL,hG,aD,aE⟩:=hok qe
 rw[if_pos qe]at hM
 have au:(e !=0)=false:=by simpa using qe
 have h0:RIn L rs0:=⟨by show 0<_;omega,by show(0:Int)<=0/\(0:Int)<=100000;omega⟩
 unfold xh7 at hM
 obtain⟨X,hX⟩:=eX (zs2 L 9 [] rs0)
 rw[hX]at hM
 refine zO (zA ?_)
 simp[go_sem]
 refine zO (zA ?_)
 simp[go_sem]
 refine pC ah ?_
 simp[go_sem,lexV]
 refine zO (zA ?_)
 simp[go_sem,au]
 refine zO (zA ?_)
 simp[go_sem]
 refine zO (zA ?_)
 simp[go_sem]
 refine zK0 2 2 15 _ dC rfl rfl ?_
 simp only[Cg,Dc]
 refine ze9 (S:=List GStmt×RS) [2,7,8] (fun _=> [.ptr 0 0,.ptr 1 0,.ptr 2 0]) (fun u=> [lotZ,rB L u.2,lotB 0 0 u.1,.app u.1.length 15]) (fun u=>RIn L u.2/\u.2.opn=0/\u=X) hc hb ?_ ?_
 .refine za4 ?_
  refine zH (S:=List GStmt×RS) [2,7,8] (fun _=> [.ptr 0 0,.ptr 1 0,.ptr 2 0]) (fun u=> [lotZ,rB L u.2,lotB 0 0 u.1,.app u.1.length 15]) (fun u=>9 - u.1.length) (fun u=>u.1.length<=8/\RIn L u.2/\u.2.opn=0/\zs2 L (9 - u.1.length) u.1 u.2=X) hc hb ([],rs0) ⟨A4 _,h0,rfl,hX⟩ ?_ ?_
  .exact at_n 4 (by simp[go_sem];exact⟨rfl,rfl,rfl⟩) rfl (by simp[rB,lotZ,lotB,ltOb,ltC,ltK]) dC (zF sg rfl)
  rintro⟨l,s1⟩ ⟨aB,hs,ho,hinv⟩
  simp only at aB hs ho hinv
  rw[show 9 - l.length=(8 - l.length)+1 by omega,zs2]at hinv
  by_cases q1:s1.err=0
  rotate_left
  .rw[if_neg q1]at hinv
   have ab:(s1.err==0)=false:=by simpa using q1
   refine zA ?_
   simp[go_sem,rB,ab]
   exact zG (l,s1) ⟨⟨hs,ho,hinv⟩,aN 4 (by simp[lotZ,lotB,ltOb,ltC,ltK])⟩
  have ab:(s1.err==0)=true:=by simpa using q1
  rw[if_pos q1]at hinv
  have ae:=zY1 L hL s1 hs yZ0 dC
  have aa:=yh7 L hL s1 hs l.length 8 (beg4 L s1)
  have ao:=zf6 (L:=L) (n:=l.length) (most:=8) (b:=beg4 L s1) (s:=s1)
  have ai:=zn3 (L:=L) (n:=l.length) (most:=8) (b:=beg4 L s1) hs
  unfold beg4 at aa ao ai hinv
  generalize anyF L s1 yZ0=an at ae aa ao ai hinv
  generalize zf1 L l.length 8 (!an.isEmpty) s1=m at aa ao ai hinv
  by_cases q2:m.err=0
  rotate_left
  .rw[if_neg q2]at hinv
   have ad:(m.err==0)=false:=by simpa using q2
   rw[ad]at aa
   refine zA ?_
   simp[go_sem,rB,ab]
   refine wN ae cB (zb9 ⟨zK,tV⟩) rfl ?_
   simp[go_sem,lotB]
   refine wN aa cB (zb9 ⟨zC rfl,zC rfl,zC rfl,tV⟩) rfl ?_
   simp[go_sem,rB]
   exact zG (l,m) ⟨⟨ai.rin,ai.opn.trans ho,hinv⟩,aN 4 (by simp[lotZ,ltOb,ltC,ltK])⟩
  have ad:(m.err==0)=true:=by simpa using q2
  rw[ad]at aa
  obtain⟨_,aF,rfl⟩:=ao q2
  rw[if_pos q2]at hinv
  have av:=wd6 L hL m hs ho
  have aq:=yD8 hL hs ho
  generalize zk7 L m=x at av aq hinv
  obtain⟨st,s2⟩:=x
  simp only at aq hinv
  have af:=aq.rin
  have ar:=aq.opn.trans ho
  by_cases q3:isT L [59] s2=true
  rotate_left
  .have q3:isT L [59] s2=false:=by simpa using q3
   rw[if_neg (by rw[q3];decide)]at hinv
   refine zA ?_
   simp[go_sem,rB,ab]
   refine wN ae cB (zb9 ⟨zK,tV⟩) rfl ?_
   simp[go_sem,lotB]
   refine wN aa cB (zb9 ⟨zC rfl,zC rfl,zC rfl,tV⟩) rfl ?_
   simp[go_sem]
   refine za5 [(3,3)] 2 4 sm kR kR ?_
   simp[go_sem]
   refine xk5 av cB yi9 (yi0 _) ?_
   simp[go_sem]
   refine zI ⟨om,zV rfl⟩ ?_
   simp[go_sem]
   refine wN (wK L hL s2 af _ q3) cB (zb9 ⟨zC rfl,tV⟩) rfl ?_
   simp[go_sem,rB]
   exact zG (l++ [st],s2) ⟨⟨af,ar,hinv⟩,aN 4 (by simp[lotZ,ltOb,ltC,ltK])⟩
  rw[if_pos q3]at hinv
  have aj:=af.next hL q3
  have a1:=is_w L hL (zM s2) aj wAS
  have ag:=zr6 L hL (zM s2) aj
  generalize isT L wAS (zM s2)=ba at a1 hinv
  generalize tokF L (zM s2)=tk at ag hinv
  refine zA ?_
  simp[go_sem,rB,ab]
  refine wN ae cB (zb9 ⟨zK,tV⟩) rfl ?_
  simp[go_sem,lotB]
  refine wN aa cB (zb9 ⟨zC rfl,zC rfl,zC rfl,tV⟩) rfl ?_
  simp[go_sem]
  refine za5 [(3,3)] 2 4 sm kR kR ?_
  simp[go_sem]
  refine xk5 av cB yi9 (yi0 _) ?_
  simp[go_sem]
  refine zI ⟨om,zV rfl⟩ ?_
  simp[go_sem]
  refine wN (xK L hL s2 af _ q3) cB (zb9 ⟨zC rfl,tV⟩) rfl ?_
  simp[go_sem]
  refine wN a1 cB (zb9 ⟨zC rfl,tV⟩) rfl ?_
  refine(A9 ba).elim (fun q4=> ?_) (fun q4=> ?_)
  .rw[if_pos (.inl q4)]at hinv
   simp[go_sem,q4,rB]
   exact zG (l++ [st],zM s2) ⟨⟨aj,ar,hinv⟩,aN 4 (by simp[lotZ,ltOb,ltC,ltK])⟩
  simp[go_sem,q4]
  refine wN ag cB yi9 rfl ?_
  by_cases q5:tk.kind=0
  .have aw:(tk.kind==0)=true:=by simpa using q5
   rw[if_pos (.inr q5)]at hinv
   simp[go_sem,aw,rB]
   exact zG (l++ [st],zM s2) ⟨⟨aj,ar,hinv⟩,aN 4 (by simp[lotZ,ltOb,ltC,ltK])⟩
  .have aw:(tk.kind==0)=false:=by simpa using q5
   rw[if_neg (by rw[q4];simp[q5])]at hinv
   simp[go_sem,aw,rB]
   refine zG (l++ [st],zM s2) ⟨by simp;omega,⟨by simp;omega,aj,ar,by simp only[Ak,Bn,show 9 - (l.length+1)=8 - l.length by omega];exact hinv⟩,aN 4 (by simp[lotZ,ltOb,ltC,ltK])⟩
 .rintro⟨l,s1⟩ ⟨hs,ho,aC⟩
  simp only at hs ho
  rw[<-aC]at hM
  simp only at hM
  have ax:=xV9 hL hs
  refine ze9 (S:=(Int×Int)×RS) [2,7,8] (fun _=> [.ptr 0 0,.ptr 1 0,.ptr 2 0]) (fun u=> [lotZ,rB L u.2,lotB u.1.1 u.1.2 l,.app l.length 15]) (fun u=>u=asF L s1) hc hb ?_ ?_
  .obtain⟨A,hA⟩:=eX (asF L s1)
   rw[hA]
   unfold asF asS at hA
   by_cases q1:isT L wAS s1=true
   rotate_left
   .have q1:isT L wAS s1=false:=by simpa using q1
    rw[if_neg (by rw[q1];decide)]at hA
    refine zA ?_
    simp[go_sem]
    refine wN (wK L hL s1 hs _ q1) cB (zb9 ⟨zC rfl,tV⟩) rfl ?_
    simp[go_sem]
    exact zG ((0,0),s1) ⟨hA,aN 4 (by simp[rB,lotZ,lotB,ltOb,ltC,ltK])⟩
   rw[if_pos q1]at hA
   have a6:=hs.next hL q1
   have a7:=zd6 L hL _ a6 wOF
   have ay:=zk2 hL (w:=wOF) a6
   generalize yB L wOF (zM s1)=u1 at a7 ay hA
   have a8:=zd6 L hL _ ay zU0
   have az:=zk2 hL (w:=zU0) ay
   generalize yB L zU0 u1=u2 at a8 az hA
   have aA:=zd6 L hL _ az yR9
   have ak:=zk2 hL (w:=yR9) az
   generalize yB L yR9 u2=u3 at aA ak hA
   refine zA ?_
   simp[go_sem]
   refine wN (xK L hL s1 hs _ q1) cB (zb9 ⟨zC rfl,tV⟩) rfl ?_
   simp[go_sem]
   refine wN a7 cB (zb9 ⟨zC rfl,tV⟩) rfl ?_
   simp[go_sem]
   refine wN a8 cB (zb9 ⟨zC rfl,tV⟩) rfl ?_
   simp[go_sem]
   refine wN aA cB (zb9 ⟨zC rfl,tV⟩) rfl ?_
   simp[go_sem,lotB]
   by_cases q2:isT L xa2 u3=true
   .rw[if_pos q2]at hA
    have al:=yu0 L hL _ (ak.next hL q2)
    generalize numF L (zM u3)=nn at al hA
    refine wN (xK L hL u3 ak _ q2) cB (zb9 ⟨zC rfl,tV⟩) rfl ?_
    simp[go_sem]
    refine wN al cB yi9 rfl ?_
    simp[go_sem]
    exact zG ((2,nn.1),nn.2) ⟨hA,aN 4 (by simp[rB,lotZ,ltOb,ltC,ltK])⟩
   .have q2:isT L xa2 u3=false:=by simpa using q2
    rw[if_neg (by rw[q2];decide)]at hA
    have al:=yu0 L hL _ ak
    generalize numF L u3=nn at al hA
    refine wN (wK L hL u3 ak _ q2) cB (zb9 ⟨zC rfl,tV⟩) rfl ?_
    simp[go_sem]
    refine wN al cB yi9 rfl ?_
    simp[go_sem]
    exact zG ((1,nn.1),nn.2) ⟨hA,aN 4 (by simp[rB,lotZ,ltOb,ltC,ltK])⟩
  .rintro _ rfl
   generalize asF L s1=A at ax hM
   obtain⟨⟨m,n⟩,s2⟩:=A
   simp only at ax hM
   have af:=ax.rin
   refine ze9 (S:=RS) [2,7,8] (fun _=> [.ptr 0 0,.ptr 1 0,.ptr 2 0]) (fun u=> [lotZ,rB L u,lotB m n l,.app l.length 15]) (fun u=>u=endF L s2) hc hb ?_ ?_
   .have ag:=zr6 L hL s2 af
    have hf:=zH6 L s2 13 (tokF L s2).place
    obtain⟨E,hE⟩:=eX (endF L s2)
    rw[hE]
    unfold endF at hE
    generalize tokF L s2=tk at ag hf hE
    generalize za1 13 tk.place s2=f at hf hE
    refine zA ?_
    simp[go_sem,rB]
    by_cases q1:s2.err=0
    rotate_left
    .have ab:(s2.err==0)=false:=by simpa using q1
     rw[if_neg (fun h=>q1 h.1)]at hE
     simp[go_sem,ab]
     exact zG s2 ⟨hE,aN 4 (by simp[lotZ,lotB,ltOb,ltC,ltK])⟩
    have ab:(s2.err==0)=true:=by simpa using q1
    simp[go_sem,ab]
    refine wN ag cB yi9 rfl ?_
    by_cases q2:tk.kind=0
    .have ad:(tk.kind !=0)=false:=by simpa using q2
     rw[if_neg (fun h=>h.2 q2)]at hE
     simp[go_sem,ad,rB]
     exact zG s2 ⟨hE,aN 4 (by simp[lotZ,lotB,ltOb,ltC,ltK])⟩
    .have ad:(tk.kind !=0)=true:=by simpa using q2
     rw[if_pos ⟨q1,q2⟩]at hE
     simp[go_sem,ad]
     refine wN ag cB yi9 rfl ?_
     simp[go_sem]
     refine wN hf cB (zb9 ⟨zC rfl,zC rfl,tV⟩) rfl ?_
     simp[go_sem,rB]
     exact zG f ⟨hE,aN 4 (by simp[lotZ,lotB,ltOb,ltC,ltK])⟩
   .rintro _ rfl
    generalize endF L s2=E at hM
    refine zA ?_
    simp[go_sem,rB]
    by_cases q1:E.err=0
    .have ab:(E.err !=0)=false:=by simpa using q1
     rw[if_pos q1]at hM
     simp[go_sem,ab,lotZ,lotB]
     exact ym0 (l:=⟨m,n,l⟩) hM
    .have ab:(E.err !=0)=true:=by simpa using q1
     rw[if_neg q1]at hM
     simp[go_sem,ab,lotZ,lotB]
     refine za5 [(9,3)] 1 4 sm kR kR ?_
     simp[go_sem]
     exact ym0 (l:=lot0) hM
theorem xt3 (s:List UInt8) (hl:s.length<=maxLen):Pure prog 14 [.str s] (.agg (zl6 s).1.row):=by
 have h:=xL3 s hl
 generalize zl6 s=x at h⊢
 refine iW 0 func14 ntmps14 results14 fun c hc hb=>zL ?_
 simp[go_sem]
 refine pC h ?_
 simp[go_sem,parV]
 exact wR
variable {L:List GToken}
structure EOk (e:GExpr):Prop where
 good:Good e
 wide:Wide e
 size:zn7 e<=4000
structure SOk (st:GStmt):Prop where
 kind:i64R st.kind
 table:st.table.length<=1048576
 items:st.items.length<=12/\ ∀x∈st.items,i64R x.kind/\EOk x.e
 rows:st.rows.length<=20/\ ∀r∈st.rows,r.length<=12/\ ∀e∈r,EOk e
 sets:st.sets.length<=12/\ ∀x∈st.sets,x.name.length<=1048576/\EOk x.e
 where_:EOk st.where_
 order:st.order.length<=1048576
 limit:i64R st.limit
structure LOk (l:GLot):Prop where
 mode:i64R l.mode
 n:i64R l.n
 stmts:l.stmts.length<=12/\ ∀st∈l.stmts,SOk st
theorem xf3:LOk lot0:=⟨by show i64R 0;unfold i64R;decide,by show i64R 0;unfold i64R;decide,A4 _,fun st aa=>by cases aa⟩
structure ES (s:RS) (e:GExpr):Prop where
 good:Good e
 wide:Wide e
 size:s.err=0->zn7 e<=2001
theorem ES.mono {s:RS} {e:GExpr} (h:ES s e) (u:UI L s s'):ES s' e:=⟨h.good,h.wide,fun q=>h.size (u.err q)⟩
theorem ES.ok {s:RS} {e:GExpr} (h:ES s e) (hs:s.err=0):EOk e:=⟨h.good,h.wide,by have:=h.size hs;omega⟩
theorem zQ9 (s:RS):ES s zeroE:=⟨xz4,xJ8 rfl,fun _=>by rw[yv5 rfl];decide⟩
theorem yJ6 (hL:LIn L) (hG:LGood L) (h2:L.length<=2001) {s:RS} (hs:RIn L s) (ho:s.opn=0):ES (exF L s).2 (exF L s).1:=by
 have h:=xy2 hL hs ho
 have k:=ex_j hL hG hs ho
 exact⟨k.good,h.wide,fun q=>by have:=k.size q;have:=h.rin.at_;omega⟩
theorem yi1 (hG:LGood L) {s:RS} (hs:RIn L s):i64R (numF L s).1:=by
 unfold numF i64R
 split
 .have:=hG.num _ (zC0 hs);simp only;omega
 .simp
structure SS (s:RS) (st:GStmt):Prop where
 kind:i64R st.kind
 table:st.table.length<=1048576
 items:st.items.length<=12/\ ∀x∈st.items,i64R x.kind/\ES s x.e
 rows:st.rows.length<=20/\ ∀r∈st.rows,r.length<=12/\ ∀e∈r,ES s e
 sets:st.sets.length<=12/\ ∀x∈st.sets,x.name.length<=1048576/\ES s x.e
 where_:ES s st.where_
 order:st.order.length<=1048576
 limit:i64R st.limit
theorem SS.mono {s:RS} {st:GStmt} (h:SS s st) (u:UI L s s'):SS s' st:=
 ⟨h.kind,h.table,⟨h.items.1,fun x hx=>⟨(h.items.2 x hx).1,(h.items.2 x hx).2.mono u⟩⟩,⟨h.rows.1,fun r hr=>⟨(h.rows.2 r hr).1,fun e he=>((h.rows.2 r hr).2 e he).mono u⟩⟩,⟨h.sets.1,fun x hx=>⟨(h.sets.2 x hx).1,(h.sets.2 x hx).2.mono u⟩⟩,h.where_.mono u,h.order,h.limit⟩
theorem SS.ok {s:RS} {st:GStmt} (h:SS s st) (hs:s.err=0):SOk st:=
 ⟨h.kind,h.table,⟨h.items.1,fun x hx=>⟨(h.items.2 x hx).1,(h.items.2 x hx).2.ok hs⟩⟩,⟨h.rows.1,fun r hr=>⟨(h.rows.2 r hr).1,fun e he=>((h.rows.2 r hr).2 e he).ok hs⟩⟩,⟨h.sets.1,fun x hx=>⟨(h.sets.2 x hx).1,(h.sets.2 x hx).2.ok hs⟩⟩,h.where_.ok hs,h.order,h.limit⟩
theorem xN1 {s:RS} (h:(endF L s).err=0):s.err=0:=by
 unfold endF at h
 split at h
 .exact absurd h (zm3 dC)
 .exact h
section
variable (hL:LIn L) (hG:LGood L) (h2:L.length<=2001)
include hL hG h2
theorem xO9 {s:RS} (h:RIn L s) (ho:s.opn=0):i64R (zu9 L s).1.kind/\ES (zu9 L s).2 (zu9 L s).1.e:=by
 unfold zu9
 split
 .exact⟨by unfold i64R;simp,zQ9 _⟩
 split
 .rename_i hi
  have h1:=yW hL h hi
  have h3:=h1.trans (yI hL [40] h1.rin)
  have hx:=yJ6 hL hG h2 h3.rin (h3.opn.trans ho)
  exact⟨by unfold i64R;simp,hx.mono (yI hL [41] (h3.trans (zM9 hL h3.rin (h3.opn.trans ho))).rin)⟩
 .exact⟨by unfold i64R;simp,yJ6 hL hG h2 h ho⟩
theorem ys8: ∀(n:Nat) (l:List GItem) (s:RS),RIn L s->s.opn=0->l.length<=6->(∀x∈l,i64R x.kind/\ES s x.e)->
  (zv0 L n l s).1.length<=12/\ ∀x∈(zv0 L n l s).1,i64R x.kind/\ES (zv0 L n l s).2 x.e
 |0,l,s,_,_,hl,hx=>⟨by simp only[zv0];omega,hx⟩
 |n+1,l,s,h,ho,hl,hx=>by
  unfold zv0
  split
  .rename_i he
   obtain⟨_,h6,_⟩:=zf6 he
   have hu:=yB3 hL h ho
   have hi:=xO9 hL hG h2 h ho
   have ab: ∀x∈l++ [(zu9 L s).1],i64R x.kind/\ES (zu9 L s).2 x.e:=fun x aa=>by
    rw[Av]at aa
    rcases aa with aa|aa
    .exact⟨(hx x aa).1,(hx x aa).2.mono hu⟩
    .simp only[Ae,Be,or_false]at aa
     subst aa
     exact hi
   split
   .have hn:=yW hL hu.rin ‹_›
    exact ys8 n _ _ hn.rin ((hu.trans hn).opn.trans ho) (by simp;omega) (fun x aa=>⟨(ab x aa).1,(ab x aa).2.mono hn⟩)
   .exact⟨by simp;omega,ab⟩
  .exact⟨by simp only;omega,fun x aa=>⟨(hx x aa).1,(hx x aa).2.mono (zn3 h)⟩⟩
theorem xA8 {s:RS} (h:RIn L s) (ho:s.opn=0):(zo9 L s).1.length<=12/\ ∀x∈(zo9 L s).1,i64R x.kind/\ES (zo9 L s).2 x.e:=by
 unfold zo9
 split
 .refine⟨sm,fun x hx=> ?_⟩
  simp only[Ae,Be,or_false]at hx
  subst hx
  exact⟨by unfold i64R;simp,zQ9 _⟩
 .exact ys8 hL hG h2 7 [] s h ho sm (fun x hx=>by cases hx)
theorem xJ7 {s:RS} (h:RIn L s) (ho:s.opn=0):ES (whS L s) (whE L s).2:=by
 unfold whS whE
 by_cases q:isT L zQ0 s=true
 .rw[if_pos q,if_pos q]
  exact yJ6 hL hG h2 (h.next hL q) ho
 .rw[if_neg q,if_neg q]
  exact zQ9 _
theorem xi4: ∀(n:Nat) (l:List GExpr) (s:RS),RIn L s->s.opn=0->l.length<=6->(∀e∈l,ES s e)->
  (rowL L n l s).2.1.length<=12/\ ∀e∈(rowL L n l s).2.1,ES (rowL L n l s).2.2 e
 |0,l,s,_,_,hl,hx=>⟨by simp only[rowL];omega,hx⟩
 |n+1,l,s,h,ho,hl,hx=>by
  unfold rowL
  split
  .rename_i he
   obtain⟨_,h6,_⟩:=zf6 he
   have hu:=zM9 hL h ho
   have hi:=yJ6 hL hG h2 h ho
   have ab: ∀x∈l++ [(exF L s).1],ES (exF L s).2 x:=fun x aa=>by
    rw[Av]at aa
    rcases aa with aa|aa
    .exact(hx x aa).mono hu
    .simp only[Ae,Be,or_false]at aa
     subst aa
     exact hi
   split
   .have hn:=yW hL hu.rin ‹_›
    exact xi4 n _ _ hn.rin ((hu.trans hn).opn.trans ho) (by simp;omega) (fun x aa=>(ab x aa).mono hn)
   .exact⟨by simp;omega,ab⟩
  .exact⟨by simp only;omega,fun x aa=>(hx x aa).mono (zn3 h)⟩
theorem yP5: ∀(n:Nat) (R:List (List GExpr)) (s:RS),RIn L s->s.opn=0->R.length<=16->(∀r∈R,r.length<=12/\ ∀e∈r,ES s e)->
  (zG5 L n R s).1.length<=20/\ ∀r∈(zG5 L n R s).1,r.length<=12/\ ∀e∈r,ES (zG5 L n R s).2 e
 |0,R,s,_,_,hl,hx=>⟨by simp only[zG5];omega,hx⟩
 |n+1,R,s,h,ho,hl,hx=>by
  unfold zG5
  split
  .rename_i he
   obtain⟨_,h6,_⟩:=zf6 he
   have aa:=yI hL [40] h
   have hr:=xi4 hL hG h2 7 [] _ aa.rin (aa.opn.trans ho) sm (fun e he=>by cases he)
   have ab:=aa.trans (yD3 hL 7 [] _ aa.rin (aa.opn.trans ho))
   generalize rowL L 7 [] (yB L [40] s)=r at hr ab
   split
   .have ad:=yI hL [41] ab.rin
    have ae: ∀y∈R++ [r.2.1],y.length<=12/\ ∀e∈y,ES (yB L [41] r.2.2) e:=fun y hy=>by
     rw[Av]at hy
     rcases hy with hy|hy
     .exact⟨(hx y hy).1,fun e he=>((hx y hy).2 e he).mono (ab.trans ad)⟩
     .simp only[Ae,Be,or_false]at hy
      subst hy
      exact⟨hr.1,fun e he=>(hr.2 e he).mono ad⟩
    split
    .have hn:=yW hL ad.rin ‹_›
     exact yP5 n _ _ hn.rin (((ab.trans ad).trans hn).opn.trans ho) (by simp;omega) (fun y hy=>⟨(ae y hy).1,fun e he=>((ae y hy).2 e he).mono hn⟩)
    .exact⟨by simp;omega,ae⟩
   .exact⟨by simp only;omega,fun y hy=>⟨(hx y hy).1,fun e he=>((hx y hy).2 e he).mono ab⟩⟩
  .exact⟨by simp only;omega,fun y hy=>⟨(hx y hy).1,fun e he=>((hx y hy).2 e he).mono (zn3 h)⟩⟩
theorem yQ2: ∀(n:Nat) (l:List GAssign) (s:RS),RIn L s->s.opn=0->l.length<=6->(∀x∈l,x.name.length<=1048576/\ES s x.e)->
  (zB6 L n l s).2.1.length<=12/\ ∀x∈(zB6 L n l s).2.1,x.name.length<=1048576/\ES (zB6 L n l s).2.2 x.e
 |0,l,s,_,_,hl,hx=>⟨by simp only[zB6];omega,hx⟩
 |n+1,l,s,h,ho,hl,hx=>by
  unfold zB6
  split
  .rename_i he
   obtain⟨_,h6,_⟩:=zf6 he
   have af:=zi4 hG h
   have ad:=zc9 hL h
   have aa:=ad.trans (yI hL [61] ad.rin)
   have hi:=yJ6 hL hG h2 aa.rin (aa.opn.trans ho)
   have hu:=aa.trans (zM9 hL aa.rin (aa.opn.trans ho))
   generalize exF L (yB L [61] (yY L s).2)=x at hi hu
   have ab: ∀y∈l++ [⟨(yY L s).1,x.1⟩],y.name.length<=1048576/\ES x.2 y.e:=fun y hy=>by
    rw[Av]at hy
    rcases hy with hy|hy
    .exact⟨(hx y hy).1,(hx y hy).2.mono hu⟩
    .simp only[Ae,Be,or_false]at hy
     subst hy
     exact⟨af,hi⟩
   split
   .have hn:=yW hL hu.rin ‹_›
    exact yQ2 n _ _ hn.rin ((hu.trans hn).opn.trans ho) (by simp;omega) (fun y hy=>⟨(ab y hy).1,(ab y hy).2.mono hn⟩)
   .exact⟨by simp;omega,ab⟩
  .exact⟨by simp only;omega,fun x ae=>⟨(hx x ae).1,(hx x ae).2.mono (zn3 h)⟩⟩
theorem yY6 {s:RS} (h:RIn L s) (ho:s.opn=0):SS (zk6 L s).2 (zk6 L s).1:=by
 unfold zk6
 simp only
 have hx:=xA8 hL hG h2 h ho
 have h1:=yg6 hL h ho
 generalize zo9 L s=x at hx h1
 have u2:=yI hL zC4 h1.rin
 have aa:=zi4 hG (h1.trans u2).rin
 have u3:=zc9 hL (h1.trans u2).rin
 generalize yY L (yB L zC4 x.2)=n at aa u3
 have hw:=xJ7 hL hG h2 u3.rin ((h1.trans (u2.trans u3)).opn.trans ho)
 have u4:=yw7 hL u3.rin ((h1.trans (u2.trans u3)).opn.trans ho)
 have u5:=yi6 hL u4.rin
 have ab:(zI8 L (whS L n.2)).1.1.length<=1048576:=by
  unfold zI8
  split
  .rename_i hi
   have v1:=yW hL u4.rin hi
   have v2:=v1.trans (yI hL wBY v1.rin)
   split
   .exact zi4 hG v2.rin
   split
   .exact zi4 hG v2.rin
   .exact zi4 hG v2.rin
  .exact A4 _
 generalize zI8 L (whS L n.2)=o at u5 ab
 have u6:=yL6 hL u5.rin
 have ad:i64R (zI3 L o.2).1:=by
  unfold zI3
  split
  .exact yi1 hG (u5.rin.next hL ‹_›)
  .unfold i64R;simp
 generalize zI3 L o.2=l at u6 ad
 have u:=u2.trans (u3.trans (u4.trans (u5.trans u6)))
 exact⟨by unfold i64R;simp,aa,⟨hx.1,fun x ae=>⟨(hx.2 x ae).1,(hx.2 x ae).2.mono u⟩⟩,⟨A4 _,fun r hr=>by cases hr⟩,⟨A4 _,fun r hr=>by cases hr⟩,hw.mono (u5.trans u6),ab,ad⟩
theorem yV0 {s:RS} (h:RIn L s) (ho:s.opn=0):SS (zj9 L s).2 (zj9 L s).1:=by
 unfold zj9
 have u1:=yI hL yl1 h
 have aa:=zi4 hG u1.rin
 have u2:=u1.trans (zc9 hL u1.rin)
 generalize yY L (yB L yl1 s)=n at aa u2
 have u3:=u2.trans (yI hL zM3 u2.rin)
 have hr:=yP5 hL hG h2 17 [] _ u3.rin (u3.opn.trans ho) sm (fun r hr=>by cases hr)
 exact⟨by unfold i64R;simp,aa,⟨A4 _,fun r hr=>by cases hr⟩,hr,⟨A4 _,fun r hr=>by cases hr⟩,zQ9 _,A4 _,by unfold i64R;simp⟩
theorem xa0 {s:RS} (h:RIn L s) (ho:s.opn=0):SS (zk8 L s).2 (zk8 L s).1:=by
 unfold zk8
 have aa:=zi4 hG h
 have u2:=zc9 hL h
 generalize yY L s=n at aa u2
 have u3:=u2.trans (yI hL wSET u2.rin)
 have hr:=yQ2 hL hG h2 7 [] _ u3.rin (u3.opn.trans ho) sm (fun r hr=>by cases hr)
 have u4:=u3.trans (yj8 hL 7 [] _ u3.rin (u3.opn.trans ho))
 simp only
 generalize zB6 L 7 [] (yB L wSET n.2)=r at hr u4
 split
 .have hw:=xJ7 hL hG h2 u4.rin (u4.opn.trans ho)
  have u5:=yw7 hL u4.rin (u4.opn.trans ho)
  exact⟨by unfold i64R;simp,aa,⟨A4 _,fun r hr=>by cases hr⟩,⟨A4 _,fun r hr=>by cases hr⟩,⟨hr.1,fun x hx=>⟨(hr.2 x hx).1,(hr.2 x hx).2.mono u5⟩⟩,hw,A4 _,by unfold i64R;simp⟩
 .exact⟨by unfold i64R;simp,aa,⟨A4 _,fun r hr=>by cases hr⟩,⟨A4 _,fun r hr=>by cases hr⟩,hr,zQ9 _,A4 _,by unfold i64R;simp⟩
theorem xT2 {s:RS} (h:RIn L s) (ho:s.opn=0):SS (zk7 L s).2 (zk7 L s).1:=by
 unfold zk7
 split
 .exact yY6 hL hG h2 (h.next hL ‹_›) ho
 split
 .exact yV0 hL hG h2 (h.next hL ‹_›) ho
 split
 .exact xa0 hL hG h2 (h.next hL ‹_›) ho
 .have u1:=yI hL zF4 h
  have u2:=u1.trans (yI hL zC4 u1.rin)
  have aa:=zi4 hG u2.rin
  have u3:=u2.trans (zc9 hL u2.rin)
  exact⟨by unfold i64R;simp,aa,⟨A4 _,fun r hr=>by cases hr⟩,⟨A4 _,fun r hr=>by cases hr⟩,⟨A4 _,fun r hr=>by cases hr⟩,xJ7 hL hG h2 u3.rin (u3.opn.trans ho),A4 _,by unfold i64R;simp⟩
theorem yv6: ∀(n:Nat) (l:List GStmt) (s:RS),RIn L s->s.opn=0->l.length<=8->(∀x∈l,SS s x)->
  (zs2 L n l s).1.length<=8/\ ∀x∈(zs2 L n l s).1,SS (zs2 L n l s).2 x
 |0,l,s,_,_,hl,hx=>⟨hl,hx⟩
 |n+1,l,s,h,ho,hl,hx=>by
  unfold zs2
  split
  .split
   .rename_i he
    obtain⟨_,h8,_⟩:=zf6 he
    have hu:=yD8 hL h ho
    have hi:=xT2 hL hG h2 h ho
    have ad: ∀x∈l++ [(zk7 L s).1],SS (zk7 L s).2 x:=fun x aa=>by
     rw[Av]at aa
     rcases aa with aa|aa
     .exact(hx x aa).mono hu
     .simp only[Ae,Be,or_false]at aa
      subst aa
      exact hi
    have ab:(l++ [(zk7 L s).1]).length<=8:=by simp;omega
    split
    .have hn:=yW hL hu.rin ‹_›
     have ae:=fun x aa=>(ad x aa).mono hn
     split
     .exact⟨ab,ae⟩
     .exact yv6 n _ _ hn.rin ((hu.trans hn).opn.trans ho) ab ae
    .exact⟨ab,ad⟩
   .exact⟨hl,fun x aa=>(hx x aa).mono (zn3 h)⟩
  .exact⟨hl,hx⟩
theorem xR3 (h1:1<=L.length):LOk (xh7 L).1:=by
 have h0:RIn L rs0:=⟨by show 0<_;omega,by show(0:Int)<=0/\(0:Int)<=100000;omega⟩
 unfold xh7
 simp only
 have hs:=yv6 hL hG h2 9 [] rs0 h0 rfl (A4 _) (fun x hx=>by cases hx)
 have hu:=yv7 hL 9 [] rs0 h0 rfl
 generalize zs2 L 9 [] rs0=x at hs hu
 have ha:=xV9 hL hu.rin
 have hm:i64R (asF L x.2).1.1/\i64R (asF L x.2).1.2:=by
  unfold asF
  split
  .rename_i hi
   have v1:=xu2 hL hu.rin hi
   split
   .exact⟨by unfold i64R;simp,yi1 hG (v1.rin.next hL ‹_›)⟩
   .exact⟨by unfold i64R;simp,yi1 hG v1.rin⟩
  .exact⟨by unfold i64R;simp,by unfold i64R;simp⟩
 generalize asF L x.2=a at ha hm
 split
 .rename_i he
  have h3:=ha.err (xN1 he)
  exact⟨hm.1,hm.2,by simp only;omega,fun st aa=>(hs.2 st aa).ok h3⟩
 .exact xf3
end
theorem yi7 (s:List UInt8):LOk (zl6 s).1:=by
 unfold zl6
 split
 .rename_i h
  obtain⟨_,hL,hG,h1,h2⟩:=xe9 h
  exact xR3 hL hG h2 h1
 .exact xf3
theorem yQ3 (l:List GExpr) (i:Nat) (h:i<l.length):zj2 (l.drop i)=zn7 l[i]+zj2 (l.drop (i+1)):=by
 rw[A8 h,zj2]
theorem yI1 (l:List GExpr) (i:Nat) (h:i<l.length):xZ (l.drop i)=max (wE l[i]) (xZ (l.drop (i+1))):=by
 rw[A8 h,xZ]
theorem xr2 (e:GExpr):1<=zn7 e:=by rw[zJ5];omega
theorem zL0 (e:GExpr):1<=wE e:=by rw[zj5];omega
def xG5 (e:GExpr) (deep n:Int) (r:V) (σ:St):Prop:=r= .bool (decide ((wE e:Int)+deep<=65))/\ ∃m:Int,σ= [.box [.int .i64 m]]/\n<=m/\m<=n+zn7 e
theorem xj1: ∀(k:Nat) (e:GExpr) (deep n:Int),wE e<=k->Wide e->0<=n->n+zn7 e<=4096->0<=deep->deep<=1000000->VCalls prog 252 [.agg e.row,.int .i64 deep,.ptr 0 0] [.box [.int .i64 n]] (xG5 e deep n)
 |0,e,_,_,h,_,_,_,_,_=>by have:=zL0 e;omega
 |k+1,e,deep,n,h,hw,ar,al,au,av=>by
  have ih:=xj1 k
  have an:=zj5 e
  have ag:=zJ5 e
  obtain⟨M,hM⟩:=eX (decide ((wE e:Int)+deep<=65))
  unfold xG5
  rw[hM]
  obtain⟨args,aa⟩:=eX e.args
  have hlen:=hw.len
  have ae:=hw.sub
  rw[aa]at an ag hlen ae
  have e1:IntKind.i64.wrap (n+1)=n+1:=i64_id om om
  have e2:IntKind.i64.wrap (deep+1)=deep+1:=i64_id om om
  obtain⟨sz,ao⟩:=eX (zn7 e)
  rw[ao]at ag al⊢
  have ret: ∀(b:Bool) (m:Int) (τ:St),b=M->n<=m->m<=n+sz->wret (some (.bool b)) 1 (fun r σ=>r= .bool M/\ ∃m:Int,σ= [.box [.int .i64 m]]/\n<=m/\m<=n+sz) (.box [.int .i64 m]::τ):=fun b m τ h1 h2 h3=>by
   subst h1
   exact xA 1 rfl rfl (by rfl) (A5 _) (zC rfl) ⟨rfl,m,rfl,h2,h3⟩
  refine iV 1 func252 ntmps252 results252 fun c hc hb=> ?_
  refine zA ?_
  simp[go_sem,e1]
  by_cases q1:64<deep
  .have af:decide (64<deep)=true:=decide_eq_true q1
   have hM:false=M:=by rw[<-hM];exact(decide_eq_false om).symm
   simp[go_sem,af]
   exact ret _ _ _ hM om om
  have af:decide (64<deep)=false:=decide_eq_false q1
  have aq:decide (4096<n+1)=false:=decide_eq_false om
  simp[go_sem,af,aq,aa]
  refine zH (S:=Nat×Int) [1,2,23,24,25] (fun u=> [.int .i64 deep,.ptr 0 0,.sl .ro (args.map GExpr.row),.int .i64 args.length,.int .i64 (u.1:Int)]) (fun u=> [.box [.int .i64 u.2]]) (fun u=>args.length - u.1)
   (fun u=>u.1<=args.length/\n<=u.2/\u.2+zj2 (args.drop u.1)<=n+sz/\decide ((xZ (args.drop u.1):Int)+(deep+1)<=65)=M) hc hb (0,n+1)
   ⟨A4 _,by simp only;omega,by simp only[Bg];omega,by rw[<-hM,Bg];exact decide_eq_decide.2 om⟩ ?_ ?_
  .exact aN 1 (by rfl)
  rintro⟨i,m⟩ ⟨hi,ah,ad,hinv⟩
  simp only at hi ah ad hinv
  by_cases q:i<args.length
  rotate_left
  .rw[Ab om]at hinv ad
   have hinv:true=M:=by rw[<-hinv,xZ];exact(decide_eq_true om).symm
   refine zA ?_
   simp[go_sem,q]
   exact ret _ _ _ hinv ah (by rw[zj2]at ad;omega)
  have ei:=zQ q om
  have ai:=yQ3 args i q
  have aj:=yI1 args i q
  obtain⟨x,hx⟩:=eX (args[i])
  have ak:x∈args:=hx▸Aa q
  have aw:=zl5 args x ak
  rw[hx]at ai aj
  rw[ai]at ad
  rw[aj]at hinv
  have ab:=ih x (deep+1) m om (ae x ak) om om om om
  by_cases q3:(wE x:Int)+(deep+1)<=65
  .refine zA ?_
   simp[go_sem,q,hx,e2]
   refine zl9 0 ab cB rfl (by rfl) ⟨.inl (by simp[go_sem,renS,renA,renC,renK]),zC rfl,.inl rfl,tV⟩ (fun r σ h=>by
    obtain⟨_,m2,rfl,_⟩:=h
    exact⟨_,rfl,rfl⟩) ?_
   rintro r o2 ⟨rfl,m2,h1,h2,h3⟩
   obtain rfl:o2= .box [.int .i64 m2]:=by simpa using h1
   rw[decide_eq_true q3]
   simp[go_sem,ei]
   refine zG (i+1,m2) ⟨by simp only;omega,⟨by simp only;omega,by simp only;omega,by simp only;omega, ?_⟩, ?_⟩
   .rw[<-hinv]
    show decide ((xZ (args.drop (i+1)):Int)+(deep+1)<=65)=_
    exact decide_eq_decide.2 om
   .exact aN 1 (by rfl)
  .have hinv:false=M:=by rw[<-hinv];exact(decide_eq_false om).symm
   refine zA ?_
   simp[go_sem,q,hx,e2]
   refine zl9 0 ab cB rfl (by rfl) ⟨.inl (by simp[go_sem,renS,renA,renC,renK]),zC rfl,.inl rfl,tV⟩ (fun r σ h=>by
    obtain⟨_,m2,rfl,_⟩:=h
    exact⟨_,rfl,rfl⟩) ?_
   rintro r o2 ⟨rfl,m2,h1,h2,h3⟩
   obtain rfl:o2= .box [.int .i64 m2]:=by simpa using h1
   rw[decide_eq_false q3]
   simp[go_sem]
   exact ret _ _ _ hinv om om
def xe3 (e:GExpr):Bool:=e.kind==3&&e.s== [65,78,68]&&e.args.length==2
def bfs:Nat->List GExpr->List GExpr->List GExpr
 |0,_,l=>l
 |_+1,[],l=>l
 |n+1,e::q,l=>if xe3 e=true then bfs n (q++e.args) l else bfs n q (l++ [e])
def zs5 (st:GStmt):List GExpr:=if st.filtered=true then bfs 4096 [st.where_] []else []
theorem yr2 (l:List GExpr):uni 6 (l.map GExpr.row):=yc9 fun e=>by rw[GExpr.row_eq];rfl
theorem zY3 (st:GStmt):Pure prog 109 [.agg st.row] (.sl .ro ((zs5 st).map GExpr.row)):=by
 generalize hM:zs5 st=M
 have ret: ∀(r:List GExpr) (g:Tag) (σ:St),r=M->wret (some (.sl g (r.map GExpr.row))) 0 (fun r s=>r= .sl .ro (M.map GExpr.row)/\s= []) σ:=fun r g σ h=>by subst h;exact wG zK ⟨rfl,rfl⟩
 unfold zs5 at hM
 refine iV 0 func109 ntmps109 results109 fun c hc hb=> ?_
 refine zr9 26 dC ?_
 refine zA ?_
 simp[go_sem]
 by_cases hf:st.filtered=true
 rotate_left
 .have ad:st.filtered=false:=by simpa using hf
  rw[if_neg hf]at hM
  simp[go_sem,ad]
  exact ret [] _ _ hM
 rw[if_pos hf]at hM
 simp[go_sem,hf]
 refine xJ2 4 6 [st.where_.row] dC (yr2 [st.where_]) sg ?_
 refine zi6 3 6 dC sg ?_
 refine zH (S:=Nat×List GExpr×List GExpr) [3,4,5,100026] (fun u=> [.sl (.app 1) (u.2.2.map GExpr.row),.sl (.app 0) (u.2.1.map GExpr.row),.int .i64 u.1,.tup []]) (fun u=> [.app u.2.1.length 6,.app u.2.2.length 6]) (fun u=>4096 - u.1)
  (fun u=>u.1<=4096/\u.2.1.length<=1+u.1/\u.2.2.length<=u.1/\bfs (4096 - u.1) u.2.1 u.2.2=M) hc hb (0,[st.where_],[]) ⟨A4 _,sm,sm,hM⟩ ?_ ?_
 .exact zC9 [1,2] dC rfl ⟨by simp[go_sem,yF],by simp[go_sem,yF],tV⟩ ⟨.inl (by simp[go_sem,renS,renA,renC,renK,ren]),.inl (by simp[go_sem,renS,renA,renC,renK,ren]),zC rfl,zC rfl,tV⟩
 rintro⟨n,q,l⟩ ⟨hn,ab,ae,hinv⟩
 simp only at hn ab ae hinv
 cases q with
 |nil=>
  have hl:l=M:=by rw[<-hinv];cases h:4096 - n<;>rfl
  refine zA ?_
  simp[go_sem]
  exact ret l _ _ hl
 |cons e q=>
 by_cases af:n<4096
 rotate_left
 .have hl:l=M:=by rw[<-hinv,show 4096 - n=0 by omega];rfl
  have hd:decide ((n:Int)<4096)=false:=decide_eq_false om
  refine zA ?_
  simp[go_sem,hd]
  exact ret l _ _ hl
 have hd:decide ((n:Int)<4096)=true:=decide_eq_true om
 rw[show 4096 - n=(4096 - (n+1))+1 by omega,bfs]at hinv
 have ei:IntKind.i64.wrap ((n:Int)+1)=((n+1:Nat):Int):=by rw[i64_id om om];omega
 refine zA ?_
 simp[go_sem,hd]
 refine zI om ?_
 simp[go_sem]
 by_cases hA:xe3 e=true
 .rw[if_pos hA]at hinv
  have aa:=hA
  unfold xe3 at aa
  simp only[A6,beq_iff_eq]at aa
  obtain⟨⟨q1,q2⟩,q3⟩:=aa
  simp[go_sem,q1,q2,q3]
  refine zI ⟨by simp at ab;omega,yr2 _⟩ ?_
  simp[go_sem,ei]
  refine zG (n+1,q++e.args,l) ⟨by simp only;omega,⟨by simp only;omega,by simp at ab⊢;omega,by simp only;omega,hinv⟩, ?_⟩
  exact zC9 [3,1] dC rfl ⟨by simp[go_sem,yF,q3],by simp[go_sem,yF],tV⟩ ⟨.inl (by simp[go_sem,renS,renA,renC,renK,ren]),.inl (by simp[go_sem,renS,renA,renC,renK,ren]),zC rfl,zC rfl,tV⟩
 .have aa:(e.kind==3&&e.s== [65,78,68]&&e.args.length==2)=false:=by simpa[xe3]using hA
  rw[if_neg hA]at hinv
  have key:(e.kind==3)=false∨((e.kind==3)=true/\(e.s== [65,78,68])=false)∨((e.kind==3)=true/\(e.s== [65,78,68])=true/\((e.args.length:Int)==2)=false):=by
   revert aa
   have e3:((e.args.length:Int)==2)=(e.args.length==2):=by
    rw[D4];simp;omega
   rw[e3]
   cases e.kind==3<;>cases e.s== [65,78,68]<;>cases e.args.length==2<;>simp
  refine key.elim (fun q1=> ?_) fun key=>key.elim (fun q1=> ?_) fun q1=> ?_
  all_goals simp[go_sem,q1]
  all_goals refine zI ⟨om,zV rfl⟩ ?_
  all_goals simp[go_sem,ei]
  all_goals refine zG (n+1,q,l++ [e]) ⟨by simp only;omega,⟨by simp only;omega,by simp at ab⊢;omega,by simp;omega,hinv⟩, ?_⟩
  all_goals exact zC9 [3,1] dC rfl ⟨by simp[go_sem,yF],by simp[go_sem,yF],tV⟩ ⟨.inl (by simp[go_sem,renS,renA,renC,renK,ren]),.inl (by simp[go_sem,renS,renA,renC,renK,ren]),zC rfl,zC rfl,tV⟩
def xg4:V:= .tup [.str [],.agg [.int .i64 0,.int .i64 0,.str []],.bool false]
def zc6 (e:GExpr) (name:List UInt8):Option (List UInt8×GValue):=
 match e.kind==3,e.args with
 |true,[a,b]=>
  if b.kind=2 then(if b.s=name/\a.kind=1/\a.v.kind≠0 then some (xj2 e.s,a.v)else none)
  else if a.kind=2/\a.s=name/\b.kind=1/\b.v.kind≠0 then some (e.s,b.v)else none
 |_,_=>none
def cutV:Option (List UInt8×GValue)->V
 |none=>xg4
 |some (s,v)=> .tup [.str s,.agg v.row,.bool true]
theorem yq0 (e:GExpr) (name:List UInt8):Pure prog 110 [.agg e.row,.str name] (cutV (zc6 e name)):=by
 generalize hM:zc6 e name=M
 have no: ∀(σ:St),none=M->wret (some xg4) 0 (fun r s=>r=cutV M/\s= []) σ:=fun σ h=>by subst h;exact wR
 have yes: ∀(s:List UInt8) (v:GValue) (σ:St),some (s,v)=M->wret (some (.tup [.str s,.agg v.row,.bool true])) 0 (fun r s=>r=cutV M/\s= []) σ:=fun s v σ h=>by subst h;exact wR
 unfold zc6 at hM
 refine iW 0 func110 ntmps110 results110 fun c hc hb=>zL ?_
 simp[go_sem]
 by_cases q1:e.kind=3
 rotate_left
 .have ab:(e.kind !=3)=true:=by simpa using q1
  have aa:(e.kind==3)=false:=by simpa using q1
  simp only[aa]at hM
  simp[go_sem,ab]
  exact no _ hM
 have ab:(e.kind !=3)=false:=by simpa using q1
 have aa:(e.kind==3)=true:=by simpa using q1
 simp only[aa]at hM
 obtain⟨k,hk⟩:=eX e.kind
 simp[go_sem,ab]
 by_cases q2:e.args.length=2
 rotate_left
 .have ad:((e.args.length:Int) !=2)=true:=by simpa using (show ¬(e.args.length:Int)=2 by omega)
  simp[go_sem,ad]
  refine no _ ?_
  rw[<-hM]
  split
  .rename_i h;rw[h]at q2;exact absurd rfl q2
  .rfl
 have ad:((e.args.length:Int) !=2)=false:=by simpa using (show(e.args.length:Int)=2 by omega)
 simp[go_sem,ad]
 obtain⟨a,b,af⟩: ∃a b,e.args= [a,b]:=by
  match e.args,q2 with
  | [a,b],_=>exact⟨a,b,rfl⟩
 simp only[af]at hM
 refine xJ4 [(12,3),(13,3)] 1 10 sm kR (by rw[hc];exact A4 _) hb kR rfl (by repeat' (first|exact LtE.env0|refine LtE.upd ?_ (by simp[ltS,ltA,ltC,ltK]))) (by simp only[C8,Dt];exact rfl) (by simp only[Dm,Bg];exact rfl) ?_
 simp[go_sem,af]
 refine⟨by repeat' (first|exact LtE.env0|refine LtE.upd ?_ (by simp[ltS,ltA,ltC,ltK])), ?_⟩
 by_cases q3:b.kind=2
 .have ae:(b.kind==2)=true:=by simpa using q3
  rw[if_pos q3]at hM
  simp[go_sem,ae]
  refine wQ [(0,2),(1,2),(3,0),(4,3),(5,3)] 2 sm kR kR ?_
  simp[go_sem]
  refine pD (xI1 e.s) ?_
  have q4:(b.kind !=2)=false:=by simpa using q3
  simp[go_sem,q4]
  repeat' (first
   |(refine xE (fun q=> ?_) (fun q=> ?_)<;>simp[go_sem,q])
   |(refine zR (fun q=> ?_) (fun q=> ?_)<;>simp[go_sem,q])
   |(refine wQ [(2,2),(4,3)] 1 sm kR kR ?_;simp[go_sem]))
  all_goals first|exact no _ (by rw[<-hM];simp_all)|exact yes _ _ _ (by rw[<-hM];simp_all)
 .have ae:(b.kind==2)=false:=by simpa using q3
  rw[if_neg q3]at hM
  simp[go_sem,ae]
  repeat' (first
   |(refine xE (fun q=> ?_) (fun q=> ?_)<;>simp[go_sem,q])
   |(refine zR (fun q=> ?_) (fun q=> ?_)<;>simp[go_sem,q])
   |(refine wQ [(2,2),(4,3)] 1 sm kR kR ?_;simp[go_sem]))
  all_goals first|exact no _ (by rw[<-hM];simp_all)|exact yes _ _ _ (by rw[<-hM];simp_all)
end Go.Proofs.YtefbicjgbaaieaaGreat
namespace Go.Proofs.YtefbicjgbaaieaaGreat.R
open Go Go.Vx Go.Proofs.Tryz
set_option maxRecDepth 100000
def bys (l:List UInt8):V:= .sl .ro (zP l)
theorem zS (l:List UInt8):(zP l).length=l.length:=by simp[zP]
theorem zl4 (l:List UInt8):uni 1 (zP l):=fun r hr=>by
 obtain⟨x,_,rfl⟩:=Ac.1 hr
 rfl
def byA (l:List UInt8):V:= .sl (.app 0) (zP l)
def stA (l:List UInt8):St:= [.app l.length 1]
abbrev maxB:Nat:=1000000000
theorem yY1 (b:List UInt8) (n:Nat) (hb:b.length<=maxB) (hn:n<=maxB):VCalls prog 279 [bys b,.int .i64 n] [] fun r s=>r=byA b/\s=stA b:=by
 refine iW 0 func279 ntmps279 results279 fun c hc hb=>zL ?_
 simp[go_sem,bys,zS]
 have e1:IntKind.i64.wrap ((b.length:Int)+n)=((b.length+n:Nat):Int):=by rw[i64_id (by unfold maxB at*;omega) (by unfold maxB at*;omega)];omega
 simp[go_sem,e1]
 refine zI ⟨om,by unfold maxB at*;omega⟩ ?_
 simp[go_sem,zS]
 refine zI ⟨by unfold maxB at*;omega,zl4 b⟩ ?_
 simp[go_sem]
 exact zw8 1 rfl rfl om (zg2 rfl) ⟨rfl,rfl⟩
def varF (v:Nat):List UInt8:=if v<128 then [UInt8.ofNat v]else UInt8.ofNat (v%128+128)::varF (v/128)
termination_by v
decreasing_by omega
theorem zT6 {v:Nat} (h:v<128):varF v= [UInt8.ofNat v]:=by rw[varF,if_pos h]
theorem yd0 {v:Nat} (h: ¬v<128):varF v=UInt8.ofNat (v%128+128)::varF (v/128):=by rw[varF,if_neg h]
theorem xk3: ∀(k v:Nat),v<128^(k+1)->(varF v).length<=k+1
 |0,v,h=>by rw[zT6 om];simp
 |k+1,v,h=>by
  by_cases hv:v<128
  .rw[zT6 hv];simp
  .rw[yd0 hv,Ag]
   have:=xk3 k (v/128) (by rw[Cw om];rwa [Ex]at h)
   omega
theorem zT5 {v:Nat} (h:v<18446744073709551616):(varF v).length<=10:=xk3 9 v om
structure VarS where
 out:List UInt8
 v:Nat
theorem u64_id {n:Int} (h:0<=n) (h2:n<=18446744073709551615):IntKind.u64.wrap n=n:=by
 unfold IntKind.wrap
 simp[IntKind.bits,IntKind.signed]
 omega
theorem zX5 (n:Nat):IntKind.u8.wrap (n:Int)=((UInt8.ofNat n).toNat:Int):=by
 unfold IntKind.wrap
 simp[IntKind.bits,IntKind.signed]
theorem wc8:((List.range 256).all fun m=>ze2 .or .u8 (m:Int) 128==((m%128+128:Nat):Int))=true:=by decide+kernel
theorem wi4 (v:Nat):ze2 .or .u8 (IntKind.u8.wrap (v:Int)) 128=((UInt8.ofNat (v%128+128)).toNat:Int):=by
 have h:=Af.1 wc8 (v%256) (C3.2 om)
 have e:IntKind.u8.wrap (v:Int)=((v%256:Nat):Int):=by rw[zX5];simp
 rw[e,beq_iff_eq.1 h]
 simp
 omega
theorem xt5 (b:List UInt8) (v0:Nat) (aa:b.length<=maxB) (hv:v0<18446744073709551616):VCalls prog 223 [bys b,.int .u64 v0] [] fun r s=>r=byA (b++varF v0)/\s=stA (b++varF v0):=by
 refine iV 0 func223 ntmps223 results223 fun c hc hb=> ?_
 refine zA ?_
 simp[go_sem]
 refine zJ9 (yY1 b 10 aa dC) cB (yC rfl) ?_
 rintro r s ⟨rfl,rfl⟩
 simp[go_sem]
 refine zH (S:=VarS) [1,5] (fun s=> [.int .u64 s.v,byA s.out]) (fun s=>stA s.out) (fun s=>s.v) (fun s=>s.v<18446744073709551616/\s.out++varF s.v=b++varF v0) hc hb ⟨b,v0⟩ ⟨hv,rfl⟩ ?_ ?_
 .exact at_n 1 rfl rfl rfl (A4 _) (zF sg rfl)
 rintro⟨out,v⟩ ⟨ab,hs⟩
 simp only at ab hs
 have hlen:out.length<=maxB+10:=by
  have:=congrArg List.length hs
  have ae:=zT5 hv
  simp only[Ak]at this
  omega
 refine zA ?_
 simp[go_sem,byA,stA]
 refine zR (fun h=> ?_) (fun h=> ?_)
 .have h: ¬v<128:=by have:=of_decide_eq_true h;omega
  have u1:=wi4 v
  simp[go_sem,u1]
  refine zI ⟨zS out,by rw[zS];unfold maxB at*;omega,zV rfl⟩ ?_
  have e5:(v:Int).fdiv 128=(v:Int)/128:=Cl _ om
  simp[go_sem,e5]
  rw[yd0 h]at hs
  refine zG ⟨out++ [UInt8.ofNat (v%128+128)],v/128⟩ ⟨by simp only;omega,⟨by simp only;omega,by simpa using hs⟩,at_n 1 sm rfl rfl (A4 _) (zF (by simp[go_sem,zP]) rfl)⟩
 .have h:v<128:=by have:=of_decide_eq_false h;omega
  simp[go_sem,zS,zX5]
  refine zI ⟨by unfold maxB at*;omega,zV rfl⟩ ?_
  simp[go_sem]
  rw[zT6 h]at hs
  have ad:b.length+(varF v0).length=out.length+1:=by
   have:=congrArg List.length hs
   simpa using this.symm
  rw[<-hs]
  exact zw8 1 rfl rfl om (zg2 rfl) ⟨by simp[zP],by simp[ad]⟩
theorem xY6 (b t:List UInt8) (aa:b.length<=maxB) (ht:t.length<=maxB):VCalls prog 281 [bys b,bys t] [] fun r s=>r=byA (b++varF t.length++t)/\s=stA (b++varF t.length++t):=by
 refine iW 0 func281 ntmps281 results281 fun c hc hb=>zL ?_
 have e1:IntKind.u64.wrap (t.length:Int)=(t.length:Int):=u64_id om (by unfold maxB at*;omega)
 simp[go_sem,bys,zS,e1]
 refine zJ9 (xt5 b t.length aa (by unfold maxB at*;omega)) cB (yC rfl) ?_
 rintro r s ⟨rfl,rfl⟩
 have ab:=zT5 (v:=t.length) (by unfold maxB at*;omega)
 simp[go_sem,byA,stA,zS]
 refine zI ⟨by unfold maxB at*;omega,zl4 t⟩ ?_
 simp[go_sem]
 exact zw8 1 rfl rfl om (zg2 rfl) ⟨by simp[zP],by simp[Ds]⟩
def zigF (n:Int):Nat:=if 0<=n then(2*n).toNat else(-2*n - 1).toNat
theorem yF5 {n:Int} (h:i64R n):zigF n<18446744073709551616:=by
 unfold zigF;unfold i64R at h
 split<;>omega
theorem xX5 (ek:Nat) (es:Option (List Pk)) (a b:Int):zs6 .shr ek es (.int .i64 a) (.int .u64 b)= .need (0<=b) (.int .i64 (a.fdiv (2^(min b.toNat 64)))):=rfl
theorem wi8 {x:Int} (h:0<=x) (h2:x<=18446744073709551615):ze2 .xor .u64 x 0=x:=by
 obtain⟨m,rfl⟩:=Ek h
 show IntKind.u64.wrap ((BitVec.ofInt 64 (m:Int)^^^BitVec.ofInt 64 0).toNat:Int)=m
 have e:BitVec.ofInt 64 (0:Int)=0#64:=rfl
 rw[e,BitVec.xor_zero,BitVec.ofInt_natCast,BitVec.toNat_ofNat,Ct om]
 exact u64_id om om
theorem wi9 {x:Int} (h:0<=x) (h2:x<=18446744073709551615):ze2 .xor .u64 x 18446744073709551615=18446744073709551615 - x:=by
 obtain⟨m,rfl⟩:=Ek h
 show IntKind.u64.wrap ((BitVec.ofInt 64 (m:Int)^^^BitVec.ofInt 64 18446744073709551615).toNat:Int)=_
 have e:BitVec.ofInt 64 (18446744073709551615:Int)=BitVec.allOnes 64:=by decide+kernel
 rw[e,BitVec.xor_allOnes,BitVec.ofInt_natCast,BitVec.toNat_not,BitVec.toNat_ofNat,Ct om]
 rw[u64_id om om]
 omega
theorem wf4 (n:Int) (hn:i64R n):Pure prog 280 [.int .i64 n] (.int .u64 (zigF n)):=by
 refine iW 0 func280 ntmps280 results280 fun c hc hb=>zL ?_
 unfold i64R at hn
 rcases Int.lt_or_le n 0 with h|h
 .have e1:IntKind.u64.wrap n=n+18446744073709551616:=by rw[IntKind.wrap_u64];omega
  have e2:IntKind.u64.wrap ((n+18446744073709551616)*2)=2*n+18446744073709551616:=by rw[IntKind.wrap_u64];omega
  have e3:n.fdiv 9223372036854775808= -1:=by rw[Cl _ om];omega
  have e4:IntKind.u64.wrap (-1)=18446744073709551615:=by decide+kernel
  have e5:ze2 .xor .u64 (2*n+18446744073709551616) 18446744073709551615=((zigF n:Nat):Int):=by
   rw[wi9 om om,zigF,if_neg om];omega
  simp[go_sem,e1,e2,xX5,e3,e4,e5]
  exact wR
 .have e1:IntKind.u64.wrap n=n:=u64_id h om
  have e2:IntKind.u64.wrap (n*2)=2*n:=by rw[u64_id om om];omega
  have e3:n.fdiv 9223372036854775808=0:=by rw[Cl _ om];omega
  have e4:IntKind.u64.wrap 0=0:=u64_id om om
  have e5:ze2 .xor .u64 (2*n) 0=((zigF n:Nat):Int):=by
   rw[wi8 om om,zigF,if_pos h];omega
  simp[go_sem,e1,e2,xX5,e3,e4,e5]
  exact wR
end Go.Proofs.YtefbicjgbaaieaaGreat.R
