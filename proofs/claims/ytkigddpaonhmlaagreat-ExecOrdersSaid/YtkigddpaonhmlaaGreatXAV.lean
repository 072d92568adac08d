/-
  The document's reader of lots, whole, over trees (the library Vx); used by the theorem at the end of the claim.
  Conditions: as each theorem states them.
-/
import Derived.Test.YtkigddpaonhmlaaGreatXAU
set_option maxHeartbeats 8000000
namespace Go.Proofs.YtkigddpaonhmlaaGreat
open Go Go.Vx Go.Proofs.Tryz
set_option maxRecDepth 100000
variable {L:List GToken}
def zS6 (L:List GToken) (s:RS):Bool:=(tokF L s).kind==1&&zk3 (tokF L s).s
def wSET:List UInt8:= [83,69,84]
def zA3 (L:List GToken):Nat->List GAssign->RS->Bool×List GAssign×RS
 |0,l,s=>(false,l,s)
 |n+1,l,s=>
  if(zf1 L l.length 6 (zS6 L s) s).err=0 then
   (if isT L [44] (exF L (yD L [61] (yW L s).2)).2=true then zA3 L n (l++ [⟨(yW L s).1,(exF L (yD L [61] (yW L s).2)).1⟩]) (zO (exF L (yD L [61] (yW L s).2)).2)
   else(true,l++ [⟨(yW L s).1,(exF L (yD L [61] (yW L s).2)).1⟩],(exF L (yD L [61] (yW L s).2)).2))
  else(false,l,zf1 L l.length 6 (zS6 L s) s)
def zk2 (L:List GToken) (s:RS):GStmt×RS:=
 let n:=yW L s
 let r:=zA3 L 7 [] (yD L wSET n.2)
 if r.1=true then(⟨3,n.1,[],[],r.2.1,(whE L r.2.2).1,(whE L r.2.2).2,[],false,0⟩,whS L r.2.2)
 else(⟨3,n.1,[],[],r.2.1,false,zeroE,[],false,0⟩,r.2.2)
theorem yi5 (hL:LIn L): ∀(n:Nat) (l:List GAssign) (s:RS),RIn L s->s.opn=0->UI L s (zA3 L n l s).2.2
 |0,_,_,h,_=>UI.refl h
 |n+1,l,s,h,ho=>by
  unfold zA3
  split
  .have h1:=zc7 hL h
   have h2:=h1.trans (yE hL [61] h1.rin)
   have h3:=h2.trans (zK3 hL h2.rin (h2.opn.trans ho))
   split
   .have h4:=h3.trans (yT hL h3.rin ‹_›)
    exact h4.trans (yi5 hL n _ _ h4.rin (h4.opn.trans ho))
   .exact h3
  .exact zm5 h
theorem yT0 (hL:LIn L) {s:RS} (h:RIn L s) (ho:s.opn=0):UI L s (zk2 L s).2:=by
 unfold zk2
 have h1:=zc7 hL h
 have h2:=h1.trans (yE hL wSET h1.rin)
 have h3:=h2.trans (yi5 hL 7 [] _ h2.rin (h2.opn.trans ho))
 simp only
 split
 .exact h3.trans (ys7 hL h3.rin (h3.opn.trans ho))
 .exact h3
def upB (nm:List UInt8) (l:List GAssign):Ob:= .box [.int .i64 3,.str nm,.sl .full [],.sl .full [],.sl (.app 3) (l.map GAssign.row),.bool false,.int .i64 0,.str [],.int .i64 0,.int .i64 0,.str [],.sl .full [],.str [],.bool false,.int .i64 0]
theorem xj8 (L:List GToken) (hL:LIn L) (s0:RS) (hs0:RIn L s0) (ho0:s0.opn=0):VCalls prog 89 [.ptr 0 0] [rB L s0] (RT L (zk2 L s0)):=by
 generalize hM:zk2 L s0=M
 unfold zk2 at hM
 have hn:=zM1 L hL s0 hs0
 have hu2:=zc7 hL hs0
 generalize yW L s0=n at hn hu2 hM
 obtain⟨nm,s2⟩:=n
 simp only at hn hu2 hM
 have hm2:=zd4 L hL s2 hu2.rin wSET
 have hu3:=hu2.trans (yE hL wSET hu2.rin)
 generalize yD L wSET s2=s3 at hm2 hu3 hM
 obtain⟨X,hX⟩:=eX (zA3 L 7 [] s3)
 rw[hX]at hM
 refine iV 1 func89 ntmps89 results89 fun c hc hb=> ?_
 refine zA ?_
 simp[go_sem]
 refine zK hn cB rd_1 rfl ?_
 simp[go_sem]
 refine zK hm2 cB (zM ⟨zC rfl,trivial⟩) rfl ?_
 simp[go_sem]
 refine zH6 2 4 7 _ (by decide) rfl rfl ?_
 simp only[C6,D9]
 refine zL (S:=List GAssign×RS) [0,2,3] (fun u=> [.ptr 0 0,.ptr 1 0,.ptr 2 0]) (fun u=> [rB L u.2,zSt,upB nm u.1,.app u.1.length 7]) (fun u=>7 - u.1.length) (fun u=>u.1.length<=6/\UI L s0 u.2/\zA3 L (7 - u.1.length) u.1 u.2=X) hc hb ([],s3) ⟨A3 _,hu3,hX⟩ ?_ ?_
 .exact at_n 4 (by simp[go_sem];exact⟨rfl,rfl⟩) rfl (by simp[rB,zSt,upB,ltOb,ltC,ltK]) (by decide) (zG (by simp[go_sem]) rfl)
 rintro⟨l,s⟩ ⟨hl,hu,hinv⟩
 simp only at hl hu hinv
 have hs:=hu.rin
 have ho:=hu.opn.trans ho0
 have htok:=zq2 L hL s hs
 have hwd:=zT4 (tokF L s).s (hL.txt _ (zA5 hs))
 have hmore:=yg4 L hL s hs l.length 6 (zS6 L s)
 have hme:=zf5 (L:=L) (n:=l.length) (most:=6) (b:=zS6 L s) (s:=s)
 rw[show 7 - l.length=(6 - l.length)+1 by omega,zA3]at hinv
 generalize hbg:zS6 L s=bg at hmore hme hinv
 unfold zS6 at hbg
 have hn1:=zM1 L hL s hs
 have hun:=hu.trans (zc7 hL hs)
 generalize tokF L s=tk at htok hwd hbg
 generalize zk3 tk.s=wd at hwd hbg
 generalize zf1 L l.length 6 bg s=m at hmore hme hinv
 have key:((tk.kind==1)=true/\wd=bg)∨((tk.kind==1)=false/\false=bg):=by
  revert hbg
  cases tk.kind==1<;>simp
 by_cases q:m.err=0
 rotate_left
 .have q':(m.err==0)=false:=by simpa using q
  rw[if_neg q]at hinv
  rw[q']at hmore
  have hX1:X.1=false:=by rw[<-hinv]
  have hX2:X.2.1=l:=by rw[<-hinv]
  have hX3:X.2.2=m:=by rw[<-hinv]
  rw[if_neg (by rw[hX1];decide),hX2,hX3]at hM
  refine zA ?_
  simp[go_sem]
  refine zK htok cB rd_1 rfl ?_
  simp[go_sem,upB]
  refine za0 [(10,0),(12,3)] 1 5 (by simp) (by kernel_rfl) (by kernel_rfl) ?_
  simp[go_sem]
  refine key.elim (fun⟨k1,k2⟩=> ?_) (fun⟨k1,k2⟩=> ?_)
  .simp[go_sem,k1]
   refine zW hwd cB (fun _=>zH rfl) rfl ?_
   simp[go_sem,k2]
   refine zv6 hmore cB (zM ⟨zC rfl,zC rfl,zC rfl,trivial⟩) rfl ?_
   simp[go_sem]
   exact zg6 (st:=⟨3,nm,[],[],l,false,zeroE,[],false,0⟩) hM
  .rw[<-k2]at hmore
   simp[go_sem,k1]
   refine zv6 hmore cB (zM ⟨zC rfl,zC rfl,zC rfl,trivial⟩) rfl ?_
   simp[go_sem]
   exact zg6 (st:=⟨3,nm,[],[],l,false,zeroE,[],false,0⟩) hM
 have q':(m.err==0)=true:=by simpa using q
 obtain⟨he,hl6,rfl⟩:=hme q
 rw[if_pos q]at hinv
 rw[q']at hmore
 generalize yW L m=n1 at hn1 hun hinv
 obtain⟨nm1,t1⟩:=n1
 simp only at hn1 hun hinv
 have hm4:=zd4 L hL t1 hun.rin [61]
 have hu4:=hun.trans (yE hL [61] hun.rin)
 generalize yD L [61] t1=t2 at hm4 hu4 hinv
 have hx:=ex_w L hL t2 hu4.rin (hu4.opn.trans ho0)
 have hu5:=hu4.trans (zK3 hL hu4.rin (hu4.opn.trans ho0))
 generalize exF L t2=x at hx hu5 hinv
 obtain⟨e,t3⟩:=x
 simp only at hu5 hinv
 by_cases q3:isT L [44] t3=true
 .rw[if_pos q3]at hinv
  refine zA ?_
  simp[go_sem]
  refine zK htok cB rd_1 rfl ?_
  simp[go_sem,upB]
  refine za0 [(10,0),(12,3)] 1 5 (by simp) (by kernel_rfl) (by kernel_rfl) ?_
  simp[go_sem]
  refine key.elim (fun⟨k1,k2⟩=> ?_) (fun⟨k1,k2⟩=> ?_)
  .simp[go_sem,k1]
   refine zW hwd cB (fun _=>zH rfl) rfl ?_
   simp[go_sem,k2]
   refine zv6 hmore cB (zM ⟨zC rfl,zC rfl,zC rfl,trivial⟩) rfl ?_
   simp[go_sem]
   refine zK hn1 cB rd_1 rfl ?_
   simp[go_sem]
   refine zK hm4 cB (zM ⟨zC rfl,trivial⟩) rfl ?_
   simp[go_sem]
   refine wX hx cB rd_1 ?_
   simp[go_sem,GExpr.row_eq]
   refine zJ ⟨by omega,yC rfl⟩ ?_
   simp[go_sem]
   refine zK (xH L hL t3 hu5.rin _ q3) cB (zM ⟨zC rfl,trivial⟩) rfl ?_
   simp[go_sem]
   refine zI (l++ [⟨nm1,e⟩],zO t3) ⟨by simp;omega,⟨by simp;omega,hu5.trans (yT hL hu5.rin q3),by simp only[Aw,Bh,show 7 - (l.length+1)=6 - l.length by omega];exact hinv⟩, ?_⟩
   exact aN 4 (by simp[rB,zSt,ltOb,ltC,ltK])
  .rw[<-k2]at hmore
   simp[go_sem,k1]
   refine zv6 hmore cB (zM ⟨zC rfl,zC rfl,zC rfl,trivial⟩) rfl ?_
   simp[go_sem]
   refine zK hn1 cB rd_1 rfl ?_
   simp[go_sem]
   refine zK hm4 cB (zM ⟨zC rfl,trivial⟩) rfl ?_
   simp[go_sem]
   refine wX hx cB rd_1 ?_
   simp[go_sem,GExpr.row_eq]
   refine zJ ⟨by omega,yC rfl⟩ ?_
   simp[go_sem]
   refine zK (xH L hL t3 hu5.rin _ q3) cB (zM ⟨zC rfl,trivial⟩) rfl ?_
   simp[go_sem]
   refine zI (l++ [⟨nm1,e⟩],zO t3) ⟨by simp;omega,⟨by simp;omega,hu5.trans (yT hL hu5.rin q3),by simp only[Aw,Bh,show 7 - (l.length+1)=6 - l.length by omega];exact hinv⟩, ?_⟩
   exact aN 4 (by simp[rB,zSt,ltOb,ltC,ltK])
 have q3:isT L [44] t3=false:=by simpa using q3
 rw[if_neg (by rw[q3];decide)]at hinv
 have hX1:X.1=true:=by rw[<-hinv]
 have hX2:X.2.1=l++ [⟨nm1,e⟩]:=by rw[<-hinv]
 have hX3:X.2.2=t3:=by rw[<-hinv]
 rw[if_pos hX1,hX2,hX3]at hM
 obtain⟨gw,hw⟩:=yk0 L hL t3 hu5.rin (hu5.opn.trans ho0) [zSt,.box [.int .i64 3,.str nm,.sl .full [],.sl .full [],.sl (.app 3) (l.map GAssign.row++ [[.str nm1,.int .i64 e.kind,.str e.s,.int .i64 e.v.kind,.int .i64 e.v.n,.str e.v.s,.sl .ro (e.args.map GExpr.row)]]),.bool false,.int .i64 0,.str [],.int .i64 0,.int .i64 0,.str [],.sl .full [],.str [],.bool false,.int .i64 0],
  .app (l.length+1) 7,.box [.int .i64 tk.kind,.int .i64 tk.place,.str tk.s,.int .i64 tk.n],.box [.str nm1,.int .i64 e.kind,.str e.s,.int .i64 e.v.kind,.int .i64 e.v.n,.str e.v.s,.sl .ro (e.args.map GExpr.row)]] 1 _ _ _ _ _ _ _ _ rfl
 generalize whS L t3=s9 at hw hM
 generalize whE L t3=w9 at hw hM
 have hr:=fun τ=>zg6 (L:=L) (g1:= .full) (g2:= .full) (g3:= .app 3) (g4:=gw) (τ:=τ) (st:=⟨3,nm,[],[],l++ [⟨nm1,e⟩],w9.1,w9.2,[],false,0⟩) hM
 simp at hr
 refine zA ?_
 simp[go_sem]
 refine zK htok cB rd_1 rfl ?_
 simp[go_sem,upB]
 refine za0 [(10,0),(12,3)] 1 5 (by simp) (by kernel_rfl) (by kernel_rfl) ?_
 simp[go_sem]
 refine key.elim (fun⟨k1,k2⟩=> ?_) (fun⟨k1,k2⟩=> ?_)
 .simp[go_sem,k1]
  refine zW hwd cB (fun _=>zH rfl) rfl ?_
  simp[go_sem,k2]
  refine zv6 hmore cB (zM ⟨zC rfl,zC rfl,zC rfl,trivial⟩) rfl ?_
  simp[go_sem]
  refine zK hn1 cB rd_1 rfl ?_
  simp[go_sem]
  refine zK hm4 cB (zM ⟨zC rfl,trivial⟩) rfl ?_
  simp[go_sem]
  refine wX hx cB rd_1 ?_
  simp[go_sem,GExpr.row_eq]
  refine zJ ⟨by omega,yC rfl⟩ ?_
  simp[go_sem]
  refine zK (wH L hL t3 hu5.rin _ q3) cB (zM ⟨zC rfl,trivial⟩) rfl ?_
  simp[go_sem]
  refine zB0 hw cB ?_
  rintro r σ ⟨rfl,rfl⟩ _
  simp[go_sem]
  exact hr _
 .rw[<-k2]at hmore
  simp[go_sem,k1]
  refine zv6 hmore cB (zM ⟨zC rfl,zC rfl,zC rfl,trivial⟩) rfl ?_
  simp[go_sem]
  refine zK hn1 cB rd_1 rfl ?_
  simp[go_sem]
  refine zK hm4 cB (zM ⟨zC rfl,trivial⟩) rfl ?_
  simp[go_sem]
  refine wX hx cB rd_1 ?_
  simp[go_sem,GExpr.row_eq]
  refine zJ ⟨by omega,yC rfl⟩ ?_
  simp[go_sem]
  refine zK (wH L hL t3 hu5.rin _ q3) cB (zM ⟨zC rfl,trivial⟩) rfl ?_
  simp[go_sem]
  refine zB0 hw cB ?_
  rintro r σ ⟨rfl,rfl⟩ _
  simp[go_sem]
  exact hr _
def zL4 (c:UInt8):Bool:=decide (c.toNat=9)||(decide (c.toNat=10)||(decide (c.toNat=13)||decide (c.toNat=32)))
theorem yj3 (c:UInt8) (n:Nat):(((c.toNat:Nat):Int)==(n:Int))=decide (c.toNat=n):=by
 rw[Dr]
 simp only[beq_iff_eq,decide_eq_true_eq]
 omega
theorem yQ4 (c:UInt8):Pure prog 85 [.int .u8 c.toNat] (.bool (zL4 c)):=by
 generalize hM:zL4 c=M
 unfold zL4 at hM
 have h9:=yj3 c 9
 have h10:=yj3 c 10
 have h13:=yj3 c 13
 have h32:=yj3 c 32
 simp only[Cd]at h9 h10 h13 h32
 have ret: ∀(r:Bool) (τ:St),r=M->wret (some (.bool r)) 0 (fun r σ=>r= .bool M/\σ= []) τ:=fun r τ h=>by subst h;exact zQ (zC rfl) ⟨rfl,rfl⟩
 refine iW 0 func85 ntmps85 results85 fun c hc hb=>zN ?_
 simp[go_sem]
 repeat' (first
  |(refine yZ (fun q=> ?_) (fun q=> ?_)<;>simp[go_sem,q])
  |(refine zT (fun q=> ?_) (fun q=> ?_)<;>simp[go_sem,q]))
 all_goals exact ret _ _ (by rw[<-hM];simp_all)
abbrev TR:=GToken×Nat×Int
def trV (x:TR):V:= .tup [.agg x.1.row,.int .i64 x.2.1,.int .i64 x.2.2]
theorem yy8 (x:TR):noS (trV x)=true:=rfl
theorem zd0 {τ:St} {t:GToken} {n:Nat} {e:Int} {M:TR} (h:(t,n,e)=M):wret (some (.tup [.agg [.int .i64 t.kind,.int .i64 t.place,.str t.s,.int .i64 t.n],.int .i64 n,.int .i64 e])) 0 (fun r σ=>r=trV M/\σ= []) τ:=by
 subst h
 exact zQ (zC rfl) ⟨rfl,rfl⟩
def numL (v:Int):List UInt8->Option Int
 | []=>some v
 |c::l=>if wG c=true then(if(9223372036854775807 - ((c.toNat:Int) - 48))/10<v then none else numL (v*10+((c.toNat:Int) - 48)) l)else some v
def numT (at_:Nat) (l:List UInt8):TR:=
 match numL 0 l with
 |none=>(zl9,0,5)
 |some v=>if wZ ((l.dropWhile wG).headD 0)=true then(zl9,0,13)else(⟨2,0,[],v⟩,at_+(l.takeWhile wG).length,0)
theorem yb1 {c:UInt8} (h:wG c=true):48<=c.toNat/\c.toNat<=57:=by unfold wG at h;simpa using h
theorem yI0 (s:List UInt8) (hl:s.length<=maxLen) (a:Nat) (ha:a<=s.length):Pure prog 148 [.str s,.int .i64 a] (trV (numT a (s.drop a))):=by
 generalize hM:numT a (s.drop a)=M
 unfold numT at hM
 unfold maxLen at hl
 have hlet0:wZ 0=false:=by decide
 refine iV 0 func148 ntmps148 results148 fun c hc hb=> ?_
 refine zA ?_
 simp[go_sem]
 refine zL (S:=Nat×Int) [0,1,4,7] (fun u=> [.str s,.int .i64 u.1,.ptr 0 0,.int .i64 u.2]) (fun _=> [.box [.int .i64 0,.int .i64 0,.str [],.int .i64 0]]) (fun u=>s.length - u.1)
  (fun u=>u.1<=s.length/\0<=u.2/\u.2<=9223372036854775807/\(match numL u.2 (s.drop u.1)with|none=>(zl9,0,5)|some v=>if wZ (((s.drop u.1).dropWhile wG).headD 0)=true then(zl9,0,13)else((⟨2,0,[],v⟩,u.1+((s.drop u.1).takeWhile wG).length,0):TR))=M) hc hb (a,0) ⟨ha,Int.le_refl _,by simp,hM⟩ ?_ ?_
 .exact aN 1 (by rfl)
 rintro⟨i,v⟩ ⟨hi,hv0,hv1,hinv⟩
 simp only at hi hv0 hv1 hinv
 by_cases q:i<s.length
 rotate_left
 .obtain rfl:i=s.length:=by omega
  rw[Cu]at hinv
  have hinv:(⟨⟨2,0,[],v⟩,s.length,0⟩:TR)=M:=by rw[<-hinv];rfl
  refine zA ?_
  simp[go_sem]
  exact zd0 (t:=⟨2,0,[],v⟩) hinv
 have ei:=zV q (by omega)
 obtain⟨x,hx⟩:=eX (s[i])
 rw[A6 q,hx]at hinv
 have hdg:=zv2 x
 have hlt:=zx5 x
 by_cases qd:wG x=true
 rotate_left
 .have qd:wG x=false:=by simpa using qd
  rw[numL,if_neg (by rw[qd];decide),List.dropWhile_cons_of_neg (by rw[qd];decide),List.takeWhile_cons_of_neg (by rw[qd];decide)]at hinv
  simp only[List.headD_cons,D7,Cb]at hinv
  rw[qd]at hdg
  by_cases ql:wZ x=true
  .simp only[ql,if_true]at hinv
   rw[ql]at hlt
   refine zA ?_
   simp[go_sem,q,hx]
   refine zD hdg cB (zH rfl) rfl ?_
   simp[go_sem,q,hx]
   refine zD hlt cB (zH rfl) rfl ?_
   simp[go_sem]
   exact zd0 (t:=zl9) hinv
  .have ql:wZ x=false:=by simpa using ql
   simp only[ql,Bf,if_false]at hinv
   rw[ql]at hlt
   refine zA ?_
   simp[go_sem,q,hx]
   refine zD hdg cB (zH rfl) rfl ?_
   simp[go_sem,q,hx]
   refine zD hlt cB (zH rfl) rfl ?_
   simp[go_sem]
   exact zd0 (t:=⟨2,0,[],v⟩) hinv
 have hr:=yb1 qd
 rw[numL,if_pos qd,List.dropWhile_cons_of_pos qd,Dn qd]at hinv
 rw[qd]at hdg
 have e1:IntKind.u8.wrap ((x.toNat:Int) - 48)=(x.toNat:Int) - 48:=yz0 (by omega) (by omega)
 have e2:IntKind.i64.wrap ((x.toNat:Int) - 48)=(x.toNat:Int) - 48:=i64_id (by omega) (by omega)
 have e3:IntKind.i64.wrap (9223372036854775807 - ((x.toNat:Int) - 48))=9223372036854775807 - ((x.toNat:Int) - 48):=i64_id (by omega) (by omega)
 obtain⟨d,hd⟩: ∃d:Int,(x.toNat:Int) - 48=d:=⟨_,rfl⟩
 rw[hd]at hinv e1 e2 e3
 have hd0:0<=d/\d<=9:=by omega
 have e4:IntKind.i64.wrap ((9223372036854775807 - d).tdiv 10)=(9223372036854775807 - d)/10:=by
  rw[Int.tdiv_eq_ediv_of_nonneg (by omega),i64_id (by omega) (by omega)]
 refine zA ?_
 simp[go_sem,q,hx]
 refine zD hdg cB (zH rfl) rfl ?_
 simp[go_sem,q,hx,e1,e2,e3,e4,hd]
 by_cases qg:(9223372036854775807 - d)/10<v
 .have qg':decide ((9223372036854775807 - d)/10<v)=true:=decide_eq_true qg
  simp only[qg,if_true]at hinv
  simp[go_sem,qg']
  exact zd0 (t:=zl9) hinv
 .have qg':decide ((9223372036854775807 - d)/10<v)=false:=decide_eq_false qg
  simp only[qg,if_false]at hinv
  have e5:IntKind.i64.wrap (v*10)=v*10:=i64_id (by omega) (by omega)
  have e6:IntKind.i64.wrap (v*10+d)=v*10+d:=i64_id (by omega) (by omega)
  simp[go_sem,qg',e5,e6,ei]
  refine zI (i+1,v*10+d) ⟨by simp only;omega,⟨by simp only;omega,by simp only;omega,by simp only;omega, ?_⟩, ?_⟩
  .simp only[Ah]at hinv
   rw[<-hinv]
   simp only[Bv,E2 1]
  .exact aN 1 (by rfl)
def ys0 (i:Nat) (w:List UInt8):TR:=if 64<w.length then(zl9,0,3)else(⟨3,0,w,0⟩,i+1,0)
def zh6:Nat->List UInt8->List UInt8->TR
 |_,_,[]=>(zl9,0,13)
 |i,w,[c]=>if c.toNat=39 then ys0 i w else(zl9,0,13)
 |i,w,c::c2::l=>if c.toNat=39 then(if c2.toNat=39 then zh6 (i+2) (w++ [c2]) l else ys0 i w)else zh6 (i+1) (w++ [c]) (c2::l)
theorem yS6 (i:Nat) (w:List UInt8) (c:UInt8) (l:List UInt8) (h: ¬c.toNat=39):zh6 i w (c::l)=zh6 (i+1) (w++ [c]) l:=by
 cases l with
 |nil=>rw[zh6,zh6,if_neg h]
 |cons c2 l=>rw[zh6,if_neg h]
theorem xf4 (s:List UInt8) (hl:s.length<=maxLen) (a:Nat) (ha:a<s.length):Pure prog 149 [.str s,.int .i64 a] (trV (zh6 (a+1) [] (s.drop (a+1)))):=by
 generalize hM:zh6 (a+1) [] (s.drop (a+1))=M
 unfold maxLen at hl
 have ea:IntKind.i64.wrap ((a:Int)+1)=((a+1:Nat):Int):=zV ha (by omega)
 refine iV 0 func149 ntmps149 results149 fun c hc hb=> ?_
 refine zA ?_
 simp[go_sem,ea]
 refine zL (S:=Nat×List UInt8) [0,4,7,8] (fun u=> [.str s,.ptr 0 0,.str u.2,.int .i64 u.1]) (fun _=> [.box [.int .i64 0,.int .i64 0,.str [],.int .i64 0]]) (fun u=>s.length - u.1)
  (fun u=>u.1<=s.length/\u.2.length<=u.1/\zh6 u.1 u.2 (s.drop u.1)=M) hc hb (a+1,[]) ⟨ha,A3 _,hM⟩ ?_ ?_
 .exact aN 1 (by rfl)
 rintro⟨i,w⟩ ⟨hi,hw,hinv⟩
 simp only at hi hw hinv
 by_cases q:i<s.length
 rotate_left
 .obtain rfl:i=s.length:=by omega
  rw[Cu]at hinv
  refine zA ?_
  simp[go_sem]
  exact zd0 (t:=zl9) hinv
 have ei:=zV q (by omega)
 obtain⟨x,hx⟩:=eX (s[i])
 have hx39:=yj3 x 39
 simp only[Cd]at hx39
 rw[A6 q,hx]at hinv
 by_cases q39:x.toNat=39
 rotate_left
 .rw[decide_eq_false q39]at hx39
  rw[yS6 _ _ _ _ q39]at hinv
  have hsl:(s.take (i+1)).drop i= [x]:=by
   rw[Dg,A0 q,hx,List.drop_append,A9 (by simp;omega),C2,D8 (by omega)]
   simp
  refine zA ?_
  simp[go_sem,q,hx,hx39,ei]
  refine zJ (by omega) ?_
  simp[go_sem,hsl]
  refine zJ (by omega) ?_
  simp[go_sem,ei]
  refine zI (i+1,w++ [x]) ⟨by simp only;omega,⟨by simp only;omega,by simp;omega,hinv⟩, ?_⟩
  exact aN 1 (by rfl)
 rw[decide_eq_true q39]at hx39
 by_cases q2:i+1<s.length
 rotate_left
 .have hdn:s.drop (i+1)= []:=A9 (by omega)
  rw[hdn,zh6,if_pos q39]at hinv
  unfold ys0 at hinv
  have e1:((i:Int)+1==(s.length:Int))=true:=by simp;omega
  refine zA ?_
  simp[go_sem,q,hx,hx39,ei,e1]
  by_cases q64:64<w.length
  .have q64':decide ((64:Int)<w.length)=true:=decide_eq_true (by omega)
   rw[if_pos q64]at hinv
   simp[go_sem,q64']
   exact zd0 (t:=zl9) hinv
  .have q64':decide ((64:Int)<w.length)=false:=decide_eq_false (by omega)
   rw[if_neg q64]at hinv
   simp[go_sem,q64',ei]
   exact zd0 (t:=⟨3,0,w,0⟩) hinv
 have e1:((i:Int)+1==(s.length:Int))=false:=by simp;omega
 have ei2:=zV q2 (by omega)
 obtain⟨y,hy⟩:=eX (s[i+1])
 have hy39:=yj3 y 39
 simp only[Cd]at hy39
 have hy2:s[i+1]?.getD 0=y:=by rw[A0 q2,hy];rfl
 have ei3:IntKind.i64.wrap ((i:Int)+1+1)=(i:Int)+2:=by rw[i64_id (by omega) (by omega)];omega
 rw[A6 q2,hy,zh6,if_pos q39]at hinv
 by_cases qy:y.toNat=39
 rotate_left
 .rw[if_neg qy]at hinv
  unfold ys0 at hinv
  rw[decide_eq_false qy]at hy39
  have hy39':((y.toNat:Int) !=39)=true:=by simp;omega
  refine zA ?_
  simp[go_sem,q,hx,hx39,ei,e1]
  refine zJ (by omega) ?_
  simp[go_sem,hy2,hy39']
  by_cases q64:64<w.length
  .have q64':decide ((64:Int)<w.length)=true:=decide_eq_true (by omega)
   rw[if_pos q64]at hinv
   simp[go_sem,q64']
   exact zd0 (t:=zl9) hinv
  .have q64':decide ((64:Int)<w.length)=false:=decide_eq_false (by omega)
   rw[if_neg q64]at hinv
   simp[go_sem,q64',ei]
   exact zd0 (t:=⟨3,0,w,0⟩) hinv
 rw[if_pos qy]at hinv
 rw[decide_eq_true qy]at hy39
 have hy39':((y.toNat:Int) !=39)=false:=by simp;omega
 have hsl:(s.take (i+2)).drop (i+1)= [y]:=by
  rw[Dg,A0 q2,hy,List.drop_append,A9 (by simp;omega),C2,D8 (by omega)]
  simp
 refine zA ?_
 simp[go_sem,q,hx,hx39,ei,e1]
 have et:((i:Int)+2).toNat=i+2:=by omega
 have ei4:IntKind.i64.wrap ((i:Int)+1+1)=((i+2:Nat):Int):=by rw[ei3];omega
 refine zJ (by omega) ?_
 simp[go_sem,hy2,hy39',ei,ei3,et]
 refine zJ (by omega) ?_
 simp[go_sem,hsl]
 refine zJ (by omega) ?_
 simp[go_sem,ei3]
 refine zI (i+2,w++ [y]) ⟨by simp only;omega,⟨by simp only;omega,by simp;omega,hinv⟩, ?_⟩
 exact aN 1 (by rfl)
def wrdF (c:UInt8):Bool:=wZ c||wG c
def signsL:List UInt8:= [40,41,44,59,42,61,60,62,43,45,47,37]
def oneF (s:List UInt8) (a:Nat):TR:=
 if wZ (s.getD a 0)=true then(⟨1,0,((s.drop a).takeWhile wrdF).map yG,0⟩,a+((s.drop a).takeWhile wrdF).length,0)
 else if wG (s.getD a 0)=true then numT a (s.drop a)
 else if(s.getD a 0).toNat=39 then zh6 (a+1) [] (s.drop (a+1))
 else if a+1<s.length/\((s.drop a).take 2= [60,61]∨(s.drop a).take 2= [62,61]∨(s.drop a).take 2= [60,62])then(⟨4,0,(s.drop a).take 2,0⟩,a+2,0)
 else if signsL.contains (s.getD a 0)=true then(⟨4,0,[s.getD a 0],0⟩,a+1,0)
 else(zl9,0,13)
theorem xw0 (s:List UInt8) (hl:s.length<=maxLen) (a:Nat) (ha:a<s.length):Pure prog 86 [.str s,.int .i64 a] (trV (oneF s a)):=by
 generalize hM:oneF s a=M
 have hnum:=yI0 s hl a (by omega)
 have htxt:=xf4 s hl a ha
 unfold oneF at hM
 unfold maxLen at hl
 have hga:s.getD a 0=s[a]:=by rw[A5,A0 ha];rfl
 rw[hga]at hM
 obtain⟨x,hx⟩:=eX (s[a])
 rw[hx]at hM
 have hlt:=zx5 x
 have hdg:=zv2 x
 generalize numT a (s.drop a)=n at hnum hM
 generalize zh6 (a+1) [] (s.drop (a+1))=t at htxt hM
 have ret: ∀(y:TR) (τ:St),y=M->wret (some (.tup [.agg [.int .i64 y.1.kind,.int .i64 y.1.place,.str y.1.s,.int .i64 y.1.n],.int .i64 y.2.1,.int .i64 y.2.2])) 0 (fun r σ=>r=trV M/\σ= []) τ:=fun y τ h=>zd0 (t:=y.1) h
 refine iV 0 func86 ntmps86 results86 fun c hc hb=> ?_
 refine zA ?_
 simp[go_sem,ha,hx]
 by_cases q1:wZ x=true
 .rw[if_pos q1]at hM
  rw[q1]at hlt
  refine zD hlt cB (zH rfl) rfl ?_
  simp[go_sem]
  refine zL (S:=Nat×List UInt8) [0,1,4,7] (fun u=> [.str s,.int .i64 u.1,.ptr 0 0,.str u.2]) (fun _=> [.box [.int .i64 0,.int .i64 0,.str [],.int .i64 0]]) (fun u=>s.length - u.1)
   (fun u=>u.1<=s.length/\u.2.length<=u.1/\((⟨1,0,u.2++((s.drop u.1).takeWhile wrdF).map yG,0⟩,u.1+((s.drop u.1).takeWhile wrdF).length,0):TR)=M) hc hb (a,[]) ⟨by simp only;omega,A3 _,hM⟩ ?_ ?_
  .exact aN 1 (by rfl)
  rintro⟨i,w⟩ ⟨hi,hw,hinv⟩
  simp only at hi hw hinv
  by_cases q:i<s.length
  rotate_left
  .obtain rfl:i=s.length:=by omega
   rw[Cu]at hinv
   simp only[List.takeWhile_nil,Br,B7,D7,Cb]at hinv
   refine zA ?_
   simp[go_sem]
   exact zd0 (t:=⟨1,0,w,0⟩) hinv
  have ei:=zV q (by omega)
  obtain⟨y,hy⟩:=eX (s[i])
  rw[A6 q,hy]at hinv
  have hl2:=zx5 y
  have hd2:=zv2 y
  have hg2:=yu8 y
  have yes:wrdF y=true->((⟨1,0,(w++ [yG y])++((s.drop (i+1)).takeWhile wrdF).map yG,0⟩,i+1+((s.drop (i+1)).takeWhile wrdF).length,0):TR)=M:=fun h=>by
   rw[Dn h]at hinv
   rw[<-hinv,Al,C5,Ah,Bv i 1,E2 1]
   rfl
  have no:wrdF y=false->((⟨1,0,w,0⟩,i,0):TR)=M:=fun h=>by
   rw[List.takeWhile_cons_of_neg (by rw[h];decide)]at hinv
   rw[<-hinv]
   simp
  have hib:zO7 [[V.int .u8 ((yG y).toNat:Int)]]:=wQ [yG y]
  have hrb:zo7 [V.int .u8 ((yG y).toNat:Int)]=yG y:=(List.cons.inj (zi9 [yG y])).1
  refine zA ?_
  simp[go_sem,q,hy]
  refine zD hl2 cB (zH rfl) rfl ?_
  refine(A7 (wZ y)).elim (fun p1=> ?_) (fun p1=> ?_)
  .have hyes:=yes (by unfold wrdF;rw[p1];rfl)
   simp[go_sem,p1,q,hy]
   refine zD hg2 cB (zH rfl) rfl ?_
   simp[go_sem]
   refine zJ hib ?_
   simp[go_sem,hrb]
   refine zJ (by omega) ?_
   simp[go_sem,ei]
   refine zI (i+1,w++ [yG y]) ⟨by simp only;omega,⟨by simp only;omega,by simp;omega,hyes⟩, ?_⟩
   exact aN 1 (by rfl)
  refine(A7 (wG y)).elim (fun p2=> ?_) (fun p2=> ?_)
  .have hyes:=yes (by unfold wrdF;rw[p1,p2];rfl)
   simp[go_sem,p1,q,hy]
   refine zD hd2 cB (zH rfl) rfl ?_
   simp[go_sem,p2,q,hy]
   refine zD hg2 cB (zH rfl) rfl ?_
   simp[go_sem]
   refine zJ hib ?_
   simp[go_sem,hrb]
   refine zJ (by omega) ?_
   simp[go_sem,ei]
   refine zI (i+1,w++ [yG y]) ⟨by simp only;omega,⟨by simp only;omega,by simp;omega,hyes⟩, ?_⟩
   exact aN 1 (by rfl)
  .have hno:=no (by unfold wrdF;rw[p1,p2];rfl)
   simp[go_sem,p1,q,hy]
   refine zD hd2 cB (zH rfl) rfl ?_
   simp[go_sem,p2]
   exact zd0 (t:=⟨1,0,w,0⟩) hno
 have q1:wZ x=false:=by simpa using q1
 rw[if_neg (by rw[q1];decide)]at hM
 rw[q1]at hlt
 refine zD hlt cB (zH rfl) rfl ?_
 simp[go_sem,ha,hx]
 by_cases q2:wG x=true
 .rw[if_pos q2]at hM
  rw[q2]at hdg
  refine zD hdg cB (zH rfl) rfl ?_
  simp[go_sem]
  refine zD hnum cB (zH rfl) (yy8 _) ?_
  simp[go_sem,trV]
  exact ret _ _ hM
 have q2:wG x=false:=by simpa using q2
 rw[if_neg (by rw[q2];decide)]at hM
 rw[q2]at hdg
 refine zD hdg cB (zH rfl) rfl ?_
 simp[go_sem,ha,hx]
 have hx39:=yj3 x 39
 simp only[Cd]at hx39
 by_cases q3:x.toNat=39
 .rw[if_pos q3]at hM
  rw[decide_eq_true q3]at hx39
  simp[go_sem,hx39]
  refine zD htxt cB (zH rfl) (yy8 _) ?_
  simp[go_sem,trV]
  exact ret _ _ hM
 rw[if_neg q3]at hM
 rw[decide_eq_false q3]at hx39
 simp[go_sem,hx39]
 have hey: ∀(y:UInt8),((y.toNat:Int)==(x.toNat:Int))=(y==x):=fun y=>by
  rw[Dr]
  simp only[beq_iff_eq]
  exact⟨fun h=>UInt8.toNat_inj.1 (by omega),fun h=>by rw[h]⟩
 have ea:IntKind.i64.wrap ((a:Int)+1)=((a+1:Nat):Int):=zV ha (by omega)
 have hsl1:(s.take (a+1)).drop a= [x]:=by
  rw[Dg,A0 ha,hx,List.drop_append,A9 (by simp;omega),C2,D8 (by omega)]
  simp
 by_cases qa:a+1<s.length
 rotate_left
 .have qa':decide ((a:Int)+1<s.length)=false:=decide_eq_false (by omega)
  rw[if_neg (fun h=>qa h.1)]at hM
  simp[go_sem,ea,qa']
  refine zL (S:=Nat) [0,1,4,9] (fun k=> [.str s,.int .i64 a,.ptr 0 0,.int .i64 (k:Int)]) (fun _=> [.box [.int .i64 0,.int .i64 0,.str [],.int .i64 0]]) (fun k=>12 - k)
   (fun k=>k<=12/\(if(signsL.drop k).contains x=true then(⟨4,0,[x],0⟩,a+1,0)else(zl9,0,13):TR)=M) hc hb 0 ⟨A3 _,hM⟩ ?_ ?_
  .exact aN 1 (by rfl)
  rintro k ⟨hk,hinv⟩
  by_cases qk:k<12
  rotate_left
  .obtain rfl:k=12:=by omega
   refine zA ?_
   simp[go_sem]
   exact zd0 (t:=zl9) hinv
  have hkl:k<signsL.length:=qk
  have ek:=zV qk (by decide)
  have qk':decide ((k:Int)<12)=true:=decide_eq_true (by omega)
  obtain⟨y,hy⟩:=eX (signsL[k])
  rw[A6 hkl,hy]at hinv
  have hy2: [40,41,44,59,42,61,60,62,43,45,47,37][k]?.getD (0:UInt8)=y:=by
   have:signsL[k]?.getD 0=y:=by rw[A0 hkl,hy];rfl
   exact this
  refine zA ?_
  simp[go_sem,qk']
  refine yU [] 1 (by simp) (by kernel_rfl) (by kernel_rfl) ?_
  simp[go_sem]
  refine zJ (by omega) ?_
  simp[go_sem,ha,hx,hy2,hey]
  by_cases qe:(y==x)=true
  .have hyx:y=x:=by simpa using qe
   rw[if_pos (by simp[hyx])]at hinv
   simp[go_sem,qe,ea]
   refine zJ (by omega) ?_
   simp[go_sem,hsl1,ea]
   exact zd0 (t:=⟨4,0,[x],0⟩) hinv
  .have qe:(y==x)=false:=by simpa using qe
   have hc2:(y::signsL.drop (k+1)).contains x=(signsL.drop (k+1)).contains x:=by
    rw[Dw,show(x==y)=false by rw[<-qe];exact Dr.2 ⟨fun h=>by simp_all,fun h=>by simp_all⟩]
    rfl
   rw[hc2]at hinv
   simp[go_sem,qe,ek]
   exact zI (k+1) ⟨by omega,⟨by omega,hinv⟩,aN 1 (by rfl)⟩
 have qa':decide ((a:Int)+1<s.length)=true:=decide_eq_true (by omega)
 have ea2:IntKind.i64.wrap ((a:Int)+2)=(a:Int)+2:=by rw[i64_id (by omega) (by omega)]
 have et:((a:Int)+2).toNat=a+2:=by omega
 have hd2:(s.drop a).take 2=(s.take (a+2)).drop a:=by rw[List.drop_take];congr 1;omega
 rw[hd2]at hM
 simp[go_sem,ea,ea2,et,qa']
 refine zJ (by omega) ?_
 simp[go_sem]
 generalize (s.take (a+2)).drop a=two at hM
 have yes:(two= [60,61]∨two= [62,61]∨two= [60,62])->((⟨4,0,two,0⟩,a+2,0):TR)=M:=fun h=>by rw[if_pos ⟨qa,h⟩]at hM;exact hM
 have no: ¬(two= [60,61]∨two= [62,61]∨two= [60,62])->(if signsL.contains x=true then(⟨4,0,[x],0⟩,a+1,0)else(zl9,0,13):TR)=M:=fun h=>by rw[if_neg (fun hh=>h hh.2)]at hM;exact hM
 clear hM
 by_cases qt:two= [60,61]∨two= [62,61]∨two= [60,62]
 .have hM:=yes qt
  rcases qt with rfl|rfl|rfl
  all_goals simp[go_sem,ea2]
  all_goals exact zd0 (t:=⟨4,0,_,0⟩) hM
 .have hM:=no qt
  have p1:(two== [60,61])=false:=by simpa using fun h=>qt (.inl h)
  have p2:(two== [62,61])=false:=by simpa using fun h=>qt (.inr (.inl h))
  have p3:(two== [60,62])=false:=by simpa using fun h=>qt (.inr (.inr h))
  clear yes no qt
  simp[go_sem,p1,p2,p3]
  refine zL (S:=Nat) [0,1,4,9] (fun k=> [.str s,.int .i64 a,.ptr 0 0,.int .i64 (k:Int)]) (fun _=> [.box [.int .i64 0,.int .i64 0,.str [],.int .i64 0]]) (fun k=>12 - k)
   (fun k=>k<=12/\(if(signsL.drop k).contains x=true then(⟨4,0,[x],0⟩,a+1,0)else(zl9,0,13):TR)=M) hc hb 0 ⟨A3 _,hM⟩ ?_ ?_
  .exact aN 1 (by rfl)
  rintro k ⟨hk,hinv⟩
  by_cases qk:k<12
  rotate_left
  .obtain rfl:k=12:=by omega
   refine zA ?_
   simp[go_sem]
   exact zd0 (t:=zl9) hinv
  have hkl:k<signsL.length:=qk
  have ek:=zV qk (by decide)
  have qk':decide ((k:Int)<12)=true:=decide_eq_true (by omega)
  obtain⟨y,hy⟩:=eX (signsL[k])
  rw[A6 hkl,hy]at hinv
  have hy2: [40,41,44,59,42,61,60,62,43,45,47,37][k]?.getD (0:UInt8)=y:=by
   have:signsL[k]?.getD 0=y:=by rw[A0 hkl,hy];rfl
   exact this
  refine zA ?_
  simp[go_sem,qk']
  refine yU [] 1 (by simp) (by kernel_rfl) (by kernel_rfl) ?_
  simp[go_sem]
  refine zJ (by omega) ?_
  simp[go_sem,ha,hx,hy2,hey]
  by_cases qe:(y==x)=true
  .have hyx:y=x:=by simpa using qe
   rw[if_pos (by simp[hyx])]at hinv
   simp[go_sem,qe,ea]
   refine zJ (by omega) ?_
   simp[go_sem,hsl1,ea]
   exact zd0 (t:=⟨4,0,[x],0⟩) hinv
  .have qe:(y==x)=false:=by simpa using qe
   have hc2:(y::signsL.drop (k+1)).contains x=(signsL.drop (k+1)).contains x:=by
    rw[Dw,show(x==y)=false by rw[<-qe];exact Dr.2 ⟨fun h=>by simp_all,fun h=>by simp_all⟩]
    rfl
   rw[hc2]at hinv
   simp[go_sem,qe,ek]
   exact zI (k+1) ⟨by omega,⟨by omega,hinv⟩,aN 1 (by rfl)⟩
def lexL (s:List UInt8):Nat->Nat->List GToken->List GToken×Int
 |0,_,_=>([],0)
 |n+1,a,l=>
  if a<s.length then
   (if zL4 (s.getD a 0)=true then lexL s n (a+1) l
   else if(oneF s a).2.2=0 then lexL s n (oneF s a).2.1 (l++ [{(oneF s a).1 with place:=a}])else([],(oneF s a).2.2))
  else(l++ [⟨0,s.length,[],0⟩],0)
def lexF (s:List UInt8):List GToken×Int:=if 2000<s.length then([],3)else lexL s (s.length+1) 0 []
theorem yG9: ∀(l:List UInt8) (v r:Int),0<=v->v<=9223372036854775807->numL v l=some r->0<=r/\r<=9223372036854775807
 | [],v,r,h0,h1,h=>by rw[numL]at h;cases h;exact⟨h0,h1⟩
 |c::l,v,r,h0,h1,h=>by
  rw[numL]at h
  split at h
  .rename_i hd
   have hr:=yb1 hd
   split at h
   .cases h
   .exact yG9 l _ r (by omega) (by omega) h
  .cases h;exact⟨h0,h1⟩
theorem yj2: ∀(k:Nat) (l:List UInt8),l.length<=k-> ∀(i:Nat) (w:List UInt8),(zh6 i w l).2.2=0->i<(zh6 i w l).2.1/\(zh6 i w l).2.1<=i+l.length/\(zh6 i w l).1.s.length<=64/\(zh6 i w l).1.n=0
 |0,l,hk,i,w,h=>by
  have:l= []:=B2 (by omega)
  subst this
  simp[zh6]at h
 |k+1,l,hk,i,w,h=>by
  match l,hk with
  | [],_=>simp[zh6]at h
  | [c],_=>
   rw[zh6]at h⊢
   split at h
   .rename_i hc
    rw[if_pos hc]
    unfold ys0 at h⊢
    split at h
    .simp at h
    .rename_i h64
     rw[if_neg h64]
     exact⟨by simp,by simp,by simp only;omega,rfl⟩
   .simp at h
  |c::c2::l,hk=>
   rw[zh6]at h⊢
   split at h
   .rename_i hc
    rw[if_pos hc]
    split at h
    .rename_i hc2
     rw[if_pos hc2]
     have:=yj2 k l (by simp at hk;omega) _ _ h
     simp only[Ah]
     omega
    .rename_i hc2
     rw[if_neg hc2]
     unfold ys0 at h⊢
     split at h
     .simp at h
     .rename_i h64
      rw[if_neg h64]
      exact⟨by simp,by simp,by simp only;omega,rfl⟩
   .rename_i hc
    rw[if_neg hc]
    have:=yj2 k (c2::l) (by simp at hk⊢;omega) _ _ h
    simp only[Ah]at this⊢
    omega
theorem yS8 {p:UInt8->Bool}: ∀l:List UInt8,(l.takeWhile p).length<=l.length
 | []=>A2 _
 |c::l=>by
  rw[List.takeWhile_cons]
  have:=yS8 (p:=p) l
  split<;>simp only[Ah,D7]<;>omega
theorem yZ0 {s:List UInt8} {a:Nat} (ha:a<s.length) (h:(oneF s a).2.2=0):a<(oneF s a).2.1/\(oneF s a).2.1<=s.length/\(oneF s a).1.s.length<=s.length+64/\0<=(oneF s a).1.n/\(oneF s a).1.n<=9223372036854775807:=by
 have hga:s.getD a 0=s[a]:=by rw[A5,A0 ha];rfl
 have hdr:=A6 ha
 unfold oneF at h⊢
 rw[hga,hdr]at h⊢
 obtain⟨x,hx⟩:=eX (s[a])
 rw[hx]at h⊢
 have hl:(s.drop (a+1)).length=s.length - (a+1):=Ei
 generalize s.drop (a+1)=l at h hl⊢
 split at h
 .rename_i q1
  rw[if_pos q1]
  have hw:wrdF x=true:=by unfold wrdF;rw[q1];rfl
  have:=yS8 (p:=wrdF) l
  rw[Dn hw]
  simp only[Ah,Aq]
  omega
 rename_i q1
 rw[if_neg q1]
 split at h
 .rename_i q2
  rw[if_pos q2]
  unfold numT at h⊢
  split at h
  .simp at h
  rename_i r hr
  have hrr:=yG9 _ 0 r (Int.le_refl _) (by decide) hr
  split at h
  .simp at h
  rename_i hle
  rw[if_neg hle,Dn q2]
  have:=yS8 (p:=wG) l
  simp only[Ah,D7]
  omega
 rename_i q2
 rw[if_neg q2]
 split at h
 .rename_i q3
  rw[if_pos q3]
  have:=yj2 l.length l (A2 _) _ _ h
  omega
 rename_i q3
 rw[if_neg q3]
 split at h
 .rename_i q4
  rw[if_pos q4]
  simp only[C2]
  omega
 rename_i q4
 rw[if_neg q4]
 split at h
 .rename_i q5
  rw[if_pos q5]
  simp only[Bh]
  omega
 .simp at h
def yT9 (t:GToken):Prop:=t.s.length<=3000/\0<=t.n/\t.n<=9223372036854775807
theorem yv6 {s:List UInt8} (hs:s.length<=2000): ∀(n a:Nat) (l:List GToken),s.length<n+a->a<=s.length->l.length<=a->(∀t∈l,yT9 t)->(lexL s n a l).2=0->
  ∃l',(lexL s n a l).1=l'++ [⟨0,s.length,[],0⟩]/\l'.length<=s.length/\ ∀t∈l',yT9 t
 |0,a,l,hf,ha,_,_,_=>by omega
 |n+1,a,l,hf,ha,hl,ht,h=>by
  unfold lexL at h⊢
  by_cases q:a<s.length
  rotate_left
  .rw[if_neg q]
   exact⟨l,rfl,by omega,ht⟩
  rw[if_pos q]at h⊢
  by_cases q2:zL4 (s.getD a 0)=true
  .rw[if_pos q2]at h⊢
   exact yv6 hs n (a+1) l (by omega) (by omega) (by omega) ht h
  rw[if_neg q2]at h⊢
  by_cases q3:(oneF s a).2.2=0
  .rw[if_pos q3]at h⊢
   have ho:=yZ0 q q3
   refine yv6 hs n _ _ (by omega) (by omega) (by simp;omega) (fun t htm=> ?_) h
   rw[B4]at htm
   rcases htm with htm|htm
   .exact ht t htm
   .simp only[Ag,Ba,or_false]at htm
    subst htm
    unfold yT9
    simp only
    omega
  .rw[if_neg q3]at h
   exact absurd h q3
theorem yX2 {s:List UInt8} (h:(lexF s).2=0):s.length<=2000/\LIn (lexF s).1/\LGood (lexF s).1/\1<=(lexF s).1.length/\(lexF s).1.length<=2001:=by
 unfold lexF at h⊢
 split at h
 .simp at h
 rename_i hl
 rw[if_neg hl]
 obtain⟨l',h1,h2,h3⟩:=yv6 (by omega) _ _ _ (by omega) (A3 _) (A2 _) (fun t ht=>by cases ht) h
 have h4: ∀t∈l'++ [⟨0,s.length,[],0⟩],yT9 t:=fun t ht=>by
  rw[B4]at ht
  rcases ht with ht|ht
  .exact h3 t ht
  .simp only[Ag,Ba,or_false]at ht
   subst ht
   exact⟨A3 _,Int.le_refl _,by simp⟩
 rw[h1]
 refine⟨by omega,⟨by simp;omega,fun i hi=> ?_,fun t ht=> ?_⟩,⟨fun t ht=> ?_,fun t ht=>(h4 t ht).2⟩,by simp,by simp;omega⟩
 .have:i=l'.length:=by simp at hi;omega
  subst this
  rw[A5,Ai (A2 _),Nat.sub_self]
  rfl
 .have:=(h4 t ht).1;unfold maxLen;omega
 .have:=(h4 t ht).1;omega
def lexV (x:List GToken×Int):V:= .tup [.sl .ro (x.1.map GToken.row),.int .i64 x.2]
theorem yz9 {g:Tag} {τ:St} {l:List GToken} {e:Int} {M:List GToken×Int} (h:(l,e)=M):wret (some (.tup [.sl g (l.map GToken.row),.int .i64 e])) 0 (fun r σ=>r=lexV M/\σ= []) τ:=by
 subst h
 exact zQ (r:= .tup [.sl .ro (l.map GToken.row),.int .i64 e]) (xT ⟨zr9,za6 rfl,trivial⟩) ⟨rfl,rfl⟩
theorem xT9 (s:List UInt8) (hl:s.length<=maxLen):Pure prog 37 [.str s] (lexV (lexF s)):=by
 generalize hM:lexF s=M
 unfold lexF at hM
 unfold maxLen at hl
 refine iV 0 func37 ntmps37 results37 fun c hc hb=> ?_
 refine zA ?_
 simp[go_sem]
 by_cases q0:2000<s.length
 .rw[if_pos q0]at hM
  have q0':decide ((2000:Int)<s.length)=true:=decide_eq_true (by omega)
  simp[go_sem,q0']
  exact yz9 (l:= []) hM
 rw[if_neg q0]at hM
 have q0':decide ((2000:Int)<s.length)=false:=decide_eq_false (by omega)
 simp[go_sem,q0']
 refine zn1 4 4 (by decide) (by simp[go_sem]) ?_
 refine zL (S:=Nat×List GToken) [0,4,5] (fun u=> [.str s,.sl (.app 0) (u.2.map GToken.row),.int .i64 u.1]) (fun u=> [.app u.2.length 4]) (fun u=>s.length - u.1)
  (fun u=>u.1<=s.length/\u.2.length<=u.1/\ ∃n,s.length<n+u.1/\lexL s n u.1 u.2=M) hc hb (0,[]) ⟨A3 _,A2 _,s.length+1,by simp only;omega,hM⟩ ?_ ?_
 .exact aN 1 (by rfl)
 rintro⟨a,l⟩ ⟨ha,hla,n,hn,hinv⟩
 simp only at ha hla hn hinv
 obtain⟨n,rfl⟩: ∃m,n=m+1:=⟨n - 1,by omega⟩
 rw[lexL]at hinv
 by_cases q:a<s.length
 rotate_left
 .rw[if_neg q]at hinv
  refine zA ?_
  simp[go_sem,q]
  refine zJ ⟨by omega,yC rfl⟩ ?_
  simp[go_sem]
  have hr:=fun g τ=>yz9 (g:=g) (τ:=τ) hinv
  simp at hr
  exact hr _ _
 rw[if_pos q]at hinv
 have ea:=zV q (by omega)
 obtain⟨x,hx⟩:=eX (s[a])
 have hga:s.getD a 0=x:=by rw[A5,A0 q,hx];rfl
 rw[hga]at hinv
 have hbl:=yQ4 x
 by_cases q2:zL4 x=true
 .rw[if_pos q2]at hinv
  rw[q2]at hbl
  refine zA ?_
  simp[go_sem,q,hx]
  refine zD hbl cB (zH rfl) rfl ?_
  simp[go_sem,ea]
  exact zI (a+1,l) ⟨by simp only;omega,⟨by simp only;omega,by simp only;omega,n,by simp only;omega,hinv⟩,aN 1 (by rfl)⟩
 have q2:zL4 x=false:=by simpa using q2
 rw[if_neg (by rw[q2];decide)]at hinv
 rw[q2]at hbl
 have hone:=xw0 s (by unfold maxLen;omega) a q
 have hok:=yZ0 q
 generalize oneF s a=o at hone hok hinv
 by_cases q3:o.2.2=0
 .rw[if_pos q3]at hinv
  have hok:=hok q3
  have q3':(o.2.2 !=0)=false:=by simpa using q3
  refine zA ?_
  simp[go_sem,q,hx]
  refine zD hbl cB (zH rfl) rfl ?_
  simp[go_sem]
  refine zD hone cB (zH rfl) (yy8 _) ?_
  simp[go_sem,trV,q3']
  refine zJ ⟨by omega,yC rfl⟩ ?_
  simp[go_sem]
  refine zI (o.2.1,l++ [{o.1 with place:=a}]) ⟨by simp only;omega,⟨by simp only;omega,by simp;omega,n,by simp only;omega,hinv⟩, ?_⟩
  exact aN 1 (by rfl)
 .rw[if_neg q3]at hinv
  have q3':(o.2.2 !=0)=true:=by simpa using q3
  refine zA ?_
  simp[go_sem,q,hx]
  refine zD hbl cB (zH rfl) rfl ?_
  simp[go_sem]
  refine zD hone cB (zH rfl) (yy8 _) ?_
  simp[go_sem,trV,q3']
  exact yz9 (l:= []) hinv
variable {L:List GToken}
def ya2:List UInt8:= [83,69,76,69,67,84]
def ya0:List UInt8:= [73,78,83,69,82,84]
def ya3:List UInt8:= [85,80,68,65,84,69]
def zD7:List UInt8:= [68,69,76,69,84,69]
def zk1 (L:List GToken) (s:RS):GStmt×RS:=
 if isT L ya2 s=true then zk0 L (zO s)
 else if isT L ya0 s=true then zj2 L (zO s)
 else if isT L ya3 s=true then zk2 L (zO s)
 else
  let n:=yW L (yD L zA9 (yD L zD7 s))
  (⟨4,n.1,[],[],[],(whE L n.2).1,(whE L n.2).2,[],false,0⟩,whS L n.2)
theorem yR4 (hL:LIn L) {s:RS} (h:RIn L s) (ho:s.opn=0):UI L s (zk0 L s).2:=by
 unfold zk0
 have h1:=yf1 hL h ho
 have h2:=h1.trans (yE hL zA9 h1.rin)
 have h3:=h2.trans (zc7 hL h2.rin)
 have h4:=h3.trans (ys7 hL h3.rin (h3.opn.trans ho))
 have h5:=h4.trans (yh3 hL h4.rin)
 exact h5.trans (yF2 hL h5.rin)
theorem yy4 (hL:LIn L) {s:RS} (h:RIn L s) (ho:s.opn=0):UI L s (zk1 L s).2:=by
 unfold zk1
 split
 .have h1:=yT hL h ‹_›
  exact h1.trans (yR4 hL h1.rin (h1.opn.trans ho))
 split
 .have h1:=yT hL h ‹_›
  exact h1.trans (yO3 hL h1.rin (h1.opn.trans ho))
 split
 .have h1:=yT hL h ‹_›
  exact h1.trans (yT0 hL h1.rin (h1.opn.trans ho))
 .have h1:=yE hL zD7 h
  have h2:=h1.trans (yE hL zA9 h1.rin)
  have h3:=h2.trans (zc7 hL h2.rin)
  exact h3.trans (ys7 hL h3.rin (h3.opn.trans ho))
theorem xS3 (L:List GToken) (hL:LIn L) (s:RS) (hs:RIn L s) (ho:s.opn=0):VCalls prog 40 [.ptr 0 0] [rB L s] (RT L (zk1 L s)):=by
 generalize hM:zk1 L s=M
 unfold zk1 at hM
 have ret: ∀(x:GStmt×RS) (τ:St),x=M->wret (some (.agg x.1.row)) 1 (RT L M) (rB L x.2::τ):=fun x τ h=>zg6 (g1:= .ro) (g2:= .ro) (g3:= .ro) (g4:= .ro) (st:=x.1) h
 refine iW 1 func40 ntmps40 results40 fun c hc hb=>zN ?_
 simp[go_sem]
 by_cases q1:isT L ya2 s=true
 .rw[if_pos q1]at hM
  have hc1:=xi5 L hL (zO s) (hs.next hL q1) ho
  generalize zk0 L (zO s)=x at hc1 hM
  refine zK (xH L hL s hs _ q1) cB (zM ⟨zC rfl,trivial⟩) rfl ?_
  simp[go_sem]
  refine zK hc1 cB rd_1 (yg7 _) ?_
  simp[go_sem]
  exact ret x _ hM
 have q1:isT L ya2 s=false:=by simpa using q1
 rw[if_neg (by rw[q1];decide)]at hM
 refine zK (wH L hL s hs _ q1) cB (zM ⟨zC rfl,trivial⟩) rfl ?_
 simp[go_sem]
 by_cases q2:isT L ya0 s=true
 .rw[if_pos q2]at hM
  have hc1:=xe4 L hL (zO s) (hs.next hL q2) ho
  generalize zj2 L (zO s)=x at hc1 hM
  refine zK (xH L hL s hs _ q2) cB (zM ⟨zC rfl,trivial⟩) rfl ?_
  simp[go_sem]
  refine zK hc1 cB rd_1 (yg7 _) ?_
  simp[go_sem]
  exact ret x _ hM
 have q2:isT L ya0 s=false:=by simpa using q2
 rw[if_neg (by rw[q2];decide)]at hM
 refine zK (wH L hL s hs _ q2) cB (zM ⟨zC rfl,trivial⟩) rfl ?_
 simp[go_sem]
 by_cases q3:isT L ya3 s=true
 .rw[if_pos q3]at hM
  have hc1:=xj8 L hL (zO s) (hs.next hL q3) ho
  generalize zk2 L (zO s)=x at hc1 hM
  refine zK (xH L hL s hs _ q3) cB (zM ⟨zC rfl,trivial⟩) rfl ?_
  simp[go_sem]
  refine zK hc1 cB rd_1 (yg7 _) ?_
  simp[go_sem]
  exact ret x _ hM
 have q3:isT L ya3 s=false:=by simpa using q3
 rw[if_neg (by rw[q3];decide)]at hM
 refine zK (wH L hL s hs _ q3) cB (zM ⟨zC rfl,trivial⟩) rfl ?_
 simp[go_sem]
 have hm1:=zd4 L hL s hs zD7
 have hu1:=yE hL zD7 hs
 generalize yD L zD7 s=s1 at hm1 hu1 hM
 have hm2:=zd4 L hL s1 hu1.rin zA9
 have hu2:=hu1.trans (yE hL zA9 hu1.rin)
 generalize yD L zA9 s1=s2 at hm2 hu2 hM
 have hn:=zM1 L hL s2 hu2.rin
 have hu3:=hu2.trans (zc7 hL hu2.rin)
 generalize yW L s2=n at hn hu3 hM
 obtain⟨nm,s3⟩:=n
 simp only at hn hu3 hM
 obtain⟨gw,hw⟩:=yk0 L hL s3 hu3.rin (hu3.opn.trans ho) [zSt,.box [.int .i64 4,.str nm,.sl .full [],.sl .full [],.sl .full [],.bool false,.int .i64 0,.str [],.int .i64 0,.int .i64 0,.str [],.sl .full [],.str [],.bool false,.int .i64 0]] 1 _ _ _ _ _ _ _ _ rfl
 generalize whS L s3=s4 at hw hM
 generalize whE L s3=w at hw hM
 refine zK hm1 cB (zM ⟨zC rfl,trivial⟩) rfl ?_
 simp[go_sem]
 refine zK hm2 cB (zM ⟨zC rfl,trivial⟩) rfl ?_
 simp[go_sem]
 refine zK hn cB rd_1 rfl ?_
 simp[go_sem]
 refine zB0 hw cB ?_
 rintro r σ ⟨rfl,rfl⟩ _
 simp[go_sem]
 exact zg6 (st:=⟨4,nm,[],[],[],w.1,w.2,[],false,0⟩) hM
theorem wM {P:Program} {c:Ctx} {f:FuncId} {caps args args':List V} {o:Ob} {τ:St} {L:List GToken} {s s':RS} {v:V} {KV:V->St->Prop} (hc:VCalls P f args' [rB L s] (fun r σ=>r=v/\σ= [rB L s'])) (hb:wS P f=true)
  (hargs:All2 (argS (ren [1] (τ.length+2))) args' (args++caps)) (hn:noS v=true) (hk:KV v (o::rB L s'::τ)):wVC P c (.fn f caps) args (o::rB L s::τ) KV fx:=by
 refine zl2 1 hc hb rfl (zL1 _ _ _) hargs (fun r σ h=>⟨_,h.2,zL1 _ _ _⟩) ?_
 rintro r o2 ⟨rfl,h2⟩
 obtain rfl:o2=rB L s':=by simpa using h2
 rw[zD2 hn]
 exact hk
theorem xb9 {P:Program} {c:Ctx} {n:Nat} {f:FuncId} {caps args args':List V} {o:Ob} {τ:St} {L:List GToken} {s s':RS} {v:V} {KV:V->St->Prop} (hc:VCalls P f args' [rB L s] (fun r σ=>r=v/\σ= [rB L s'])) (hb:wS P f=true)
  (hargs:All2 (argS (ren [1] (τ.length+2))) args' (args++caps)) (hn:noS v=true) (hk:KV v (o::rB L s'::τ)):wVD P c ⟨2,n,[],none⟩ 3 (.fn f caps) args (o::rB L s::τ) KV fx:=by
 have hno: ∀(N:Nat) (s:RS),yN (ren [1] N) (rB L s)=rB L s:=fun N s=>wD (n:=0) (fun _ h=>absurd h (Bg _)) (zL1 _ _ _)
 have e:xE [1] (o::rB L s::τ) [rB L s']=o::rB L s'::τ:=by
  simp only[xE,Bh,By,Dq,Dk,Bd,Al,Br,mset,B7,hno]
  rfl
 refine yL4 hc hb [1] (by simp) rfl (fun i j q h1 h2=> ?_) hargs (.inr ?_) ?_
 .match i with
  |0=>simp at h1 h2;subst h1;subst h2;rw[hno];rfl
  |i+1=>simp at h1
 .rw[e];exact Kp.of_set (σ:=o::rB L s::τ) (id:=1) (o:=rB L s') (.inl (by simp))
 .rw[e,zD2 hn];exact hk
theorem zb8 {N:Nat} {l l':List V} (h:All2 (argS (ren [1] N)) l l'):All2 (argS (ren [1] N)) (.ptr 0 0::l) (.ptr 1 0::l'):=⟨.inl rfl,h⟩
theorem yh7 {N:Nat}:All2 (argS (ren [1] N)) [.ptr 0 0] [.ptr 1 0]:=zb8 trivial
end Go.Proofs.YtkigddpaonhmlaaGreat
