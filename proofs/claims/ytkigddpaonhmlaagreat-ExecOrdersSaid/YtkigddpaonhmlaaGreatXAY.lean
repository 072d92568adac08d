/-
  Contracts of functions that the claimed statement reaches, each proved over trees (the library Vx); used by the theorem at the end of the claim.
  Conditions: as each theorem states them.
-/
import Derived.Test.YtkigddpaonhmlaaGreatXAX
import Derived.Test.YtkigddpaonhmlaaGreatXAW
import Derived.Test.YtkigddpaonhmlaaGreatXAP
set_option maxHeartbeats 8000000
namespace Go.Proofs.YtkigddpaonhmlaaGreat.R
open Go Go.Vx Go.Proofs.Tryz
set_option maxRecDepth 100000
theorem yR6 (b:Bool):Pure prog 17 [.bool b] (.int .i64 (if b then -1 else 1)):=by
 refine iW 0 func17 ntmps17 results17 fun c hc hb=>zN ?_
 simp[go_sem]
 refine zT (fun q=> ?_) (fun q=> ?_)<;>simp[go_sem,q]<;>exact zQ (zC rfl) ⟨rfl,rfl⟩
def ym9 (a b:GValue):Int:=
 if a.kind≠b.kind then(if a.kind<b.kind then -1 else 1)else if a.n≠b.n then(if a.n<b.n then -1 else 1)else if a.s≠b.s then(if Op.bytesLess a.s b.s then -1 else 1)else 0
theorem xc2 (a b:GValue):Pure prog 10 [.agg a.row,.agg b.row] (.int .i64 (ym9 a b)):=by
 obtain⟨k,n,s⟩:=a
 obtain⟨k2,n2,s2⟩:=b
 refine iW 0 func10 ntmps10 results10 fun c hc hb=>zN ?_
 have ret: ∀(r:Int) (σ:St),r=ym9 ⟨k,n,s⟩ ⟨k2,n2,s2⟩->wret (some (.int .i64 r)) 0 (fun r s'=>r= .int .i64 (ym9 ⟨k,n,s⟩ ⟨k2,n2,s2⟩)/\s'= []) σ:=fun r σ h=>by subst h;exact zQ (zC rfl) ⟨rfl,rfl⟩
 unfold ym9 at ret
 simp only at ret
 simp[go_sem]
 refine zT (fun q=> ?_) (fun q=> ?_)
 .have q:k≠k2:=by simpa using q
  simp[go_sem]
  refine zD (yR6 _) cB (zH rfl) rfl ?_
  simp[go_sem]
  exact ret _ _ (by rw[if_pos q])
 have q:k=k2:=by simpa using q
 subst q
 simp[go_sem]
 refine zT (fun q=> ?_) (fun q=> ?_)
 .have q:n≠n2:=by simpa using q
  simp[go_sem]
  refine zD (yR6 _) cB (zH rfl) rfl ?_
  simp[go_sem]
  exact ret _ _ (by simp only[ne_eq,not_true_eq_false,if_false,q,if_true,not_false_eq_true])
 have q:n=n2:=by simpa using q
 subst q
 simp[go_sem]
 refine zT (fun q=> ?_) (fun q=> ?_)
 .have q:s≠s2:=by simpa using q
  simp[go_sem]
  refine zD (yR6 _) cB (zH rfl) rfl ?_
  simp[go_sem]
  exact ret _ _ (by simp only[ne_eq,not_true_eq_false,if_false,q,if_true,not_false_eq_true])
 have q:s=s2:=by simpa using q
 subst q
 simp[go_sem]
 exact ret _ _ (by simp)
def isF (n:Nat) (t:Int):Bool:=decide (0<=t)&&decide (t<n)
theorem yv2 {n:Nat} {t:Int} (h:isF n t=true): ∃j:Nat,t=j/\j<n:=by
 simp[isF]at h
 exact⟨t.toNat,by omega,by omega⟩
def zB4 (n:Nat) (t:Int) (v:GValue):List UInt8:=if isF n t=true then UInt8.ofNat (t.toNat+1)::keyF v else []
def allF (n:Nat) (t:Int):List UInt8×List UInt8:=if isF n t=true then([UInt8.ofNat (t.toNat+1)],[UInt8.ofNat (t.toNat+2)])else([],[])
theorem yA3 (regs tabs:List (List V)) (t:Int) (v:GValue) (hn:tabs.length<=maxB) (hv:v.ok):Pure prog 63 [.agg [.sl .ro regs,.sl .ro tabs],.int .i64 t,.agg v.row] (.str (zB4 tabs.length t v)):=by
 have his:=is_w regs tabs t
 rw[show(decide (0<=t)&&decide (t<tabs.length))=isF tabs.length t from rfl]at his
 refine iW 0 func63 ntmps63 results63 fun c hc hb=>zN ?_
 simp[go_sem]
 refine zD his cB (zH rfl) rfl ?_
 unfold zB4
 refine(A7 (isF tabs.length t)).elim (fun h=> ?_) (fun h=> ?_)
 .obtain⟨j,rfl,hj⟩:=yv2 h
  rw[h,if_pos rfl]
  have e1:IntKind.u8.wrap (IntKind.i64.wrap ((j:Int)+1))=((UInt8.ofNat (j+1)).toNat:Int):=by
   rw[i64_id (by omega) (by unfold maxB at hn;omega),show(j:Int)+1=((j+1:Nat):Int) by omega,zU1]
  simp[go_sem,e1]
  refine zD (xN1 [UInt8.ofNat (j+1)] v hv (by simp[maxB])) cB ⟨zl3 (by simp[zP]),zC rfl,trivial⟩ rfl ?_
  simp[go_sem,bys]
  refine zJ (wQ _) ?_
  simp[go_sem,zi9]
  exact zQ (zC rfl) ⟨rfl,rfl⟩
 .rw[h]
  simp[go_sem]
  exact zQ (zC rfl) ⟨rfl,rfl⟩
theorem xB1 (regs tabs:List (List V)) (t:Int) (v:GValue) (hn:tabs.length<=maxB) (hv:v.ok) (_hs:v.s.length<=500):Pure prog 63 [.agg [.sl .ro regs,.sl .ro tabs],.int .i64 t,.agg v.row] (.str (zB4 tabs.length t v)):=yA3 regs tabs t v hn hv
theorem xT8 (regs tabs:List (List V)) (t:Int) (hn:tabs.length<=maxB):Pure prog 115 [.agg [.sl .ro regs,.sl .ro tabs],.int .i64 t] (.tup [.str (allF tabs.length t).1,.str (allF tabs.length t).2]):=by
 have his:=is_w regs tabs t
 rw[show(decide (0<=t)&&decide (t<tabs.length))=isF tabs.length t from rfl]at his
 refine iW 0 func115 ntmps115 results115 fun c hc hb=>zN ?_
 simp[go_sem]
 refine zD his cB (zH rfl) rfl ?_
 unfold allF
 refine(A7 (isF tabs.length t)).elim (fun h=> ?_) (fun h=> ?_)
 .obtain⟨j,rfl,hj⟩:=yv2 h
  rw[h,if_pos rfl]
  obtain⟨x,hx⟩:=eX (UInt8.ofNat (j+1))
  obtain⟨y,hy⟩:=eX (UInt8.ofNat (j+2))
  have e1:IntKind.u8.wrap (IntKind.i64.wrap ((j:Int)+1))=(x.toNat:Int):=by
   rw[i64_id (by omega) (by unfold maxB at hn;omega),show(j:Int)+1=((j+1:Nat):Int) by omega,zU1,hx]
  have e2:IntKind.u8.wrap (IntKind.i64.wrap ((j:Int)+2))=(y.toNat:Int):=by
   rw[i64_id (by omega) (by unfold maxB at hn;omega),show(j:Int)+2=((j+2:Nat):Int) by omega,zU1,hy]
  simp only[Ax]
  simp[go_sem]
  refine yU [] 1 rfl (by kernel_rfl) (by kernel_rfl) ?_
  simp[go_sem,e1]
  refine zJ (wQ [x]) ?_
  have r1:zo7 [V.int IntKind.u8 x.toNat]=x:=by simp[zo7]
  have r2:zo7 [V.int IntKind.u8 y.toNat]=y:=by simp[zo7]
  simp[go_sem,e2,r1]
  refine zJ (wQ [y]) ?_
  simp[go_sem,r2]
  exact zQ (zC rfl) ⟨by rw[<-hx,<-hy];simp,rfl⟩
 .rw[h]
  simp[go_sem]
  exact zQ (zC rfl) ⟨rfl,rfl⟩
end Go.Proofs.YtkigddpaonhmlaaGreat.R
namespace Go.Proofs.YtkigddpaonhmlaaGreat
open Go Go.Vx R Go.Proofs.Tryz
set_option maxRecDepth 100000
theorem xr8 (v:GValue):(keyF v).length<=140:=by
 by_cases h:mayF v=true
 .have h1:=xr9 (v:=v)
  have h2:=yF9 h
  omega
 .unfold keyF;rw[if_neg h];simp
def maxS (x y:List UInt8):List UInt8:=if Op.bytesLess x y=true then y else x
def minS (x y:List UInt8):List UInt8:=if Op.bytesLess x y=true∨x=y then x else y
def cutF (at_:List UInt8) (sign:List UInt8) (b:List UInt8×List UInt8):List UInt8×List UInt8:=
 if sign= [61]then(maxS b.1 at_,minS b.2 (at_++ [0]))
 else if sign= [60]then(b.1,minS b.2 at_)
 else if sign= [60,61]then(b.1,minS b.2 (at_++ [0]))
 else if sign= [62]then(maxS b.1 (at_++ [0]),b.2)
 else if sign= [62,61]then(maxS b.1 at_,b.2)
 else b
def zV0 (n:Nat) (t:Int) (name:List UInt8) (l:List GExpr) (b:List UInt8×List UInt8):List UInt8×List UInt8:=
 l.foldl (fun b e=>match zd7 e name with|none=>b|some (s,v)=>cutF (zB4 n t v) s b) b
def zO8 (T:GTable):Option (List UInt8):=if 0<=T.key then(T.cols[T.key.toNat]?).map (·.name)else none
def zm0 (ts:List GTable) (t:Int) (st:GStmt):List UInt8×List UInt8:=
 if isF ts.length t=true then
  match (ts[t.toNat]?).bind zO8 with
  |none=>allF ts.length t
  |some name=>let b:=zV0 ts.length t name (zr4 st) (allF ts.length t);(b.1,maxS b.2 b.1)
 else allF ts.length t
def xv1 (b:List UInt8×List UInt8):V:= .tup [.str b.1,.str b.2]
theorem yV1 (o:Option (List UInt8×GValue)):noS (cutV o)=true:=by
 obtain _|⟨s,v⟩:=o<;>rfl
theorem xk4 (regs:List (List V)) (ts:List GTable) (t:Int) (st:GStmt) (hn:ts.length<=maxB) (_hc0: ∀T∈ts,T.cols.length<=maxLen) (hl:(zr4 st).length<=maxLen)
  (hv: ∀e∈zr4 st,∀name s v,zd7 e name=some (s,v)->v.ok):
  Pure prog 68 [.agg [.sl .ro regs,.sl .ro (ts.map GTable.row)],.int .i64 t,.agg st.row] (xv1 (zm0 ts t st)):=by
 generalize hM:zm0 ts t st=M
 have ret: ∀(r:List UInt8×List UInt8) (σ:St),r=M->wret (some (.tup [.str r.1,.str r.2])) 0 (fun r s=>r=xv1 M/\s= []) σ:=fun r σ h=>by subst h;exact zQ (zC rfl) ⟨rfl,rfl⟩
 have hall:=xT8 regs (ts.map GTable.row) t (by simpa using hn)
 have hcj:=zU9 st
 simp only[Aq]at hall
 unfold zm0 at hM
 generalize hA:allF ts.length t=A at hall hM
 generalize hL:zr4 st=L at hcj hM hl hv
 refine iV 0 func68 ntmps68 results68 fun c hc hb=> ?_
 refine zA ?_
 simp[go_sem]
 refine zD hall cB (zH rfl) rfl ?_
 simp[go_sem]
 refine(A7 (isF ts.length t)).elim (fun h=> ?_) (fun h=> ?_)
 rotate_left
 .simp only[h]at hM
  have h2:decide (t<0)=true∨(decide (t<0)=false/\decide ((ts.length:Int)<=t)=true):=by
   unfold isF at h
   simp only[Bool.and_eq_false_iff,decide_eq_false_iff_not]at h
   simp only[decide_eq_true_eq,decide_eq_false_iff_not]
   omega
  refine h2.elim (fun q=> ?_) (fun q=> ?_)
  all_goals simp[go_sem,q]
  all_goals exact ret _ _ hM
 obtain⟨j,rfl,hj⟩:=yv2 h
 obtain⟨T,hT⟩:=eX (ts[j])
 have hq2:decide ((ts.length:Int)<=j)=false:=decide_eq_false (by omega)
 have hq1:decide ((j:Int)<0)=false:=decide_eq_false (by omega)
 simp only[h,if_true,Ax,A0 hj,hT,As]at hM
 have hq3:decide (ts.length<=j)=false:=decide_eq_false (by omega)
 simp[go_sem,hq1,hq3,hj,hT]
 by_cases hk:0<=T.key/\T.key<T.cols.length
 rotate_left
 .have hkn:zO8 T=none:=by
   unfold zO8
   split
   .rw[Bc (by omega)];rfl
   .rfl
  rw[hkn]at hM
  have h2:decide (T.key<0)=true∨(decide (T.key<0)=false/\decide ((T.cols.length:Int)<=T.key)=true):=by
   simp only[decide_eq_true_eq,decide_eq_false_iff_not]
   omega
  refine h2.elim (fun q=> ?_) (fun q=> ?_)
  all_goals simp[go_sem,q]
  all_goals exact ret _ _ hM
 obtain⟨m,hm⟩: ∃m:Nat,T.key=m:=⟨T.key.toNat,by omega⟩
 have hmc:m<T.cols.length:=by omega
 obtain⟨C,hC⟩:=eX (T.cols[m])
 have hkn:zO8 T=some C.name:=by
  unfold zO8
  rw[if_pos (by omega),hm,Ax,A0 hmc,hC];rfl
 simp only[hkn]at hM
 have hk1:decide (T.key<0)=false:=decide_eq_false (by omega)
 have hk2:decide ((T.cols.length:Int)<=T.key)=false:=decide_eq_false (by omega)
 simp[go_sem,hk1,hk2]
 refine zD hcj cB (zR (by simp[go_sem]) rfl) rfl ?_
 simp[go_sem]
 refine zL (S:=Nat×List UInt8×List UInt8) [1,3,6,7,8,52,53,54] (fun u=> [.int .i64 j,.ptr 0 0,.str u.2.1,.str u.2.2,.ptr 1 0,.sl .ro (L.map GExpr.row),.int .i64 L.length,.int .i64 u.1])
  (fun _=> [.box [.sl .ro regs,.sl .ro (ts.map GTable.row)],.box T.row]) (fun u=>L.length - u.1)
  (fun u=>u.1<=L.length/\zV0 ts.length j C.name (L.drop u.1) u.2=zV0 ts.length j C.name L A) hc hb (0,A) ⟨A3 _,rfl⟩ ?_ ?_
 .exact zI3 [0,2] (by decide) rfl ⟨by simp[go_sem,yN,renC,renK],by simp[go_sem,yN,renC,renK],trivial⟩
   ⟨zC rfl,.inl (by simp[go_sem,renS,renA,renC,renK,ren]),zC rfl,zC rfl,.inl (by simp[go_sem,renS,renA,renC,renK,ren]),zX,zC rfl,zC rfl,trivial⟩
 rintro⟨i,b⟩ ⟨hi,hinv⟩
 simp only at hi hinv
 by_cases q:i<L.length
 rotate_left
 .rw[A9 (by omega)]at hinv
  have hbb:b=zV0 ts.length j C.name L A:=hinv
  rw[<-hbb]at hM
  refine zA ?_
  simp[go_sem,q]
  exact ret (b.1,maxS b.2 b.1) _ hM
 have ei:=zV q (by unfold maxLen at hl;omega)
 obtain⟨x,hx⟩:=eX (L[i])
 have hxm:x∈L:=hx▸A8 q
 rw[A6 q,hx]at hinv
 have hag:=ym7 x C.name
 have hvx:=hv x hxm C.name
 have hrow:=GExpr.row_eq x
 refine zA ?_
 simp[go_sem,q,hx]
 refine yU [(8,0),(15,3)] 3 (by simp) (by kernel_rfl) (by kernel_rfl) ?_
 have hCq:T.cols[m]? =some C:=by rw[A0 hmc,hC]
 simp[go_sem,hm,hCq]
 refine zJ hmc ?_
 simp[go_sem]
 refine zW hag cB (fun _=>zR (by simp[go_sem]) (by rw[GExpr.row_eq];rfl)) (yV1 _) ?_
 cases ha:zd7 x C.name with
 |none=>
  simp only[zV0,Be,ha]at hinv
  simp[go_sem,cutV,yY5,ei]
  refine zI (i+1,b) ⟨by simp only;omega,⟨by simp only;omega,hinv⟩, ?_⟩
  exact at_n 2 (by simp[go_sem,hm]) rfl (by rfl) (A3 _) (zG (by simp[go_sem]) rfl)
 |some p=>
  obtain⟨s,v⟩:=p
  have hvo:=hvx s v ha
  have hbd:=yA3 regs (ts.map GTable.row) j v (by simpa using hn) hvo
  simp only[Aq]at hbd
  simp only[zV0,Be,ha]at hinv
  obtain⟨B,hB⟩:=eX (zB4 ts.length j v)
  have hBl:B.length<=9223372036854775806:=by
   have:=xr8 v
   rw[<-hB];unfold zB4;rw[if_pos h];simp only[Ah];omega
  rw[hB]at hbd
  simp[go_sem,cutV]
  refine zD hbd cB (zR (by simp[go_sem]) rfl) rfl ?_
  simp[go_sem]
  refine zJ hBl ?_
  simp[go_sem]
  have fin: ∀b',cutF B s b=b'->zV0 ts.length j C.name (L.drop (i+1)) b'=zV0 ts.length j C.name L A:=fun b' h=>by rw[<-h,<-hB];exact hinv
  repeat' (first|(refine zT (fun q=> ?_) (fun q=> ?_)<;>simp[go_sem,q,ei]))
  all_goals simp only[beq_iff_eq,beq_eq_false_iff_ne]at*
  all_goals refine zI (i+1,cutF B s b) ⟨by simp only;omega,⟨by simp only;omega,fin _ rfl⟩, ?_⟩
  all_goals refine at_n 2 (by simp[go_sem,hm]) rfl (by rfl) (A3 _) (zG ?_ rfl)
  all_goals unfold cutF maxS minS
  all_goals simp[go_sem, *]
theorem zj6:(Tryz.prog.funcs.all fun fn=> !(fn.name== "runtime.NumGoroutine"))=true:=by kernel_rfl
theorem zf6:Tryz.prog.follows .mixedOrders=true:=by kernel_rfl
def marks (f:Nat):List Nat:=if f=102 then [7]else []
def xA9:GZone:=⟨[1],[],[0,1],0,0,0⟩
def tabT:GTable:=⟨[84],[⟨[82],2,false⟩,⟨[75],2,false⟩,⟨[86],3,true⟩,⟨[78],2,true⟩],1,0,0,xA9⟩
def tabG:GTable:=⟨[71],[⟨[75],3,false⟩,⟨[78],2,false⟩,⟨[66],1,true⟩],0,1,0,xA9⟩
def tabH:GTable:=⟨[72],[⟨[66],1,false⟩,⟨[78],2,true⟩],0,2,1,xA9⟩
def tabsS:List GTable:= [tabT,tabG,tabH]
def xX:List (List V):= [[.int .i64 0],[.int .i64 0],[.int .i64 1],[.int .i64 1]]
def schS:V:= .agg [.sl .full xX,.sl .full (tabsS.map GTable.row)]
def schR (ts:List GTable):V:= .agg [.sl .ro xX,.sl .ro (ts.map GTable.row)]
theorem xl0:Pure prog 18 [] schS:=zm6 zj6 zf6 marks 10000 (by kernel_rfl)
theorem xw7 {ρ:Nat->Nat}:argS ρ (schR tabsS) schS:=zt4 ⟨yX,yX,trivial⟩
def wJ (t r:Int):Int×Int:=if t=0 then(if r=0 then(0,0)else if r=1 then(1,0)else(0,19))else if t=1 then(2,0)else if t=2 then(3,0)else(0,1)
def yx2 (p:Int×Int):V:= .tup [.int .i64 p.1,.int .i64 p.2]
theorem yA5 (t r:Int) (h:t=0∨t=1∨t=2) (hr:r= -1∨r=0∨r=1∨r=2∨r=3∨r=4):Pure prog 62 [schR tabsS,.int .i64 t,.int .i64 r] (yx2 (wJ t r)):=by
 rcases h with rfl|rfl|rfl<;>rcases hr with rfl|rfl|rfl|rfl|rfl|rfl<;>exact zm6 zj6 zf6 marks 10000 (by kernel_rfl)
theorem xc3 (j:Nat) (hj:j<3):Pure prog 62 [schR (tabsS.take (j+1)),.int .i64 j,.int .i64 0] (yx2 (wJ j 0)):=by
 match j,hj with
 |0,_=>exact zm6 zj6 zf6 marks 10000 (by kernel_rfl)
 |1,_=>exact zm6 zj6 zf6 marks 10000 (by kernel_rfl)
 |2,_=>exact zm6 zj6 zf6 marks 10000 (by kernel_rfl)
def ofS (r:Int):Int×Int×Int:=if r=0 then(0,0,0)else if r=1 then(0,1,0)else if r=2 then(1,-1,0)else if r=3 then(2,1,0)else(0,0,1)
def ofV (p:Int×Int×Int):V:= .tup [.int .i64 p.1,.int .i64 p.2.1,.int .i64 p.2.2]
theorem xF2:Pure prog 118 [schR tabsS] (.int .i64 0):=zm6 zj6 zf6 marks 10000 (by kernel_rfl)
theorem xi2:Pure prog 57 [schR tabsS] (.sl .ro [[.int .i64 0],[.int .i64 1]]):=
 VCalls.frz (xd1 zj6 zf6 marks 10000 (v:= .lsv 1 1 4 0 2) (σ':= [.box [.sl .ro xX,.sl .ro (tabsS.map GTable.row)],.lst [[.int .i64 0],[.int .i64 1],[.int .i64 0],[.int .i64 0]] 1]) (by kernel_rfl))
  (fun r s ⟨h1,h2⟩=>by subst h1;subst h2;exact⟨_,_,.step 1 1 [[.int .i64 0],[.int .i64 1],[.int .i64 0],[.int .i64 0]] rfl rfl (.refl _ _),zX⟩)
def yX8 (t:Nat):Int:=if t=0 then 2 else 1
theorem yP0 (j:Nat) (hj:j<3):Pure prog 56 [schR tabsS,.agg (tabsS[j]'hj).row] (.int .i64 (yX8 j)):=by
 match j,hj with
 |0,_=>exact zm6 zj6 zf6 marks 10000 (by kernel_rfl)
 |1,_=>exact zm6 zj6 zf6 marks 10000 (by kernel_rfl)
 |2,_=>exact zm6 zj6 zf6 marks 10000 (by kernel_rfl)
theorem yw5 {M:Int×Int×Int} {a b e:Int} {σ:St} (h:(a,b,e)=M):wret (some (.tup [.int .i64 a,.int .i64 b,.int .i64 e])) 0 (fun r s=>r=ofV M/\s= []) σ:=by subst h;exact zQ (zC rfl) ⟨rfl,rfl⟩
theorem Of_w (g:Nat) (hg:g<1000):Pure prog 27 [schR tabsS,.int .i64 g] (ofV (ofS g)):=by
 have hm0:=yP0 0 (by decide)
 have hm1:=yP0 1 (by decide)
 have hm2:=yP0 2 (by decide)
 have hr:=xi2
 generalize hM:ofS g=M
 refine iV 0 func27 ntmps27 results27 fun c hc hb=> ?_
 refine zA ?_
 simp[go_sem,schR]
 have h0:decide ((g:Int)<0)=false:=decide_eq_false (by omega)
 simp[go_sem,h0]
 refine zL (S:=Nat×Nat) [1,2,13,14,15] (fun u=> [.int .i64 u.2,.ptr 0 0,.sl .ro (tabsS.map GTable.row),.int .i64 3,.int .i64 u.1]) (fun _=> [.box [.sl .ro xX,.sl .ro (tabsS.map GTable.row)]]) (fun u=>3 - u.1)
  (fun u=>(u.1=0/\u.2=g)∨(u.1=1/\u.2+2=g)∨(u.1=2/\u.2+3=g)∨(u.1=3/\u.2+4=g)) hc hb (0,g) (.inl ⟨rfl,rfl⟩) ?_ ?_
 .exact aM 1 (by rfl) (zG (by simp[go_sem];rfl) rfl)
 rintro⟨i,r⟩ h
 simp only at h
 refine h.elim (fun⟨h1,h2⟩=> ?_) fun h=>h.elim (fun⟨h1,h2⟩=> ?_) fun h=>h.elim (fun⟨h1,h2⟩=> ?_) fun⟨h1,h2⟩=> ?_
 .subst h1
  refine zA ?_
  simp[go_sem,tabsS]
  refine zD hm0 cB (zR (by simp[go_sem,schR,tabsS]) rfl) rfl ?_
  simp[go_sem,yX8]
  by_cases q:2<=r
  .have q':decide ((2:Int)<=r)=true:=decide_eq_true (by omega)
   have e:IntKind.i64.wrap ((r:Int) - 2)=((r - 2:Nat):Int):=by rw[i64_id (by omega) (by omega)];omega
   simp[go_sem,q',e]
   exact zI (1,r - 2) ⟨by simp only;omega,.inr (.inl ⟨rfl,by simp only;omega⟩),aN 1 (by rfl)⟩
  .have q':decide ((2:Int)<=r)=false:=decide_eq_false (by omega)
   simp[go_sem,q',show tabT.place=0 from rfl]
   refine yU [(2,0)] 2 (by simp) (by kernel_rfl) (by kernel_rfl) ?_
   simp[go_sem]
   refine zW hr cB (fun _=>zR (by simp[go_sem,schR,tabsS,show tabT.place=0 from rfl]) rfl) rfl ?_
   have h01:r=0∨r=1:=by omega
   refine h01.elim (fun e=> ?_) (fun e=> ?_)
   all_goals subst e
   all_goals simp[go_sem]
   all_goals exact yw5 (by rw[<-hM,<-h2];rfl)
 .subst h1
  refine zA ?_
  simp[go_sem,tabsS]
  refine zD hm1 cB (zR (by simp[go_sem,schR,tabsS]) rfl) rfl ?_
  simp[go_sem,yX8]
  by_cases q:1<=r
  .have q':decide ((1:Int)<=r)=true:=decide_eq_true (by omega)
   have e:IntKind.i64.wrap ((r:Int) - 1)=((r - 1:Nat):Int):=by rw[i64_id (by omega) (by omega)];omega
   simp[go_sem,q',e]
   exact zI (2,r - 1) ⟨by simp only;omega,.inr (.inr (.inl ⟨rfl,by simp only;omega⟩)),aN 1 (by rfl)⟩
  .have q':decide ((1:Int)<=r)=false:=decide_eq_false (by omega)
   simp[go_sem,q',show tabG.place=1 from rfl]
   have h01:r=0:=by omega
   subst h01
   exact yw5 (by rw[<-hM,<-h2];rfl)
 .subst h1
  refine zA ?_
  simp[go_sem,tabsS]
  refine zD hm2 cB (zR (by simp[go_sem,schR,tabsS]) rfl) rfl ?_
  simp[go_sem,yX8]
  by_cases q:1<=r
  .have q':decide ((1:Int)<=r)=true:=decide_eq_true (by omega)
   have e:IntKind.i64.wrap ((r:Int) - 1)=((r - 1:Nat):Int):=by rw[i64_id (by omega) (by omega)];omega
   simp[go_sem,q',e]
   exact zI (3,r - 1) ⟨by simp only;omega,.inr (.inr (.inr ⟨rfl,by simp only;omega⟩)),aN 1 (by rfl)⟩
  .have q':decide ((1:Int)<=r)=false:=decide_eq_false (by omega)
   have h01:r=0:=by omega
   subst h01
   simp[go_sem,show tabH.place=2 from rfl]
   refine yU [] 2 (by simp) (by kernel_rfl) (by kernel_rfl) ?_
   simp[go_sem]
   exact yw5 (by rw[<-hM,<-h2];rfl)
 .subst h1
  refine zA ?_
  simp[go_sem,tabsS]
  exact yw5 (by rw[<-hM,<-h2];unfold ofS;rw[if_neg (by omega),if_neg (by omega),if_neg (by omega),if_neg (by omega)])
theorem xS2 (v:GValue) (l:List Int):([.box v.row,.lst (l.map yO) 1]:St).all (ltOb 2)=true:=by simp[ltOb,ltC,ltK,yO,GValue.row]
theorem xL2 (v:GValue) (r:Int):VCalls prog 120 [.int .i64 r,.ptr 0 0] [.box v.row] (fun x s=>x= .bool (r !=v.n)/\s= [.box v.row]):=by
 refine iW 1 func120 ntmps120 results120 fun c hc hb=>zN ?_
 simp[go_sem]
 exact xJ 1 (by simp[go_sem]) rfl rfl (A2 _) (zC rfl) ⟨rfl,rfl⟩
def idxF (p:Int->Bool):List Int->Nat->Int
 | [],_=> -1
 |x::l,i=>if p x=true then i else idxF p l (i+1)
theorem xV4 (v:GValue) (xs:List Int) (m:Nat) (hm:m<=xs.length) (hl:xs.length<=1000):
  VCalls prog 178 [.lsv 1 1 xs.length 0 m,.fn 120 [.ptr 0 0]] [.box v.row,.lst (xs.map yO) 1]
   (fun r s=>r= .int .i64 (idxF (fun x=>x !=v.n) (xs.take m) 0)/\s= [.box v.row,.lst (xs.map yO) 1]):=by
 generalize hM:idxF (fun x=>x !=v.n) (xs.take m) 0=M
 have ret: ∀(r:Int) (σ:St),r=M->σ.take 2= [.box v.row,.lst (xs.map yO) 1]->wret (some (.int .i64 r)) 2 (fun r s=>r= .int .i64 M/\s= [.box v.row,.lst (xs.map yO) 1]) σ:=fun r σ h hs=>by subst h;exact xJ 2 hs rfl (by simp[ltOb,ltC,ltK,yO,GValue.row]) (A2 _) (zC rfl) ⟨rfl,rfl⟩
 refine iV 2 func178 ntmps178 results178 fun c hc hb=> ?_
 refine zA ?_
 simp[go_sem]
 refine zL (S:=Nat) [0,1,7,8] (fun i=> [.lsv 1 1 xs.length 0 m,.fn 120 [.ptr 0 0],.int .i64 m,.int .i64 i]) (fun _=> [.box v.row,.lst (xs.map yO) 1]) (fun i=>m - i) (fun i=>i<=m/\idxF (fun x=>x !=v.n) ((xs.take m).drop i) i=M) hc hb 0 ⟨A3 _,hM⟩ ?_ ?_
 .exact aN 2 (by simp[ltOb,ltC,ltK,yO,GValue.row])
 rintro i ⟨hi,hinv⟩
 by_cases q:i<m
 rotate_left
 .rw[A9 (by simp;omega)]at hinv
  refine zA ?_
  simp[go_sem,q]
  exact ret _ _ hinv rfl
 have ei:=zV q (by omega)
 have hic:i<xs.length:=by omega
 obtain⟨x,hx⟩:=eX (xs[i])
 have hxt:(xs.take m)[i]'(by simp;omega)=x:=by rw[Ed];exact hx
 rw[A6 (by simp;omega),hxt,idxF]at hinv
 have hd:=xL2 v x
 obtain⟨b,hb1⟩:=eX ((x !=v.n))
 rw[hb1]at hd hinv
 refine zA ?_
 simp[go_sem,q,hic,hx]
 refine ze9 1 hd cB (by simp[go_sem]) rfl rfl (wU rfl) (fun r s h=>by obtain⟨rfl,rfl⟩:=h;exact⟨rfl,rfl,rfl⟩) ?_
 rintro r s ⟨rfl,rfl⟩
 simp[go_sem]
 refine zT (fun w=> ?_) (fun w=> ?_)
 .rw[if_pos w]at hinv
  simp[go_sem]
  exact ret _ _ hinv rfl
 .rw[if_neg (by rw[w];decide)]at hinv
  simp[go_sem,ei]
  exact zI (i+1) ⟨by omega,⟨q,hinv⟩,aN 2 (by simp[ltOb,ltC,ltK,yO])⟩
def zi6 (n:Int) (l:List Int):List Int:=l.filter (· ==n)
theorem yo7 {n:Int}: ∀(l:List Int) (i:Nat),idxF (fun x=>x !=n) l i= -1->zi6 n l=l
 | [],_,_=>rfl
 |x::l,i,h=>by
  unfold idxF at h
  split at h
  .omega
  .rename_i q
   have:=yo7 l (i+1) h
   have hx:(x==n)=true:=by simpa using q
   unfold zi6 at this⊢
   rw[List.filter_cons_of_pos (by simpa using hx),this]
theorem yo8 {n:Int}: ∀(l:List Int) (i:Nat),idxF (fun x=>x !=n) l i≠ -1-> ∃k,idxF (fun x=>x !=n) l i=((i+k:Nat):Int)/\k<l.length/\zi6 n (l.take k)=l.take k/\(∀x,l[k]? =some x->x≠n)
 | [],i,h=>absurd rfl h
 |x::l,i,h=>by
  unfold idxF at h⊢
  split
  .rename_i q
   exact⟨0,by simp,by simp,rfl,fun y hy=>by simp at hy;subst hy;simpa using q⟩
  .rename_i q
   rw[if_neg q]at h
   obtain⟨k,h1,h2,h3,h4⟩:=yo8 l (i+1) h
   have hx:(x==n)=true:=by simpa using q
   refine⟨k+1,by rw[h1];congr 1;omega,by simp;omega, ?_,fun y hy=>h4 y (by simpa using hy)⟩
   unfold zi6 at h3⊢
   rw[By,List.filter_cons_of_pos (by simpa using hx),h3]
theorem zL9 {n:Int} {xs:List Int} {j:Nat} {x:Int} (h:xs[j]? =some x):zi6 n (xs.take (j+1))=zi6 n (xs.take j)++(if x=n then [x]else []):=by
 unfold zi6
 rw[Dg,h,Eb]
 by_cases q:x=n
 .simp[q]
 .simp[q]
theorem xO2 (v:GValue) (xs:List Int) (m:Nat) (hm:m<=xs.length) (hl:xs.length<=1000):
  VCalls prog 119 [.lsv 1 1 xs.length 0 m,.fn 120 [.ptr 0 0]] [.box v.row,.lst (xs.map yO) 1]
   (fun r s=> ∃ys:List Int,ys.length=xs.length/\(zi6 v.n (xs.take m)).length<=m/\ys.take (zi6 v.n (xs.take m)).length=zi6 v.n (xs.take m)/\r= .lsv 1 1 xs.length 0 (zi6 v.n (xs.take m)).length/\s= [.box v.row,.lst (ys.map yO) 1]):=by
 obtain⟨K,hK⟩:=eX (zi6 v.n (xs.take m))
 have hKm:K.length<=m:=by rw[<-hK];unfold zi6;exact Ay (Bk _ _) (by simp;omega)
 rw[hK]
 have ret: ∀(ys:List Int) (k:Nat) (σ:St),ys.length=xs.length->k=K.length->ys.take K.length=K->σ.take 2= [.box v.row,.lst (ys.map yO) 1]->
   wret (some (.lsv 1 1 xs.length 0 k)) 2 (fun r s=> ∃ys:List Int,ys.length=xs.length/\K.length<=m/\ys.take K.length=K/\r= .lsv 1 1 xs.length 0 K.length/\s= [.box v.row,.lst (ys.map yO) 1]) σ:=fun ys k σ h1 h2 h3 h4=>by
  subst h2
  exact xJ 2 h4 rfl (by simp[ltOb,ltC,ltK,yO,GValue.row]) (A2 _) (zo4 rfl) ⟨ys,h1,hKm,h3,rfl,rfl⟩
 have hix:=xV4 v xs m hm hl
 refine iV 2 func119 ntmps119 results119 fun c hc hb=> ?_
 refine zA ?_
 simp[go_sem]
 refine ze9 2 hix cB (by simp[go_sem]) rfl (by simp[ltOb,ltC,ltK,yO,GValue.row]) (wU rfl) (fun r s h=>by obtain⟨rfl,rfl⟩:=h;exact⟨rfl,by simp[ltOb,ltC,ltK,yO,GValue.row],rfl⟩) ?_
 rintro r s ⟨rfl,rfl⟩
 by_cases h0:idxF (fun x=>x !=v.n) (xs.take m) 0= -1
 .have hkk:=yo7 _ _ h0
  rw[hK]at hkk
  rw[h0]
  simp[go_sem]
  exact ret xs m _ rfl (by rw[hkk];simp;omega) (by rw[hkk];simp) (by rfl)
 obtain⟨k,h1,h2,h3,h4⟩:=yo8 _ _ h0
 rw[Aa]at h1
 rw[h1]
 have hk1:k<m:=by simp at h2;omega
 have hne:((k:Int)== -1)=false:=by simp
 have ek:IntKind.i64.wrap ((k:Int)+1)=((k+1:Nat):Int):=by rw[i64_id (by omega) (by omega)];omega
 have hx0:zi6 v.n (xs.take (k+1))=xs.take k:=by
  have hkx:k<xs.length:=by omega
  have h5:=h4 xs[k] (by rw[Ae,if_pos hk1,A0 hkx])
  rw[zL9 (A0 hkx),if_neg h5,B7]
  rw[Ef,D8 (by omega)]at h3
  exact h3
 simp[go_sem,hne,ek]
 refine zL (S:=Nat×Nat×List Int) [0,1,5,6] (fun u=> [.lsv 1 1 xs.length 0 m,.fn 120 [.ptr 0 0],.int .i64 u.1,.int .i64 u.2.1]) (fun u=> [.box v.row,.lst (u.2.2.map yO) 1]) (fun u=>m - u.2.1)
  (fun u=>u.1<u.2.1/\u.2.1<=m/\u.2.2.length=xs.length/\u.2.2.take u.1=zi6 v.n (xs.take u.2.1)/\u.2.2.drop u.2.1=xs.drop u.2.1) hc hb (k,k+1,xs) ⟨by simp only;omega,by simp only;omega,rfl,hx0.symm,rfl⟩ ?_ ?_
 .exact aN 2 (by simp[ltOb,ltC,ltK,yO,GValue.row])
 rintro⟨i,j,ys⟩ ⟨hij,hjm,hyl,hpre,hsuf⟩
 simp only at hij hjm hyl hpre hsuf
 by_cases q:j<m
 rotate_left
 .have hj:j=m:=by omega
  subst hj
  rw[hK]at hpre
  have hiK:i=K.length:=by rw[<-hpre];simp;omega
  have hij':i<=j:=by omega
  refine zA ?_
  simp[go_sem]
  refine zJ hij' ?_
  simp[go_sem,hyl]
  refine zJ (by omega) ?_
  simp[go_sem]
  refine zJ (.inl hij') ?_
  simp[go_sem]
  refine ret (ys.take i++List.replicate (j - i) 0++ys.drop (i+(j - i))) i _ (by simp;omega) hiK (by rw[<-hiK,C5,Cv (by simp;omega)];rw[Ef,Nat.min_self,hpre]) ?_
  simp[go_sem,yO]
 have ej:=zV q (by omega)
 have hjc:j<ys.length:=by omega
 have hjx:j<xs.length:=by omega
 obtain⟨x,hx⟩:=eX (ys[j])
 have hxq:ys[j]? =some x:=by rw[A0 hjc,hx]
 have hxj:xs[j]? =some x:=by
  have:=congrArg (fun l=>l[0]?) hsuf
  simp only[B0,Cb]at this
  rw[<-this,hxq]
 have ei:IntKind.i64.wrap ((i:Int)+1)=((i+1:Nat):Int):=by rw[i64_id (by omega) (by omega)];omega
 have hd:=xL2 v x
 obtain⟨b,hb1⟩:=eX ((x !=v.n))
 rw[hb1]at hd
 refine zA ?_
 simp[go_sem,q,hjx,hx,hyl]
 refine ze9 1 hd cB (by simp[go_sem]) rfl rfl (wU rfl) (fun r s h=>by obtain⟨rfl,rfl⟩:=h;exact⟨rfl,rfl,rfl⟩) ?_
 rintro r s ⟨rfl,rfl⟩
 simp[go_sem]
 refine zT (fun w=> ?_) (fun w=> ?_)
 all_goals simp[go_sem,ej]
 .have q2:x=v.n:=by simpa using (show(x !=v.n)=false by rw[hb1];simpa using w)
  have hst:=zL9 (n:=v.n) hxj
  rw[if_pos q2]at hst
  refine zJ (by omega) ?_
  have hix2:i<xs.length:=by omega
  obtain⟨y,hyi⟩: ∃y,ys[i]? =some y:=⟨_,A0 (by omega)⟩
  simp[go_sem,hyl,hix2,ei,ej]
  refine zI (i+1,j+1,ys.set i x) ⟨by simp only;omega,⟨by simp only;omega,by simp only;omega,by simp[hyl], ?_, ?_⟩, ?_⟩
  .rw[hst,<-hpre,Dg,Ak (by omega),List.take_set_of_le (A2 i)]
   simp
  .simp only
   rw[List.drop_set,if_pos (by omega)]
   have:=congrArg (List.drop 1) hsuf
   simpa[List.drop_drop,E2]using this
  .exact at_n 2 (by simp[go_sem,List.map_set,yO]) rfl (xS2 v _) (A2 _) (zG (by simp[go_sem]) rfl)
 .have q2: ¬x=v.n:=by
   have:(x !=v.n)=true:=by rw[hb1];simpa using w
   simpa using this
  have hst:=zL9 (n:=v.n) hxj
  rw[if_neg q2,B7]at hst
  refine zI (i,j+1,ys) ⟨by simp only;omega,⟨by simp only;omega,by simp only;omega,hyl,by rw[hst];exact hpre, ?_⟩, ?_⟩
  .have:=congrArg (List.drop 1) hsuf
   simpa[List.drop_drop,E2]using this
  .exact aN 2 (by simp[ltOb,ltC,ltK,yO])
def zE5 (t:Nat):List Int:=if t=0 then [0,1]else if t=1 then [-1]else [1]
def cutR (l:List GExpr) (rs:List Int):List Int:=l.foldl (fun rs e=>match zd7 e [82]with|none=>rs|some (s,v)=>if s= [61]/\v.kind=2 then zi6 v.n rs else rs) rs
def za5 (t:Int) (st:GStmt):List Int:=if t=0 then cutR (zr4 st) [0,1]else if t=1 then [-1]else if t=2 then [1]else []
theorem xe7 {n:Int} (l:List Int):(zi6 n l).length<=l.length:=Bk _ _
theorem xe5 (l:List Int):xW (l.map yO)=true:=by simp[xW,yO,zg3]
theorem yN0 (l:List Int) (m:Nat):za3 (l.map yO) 0 m=(l.take m).map yO:=by
 unfold za3
 rw[Bd,<-E6,Bq]
 rfl
theorem xx5 (st:GStmt) (T:GTable) (l:List Int):([.box [.sl .ro xX,.sl .ro (tabsS.map GTable.row)],.box st.row,.box T.row,.lst (l.map yO) 1]:St).all (ltOb 4)=true:=by simp[ltOb,ltC,ltK,yO,GStmt.row,GTable.row]
theorem yy3 (T:GTable) (l:List Int):([.box T.row,.lst (l.map yO) 1]:St).all (ltOb 2)=true:=by simp[ltOb,ltC,ltK,yO,GTable.row]
theorem yW5 (n:Nat) (l:List Int):ltOb n (.lst (l.map yO) 1)=true:=by simp[ltOb,ltC,ltK,yO]
theorem yQ5 (j:Nat) (hj:j<3): ∃s0:Nat,wJ j 0=((s0:Int),0)/\s0+(zE5 j).length<5/\(∀(k:Nat) x,(zE5 j)[k]? =some x->ofS ((s0+k:Nat):Int)=((j:Int),x,0))/\
  ((ofS ((s0+(zE5 j).length:Nat):Int)).2.2≠0∨((ofS ((s0+(zE5 j).length:Nat):Int)).2.2=0/\(ofS ((s0+(zE5 j).length:Nat):Int)).1≠j)):=by
 match j,hj with
 |0,_=>exact⟨0,rfl,by decide,fun k x h=>(by match k with
   |0=>cases h;rfl
   |1=>cases h;rfl
   |k+2=>cases h),.inr (by decide)⟩
 |1,_=>exact⟨2,rfl,by decide,fun k x h=>(by match k with
   |0=>cases h;rfl
   |k+1=>cases h),.inr (by decide)⟩
 |2,_=>exact⟨3,rfl,by decide,fun k x h=>(by match k with
   |0=>cases h;rfl
   |k+1=>cases h),.inl (by decide)⟩
theorem yC5: ∀(l:List GExpr) (rs:List Int),(cutR l rs).length<=rs.length
 | [],_=>A2 _
 |e::l,rs=>by
  have h1:cutR (e::l) rs=cutR l (match zd7 e [82]with|none=>rs|some (s,v)=>if s= [61]/\v.kind=2 then zi6 v.n rs else rs):=rfl
  rw[h1]
  refine Ay (yC5 l _) ?_
  split
  .exact A2 _
  .split
   .exact xe7 _
   .exact A2 _
theorem xc4 (t:Int) (st:GStmt) (hl:(zr4 st).length<=maxLen):Pure prog 69 [schR tabsS,.int .i64 t,.agg st.row] (.sl .ro ((za5 t st).map yO)):=by
 have hcj:=zU9 st
 generalize hM:za5 t st=M
 unfold za5 at hM
 generalize hL:zr4 st=L at hcj hM hl
 have retN: ∀(g:Tag) (σ:St),[]=M->wret (some (.sl g [])) 0 (fun r s=>r= .sl .ro (M.map yO)/\s= []) σ:=fun g σ h=>by subst h;exact zQ zX ⟨rfl,rfl⟩
 have retL: ∀(id:Nat) (ys:List Int) (N m:Nat) (σ:St),σ[id]? =some (.lst (ys.map yO) 1)->ys.length=N->m<=N->ys.take m=M->wret (some (.lsv id 1 N 0 m)) 0 (fun r s=>r= .sl .ro (M.map yO)/\s= []) σ:=fun id ys N m σ h1 h2 h3 h4=>by
  refine yL7 id 1 (ys.map yO) h1 (xe5 ys) ?_
  simp only[frzS,frzA,frzC,frzK,Aq,h2,Aa,h3,and_self,if_true,yN0,h4]
  exact zQ zX ⟨rfl,rfl⟩
 refine iV 0 func69 ntmps69 results69 fun c hc hb=> ?_
 refine zA ?_
 simp[go_sem,schR]
 by_cases ht:0<=t/\t<3
 rotate_left
 .have hM0: []=M:=by rw[<-hM,if_neg (by omega),if_neg (by omega),if_neg (by omega)]
  have h2:decide (t<0)=true∨(decide (t<0)=false/\decide ((tabsS.length:Int)<=t)=true):=by
   simp only[decide_eq_true_eq,decide_eq_false_iff_not,show tabsS.length=3 from rfl]
   omega
  refine h2.elim (fun q=> ?_) (fun q=> ?_)
  all_goals simp[go_sem,q]
  all_goals exact retN _ _ hM0
 obtain⟨j,rfl⟩: ∃j:Nat,t=j:=⟨t.toNat,by omega⟩
 have hj:j<3:=by omega
 obtain⟨T,hT⟩:=eX (tabsS[j]'(by exact hj))
 have hrp:=xc3 j hj
 obtain⟨s0,hs0,hs5,hok,hend⟩:=yQ5 j hj
 obtain⟨n,hn⟩:=eX ((zE5 j).length)
 rw[hn]at hs5 hend
 rw[hs0]at hrp
 have hq1:decide ((j:Int)<0)=false:=decide_eq_false (by omega)
 have hq2:decide ((tabsS.length:Int)<=j)=false:=decide_eq_false (by simp only[show tabsS.length=3 from rfl];omega)
 have hq3:decide (tabsS.length<=j)=false:=decide_eq_false (by simp only[show tabsS.length=3 from rfl];omega)
 have hjl:j<tabsS.length:=hj
 have hle:=xF2
 have e1:IntKind.i64.wrap ((j:Int)+1)=((j+1:Nat):Int):=by rw[i64_id (by omega) (by omega)];omega
 simp[go_sem,hq1,hq3,hjl]
 refine zJ9 8 1 (by decide) (by simp[go_sem]) ?_
 refine yU [(10,0),(11,0)] 4 (by simp) (by kernel_rfl) (by kernel_rfl) ?_
 simp[go_sem,e1]
 refine zJ ⟨by omega,by simp only[show tabsS.length=3 from rfl];omega,zZ5 fun T=>rfl⟩ ?_
 simp[go_sem]
 refine zW hle cB (fun _=>zR (by simp[go_sem,schR]) rfl) rfl ?_
 simp[go_sem]
 refine zW hrp cB (fun _=>zR (by simp[go_sem,schR]) rfl) rfl ?_
 simp[go_sem,yx2]
 refine zL (S:=Nat) [1,3,5,7,8,9] (fun k=> [.int .i64 j,.ptr 0 0,.ptr 1 0,.ptr 2 0,.lsv 3 1 k 0 k,.int .i64 ((s0+k:Nat):Int)])
  (fun k=> [.box [.sl .ro xX,.sl .ro (tabsS.map GTable.row)],.box st.row,.box T.row,.lst (((zE5 j).take k).map yO) 1]) (fun k=>n - k) (fun k=>k<=n) hc hb 0 (A3 _) ?_ ?_
 .exact at_n 4 (by simp[go_sem,<-hT];exact⟨rfl,rfl,rfl,rfl,rfl,rfl,rfl,rfl,rfl,rfl,rfl⟩) rfl (xx5 st T _) (A3 _) (zG (by simp[go_sem]) rfl)
 intro k hk
 have hof:=Of_w (s0+k) (by omega)
 refine zA ?_
 simp[go_sem]
 refine zD hof cB (zR (by simp[go_sem,schR]) rfl) rfl ?_
 by_cases hkn:k<n
 .obtain⟨x,hx⟩: ∃x,(zE5 j)[k]? =some x:=⟨_,A0 (by omega)⟩
  rw[hok k x hx]
  have hkk: ¬(k+1<=k):=by omega
  have ei:IntKind.i64.wrap (((s0:Int)+k)+1)=(s0:Int)+k+1:=by rw[i64_id (by omega) (by omega)]
  simp[go_sem,ofV,hkk]
  refine zJ ⟨by omega,yC rfl,by omega⟩ ?_
  simp[go_sem,ei]
  refine zI (k+1) ⟨by omega,by omega, ?_⟩
  exact at_n 4 (by simp[go_sem,Dg,hx,yO]) rfl (xx5 st T _) (A3 _) (zG (by simp[go_sem];omega) rfl)
 .obtain rfl:k=n:=by omega
  obtain⟨⟨a,b2,e⟩,hp⟩: ∃p,ofS ((s0+k:Nat):Int)=p:=⟨_,rfl⟩
  rw[hp]at hend⊢
  simp only at hend
  have hY:((zE5 j).take k).length=k:=by simp;omega
  have hend2:(e !=0)=true∨((e !=0)=false/\(a !=j)=true):=by
   rcases hend with h|h
   .exact .inl (by simpa using h)
   .exact .inr ⟨by simpa using h.1,by simpa using h.2⟩
  by_cases hj0:j=0
  rotate_left
  .have hpl:(T.place !=0)=true:=by
    rw[<-hT]
    match j,hj,hj0 with
    |1,_,_=>rfl
    |2,_,_=>rfl
   have hMj:(zE5 j)=M:=by
    rw[<-hM]
    match j,hj,hj0 with
    |1,_,_=>rfl
    |2,_,_=>rfl
   refine hend2.elim (fun q=> ?_) (fun q=> ?_)
   all_goals simp[go_sem,ofV,q,hpl]
   all_goals exact retL 3 ((zE5 j).take k) k k _ (by simp[go_sem]) hY (A2 _) (by rw[Ef,Nat.min_self,Au (by omega)];exact hMj)
  subst hj0
  have hpl:(T.place !=0)=false:=by rw[<-hT];rfl
  have hcl:T.cols= [⟨[82],2,false⟩,⟨[75],2,false⟩,⟨[86],3,true⟩,⟨[78],2,true⟩]:=by rw[<-hT];rfl
  have hk2:k=2:=by rw[<-hn];rfl
  subst hk2
  have hend3:(e !=0)=true∨((e !=0)=false/\(a !=0)=true):=by simpa using hend2
  refine hend3.elim (fun q=> ?_) (fun q=> ?_)
  all_goals simp[go_sem,ofV,q,hpl,hcl]
  all_goals refine zD hcj cB (zR (by simp[go_sem]) rfl) rfl ?_
  all_goals simp[go_sem]
  all_goals refine zL (S:=Nat×List Int×List Int) [7,8,79,80,81] (fun u=> [.ptr 0 0,.lsv 1 1 2 0 u.2.1.length,.sl .ro (L.map GExpr.row),.int .i64 L.length,.int .i64 u.1]) (fun u=> [.box T.row,.lst (u.2.2.map yO) 1]) (fun u=>L.length - u.1) (fun u=>u.1<=L.length/\u.2.1.length<=2/\u.2.2.length=2/\u.2.2.take u.2.1.length=u.2.1/\cutR (L.drop u.1) u.2.1=M) hc hb (0,[0,1],[0,1]) ⟨A3 _,A2 _,rfl,rfl,hM⟩ ?_ ?_
  all_goals try exact zI3 [2,3] (by decide) rfl ⟨by simp[go_sem,yN,renC,renK,hcl],by simp[go_sem,yN,renC,renK,zE5,yO],trivial⟩ ⟨.inl (by simp[go_sem,renS,renA,renC,renK,ren]),.inl (by simp[go_sem,renS,renA,renC,renK,ren]),zX,zC rfl,zC rfl,trivial⟩
  all_goals rintro⟨i,rs,ys⟩ ⟨hi,hrl,hyl,hyt,hinv⟩
  all_goals simp only at hi hrl hyl hyt hinv
  all_goals (
   by_cases hq:i<L.length
   rotate_left
   .rw[A9 (by omega)]at hinv
    have hrs:rs=M:=hinv
    refine zA ?_
    simp[go_sem,hq]
    exact retL 1 ys 2 rs.length _ (by simp[go_sem]) hyl hrl (by rw[hyt];exact hrs)
   have ei:=zV hq (by unfold maxLen at hl;omega)
   obtain⟨x,hx⟩:=eX (L[i])
   rw[A6 hq,hx]at hinv
   have hag:=ym7 x [82]
   refine zA ?_
   simp[go_sem,hq,hx,hcl]
   refine yU [(6,0),(13,3)] 3 (by simp) (by kernel_rfl) (by kernel_rfl) ?_
   simp[go_sem]
   refine zW hag cB (fun _=>zR (by simp[go_sem]) (by rw[GExpr.row_eq];rfl)) (yV1 _) ?_
   cases ha:zd7 x [82]with
   |none=>
    simp only[cutR,Be,ha]at hinv
    simp[go_sem,cutV,yY5,ei]
    refine zI (i+1,rs,ys) ⟨by simp only;omega,⟨by simp only;omega,hrl,hyl,hyt,hinv⟩, ?_⟩
    exact at_n 2 (by simp[go_sem,hcl]) rfl (yy3 T _) (A3 _) (zG (by simp[go_sem]) rfl)
   |some p=>
    obtain⟨s,v⟩:=p
    simp only[cutR,Be,ha]at hinv
    simp[go_sem,cutV]
    by_cases hs:s= [61]/\v.kind=2
    .rw[if_pos hs]at hinv
     have hs1:(s== [61])=true:=by simpa using hs.1
     have hs2:(v.kind==2)=true:=by simpa using hs.2
     have hdf:=xO2 v ys rs.length (by omega) (by omega)
     rw[hyt,hyl]at hdf
     simp[go_sem,hs1,hs2]
     refine xJ6 3 1 hdf cB (by decide) (by simp[go_sem]) (by simp[go_sem]) rfl (yW5 _ _) ⟨.inl (by simp[go_sem,renS,renA,renC,renK,ren]),.inl (by simp[go_sem,renS,renA,renC,renK,ren]),trivial⟩ (fun r s h=>by
      obtain⟨zs,_,_,_,_,rfl⟩:=h
      exact⟨_,_,rfl,rfl,yW5 _ _⟩) ?_
     rintro r o2 p2 ⟨zs,hz1,hz2,hz3,rfl,hz4⟩
     obtain⟨rfl,rfl⟩:o2= .box v.row/\p2= .lst (zs.map yO) 1:=by simpa using hz4
     simp[go_sem,renS,renA,renC,renK,ren,ei]
     refine zI (i+1,zi6 v.n rs,zs) ⟨by simp only;omega,⟨by simp only;omega,by simp only;omega,by omega,hz3,hinv⟩, ?_⟩
     exact at_n 2 (by simp[go_sem,hcl]) rfl (yy3 T _) (A3 _) (zG (by simp[go_sem]) rfl)
    .rw[if_neg hs]at hinv
     have hs3:(s== [61])=false∨((s== [61])=true/\(v.kind==2)=false):=by
      by_cases h1:s= [61]
      .exact .inr ⟨by simpa using h1,by simpa using fun h2=>hs ⟨h1,h2⟩⟩
      .exact .inl (by simpa using h1)
     refine hs3.elim (fun q1=> ?_) (fun q1=> ?_)
     all_goals simp[go_sem,q1,ei]
     all_goals refine zI (i+1,rs,ys) ⟨by simp only;omega,⟨by simp only;omega,hrl,hyl,hyt,hinv⟩, ?_⟩
     all_goals exact at_n 2 (by simp[go_sem,hcl]) rfl (yy3 T _) (A3 _) (zG (by simp[go_sem]) rfl))
def wN {α:Type} (p:α->Bool):List α->Nat->Int
 | [],_=> -1
 |x::l,i=>if p x=true then(i:Int)else wN p l (i+1)
theorem zt6 {α:Type} (p:α->Bool): ∀(l:List α) (i:Nat),wN p l i= -1∨((i:Int)<=wN p l i/\wN p l i<i+l.length)
 | [],i=> .inl rfl
 |x::l,i=>by
  unfold wN
  split
  .right;simp;omega
  .have:=zt6 p l (i+1)
   simp only[Ah]
   omega
theorem xV3 (t:GTable) (name:List UInt8):VCalls prog 65 [.agg t.row,.ptr 0 0] [.box [.str name]] (fun r s=>r= .bool (t.name==name)/\s= [.box [.str name]]):=by
 refine iW 1 func65 ntmps65 results65 fun c hc hb=>zN ?_
 simp[go_sem]
 exact zr3 1 rfl rfl (A2 _) (zC rfl) ⟨rfl,rfl⟩
theorem xV0 (t:GCol) (name:List UInt8):VCalls prog 127 [.agg t.row,.ptr 0 0] [.box [.str name]] (fun r s=>r= .bool (t.name==name)/\s= [.box [.str name]]):=by
 refine iW 1 func127 ntmps127 results127 fun c hc hb=>zN ?_
 simp[go_sem]
 exact zr3 1 rfl rfl (A2 _) (zC rfl) ⟨rfl,rfl⟩
theorem xP6 (l:List GTable) (name:List UInt8) (hl:l.length<=maxLen):VCalls prog 64 [.sl .ro (l.map GTable.row),.fn 65 [.ptr 0 0]] [.box [.str name]] (fun r s=>r= .int .i64 (wN (fun t:GTable=>t.name==name) l 0)/\s= [.box [.str name]]):=by
 generalize hM:wN (fun t:GTable=>t.name==name) l 0=M
 have ret: ∀(r:Int) (σ:St),r=M->wret (some (.int .i64 r)) 1 (fun r s=>r= .int .i64 M/\s= [.box [.str name]]) (.box [.str name]::σ):=fun r σ h=>by subst h;exact zr3 1 rfl rfl (A2 _) (zC rfl) ⟨rfl,rfl⟩
 refine iV 1 func64 ntmps64 results64 fun c hc hb=> ?_
 refine zA ?_
 simp[go_sem]
 refine zL (S:=Nat) [0,1,7,8] (fun i=> [.sl .ro (l.map GTable.row),.fn 65 [.ptr 0 0],.int .i64 l.length,.int .i64 i]) (fun _=> [.box [.str name]]) (fun i=>l.length - i) (fun i=>i<=l.length/\wN (fun t:GTable=>t.name==name) (l.drop i) i=M) hc hb 0 ⟨A3 _,hM⟩ ?_ ?_
 .exact aN 1 rfl
 rintro i ⟨hi,hinv⟩
 by_cases q:i<l.length
 rotate_left
 .rw[Bs (by omega),wN]at hinv
  refine zA ?_
  simp[go_sem,q]
  exact ret _ _ hinv
 have ei:=zV q (by unfold maxLen at hl;omega)
 obtain⟨x,hx⟩:=eX (l[i])
 rw[A6 q,hx,wN]at hinv
 obtain⟨b,hb1⟩:=eX ((x.name==name))
 have hcl:=xV3 x name
 rw[hb1]at hcl hinv
 refine zA ?_
 simp[go_sem,q,hx]
 refine zl2 0 hcl cB rfl rfl ⟨zC rfl,.inl rfl,trivial⟩ (by rintro r s ⟨rfl,rfl⟩;exact⟨_,rfl,rfl⟩) ?_
 rintro r o ⟨rfl,ho⟩
 cases ho
 simp[go_sem]
 refine zT (fun w=> ?_) (fun w=> ?_)
 .rw[if_pos w]at hinv
  simp[go_sem]
  exact ret _ _ hinv
 .rw[if_neg (by rw[w];decide)]at hinv
  simp[go_sem,ei]
  exact zI (i+1) ⟨by omega,⟨q,hinv⟩,aN 1 rfl⟩
theorem xP3 (l:List GCol) (name:List UInt8) (hl:l.length<=maxLen):VCalls prog 126 [.sl .ro (l.map GCol.row),.fn 127 [.ptr 0 0]] [.box [.str name]] (fun r s=>r= .int .i64 (wN (fun t:GCol=>t.name==name) l 0)/\s= [.box [.str name]]):=by
 generalize hM:wN (fun t:GCol=>t.name==name) l 0=M
 have ret: ∀(r:Int) (σ:St),r=M->wret (some (.int .i64 r)) 1 (fun r s=>r= .int .i64 M/\s= [.box [.str name]]) (.box [.str name]::σ):=fun r σ h=>by subst h;exact zr3 1 rfl rfl (A2 _) (zC rfl) ⟨rfl,rfl⟩
 refine iV 1 func126 ntmps126 results126 fun c hc hb=> ?_
 refine zA ?_
 simp[go_sem]
 refine zL (S:=Nat) [0,1,7,8] (fun i=> [.sl .ro (l.map GCol.row),.fn 127 [.ptr 0 0],.int .i64 l.length,.int .i64 i]) (fun _=> [.box [.str name]]) (fun i=>l.length - i) (fun i=>i<=l.length/\wN (fun t:GCol=>t.name==name) (l.drop i) i=M) hc hb 0 ⟨A3 _,hM⟩ ?_ ?_
 .exact aN 1 rfl
 rintro i ⟨hi,hinv⟩
 by_cases q:i<l.length
 rotate_left
 .rw[Bs (by omega),wN]at hinv
  refine zA ?_
  simp[go_sem,q]
  exact ret _ _ hinv
 have ei:=zV q (by unfold maxLen at hl;omega)
 obtain⟨x,hx⟩:=eX (l[i])
 rw[A6 q,hx,wN]at hinv
 obtain⟨b,hb1⟩:=eX ((x.name==name))
 have hcl:=xV0 x name
 rw[hb1]at hcl hinv
 refine zA ?_
 simp[go_sem,q,hx]
 refine zl2 0 hcl cB rfl rfl ⟨zC rfl,.inl rfl,trivial⟩ (by rintro r s ⟨rfl,rfl⟩;exact⟨_,rfl,rfl⟩) ?_
 rintro r o ⟨rfl,ho⟩
 cases ho
 simp[go_sem]
 refine zT (fun w=> ?_) (fun w=> ?_)
 .rw[if_pos w]at hinv
  simp[go_sem]
  exact ret _ _ hinv
 .rw[if_neg (by rw[w];decide)]at hinv
  simp[go_sem,ei]
  exact zI (i+1) ⟨by omega,⟨q,hinv⟩,aN 1 rfl⟩
theorem xk7 (ts:List GTable) (name:List UInt8) (hl:ts.length<=maxLen):Pure prog 30 [schR ts,.str name] (.int .i64 (wN (fun t:GTable=>t.name==name) ts 0)):=by
 have hx:=xP6 ts name hl
 refine iW 0 func30 ntmps30 results30 fun c hc hb=>zN ?_
 simp[go_sem,schR]
 refine zl2 1 hx cB rfl rfl ⟨zC rfl,.inl rfl,trivial⟩ (by rintro r s ⟨rfl,rfl⟩;exact⟨_,rfl,rfl⟩) ?_
 rintro r o ⟨rfl,ho⟩
 cases ho
 simp[go_sem]
 exact zQ (zC rfl) ⟨rfl,rfl⟩
theorem ym4 (t:GTable) (name:List UInt8) (hl:t.cols.length<=maxLen):Pure prog 75 [.agg t.row,.str name] (.int .i64 (wN (fun t:GCol=>t.name==name) t.cols 0)):=by
 have hx:=xP3 t.cols name hl
 refine iW 0 func75 ntmps75 results75 fun c hc hb=>zN ?_
 simp[go_sem]
 refine zl2 1 hx cB rfl rfl ⟨zC rfl,.inl rfl,trivial⟩ (by rintro r s ⟨rfl,rfl⟩;exact⟨_,rfl,rfl⟩) ?_
 rintro r o ⟨rfl,ho⟩
 cases ho
 simp[go_sem]
 exact zQ (zC rfl) ⟨rfl,rfl⟩
end Go.Proofs.YtkigddpaonhmlaaGreat
