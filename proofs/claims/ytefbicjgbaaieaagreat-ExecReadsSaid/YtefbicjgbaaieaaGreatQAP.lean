/-
  The kinds of expressions by the document, over trees (the library Vx); used by the theorem at the end of the claim.
  Conditions: as each theorem states them.
-/
import Derived.Test.YtefbicjgbaaieaaGreatQAO
import Derived.Test.YtefbicjgbaaieaaGreatQAN
import Derived.Test.YtefbicjgbaaieaaGreatQAI
set_option maxHeartbeats 8000000
namespace Go.Proofs.YtefbicjgbaaieaaGreat.R
open Go Go.Vx Go.Proofs.Tryz
set_option maxRecDepth 100000
def isF(n:Nat)(t:Int):Bool:=decide (0<=t)&&decide (t<n)
theorem yb5{n:Nat}{t:Int}(h:isF n t=true):∃j:Nat,t=j/\j<n:=by simp[isF]at h;exact⟨t.toNat,om,om⟩
def zs8(n:Nat)(t:Int)(v:GValue):List UInt8:=if isF n t=true then UInt8.ofNat (t.toNat+1)::keyF v else[]
def allF(n:Nat)(t:Int):List UInt8×List UInt8:=if isF n t=true then([UInt8.ofNat (t.toNat+1)],[UInt8.ofNat (t.toNat+2)])else([],[])
theorem yD8(aa tabs:List (List V))(t:Int)(v:GValue)(hn:tabs.length<=maxB)(hv:v.ok):Pure prog 107 [.agg [.sl .ro aa,.sl .ro tabs],.int .i64 t,.agg v.row] (.str (zs8 tabs.length t v)):=by
 have ab:=is_w aa tabs t;rw[show(decide (0<=t)&&decide (t<tabs.length))=isF tabs.length t from rfl]at ab;refine iW 0 func107 ntmps107 results107 λc hc hb=>zO ?_;simp[go_sem];refine pC ab ?_;unfold zs8;refine(A4 (isF tabs.length t)).elim (λh=>?_) (λh=>?_)
 .obtain⟨j,rfl,hj⟩:=yb5 h;rw[h,if_pos rfl];have e1:IntKind.u8.wrap (IntKind.i64.wrap ((j:Int)+1))=((UInt8.ofNat (j+1)).toNat:Int):=by rw[i64_id om (by unfold maxB at hn;omega),show(j:Int)+1=((j+1:Nat):Int)by omega,zJ8]
  simp[go_sem,e1];refine zJ (xT2 [UInt8.ofNat (j+1)] v hv (by simp[maxB])) cB ⟨zh2 (by simp[zM]),zD rfl,tV⟩ rfl ?_;simp[go_sem,bys];refine zI (xL _) ?_;simp[go_sem,ze3];exact wR
 .rw[h];simp[go_sem];exact wR
theorem xG6(aa tabs:List (List V))(t:Int)(v:GValue)(hn:tabs.length<=maxB)(hv:v.ok)(_hs:v.s.length<=500):Pure prog 107 [.agg [.sl .ro aa,.sl .ro tabs],.int .i64 t,.agg v.row] (.str (zs8 tabs.length t v)):=yD8 aa tabs t v hn hv
theorem xZ8(aa tabs:List (List V))(t:Int)(hn:tabs.length<=maxB):Pure prog 108 [.agg [.sl .ro aa,.sl .ro tabs],.int .i64 t] (.tup [.str (allF tabs.length t).1,.str (allF tabs.length t).2]):=by
 have ab:=is_w aa tabs t;rw[show(decide (0<=t)&&decide (t<tabs.length))=isF tabs.length t from rfl]at ab;refine iW 0 func108 ntmps108 results108 λc hc hb=>zO ?_;simp[go_sem];refine pC ab ?_;unfold allF;refine(A4 (isF tabs.length t)).elim (λh=>?_) (λh=>?_)
 .obtain⟨j,rfl,hj⟩:=yb5 h;rw[h,if_pos rfl];obtain⟨x,hx⟩:=eX (UInt8.ofNat (j+1));obtain⟨y,hy⟩:=eX (UInt8.ofNat (j+2));have e1:IntKind.u8.wrap (IntKind.i64.wrap ((j:Int)+1))=(x.toNat:Int):=by rw[i64_id om (by unfold maxB at hn;omega),show(j:Int)+1=((j+1:Nat):Int)by omega,zJ8,hx]
  have e2:IntKind.u8.wrap (IntKind.i64.wrap ((j:Int)+2))=(y.toNat:Int):=by rw[i64_id om (by unfold maxB at hn;omega),show(j:Int)+2=((j+2:Nat):Int)by omega,zJ8,hy]
  simp only[Az];simp[go_sem];refine yU [] 1 rfl kR kR ?_;simp[go_sem,e1];refine zI (xL [x]) ?_;have r1:zq5 [V.int IntKind.u8 x.toNat]=x:=by simp[zq5]
  have r2:zq5 [V.int IntKind.u8 y.toNat]=y:=by simp[zq5]
  simp[go_sem,e2,r1];refine zI (xL [y]) ?_;simp[go_sem,r2];exact wA (zD rfl) ⟨by rw[<-hx,<-hy];simp,rfl⟩
 .rw[h];simp[go_sem];exact wR
theorem yM1(aa tabs:List (List V))(t:Int)(v:GValue)(hn:tabs.length<=maxB)(hv:v.ok):Pure prog 50 [.agg [.sl .ro aa,.sl .ro tabs],.int .i64 t,.agg v.row] (.str (zs8 tabs.length t v)):=by
 have ab:=yc3 aa tabs t;rw[show(decide (0<=t)&&decide (t<tabs.length))=isF tabs.length t from rfl]at ab;refine iW 0 func50 ntmps50 results50 λc hc hb=>zO ?_;simp[go_sem];refine pC ab ?_;unfold zs8;refine(A4 (isF tabs.length t)).elim (λh=>?_) (λh=>?_)
 .obtain⟨j,rfl,hj⟩:=yb5 h;rw[h,if_pos rfl];have e1:IntKind.u8.wrap (IntKind.i64.wrap ((j:Int)+1))=((UInt8.ofNat (j+1)).toNat:Int):=by rw[i64_id om (by unfold maxB at hn;omega),show(j:Int)+1=((j+1:Nat):Int)by omega,zJ8]
  simp[go_sem,e1];refine zJ (xm5 [UInt8.ofNat (j+1)] v hv (by simp[maxB])) cB ⟨zh2 (by simp[zM]),zD rfl,tV⟩ rfl ?_;simp[go_sem,bys];refine zI (xL _) ?_;simp[go_sem,ze3];exact wR
 .rw[h];simp[go_sem];exact wR
end Go.Proofs.YtefbicjgbaaieaaGreat.R
namespace Go.Proofs.YtefbicjgbaaieaaGreat
open Go Go.Vx R Go.Proofs.Tryz
set_option maxRecDepth 100000
theorem xw3(v:GValue):(keyF v).length<=140:=by
 by_cases h:mayF v=true;.have h1:=xw4 (v:=v);have h2:=yg9 h;omega
 .unfold keyF;rw[if_neg h];simp
def maxS(x y:List UInt8):List UInt8:=if Op.bytesLess x y=true then y else x
def minS(x y:List UInt8):List UInt8:=if Op.bytesLess x y=true∨x=y then x else y
def cutF(at_:List UInt8)(sign:List UInt8)(b:List UInt8×List UInt8):List UInt8×List UInt8:=if sign=[61]then(maxS b.1 at_,minS b.2 (at_++[0]))else if sign=[60]then(b.1,minS b.2 at_)else if sign=[60,61]then(b.1,minS b.2 (at_++[0]))else if sign=[62]then(maxS b.1 (at_++[0]),b.2)else if sign=[62,61]then(maxS b.1 at_,b.2)else b
def zX6(n:Nat)(t:Int)(name:List UInt8)(l:List GExpr)(b:List UInt8×List UInt8):List UInt8×List UInt8:=l.foldl (λb e=>match ze9 e name with|none=>b|some (s,v)=>cutF (zs8 n t v) s b) b
def zR3(T:GTable):Option (List UInt8):=if 0<=T.key then(T.cols[T.key.toNat]?).map (·.name)else none
def zq3(ts:List GTable)(t:Int)(st:GStmt):List UInt8×List UInt8:=if isF ts.length t=true then match(ts[t.toNat]?).bind zR3 with|none=>allF ts.length t|some name=>let b:=zX6 ts.length t name (zt4 st) (allF ts.length t);(b.1,maxS b.2 b.1)else allF ts.length t
def xz6(b:List UInt8×List UInt8):V:=.tup [.str b.1,.str b.2]
theorem yZ5(o:Option (List UInt8×GValue)):noS (cutV o)=true:=by obtain _|⟨s,v⟩:=o<;>rfl
theorem xo6(aa:List (List V))(ts:List GTable)(t:Int)(st:GStmt)(hn:ts.length<=maxB)(_hc0:∀T∈ts,T.cols.length<=maxLen)(hl:(zt4 st).length<=maxLen)(hv:∀e∈zt4 st,∀name s v,ze9 e name=some (s,v)->v.ok):Pure prog 60 [.agg [.sl .ro aa,.sl .ro (ts.map GTable.row)],.int .i64 t,.agg st.row] (xz6 (zq3 ts t st)):=by
 generalize hM:zq3 ts t st=M;have ret:∀(r:List UInt8×List UInt8)(σ:St),r=M->wret (some (.tup [.str r.1,.str r.2])) 0 (λr s=>r=xz6 M/\s=[]) σ:=λr σ h=>by subst h;exact wR
 have ab:=xZ8 aa (ts.map GTable.row) t (by simpa using hn);have ag:=zX5 st;simp only[Ay]at ab;unfold zq3 at hM;generalize hA:allF ts.length t=A at ab hM;generalize hL:zt4 st=L at ag hM hl hv;refine iV 0 func60 ntmps60 results60 λc hc hb=>?_;refine zA ?_;simp[go_sem];refine pC ab ?_;simp[go_sem];refine(A4 (isF ts.length t)).elim (λh=>?_) (λh=>?_);rotate_left
 .simp only[h]at hM;have h2:decide (t<0)=true∨(decide (t<0)=false/\decide ((ts.length:Int)<=t)=true):=by unfold isF at h;simp only[Bool.and_eq_false_iff,decide_eq_false_iff_not]at h;simp only[decide_eq_true_eq,decide_eq_false_iff_not];omega
  refine h2.elim (λq=>?_) (λq=>?_);all_goals simp[go_sem,q]
  all_goals exact ret _ _ hM
 obtain⟨j,rfl,hj⟩:=yb5 h;obtain⟨T,hT⟩:=eX (ts[j]);have ax:decide ((ts.length:Int)<=j)=false:=decide_eq_false om;have ah:decide ((j:Int)<0)=false:=decide_eq_false om;simp only[h,if_true,Az,A0 hj,hT,Aw]at hM;have ai:decide (ts.length<=j)=false:=decide_eq_false om;simp[go_sem,ah,ai,hj,hT];by_cases hk:0<=T.key/\T.key<T.cols.length;rotate_left
 .have ad:zR3 T=none:=by
   unfold zR3;split;.rw[Bd om];rfl
   .rfl
  rw[ad]at hM;have h2:decide (T.key<0)=true∨(decide (T.key<0)=false/\decide ((T.cols.length:Int)<=T.key)=true):=by simp only[decide_eq_true_eq,decide_eq_false_iff_not];omega
  refine h2.elim (λq=>?_) (λq=>?_);all_goals simp[go_sem,q]
  all_goals exact ret _ _ hM
 obtain⟨m,hm⟩:∃m:Nat,T.key=m:=⟨T.key.toNat,om⟩;have ae:m<T.cols.length:=om;obtain⟨C,hC⟩:=eX (T.cols[m]);have ad:zR3 T=some C.name:=by unfold zR3;rw[if_pos om,hm,Az,A0 ae,hC];rfl
 simp only[ad]at hM;have aj:decide (T.key<0)=false:=decide_eq_false om;have ak:decide ((T.cols.length:Int)<=T.key)=false:=decide_eq_false om;simp[go_sem,aj,ak];refine zJ ag cB (zL sg rfl) rfl ?_;simp[go_sem];refine zH (S:=Nat×List UInt8×List UInt8) [1,3,6,7,8,52,53,54] (λu=>[.int .i64 j,.ptr 0 0,.str u.2.1,.str u.2.2,.ptr 1 0,.sl .ro (L.map GExpr.row),.int .i64 L.length,.int .i64 u.1]) (λ_=>[.box [.sl .ro aa,.sl .ro (ts.map GTable.row)],.box T.row]) (λu=>L.length-u.1) (λu=>u.1<=L.length/\zX6 ts.length j C.name (L.drop u.1) u.2=zX6 ts.length j C.name L A) hc hb (0,A) ⟨A2 _,rfl⟩ ?_ ?_
 .exact zD2 [0,2] dc rfl ⟨by simp[go_sem,yC,renC,renK],by simp[go_sem,yC,renC,renK],tV⟩ ⟨zD rfl,.inl (by simp[go_sem,renS,renA,renC,renK,ren]),zD rfl,zD rfl,.inl (by simp[go_sem,renS,renA,renC,renK,ren]),zQ,zD rfl,zD rfl,tV⟩
 rintro⟨i,b⟩⟨hi,hinv⟩;simp only at hi hinv;by_cases q:i<L.length;rotate_left;.rw[A9 om]at hinv;have al:b=zX6 ts.length j C.name L A:=hinv;rw[<-al]at hM;refine zA ?_;simp[go_sem,q];exact ret (b.1,maxS b.2 b.1) _ hM
 have ei:=zS q (by unfold maxLen at hl;omega);obtain⟨x,hx⟩:=eX (L[i]);have an:x∈L:=hx▸A8 q;rw[A5 q,hx]at hinv;have ao:=yp2 x C.name;have aq:=hv x an C.name;have aw:=GExpr.row_eq x;refine zA ?_;simp[go_sem,q,hx];refine yU [(8,0),(15,3)] 3 sm kR kR ?_;have ar:T.cols[m]?=some C:=by rw[A0 ae,hC]
 simp[go_sem,hm,ar];refine zI ae ?_;simp[go_sem];refine xE ao cB (λ_=>zL sg (by rw[GExpr.row_eq];rfl)) (yZ5 _) ?_;cases ha:ze9 x C.name with |none=>simp only[zX6,Bf,ha]at hinv;simp[go_sem,cutV,xc8,ei];refine zG (i+1,b) ⟨by simp only;omega,⟨by simp only;omega,hinv⟩,?_⟩;exact at_n 2 (by simp[go_sem,hm]) rfl (by rfl) (A2 _) (zC sg rfl)|some p=>
  obtain⟨s,v⟩:=p;have au:=aq s v ha;have af:=yD8 aa (ts.map GTable.row) j v (by simpa using hn) au;simp only[Ay]at af;simp only[zX6,Bf,ha]at hinv;obtain⟨B,hB⟩:=eX (zs8 ts.length j v);have av:B.length<=9223372036854775806:=by have:=xw3 v;rw[<-hB];unfold zs8;rw[if_pos h];simp only[Ah];omega
  rw[hB]at af;simp[go_sem,cutV];refine zJ af cB (zL sg rfl) rfl ?_;simp[go_sem];refine zI av ?_;simp[go_sem];have fin:∀b',cutF B s b=b'->zX6 ts.length j C.name (L.drop (i+1)) b'=zX6 ts.length j C.name L A:=λb' h=>by rw[<-h,<-hB];exact hinv
  repeat'(first|(refine zN (λq=>?_) (λq=>?_)<;>simp[go_sem,q,ei]))
  all_goals simp only[beq_iff_eq,beq_eq_false_iff_ne]at*
  all_goals refine zG (i+1,cutF B s b) ⟨by simp only;omega,⟨by simp only;omega,fin _ rfl⟩,?_⟩
  all_goals refine at_n 2 (by simp[go_sem,hm]) rfl (by rfl) (A2 _) (zC ?_ rfl)
  all_goals unfold cutF maxS minS
  all_goals simp[go_sem, *]
theorem zg9:(Tryz.prog.funcs.all λfn=>!(fn.name=="runtime.NumGoroutine"))=true:=kR
theorem zd3:Tryz.prog.follows .mixedOrders=true:=kR
def marks(f:Nat):List Nat:=if f=185then[7]else[]
def xG4:GZone:=⟨[1],[],[0,1],0,0,0⟩
def tabT:GTable:=⟨[84],[⟨[82],2,false⟩,⟨[75],2,false⟩,⟨[86],3,true⟩,⟨[78],2,true⟩],1,0,0,xG4⟩
def tabG:GTable:=⟨[71],[⟨[75],3,false⟩,⟨[78],2,false⟩,⟨[66],1,true⟩],0,1,0,xG4⟩
def tabH:GTable:=⟨[72],[⟨[66],1,false⟩,⟨[78],2,true⟩],0,2,1,xG4⟩
def tabsS:List GTable:=[tabT,tabG,tabH]
def yT:List (List V):=[[.int .i64 0],[.int .i64 0],[.int .i64 1],[.int .i64 1]]
def schS:V:=.agg [.sl .full yT,.sl .full (tabsS.map GTable.row)]
def schR(ts:List GTable):V:=.agg [.sl .ro yT,.sl .ro (ts.map GTable.row)]
theorem xp2:Pure prog 39 [] schS:=zj1 zg9 zd3 marks 10000 kR
theorem xB9{ρ:Nat->Nat}:argS ρ (schR tabsS) schS:=zv4 ⟨yY,yY,tV⟩
def wP(t r:Int):Int×Int:=if t=0then(if r=0then(0,0)else if r=1then(1,0)else(0,19))else if t=1then(2,0)else if t=2then(3,0)else(0,1)
def zP0(p:Int×Int):V:=.tup [.int .i64 p.1,.int .i64 p.2]
theorem yE1(t r:Int)(h:t=0∨t=1∨t=2)(hr:r=-1∨r=0∨r=1∨r=2∨r=3∨r=4):Pure prog 62 [schR tabsS,.int .i64 t,.int .i64 r] (zP0 (wP t r)):=by rcases h with rfl|rfl|rfl<;>rcases hr with rfl|rfl|rfl|rfl|rfl|rfl<;>exact zj1 zg9 zd3 marks 10000 kR
theorem xg4(j:Nat)(hj:j<3):Pure prog 62 [schR (tabsS.take (j+1)),.int .i64 j,.int .i64 0] (zP0 (wP j 0)):=by match j,hj with |0,_=>exact zj1 zg9 zd3 marks 10000 kR|1,_=>exact zj1 zg9 zd3 marks 10000 kR|2,_=>exact zj1 zg9 zd3 marks 10000 kR
def ofS(r:Int):Int×Int×Int:=if r=0then(0,0,0)else if r=1then(0,1,0)else if r=2then(1,-1,0)else if r=3then(2,1,0)else(0,0,1)
def ofV(p:Int×Int×Int):V:=.tup [.int .i64 p.1,.int .i64 p.2.1,.int .i64 p.2.2]
theorem xL0:Pure prog 111 [schR tabsS] (.int .i64 0):=zj1 zg9 zd3 marks 10000 kR
theorem xm8:Pure prog 116 [schR tabsS] (.sl .ro [[.int .i64 0],[.int .i64 1]]):=VCalls.frz (xh1 zg9 zd3 marks 10000 (v:=.lsv 1 1 4 0 2) (σ':=[.box [.sl .ro yT,.sl .ro (tabsS.map GTable.row)],.lst [[.int .i64 0],[.int .i64 1],[.int .i64 0],[.int .i64 0]] 1]) kR) (λr s⟨h1,h2⟩=>by subst h1;subst h2;exact⟨_,_,.step 1 1 [[.int .i64 0],[.int .i64 1],[.int .i64 0],[.int .i64 0]] rfl rfl (.refl _ _),zQ⟩)
def xc2(t:Nat):Int:=if t=0then 2 else 1
theorem yT2(j:Nat)(hj:j<3):Pure prog 145 [schR tabsS,.agg (tabsS[j]'hj).row] (.int .i64 (xc2 j)):=by match j,hj with|0,_=>exact zj1 zg9 zd3 marks 10000 kR|1,_=>exact zj1 zg9 zd3 marks 10000 kR|2,_=>exact zj1 zg9 zd3 marks 10000 kR
theorem yz7{M:Int×Int×Int}{a b e:Int}{σ:St}(h:(a,b,e)=M):wret (some (.tup [.int .i64 a,.int .i64 b,.int .i64 e])) 0 (λr s=>r=ofV M/\s=[]) σ:=by subst h;exact wR
theorem Of_w(g:Nat)(hg:g<1000):Pure prog 86 [schR tabsS,.int .i64 g] (ofV (ofS g)):=by
 have ab:=yT2 0 dc;have ad:=yT2 1 dc;have ae:=yT2 2 dc;have hr:=xm8;generalize hM:ofS g=M;refine iV 0 func86 ntmps86 results86 λc hc hb=>?_;refine zA ?_;simp[go_sem,schR];have h0:decide ((g:Int)<0)=false:=decide_eq_false om;simp[go_sem,h0];refine zH (S:=Nat×Nat) [1,2,13,14,15] (λu=>[.int .i64 u.2,.ptr 0 0,.sl .ro (tabsS.map GTable.row),.int .i64 3,.int .i64 u.1]) (λ_=>[.box [.sl .ro yT,.sl .ro (tabsS.map GTable.row)]]) (λu=>3-u.1) (λu=>(u.1=0/\u.2=g)∨(u.1=1/\u.2+2=g)∨(u.1=2/\u.2+3=g)∨(u.1=3/\u.2+4=g)) hc hb (0,g) (.inl ⟨rfl,rfl⟩) ?_ ?_;.exact aM 1 (by rfl) (zC (by simp[go_sem];rfl) rfl)
 rintro⟨i,r⟩h;simp only at h;refine h.elim (λ⟨h1,h2⟩=>?_) λh=>h.elim (λ⟨h1,h2⟩=>?_) λh=>h.elim (λ⟨h1,h2⟩=>?_) λ⟨h1,h2⟩=>?_
 .subst h1;refine zA ?_;simp[go_sem,tabsS];refine zJ ab cB (zL (by simp[go_sem,schR,tabsS]) rfl) rfl ?_;simp[go_sem,xc2];by_cases q:2<=r
  .have q':decide ((2:Int)<=r)=true:=decide_eq_true om;have e:IntKind.i64.wrap ((r:Int)-2)=((r-2:Nat):Int):=by rw[i64_id om om];omega
   simp[go_sem,q',e];exact zG (1,r-2) ⟨by simp only;omega,.inr (.inl ⟨rfl,by simp only;omega⟩),aN 1 (by rfl)⟩
  .have q':decide ((2:Int)<=r)=false:=decide_eq_false om;simp[go_sem,q',show tabT.place=0from rfl];refine yU [(2,0)] 2 sm kR kR ?_;simp[go_sem];refine xE hr cB (λ_=>zL (by simp[go_sem,schR,tabsS,show tabT.place=0from rfl]) rfl) rfl ?_;have aa:r=0∨r=1:=om;refine aa.elim (λe=>?_) (λe=>?_);all_goals subst e
   all_goals simp[go_sem]
   all_goals exact yz7 (by rw[<-hM,<-h2];rfl)
 .subst h1;refine zA ?_;simp[go_sem,tabsS];refine zJ ad cB (zL (by simp[go_sem,schR,tabsS]) rfl) rfl ?_;simp[go_sem,xc2];by_cases q:1<=r
  .have q':decide ((1:Int)<=r)=true:=decide_eq_true om;have e:IntKind.i64.wrap ((r:Int)-1)=((r-1:Nat):Int):=by rw[i64_id om om];omega
   simp[go_sem,q',e];exact zG (2,r-1) ⟨by simp only;omega,.inr (.inr (.inl ⟨rfl,by simp only;omega⟩)),aN 1 (by rfl)⟩
  .have q':decide ((1:Int)<=r)=false:=decide_eq_false om;simp[go_sem,q',show tabG.place=1from rfl];have aa:r=0:=om;subst aa;exact yz7 (by rw[<-hM,<-h2];rfl)
 .subst h1;refine zA ?_;simp[go_sem,tabsS];refine zJ ae cB (zL (by simp[go_sem,schR,tabsS]) rfl) rfl ?_;simp[go_sem,xc2];by_cases q:1<=r
  .have q':decide ((1:Int)<=r)=true:=decide_eq_true om;have e:IntKind.i64.wrap ((r:Int)-1)=((r-1:Nat):Int):=by rw[i64_id om om];omega
   simp[go_sem,q',e];exact zG (3,r-1) ⟨by simp only;omega,.inr (.inr (.inr ⟨rfl,by simp only;omega⟩)),aN 1 (by rfl)⟩
  .have q':decide ((1:Int)<=r)=false:=decide_eq_false om;have aa:r=0:=om;subst aa;simp[go_sem,show tabH.place=2from rfl];refine yU [] 2 sm kR kR ?_;simp[go_sem];exact yz7 (by rw[<-hM,<-h2];rfl)
 .subst h1;refine zA ?_;simp[go_sem,tabsS];exact yz7 (by rw[<-hM,<-h2];unfold ofS;rw[if_neg om,if_neg om,if_neg om,if_neg om])
theorem xY4(v:GValue)(l:List Int):([.box v.row,.lst (l.map yM) 1]:St).all (ltOb 2)=true:=by simp[ltOb,ltC,ltK,yM,GValue.row]
theorem xR3(v:GValue)(r:Int):VCalls prog 113 [.int .i64 r,.ptr 0 0] [.box v.row] (λx s=>x=.bool (r !=v.n)/\s=[.box v.row]):=by refine iW 1 func113 ntmps113 results113 λc hc hb=>zO ?_;simp[go_sem];exact xP 1 sg rfl rfl (A3 _) (zD rfl) ⟨rfl,rfl⟩
def idxF(p:Int->Bool):List Int->Nat->Int |[],_=>-1|x::l,i=>if p x=true then i else idxF p l (i+1)
theorem wb1(v:GValue)(xs:List Int)(m:Nat)(hm:m<=xs.length)(hl:xs.length<=1000):VCalls prog 182 [.lsv 1 1 xs.length 0 m,.fn 113 [.ptr 0 0]] [.box v.row,.lst (xs.map yM) 1] (λr s=>r=.int .i64 (idxF (λx=>x !=v.n) (xs.take m) 0)/\s=[.box v.row,.lst (xs.map yM) 1]):=by
 generalize hM:idxF (λx=>x !=v.n) (xs.take m) 0=M;have ret:∀(r:Int)(σ:St),r=M->σ.take 2=[.box v.row,.lst (xs.map yM) 1]->wret (some (.int .i64 r)) 2 (λr s=>r=.int .i64 M/\s=[.box v.row,.lst (xs.map yM) 1]) σ:=λr σ h hs=>by subst h;exact xP 2 hs rfl (by simp[ltOb,ltC,ltK,yM,GValue.row]) (A3 _) (zD rfl) ⟨rfl,rfl⟩
 refine iV 2 func182 ntmps182 results182 λc hc hb=>?_;refine zA ?_;simp[go_sem];refine zH (S:=Nat) [0,1,7,8] (λi=>[.lsv 1 1 xs.length 0 m,.fn 113 [.ptr 0 0],.int .i64 m,.int .i64 i]) (λ_=>[.box v.row,.lst (xs.map yM) 1]) (λi=>m-i) (λi=>i<=m/\idxF (λx=>x !=v.n) ((xs.take m).drop i) i=M) hc hb 0 ⟨A2 _,hM⟩ ?_ ?_;.exact aN 2 (by simp[ltOb,ltC,ltK,yM,GValue.row])
 rintro i⟨hi,hinv⟩;by_cases q:i<m;rotate_left;.rw[A9 (by simp;omega)]at hinv;refine zA ?_;simp[go_sem,q];exact ret _ _ hinv rfl
 have ei:=zS q om;have aa:i<xs.length:=om;obtain⟨x,hx⟩:=eX (xs[i]);have ab:(xs.take m)[i]'(by simp;omega)=x:=by rw[List.getElem_take];exact hx
 rw[A5 (by simp;omega),ab,idxF]at hinv;have hd:=xR3 v x;obtain⟨b,ad⟩:=eX ((x !=v.n));rw[ad]at hd hinv;refine zA ?_;simp[go_sem,q,aa,hx];refine zp1 1 hd cB sg rfl rfl (zd5 rfl) (λr s h=>by obtain⟨rfl,rfl⟩:=h;exact⟨rfl,rfl,rfl⟩) ?_;rintro r s⟨rfl,rfl⟩;simp[go_sem];refine zN (λw=>?_) (λw=>?_);.rw[if_pos w]at hinv;simp[go_sem];exact ret _ _ hinv rfl
 .rw[if_neg (by rw[w];decide)]at hinv;simp[go_sem,ei];exact zG (i+1) ⟨om,⟨q,hinv⟩,aN 2 (by simp[ltOb,ltC,ltK,yM])⟩
def zk3(n:Int)(l:List Int):List Int:=l.filter (·==n)
theorem yr4{n:Int}:∀(l:List Int)(i:Nat),idxF (λx=>x !=n) l i=-1->zk3 n l=l
 |[],_,_=>rfl|x::l,i,h=>by
  unfold idxF at h;split at h;.omega
  .rename_i q;have:=yr4 l (i+1) h;have hx:(x==n)=true:=by simpa using q
   unfold zk3 at this⊢;rw[List.filter_cons_of_pos (by simpa using hx),this]
theorem yr5{n:Int}:∀(l:List Int)(i:Nat),idxF (λx=>x !=n) l i≠-1->∃k,idxF (λx=>x !=n) l i=((i+k:Nat):Int)/\k<l.length/\zk3 n (l.take k)=l.take k/\(∀x,l[k]?=some x->x≠n)
 |[],i,h=>absurd rfl h|x::l,i,h=>by
  unfold idxF at h⊢;split;.rename_i q;exact⟨0,sm,sm,rfl,λy hy=>by simp at hy;subst hy;simpa using q⟩
  .rename_i q;rw[if_neg q]at h;obtain⟨k,h1,h2,h3,h4⟩:=yr5 l (i+1) h;have hx:(x==n)=true:=by simpa using q
   refine⟨k+1,by rw[h1];congr 1;omega,by simp;omega,?_,λy hy=>h4 y (by simpa using hy)⟩;unfold zk3 at h3⊢;rw[C1,List.filter_cons_of_pos (by simpa using hx),h3]
theorem zO4{n:Int}{xs:List Int}{j:Nat}{x:Int}(h:xs[j]?=some x):zk3 n (xs.take (j+1))=zk3 n (xs.take j)++(if x=n then[x]else[]):=by
 unfold zk3;rw[D9,h,Ek];by_cases q:x=n;.simp[q]
 .simp[q]
theorem xU1(v:GValue)(xs:List Int)(m:Nat)(hm:m<=xs.length)(hl:xs.length<=1000):VCalls prog 112 [.lsv 1 1 xs.length 0 m,.fn 113 [.ptr 0 0]] [.box v.row,.lst (xs.map yM) 1] (λr s=>∃ys:List Int,ys.length=xs.length/\(zk3 v.n (xs.take m)).length<=m/\ys.take (zk3 v.n (xs.take m)).length=zk3 v.n (xs.take m)/\r=.lsv 1 1 xs.length 0 (zk3 v.n (xs.take m)).length/\s=[.box v.row,.lst (ys.map yM) 1]):=by
 obtain⟨K,hK⟩:=eX (zk3 v.n (xs.take m));have an:K.length<=m:=by rw[<-hK];unfold zk3;exact B3 (Bt _ _) (by simp;omega)
 rw[hK];have ret:∀(ys:List Int)(k:Nat)(σ:St),ys.length=xs.length->k=K.length->ys.take K.length=K->σ.take 2=[.box v.row,.lst (ys.map yM) 1]->wret (some (.lsv 1 1 xs.length 0 k)) 2 (λr s=>∃ys:List Int,ys.length=xs.length/\K.length<=m/\ys.take K.length=K/\r=.lsv 1 1 xs.length 0 K.length/\s=[.box v.row,.lst (ys.map yM) 1]) σ:=λys k σ h1 h2 h3 h4=>by subst h2;exact xP 2 h4 rfl (by simp[ltOb,ltC,ltK,yM,GValue.row]) (A3 _) (zq2 rfl) ⟨ys,h1,an,h3,rfl,rfl⟩
 have ao:=wb1 v xs m hm hl;refine iV 2 func112 ntmps112 results112 λc hc hb=>?_;refine zA ?_;simp[go_sem];refine zp1 2 ao cB sg rfl (by simp[ltOb,ltC,ltK,yM,GValue.row]) (zd5 rfl) (λr s h=>by obtain⟨rfl,rfl⟩:=h;exact⟨rfl,by simp[ltOb,ltC,ltK,yM,GValue.row],rfl⟩) ?_;rintro r s⟨rfl,rfl⟩;by_cases h0:idxF (λx=>x !=v.n) (xs.take m) 0=-1;.have ag:=yr4 _ _ h0;rw[hK]at ag;rw[h0];simp[go_sem];exact ret xs m _ rfl (by rw[ag];simp;omega) (by rw[ag];simp) (by rfl)
 obtain⟨k,h1,h2,h3,h4⟩:=yr5 _ _ h0;rw[Ab]at h1;rw[h1];have aq:k<m:=by simp at h2;omega
 have ar:((k:Int)==-1)=false:=sm;have ek:IntKind.i64.wrap ((k:Int)+1)=((k+1:Nat):Int):=by rw[i64_id om om];omega
 have au:zk3 v.n (xs.take (k+1))=xs.take k:=by have ai:k<xs.length:=om;have h5:=h4 xs[k] (by rw[Ae,if_pos aq,A0 ai]);rw[zO4 (A0 ai),if_neg h5,Bc];rw[En,Dl om]at h3;exact h3
 simp[go_sem,ar,ek];refine zH (S:=Nat×Nat×List Int) [0,1,5,6] (λu=>[.lsv 1 1 xs.length 0 m,.fn 113 [.ptr 0 0],.int .i64 u.1,.int .i64 u.2.1]) (λu=>[.box v.row,.lst (u.2.2.map yM) 1]) (λu=>m-u.2.1) (λu=>u.1<u.2.1/\u.2.1<=m/\u.2.2.length=xs.length/\u.2.2.take u.1=zk3 v.n (xs.take u.2.1)/\u.2.2.drop u.2.1=xs.drop u.2.1) hc hb (k,k+1,xs) ⟨by simp only;omega,by simp only;omega,rfl,au.symm,rfl⟩ ?_ ?_;.exact aN 2 (by simp[ltOb,ltC,ltK,yM,GValue.row])
 rintro⟨i,j,ys⟩⟨av,aw,ad,aa,ab⟩;simp only at av aw ad aa ab;by_cases q:j<m;rotate_left
 .have hj:j=m:=om;subst hj;rw[hK]at aa;have aj:i=K.length:=by rw[<-aa];simp;omega
  have af:i<=j:=om;refine zA ?_;simp[go_sem];refine zI af ?_;simp[go_sem,ad];refine zI om ?_;simp[go_sem];refine zI (.inl af) ?_;simp[go_sem];refine ret (ys.take i++List.replicate (j-i) 0++ys.drop (i+(j-i))) i _ (by simp;omega) aj (by rw[<-aj,Bp,Cx (by simp;omega)];rw[En,Nat.min_self,aa]) ?_;simp[go_sem,yM]
 have ej:=zS q om;have ax:j<ys.length:=om;have ay:j<xs.length:=om;obtain⟨x,hx⟩:=eX (ys[j]);have az:ys[j]?=some x:=by rw[A0 ax,hx]
 have ak:xs[j]?=some x:=by have:=congrArg (λl=>l[0]?) ab;simp only[B5,Cg]at this;rw[<-this,az]
 have ei:IntKind.i64.wrap ((i:Int)+1)=((i+1:Nat):Int):=by rw[i64_id om om];omega
 have hd:=xR3 v x;obtain⟨b,ah⟩:=eX ((x !=v.n));rw[ah]at hd;refine zA ?_;simp[go_sem,q,ay,hx,ad];refine zp1 1 hd cB sg rfl rfl (zd5 rfl) (λr s h=>by obtain⟨rfl,rfl⟩:=h;exact⟨rfl,rfl,rfl⟩) ?_;rintro r s⟨rfl,rfl⟩;simp[go_sem];refine zN (λw=>?_) (λw=>?_);all_goals simp[go_sem,ej]
 .have q2:x=v.n:=by simpa using(show(x !=v.n)=false by rw[ah];simpa using w)
  have ae:=zO4 (n:=v.n) ak;rw[if_pos q2]at ae;refine zI om ?_;have al:i<xs.length:=om;obtain⟨y,a1⟩:∃y,ys[i]?=some y:=⟨_,A0 om⟩;simp[go_sem,ad,al,ei,ej];refine zG (i+1,j+1,ys.set i x) ⟨by simp only;omega,⟨by simp only;omega,by simp only;omega,by simp[ad],?_,?_⟩,?_⟩;.rw[ae,<-aa,D9,Aj om,List.take_set_of_le (A3 i)];simp
  .simp only;rw[List.drop_set,if_pos om];have:=congrArg (List.drop 1) ab;simpa[E7,E8]using this
  .exact at_n 2 (by simp[go_sem,List.map_set,yM]) rfl (xY4 v _) (A3 _) (zC sg rfl)
 .have q2:¬x=v.n:=by
   have:(x !=v.n)=true:=by rw[ah];simpa using w
   simpa using this
  have ae:=zO4 (n:=v.n) ak;rw[if_neg q2,Bc]at ae;refine zG (i,j+1,ys) ⟨by simp only;omega,⟨by simp only;omega,by simp only;omega,ad,by rw[ae];exact aa,?_⟩,?_⟩;.have:=congrArg (List.drop 1) ab;simpa[E7,E8]using this
  .exact aN 2 (by simp[ltOb,ltC,ltK,yM])
def zG4(t:Nat):List Int:=if t=0then[0,1]else if t=1then[-1]else[1]
def cutR(l:List GExpr)(rs:List Int):List Int:=l.foldl (λrs e=>match ze9 e [82]with|none=>rs|some (s,v)=>if s=[61]/\v.kind=2then zk3 v.n rs else rs) rs
def zc3(t:Int)(st:GStmt):List Int:=if t=0then cutR (zt4 st) [0,1]else if t=1then[-1]else if t=2then[1]else[]
theorem xi6{n:Int}(l:List Int):(zk3 n l).length<=l.length:=Bt _ _
theorem xi4(l:List Int):xQ (l.map yM)=true:=by simp[xQ,yM,zh9]
theorem yR2(l:List Int)(m:Nat):za4 (l.map yM) 0 m=(l.take m).map yM:=by unfold za4;rw[B8,<-List.map_take,Br];rfl
theorem xC8(st:GStmt)(T:GTable)(l:List Int):([.box [.sl .ro yT,.sl .ro (tabsS.map GTable.row)],.box st.row,.box T.row,.lst (l.map yM) 1]:St).all (ltOb 4)=true:=by simp[ltOb,ltC,ltK,yM,GStmt.row,GTable.row]
theorem yB9(T:GTable)(l:List Int):([.box T.row,.lst (l.map yM) 1]:St).all (ltOb 2)=true:=by simp[ltOb,ltC,ltK,yM,GTable.row]
theorem xb0(n:Nat)(l:List Int):ltOb n (.lst (l.map yM) 1)=true:=by simp[ltOb,ltC,ltK,yM]
theorem yV1(j:Nat)(hj:j<3):∃s0:Nat,wP j 0=((s0:Int),0)/\s0+(zG4 j).length<5/\(∀(k:Nat) x,(zG4 j)[k]?=some x->ofS ((s0+k:Nat):Int)=((j:Int),x,0))/\((ofS ((s0+(zG4 j).length:Nat):Int)).2.2≠0∨((ofS ((s0+(zG4 j).length:Nat):Int)).2.2=0/\(ofS ((s0+(zG4 j).length:Nat):Int)).1≠j)):=by match j,hj with
 |0,_=>exact⟨0,rfl,dc,λk x h=>(by match k with |0=>cases h;rfl|1=>cases h;rfl|k+2=>cases h),.inr dc⟩|1,_=>exact⟨2,rfl,dc,λk x h=>(by match k with |0=>cases h;rfl|k+1=>cases h),.inr dc⟩|2,_=>exact⟨3,rfl,dc,λk x h=>(by match k with |0=>cases h;rfl|k+1=>cases h),.inl dc⟩
theorem yG3:∀(l:List GExpr)(rs:List Int),(cutR l rs).length<=rs.length
 |[],_=>A3 _|e::l,rs=>by
  have h1:cutR (e::l) rs=cutR l (match ze9 e [82]with|none=>rs|some (s,v)=>if s=[61]/\v.kind=2then zk3 v.n rs else rs):=rfl;rw[h1];refine B3 (yG3 l _) ?_;split;.exact A3 _
  .split;.exact xi6 _
   .exact A3 _
theorem xg5(t:Int)(st:GStmt)(hl:(zt4 st).length<=maxLen):Pure prog 61 [schR tabsS,.int .i64 t,.agg st.row] (.sl .ro ((zc3 t st).map yM)):=by
 have al:=zX5 st;generalize hM:zc3 t st=M;unfold zc3 at hM;generalize hL:zt4 st=L at al hM hl;have an:∀(g:Tag)(σ:St),[]=M->wret (some (.sl g [])) 0 (λr s=>r=.sl .ro (M.map yM)/\s=[]) σ:=λg σ h=>by subst h;exact wA zQ ⟨rfl,rfl⟩
 have ah:∀(id:Nat)(ys:List Int)(N m:Nat)(σ:St),σ[id]?=some (.lst (ys.map yM) 1)->ys.length=N->m<=N->ys.take m=M->wret (some (.lsv id 1 N 0 m)) 0 (λr s=>r=.sl .ro (M.map yM)/\s=[]) σ:=λid ys N m σ h1 h2 h3 h4=>by refine yQ1 id 1 (ys.map yM) h1 (xi4 ys) ?_;simp only[frzS,frzA,frzC,frzK,Ay,h2,Ab,h3,and_self,if_true,yR2,h4];exact wA zQ ⟨rfl,rfl⟩
 refine iV 0 func61 ntmps61 results61 λc hc hb=>?_;refine zA ?_;simp[go_sem,schR];by_cases ht:0<=t/\t<3;rotate_left
 .have ar:[]=M:=by rw[<-hM,if_neg om,if_neg om,if_neg om]
  have h2:decide (t<0)=true∨(decide (t<0)=false/\decide ((tabsS.length:Int)<=t)=true):=by simp only[decide_eq_true_eq,decide_eq_false_iff_not,show tabsS.length=3from rfl];omega
  refine h2.elim (λq=>?_) (λq=>?_);all_goals simp[go_sem,q]
  all_goals exact an _ _ ar
 obtain⟨j,rfl⟩:∃j:Nat,t=j:=⟨t.toNat,om⟩;have hj:j<3:=om;obtain⟨T,hT⟩:=eX (tabsS[j]'(by exact hj));have ao:=xg4 j hj;obtain⟨s0,au,av,hok,aa⟩:=yV1 j hj;obtain⟨n,hn⟩:=eX ((zG4 j).length);rw[hn]at av aa;rw[au]at ao;have aw:decide ((j:Int)<0)=false:=decide_eq_false om;have aG:decide ((tabsS.length:Int)<=j)=false:=decide_eq_false (by simp only[show tabsS.length=3from rfl];omega);have ax:decide (tabsS.length<=j)=false:=decide_eq_false (by simp only[show tabsS.length=3from rfl];omega);have ay:j<tabsS.length:=hj;have hle:=xL0;have e1:IntKind.i64.wrap ((j:Int)+1)=((j+1:Nat):Int):=by rw[i64_id om om];omega
 simp[go_sem,aw,ax,ay];refine zM1 8 1 dc sg ?_;refine yU [(10,0),(11,0)] 4 sm kR kR ?_;simp[go_sem,e1];refine zI ⟨om,by simp only[show tabsS.length=3from rfl];omega,yc8 λT=>rfl⟩ ?_;simp[go_sem];refine xE hle cB (λ_=>zL (by simp[go_sem,schR]) rfl) rfl ?_;simp[go_sem];refine xE ao cB (λ_=>zL (by simp[go_sem,schR]) rfl) rfl ?_;simp[go_sem,zP0];refine zH (S:=Nat) [1,3,5,7,8,9] (λk=>[.int .i64 j,.ptr 0 0,.ptr 1 0,.ptr 2 0,.lsv 3 1 k 0 k,.int .i64 ((s0+k:Nat):Int)]) (λk=>[.box [.sl .ro yT,.sl .ro (tabsS.map GTable.row)],.box st.row,.box T.row,.lst (((zG4 j).take k).map yM) 1]) (λk=>n-k) (λk=>k<=n) hc hb 0 (A2 _) ?_ ?_;.exact at_n 4 (by simp[go_sem,<-hT];exact⟨rfl,rfl,rfl,rfl,rfl,rfl,rfl,rfl,rfl,rfl,rfl⟩) rfl (xC8 st T _) (A2 _) (zC sg rfl)
 intro k hk;have az:=Of_w (s0+k) om;refine zA ?_;simp[go_sem];refine zJ az cB (zL (by simp[go_sem,schR]) rfl) rfl ?_;by_cases aH:k<n
 .obtain⟨x,hx⟩:∃x,(zG4 j)[k]?=some x:=⟨_,A0 om⟩;rw[hok k x hx];have a1:¬(k+1<=k):=om;have ei:IntKind.i64.wrap (((s0:Int)+k)+1)=(s0:Int)+k+1:=by rw[i64_id om om]
  simp[go_sem,ofV,a1];refine zI ⟨om,zV rfl,om⟩ ?_;simp[go_sem,ei];refine zG (k+1) ⟨om,om,?_⟩;exact at_n 4 (by simp[go_sem,D9,hx,yM]) rfl (xC8 st T _) (A2 _) (zC (by simp[go_sem];omega) rfl)
 .obtain rfl:k=n:=om;obtain⟨⟨a,b2,e⟩,hp⟩:∃p,ofS ((s0+k:Nat):Int)=p:=⟨_,rfl⟩;rw[hp]at aa⊢;simp only at aa;have hY:((zG4 j).take k).length=k:=by simp;omega
  have ad:(e !=0)=true∨((e !=0)=false/\(a !=j)=true):=by
   rcases aa with h|h;.exact .inl (by simpa using h)
   .exact .inr ⟨by simpa using h.1,by simpa using h.2⟩
  by_cases ai:j=0;rotate_left
  .have aj:(T.place !=0)=true:=by rw[<-hT];match j,hj,ai with|1,_,_=>rfl|2,_,_=>rfl
   have a6:(zG4 j)=M:=by rw[<-hM];match j,hj,ai with |1,_,_=>rfl|2,_,_=>rfl
   refine ad.elim (λq=>?_) (λq=>?_);all_goals simp[go_sem,ofV,q,aj]
   all_goals exact ah 3 ((zG4 j).take k) k k _ sg hY (A3 _) (by rw[En,Nat.min_self,Av om];exact a6)
  subst ai;have aj:(T.place !=0)=false:=by rw[<-hT];rfl
  have ab:T.cols=[⟨[82],2,false⟩,⟨[75],2,false⟩,⟨[86],3,true⟩,⟨[78],2,true⟩]:=by rw[<-hT];rfl
  have a7:k=2:=by rw[<-hn];rfl
  subst a7;have ak:(e !=0)=true∨((e !=0)=false/\(a !=0)=true):=by simpa using ad
  refine ak.elim (λq=>?_) (λq=>?_);all_goals simp[go_sem,ofV,q,aj,ab]
  all_goals refine zJ al cB (zL sg rfl) rfl ?_
  all_goals simp[go_sem]
  all_goals refine zH (S:=Nat×List Int×List Int) [7,8,79,80,81] (λu=>[.ptr 0 0,.lsv 1 1 2 0 u.2.1.length,.sl .ro (L.map GExpr.row),.int .i64 L.length,.int .i64 u.1]) (λu=>[.box T.row,.lst (u.2.2.map yM) 1]) (λu=>L.length-u.1) (λu=>u.1<=L.length/\u.2.1.length<=2/\u.2.2.length=2/\u.2.2.take u.2.1.length=u.2.1/\cutR (L.drop u.1) u.2.1=M) hc hb (0,[0,1],[0,1]) ⟨A2 _,A3 _,rfl,rfl,hM⟩ ?_ ?_
  all_goals try exact zD2 [2,3] dc rfl ⟨by simp[go_sem,yC,renC,renK,ab],by simp[go_sem,yC,renC,renK,zG4,yM],tV⟩ ⟨.inl (by simp[go_sem,renS,renA,renC,renK,ren]),.inl (by simp[go_sem,renS,renA,renC,renK,ren]),zQ,zD rfl,zD rfl,tV⟩
  all_goals rintro⟨i,rs,ys⟩⟨hi,ag,ae,af,hinv⟩
  all_goals simp only at hi ag ae af hinv
  all_goals(
   by_cases hq:i<L.length;rotate_left;.rw[A9 om]at hinv;have a8:rs=M:=hinv;refine zA ?_;simp[go_sem,hq];exact ah 1 ys 2 rs.length _ sg ae ag (by rw[af];exact a8)
   have ei:=zS hq (by unfold maxLen at hl;omega);obtain⟨x,hx⟩:=eX (L[i]);rw[A5 hq,hx]at hinv;have aA:=yp2 x [82];refine zA ?_;simp[go_sem,hq,hx,ab];refine yU [(6,0),(13,3)] 3 sm kR kR ?_;simp[go_sem];refine xE aA cB (λ_=>zL sg (by rw[GExpr.row_eq];rfl)) (yZ5 _) ?_;cases ha:ze9 x [82]with |none=>simp only[cutR,Bf,ha]at hinv;simp[go_sem,cutV,xc8,ei];refine zG (i+1,rs,ys) ⟨by simp only;omega,⟨by simp only;omega,ag,ae,af,hinv⟩,?_⟩;exact at_n 2 (by simp[go_sem,ab]) rfl (yB9 T _) (A2 _) (zC sg rfl)|some p=>
    obtain⟨s,v⟩:=p;simp only[cutR,Bf,ha]at hinv;simp[go_sem,cutV];by_cases hs:s=[61]/\v.kind=2
    .rw[if_pos hs]at hinv;have aB:(s==[61])=true:=by simpa using hs.1
     have aC:(v.kind==2)=true:=by simpa using hs.2
     have aq:=xU1 v ys rs.length om om;rw[af,ae]at aq;simp[go_sem,aB,aC];refine xP7 3 1 aq cB dc sg sg rfl (xb0 _ _) ⟨.inl (by simp[go_sem,renS,renA,renC,renK,ren]),.inl (by simp[go_sem,renS,renA,renC,renK,ren]),tV⟩ (λr s h=>by obtain⟨zs,_,_,_,_,rfl⟩:=h;exact⟨_,_,rfl,rfl,xb0 _ _⟩) ?_;rintro r o2 p2⟨zs,aI,aJ,aD,rfl,aE⟩;obtain⟨rfl,rfl⟩:o2=.box v.row/\p2=.lst (zs.map yM) 1:=by simpa using aE
     simp[go_sem,renS,renA,renC,renK,ren,ei];refine zG (i+1,zk3 v.n rs,zs) ⟨by simp only;omega,⟨by simp only;omega,by simp only;omega,om,aD,hinv⟩,?_⟩;exact at_n 2 (by simp[go_sem,ab]) rfl (yB9 T _) (A2 _) (zC sg rfl)
    .rw[if_neg hs]at hinv;have aF:(s==[61])=false∨((s==[61])=true/\(v.kind==2)=false):=by
      by_cases h1:s=[61];.exact .inr ⟨by simpa using h1,by simpa usingλh2=>hs ⟨h1,h2⟩⟩
      .exact .inl (by simpa using h1)
     refine aF.elim (λq1=>?_) (λq1=>?_);all_goals simp[go_sem,q1,ei]
     all_goals refine zG (i+1,rs,ys) ⟨by simp only;omega,⟨by simp only;omega,ag,ae,af,hinv⟩,?_⟩
     all_goals exact at_n 2 (by simp[go_sem,ab]) rfl (yB9 T _) (A2 _) (zC sg rfl))
def wH{α:Type}(p:α->Bool):List α->Nat->Int |[],_=>-1|x::l,i=>if p x=true then(i:Int)else wH p l (i+1)
theorem zr4{α:Type}(p:α->Bool):∀(l:List α)(i:Nat),wH p l i=-1∨((i:Int)<=wH p l i/\wH p l i<i+l.length)
 |[],i=>.inl rfl|x::l,i=>by
  unfold wH;split;.right;simp;omega
  .have:=zr4 p l (i+1);simp only[Ah];omega
theorem wb0(t:GTable)(name:List UInt8):VCalls prog 105 [.agg t.row,.ptr 0 0] [.box [.str name]] (λr s=>r=.bool (t.name==name)/\s=[.box [.str name]]):=by refine iW 1 func105 ntmps105 results105 λc hc hb=>zO ?_;simp[go_sem];exact zx4 1 rfl rfl (A3 _) (zD rfl) ⟨rfl,rfl⟩
theorem wa7(t:GCol)(name:List UInt8):VCalls prog 231 [.agg t.row,.ptr 0 0] [.box [.str name]] (λr s=>r=.bool (t.name==name)/\s=[.box [.str name]]):=by refine iW 1 func231 ntmps231 results231 λc hc hb=>zO ?_;simp[go_sem];exact zx4 1 rfl rfl (A3 _) (zD rfl) ⟨rfl,rfl⟩
theorem xV5(l:List GTable)(name:List UInt8)(hl:l.length<=maxLen):VCalls prog 104 [.sl .ro (l.map GTable.row),.fn 105 [.ptr 0 0]] [.box [.str name]] (λr s=>r=.int .i64 (wH (λt:GTable=>t.name==name) l 0)/\s=[.box [.str name]]):=by
 generalize hM:wH (λt:GTable=>t.name==name) l 0=M;have ret:∀(r:Int)(σ:St),r=M->wret (some (.int .i64 r)) 1 (λr s=>r=.int .i64 M/\s=[.box [.str name]]) (.box [.str name]::σ):=λr σ h=>by subst h;exact zx4 1 rfl rfl (A3 _) (zD rfl) ⟨rfl,rfl⟩
 refine iV 1 func104 ntmps104 results104 λc hc hb=>?_;refine zA ?_;simp[go_sem];refine zH (S:=Nat) [0,1,7,8] (λi=>[.sl .ro (l.map GTable.row),.fn 105 [.ptr 0 0],.int .i64 l.length,.int .i64 i]) (λ_=>[.box [.str name]]) (λi=>l.length-i) (λi=>i<=l.length/\wH (λt:GTable=>t.name==name) (l.drop i) i=M) hc hb 0 ⟨A2 _,hM⟩ ?_ ?_;.exact aN 1 rfl
 rintro i⟨hi,hinv⟩;by_cases q:i<l.length;rotate_left;.rw[Bu om,wH]at hinv;refine zA ?_;simp[go_sem,q];exact ret _ _ hinv
 have ei:=zS q (by unfold maxLen at hl;omega);obtain⟨x,hx⟩:=eX (l[i]);rw[A5 q,hx,wH]at hinv;obtain⟨b,ab⟩:=eX ((x.name==name));have aa:=wb0 x name;rw[ab]at aa hinv;refine zA ?_;simp[go_sem,q,hx];refine zk6 0 aa cB rfl rfl ⟨zD rfl,.inl rfl,tV⟩ (by rintro r s⟨rfl,rfl⟩;exact⟨_,rfl,rfl⟩) ?_;rintro r o⟨rfl,ho⟩;cases ho;simp[go_sem];refine zN (λw=>?_) (λw=>?_);.rw[if_pos w]at hinv;simp[go_sem];exact ret _ _ hinv
 .rw[if_neg (by rw[w];decide)]at hinv;simp[go_sem,ei];exact zG (i+1) ⟨om,⟨q,hinv⟩,aN 1 rfl⟩
theorem xV2(l:List GCol)(name:List UInt8)(hl:l.length<=maxLen):VCalls prog 230 [.sl .ro (l.map GCol.row),.fn 231 [.ptr 0 0]] [.box [.str name]] (λr s=>r=.int .i64 (wH (λt:GCol=>t.name==name) l 0)/\s=[.box [.str name]]):=by
 generalize hM:wH (λt:GCol=>t.name==name) l 0=M;have ret:∀(r:Int)(σ:St),r=M->wret (some (.int .i64 r)) 1 (λr s=>r=.int .i64 M/\s=[.box [.str name]]) (.box [.str name]::σ):=λr σ h=>by subst h;exact zx4 1 rfl rfl (A3 _) (zD rfl) ⟨rfl,rfl⟩
 refine iV 1 func230 ntmps230 results230 λc hc hb=>?_;refine zA ?_;simp[go_sem];refine zH (S:=Nat) [0,1,7,8] (λi=>[.sl .ro (l.map GCol.row),.fn 231 [.ptr 0 0],.int .i64 l.length,.int .i64 i]) (λ_=>[.box [.str name]]) (λi=>l.length-i) (λi=>i<=l.length/\wH (λt:GCol=>t.name==name) (l.drop i) i=M) hc hb 0 ⟨A2 _,hM⟩ ?_ ?_;.exact aN 1 rfl
 rintro i⟨hi,hinv⟩;by_cases q:i<l.length;rotate_left;.rw[Bu om,wH]at hinv;refine zA ?_;simp[go_sem,q];exact ret _ _ hinv
 have ei:=zS q (by unfold maxLen at hl;omega);obtain⟨x,hx⟩:=eX (l[i]);rw[A5 q,hx,wH]at hinv;obtain⟨b,ab⟩:=eX ((x.name==name));have aa:=wa7 x name;rw[ab]at aa hinv;refine zA ?_;simp[go_sem,q,hx];refine zk6 0 aa cB rfl rfl ⟨zD rfl,.inl rfl,tV⟩ (by rintro r s⟨rfl,rfl⟩;exact⟨_,rfl,rfl⟩) ?_;rintro r o⟨rfl,ho⟩;cases ho;simp[go_sem];refine zN (λw=>?_) (λw=>?_);.rw[if_pos w]at hinv;simp[go_sem];exact ret _ _ hinv
 .rw[if_neg (by rw[w];decide)]at hinv;simp[go_sem,ei];exact zG (i+1) ⟨om,⟨q,hinv⟩,aN 1 rfl⟩
theorem xo9(ts:List GTable)(name:List UInt8)(hl:ts.length<=maxLen):Pure prog 58 [schR ts,.str name] (.int .i64 (wH (λt:GTable=>t.name==name) ts 0)):=by have hx:=xV5 ts name hl;refine iW 0 func58 ntmps58 results58 λc hc hb=>zO ?_;simp[go_sem,schR];refine zk6 1 hx cB rfl rfl ⟨zD rfl,.inl rfl,tV⟩ (by rintro r s⟨rfl,rfl⟩;exact⟨_,rfl,rfl⟩) ?_;rintro r o⟨rfl,ho⟩;cases ho;simp[go_sem];exact wR
theorem yo9(t:GTable)(name:List UInt8)(hl:t.cols.length<=maxLen):Pure prog 156 [.agg t.row,.str name] (.int .i64 (wH (λt:GCol=>t.name==name) t.cols 0)):=by have hx:=xV2 t.cols name hl;refine iW 0 func156 ntmps156 results156 λc hc hb=>zO ?_;simp[go_sem];refine zk6 1 hx cB rfl rfl ⟨zD rfl,.inl rfl,tV⟩ (by rintro r s⟨rfl,rfl⟩;exact⟨_,rfl,rfl⟩) ?_;rintro r o⟨rfl,ho⟩;cases ho;simp[go_sem];exact wR
theorem xm3(ts:List GTable)(name:List UInt8)(hl:ts.length<=maxLen):Pure prog 52 [schR ts,.str name] (.int .i64 (wH (λt:GTable=>t.name==name) ts 0)):=by
 generalize hM:wH (λt:GTable=>t.name==name) ts 0=M;have ret:∀(r:Int)(σ:St),r=M->wret (some (.int .i64 r)) 0 (λr s=>r=.int .i64 M/\s=[]) σ:=λr σ h=>by subst h;exact wR
 refine iV 0 func52 ntmps52 results52 λc hc hb=>?_;refine zA ?_;simp[go_sem,schR];refine zH (S:=Nat) [1,2,5] (λi=>[.str name,.ptr 0 0,.int .i64 i]) (λ_=>[.box [.sl .ro yT,.sl .ro (ts.map GTable.row)]]) (λi=>ts.length-i) (λi=>i<=ts.length/\wH (λt:GTable=>t.name==name) (ts.drop i) i=M) hc hb 0 ⟨A2 _,hM⟩ ?_ ?_;.exact aN 1 rfl
 rintro i⟨hi,hinv⟩;refine zA ?_;simp[go_sem];refine zN (λq=>?_) (λq=>?_)
 .have q:i<ts.length:=by simpa using q
  have ei:=zS q (by unfold maxLen at hl;omega);obtain⟨x,hx⟩:=eX (ts[i]);rw[A5 q,hx,wH]at hinv;simp[go_sem,q,hx];refine zN (λw=>?_) (λw=>?_);.rw[if_pos w]at hinv;simp[go_sem];exact ret _ _ hinv
  .rw[if_neg (by rw[w];decide)]at hinv;simp[go_sem,ei];exact zG (i+1) ⟨om,⟨q,hinv⟩,aN 1 rfl⟩
 .have q:i=ts.length:=by
   have:¬i<ts.length:=by simpa using q
   omega
  subst q;rw[C6]at hinv;simp[go_sem];exact ret _ _ hinv
theorem yi7(t:GTable)(name:List UInt8)(hl:t.cols.length<=maxLen):Pure prog 103 [.agg t.row,.str name] (.int .i64 (wH (λc:GCol=>c.name==name) t.cols 0)):=by
 generalize hM:wH (λc:GCol=>c.name==name) t.cols 0=M;have ret:∀(r:Int)(σ:St),r=M->wret (some (.int .i64 r)) 0 (λr s=>r=.int .i64 M/\s=[]) σ:=λr σ h=>by subst h;exact wR
 refine iV 0 func103 ntmps103 results103 λc hc hb=>?_;refine zA ?_;simp[go_sem];refine zH (S:=Nat) [1,2,5] (λi=>[.str name,.ptr 0 0,.int .i64 i]) (λ_=>[.box t.row]) (λi=>t.cols.length-i) (λi=>i<=t.cols.length/\wH (λc:GCol=>c.name==name) (t.cols.drop i) i=M) hc hb 0 ⟨A2 _,hM⟩ ?_ ?_;.exact aN 1 rfl
 rintro i⟨hi,hinv⟩;refine zA ?_;simp[go_sem];refine zN (λq=>?_) (λq=>?_)
 .have q:i<t.cols.length:=by simpa using q
  have ei:=zS q (by unfold maxLen at hl;omega);obtain⟨x,hx⟩:=eX (t.cols[i]);rw[A5 q,hx,wH]at hinv;simp[go_sem,q,hx];refine zN (λw=>?_) (λw=>?_);.rw[if_pos w]at hinv;simp[go_sem];exact ret _ _ hinv
  .rw[if_neg (by rw[w];decide)]at hinv;simp[go_sem,ei];exact zG (i+1) ⟨om,⟨q,hinv⟩,aN 1 rfl⟩
 .have q:i=t.cols.length:=by
   have:¬i<t.cols.length:=by simpa using q
   omega
  subst q;rw[C6]at hinv;simp[go_sem];exact ret _ _ hinv
def colF(T:GTable)(name:List UInt8):Int:=wH (λc:GCol=>c.name==name) T.cols 0
def colK(T:GTable)(c:Int):Int:=((T.cols[c.toNat]?).map (·.kind)).getD 0
def zk5(v:GValue):Bool:=v.kind==0&&(v.n==0&&v.s.isEmpty)
theorem zC9(v:GValue):(!(v.kind==0)||(!(v.n==0)||!v.s.isEmpty))=!zk5 v:=by unfold zk5;cases v.kind==0<;>cases v.n==0<;>cases v.s.isEmpty<;>rfl
mutual
def ze8(T:GTable):GExpr->Int×Int|.mk k s v args=>if k=1then(if s.isEmpty=false∨args.isEmpty=false∨mayF v=false then(0,9)else(v.kind,0))else if k=2then(if colF T s<0then(0,14)else if args.isEmpty=false∨zk5 v=false then(0,9)else(colK T (colF T s),0))else if k=3then(if(xR T args).2≠0then(0,(xR T args).2)else if zk5 v=false then(0,9)else zr8 s (xR T args).1)else(0,9)def xR(T:GTable):List GExpr->List Int×Int|[]=>([],0)|e::l=>if(ze8 T e).2≠0then([],(ze8 T e).2)else((ze8 T e).1::(xR T l).1,(xR T l).2)end
theorem zI2(T:GTable)(e:GExpr):ze8 T e=if e.kind=1then(if e.s.isEmpty=false∨e.args.isEmpty=false∨mayF e.v=false then(0,9)else(e.v.kind,0))else if e.kind=2then(if colF T e.s<0then(0,14)else if e.args.isEmpty=false∨zk5 e.v=false then(0,9)else(colK T (colF T e.s),0))else if e.kind=3then(if(xR T e.args).2≠0then(0,(xR T e.args).2)else if zk5 e.v=false then(0,9)else zr8 e.s (xR T e.args).1)else(0,9):=by cases e;rw[ze8];rfl
theorem wJ{M:Int×Int}{a e:Int}{σ:St}(h:(a,e)=M):wret (some (.tup [.int .i64 a,.int .i64 e])) 0 (λr s=>r=yL M/\s=[]) σ:=by subst h;exact wR
theorem zA7(T:GTable)(s:List UInt8)(h:¬colF T s<0):∃j:Nat,colF T s=j/\j<T.cols.length:=by have:=zr4 (λc:GCol=>c.name==s) T.cols 0;unfold colF at h⊢;refine⟨(wH (λc:GCol=>c.name==s) T.cols 0).toNat,om,om⟩
theorem yE6(l:List GExpr):decide ((0:Int)<l.length)=!l.isEmpty:=by cases l with |nil=>rfl|cons _ _=>exact decide_eq_true (by simp only[Ah];omega)
theorem yp3(l:List GExpr):decide (0<l.length)=!l.isEmpty:=by cases l with |nil=>rfl|cons _ _=>exact decide_eq_true (by simp only[Ah];omega)
theorem xf2(T:GTable)(hT:T.cols.length<=maxLen):∀(n:Nat)(e:GExpr),xK e<=n->Wide e->Good e->Pure prog 253 [.agg T.row,.agg e.row] (yL (ze8 T e))
 |0,e,h,_,_=>by have:=zu8 e;omega|n+1,e,h,hw,hg=>by
  have ih:=xf2 T hT n;have ay:=zg6 e;have hlen:=hw.len;have ak:=hw.sub;have au:=hg.sub;have al:=yp0 e.v;have an:=yo9 T e.s hT;obtain⟨M,hM⟩:=eX (ze8 T e);rw[hM];rw[zI2]at hM;rw[show wH (λc:GCol=>c.name==e.s) T.cols 0=colF T e.s from rfl]at an;have hz:=zC9 e.v;have av:=yE6 e.args;have ah:=yp3 e.args;have ret:∀(a b:Int)(σ:St),(a,b)=M->wret (some (.tup [.int .i64 a,.int .i64 b])) 0 (λr s=>r=yL M/\s=[]) σ:=λa b σ h=>wJ h;refine iV 0 func253 ntmps253 results253 λc hc hb=>?_;refine zA ?_;simp[go_sem];by_cases q1:e.kind=1
  .have af:(e.kind==1)=true:=by simpa using q1
   rw[if_pos q1]at hM;generalize mayF e.v=b at al hM;generalize e.args.isEmpty=ae at av ah hM;simp[go_sem,af];repeat'(first |(refine zY (λq=>?_) (λq=>?_)<;>simp[go_sem,q,ah])|(refine zN (λq=>?_) (λq=>?_)<;>simp[go_sem,q])|(refine zJ al cB (zL sg rfl) rfl ?_;simp[go_sem]))
   all_goals exact ret _ _ _ (by rw[<-hM];simp_all)
  rw[if_neg q1]at hM;have af:(e.kind==1)=false:=by simpa using q1
  by_cases q2:e.kind=2
  .have ai:(e.kind==2)=true:=by simpa using q2
   rw[if_pos q2]at hM;simp[go_sem,af,ai];refine zJ an cB (zL sg rfl) rfl ?_;by_cases qc:colF T e.s<0;.have aj:decide (colF T e.s<0)=true:=decide_eq_true qc;rw[if_pos qc]at hM;simp[go_sem,aj];exact ret _ _ _ hM
   have aj:decide (colF T e.s<0)=false:=decide_eq_false qc;rw[if_neg qc]at hM;obtain⟨j,hj,aw⟩:=zA7 T e.s qc;obtain⟨C,hC⟩:=eX (T.cols[j]);have az:colK T (colF T e.s)=C.kind:=by unfold colK;rw[hj,Az,A0 aw,hC];rfl
   rw[az]at hM;rw[hj]at aj⊢;generalize zk5 e.v=z at hz hM;generalize e.args.isEmpty=ae at av ah hM;simp[go_sem,aj,ah];repeat'(first |(refine zY (λq=>?_) (λq=>?_)<;>simp[go_sem,q,hz])|(refine zN (λq=>?_) (λq=>?_)<;>simp[go_sem,q,aw,hC]))
   all_goals exact ret _ _ _ (by rw[<-hM];simp_all)
  rw[if_neg q2]at hM;have ai:(e.kind==2)=false:=by simpa using q2
  by_cases q3:e.kind=3;rotate_left
  .rw[if_neg q3]at hM;have ao:(e.kind==3)=false:=by simpa using q3
   simp[go_sem,af,ai,ao];exact ret _ _ _ hM
  have ao:(e.kind==3)=true:=by simpa using q3
  rw[if_pos q3]at hM;obtain⟨args,ab⟩:=eX e.args;rw[ab]at ay hlen ak au hM;obtain⟨K,hK⟩:=eX (xR T args);rw[hK]at hM;simp[go_sem,af,ai,ao,ab];refine zk1 7 1 dc sg ?_;refine zH (S:=Nat×List Int) [2,3,7,61,62,63] (λu=>[.ptr 0 0,.ptr 1 0,.sl (.app 2) (u.2.map λn=>[V.int .i64 n]),.sl .ro (args.map GExpr.row),.int .i64 args.length,.int .i64 (u.1:Int)]) (λu=>[.box T.row,.box e.row,.app u.2.length 1]) (λu=>args.length-u.1) (λu=>u.1<=args.length/\u.2.length=u.1/\(xR T (args.drop u.1)).2=K.2/\(K.2=0->u.2++(xR T (args.drop u.1)).1=K.1)) hc hb (0,[]) ⟨A2 _,rfl,by simp only[B8];rw[hK],λ_=>by simp only[B8];rw[hK];rfl⟩ ?_ ?_;.exact at_n 3 (by simp[go_sem,ab]) rfl (by simp[ltOb,ltC,ltK,GExpr.row_eq,GTable.row]) (A2 _) (zC sg rfl)
  rintro⟨i,l⟩⟨hi,hl,hinv,aa⟩;simp only at hi hl hinv aa;by_cases q:i<args.length;rotate_left
  .rw[A9 om,xR]at hinv aa;have ag:K.2=0:=hinv.symm;have a1:l=K.1:=by have:=aa ag;simpa using this
   rw[if_neg (λh=>h ag),<-a1]at hM;have ax:=yU2 e.s l (by unfold maxLen;omega);generalize zr8 e.s l=o at ax hM;generalize zk5 e.v=z at hz hM;refine zA ?_;simp[go_sem,q,hz];refine(A4 z).elim (λw=>?_) (λw=>?_);.rw[if_neg (by rw[w];decide)]at hM;subst w;simp[go_sem];refine pC ax ?_;simp[go_sem,yL];exact ret _ _ _ hM
   .rw[if_pos w]at hM;subst w;simp[go_sem];exact ret _ _ _ hM
  have ei:=zS q om;obtain⟨x,hx⟩:=eX (args[i]);have aq:x∈args:=hx▸A8 q;have a6:=zg1 args x aq;rw[A5 q,hx,xR]at hinv aa;have ad:=ih x om (ak x aq) (au x aq);generalize ze8 T x=kx at ad hinv aa;by_cases q4:kx.2=0
  .rw[if_neg (λh=>h q4)]at hinv aa;have ar:(kx.2!=0)=false:=by simpa using q4
   refine zA ?_;simp[go_sem,q,hx];refine zJ ad cB (zL sg (by rw[GExpr.row_eq];rfl)) rfl ?_;simp[go_sem,yL,ar];refine zI ⟨om,zV rfl⟩ ?_;simp[go_sem,ei];refine zG (i+1,l++[kx.1]) ⟨by simp only;omega,⟨by simp only;omega,by simp;omega,hinv,λh=>by have:=aa h;simpa using this⟩,?_⟩;exact aN 3 (by simp[ltOb,ltC,ltK,GExpr.row_eq])
  .rw[if_pos q4]at hinv;have ar:(kx.2!=0)=true:=by simpa using q4
   have ag:kx.2=K.2:=hinv;rw[if_pos (by rw[<-ag];exact q4),<-ag]at hM;refine zA ?_;simp[go_sem,q,hx];refine zJ ad cB (zL sg (by rw[GExpr.row_eq];rfl)) rfl ?_;simp[go_sem,yL,ar];exact ret _ _ _ hM
def badK(s:List UInt8)(x:Int):Bool:=(zo3 s&&(!(x==1)&&!(x==0)))||(zn7 s&&(!(x==2)&&!(x==0)))
def yv3(l:List Int):Bool:=match l with|[x,y]=>!(x==y)&&(!(x==0)&&!(y==0))|_=>false
def xA8(s:List UInt8)(l:List Int):Int×Int:=if za7 s=0∨za7 s≠l.length then(0,9)else if l.any (badK s)=true then(0,15)else if zn7 s=true then(2,0)else if(!zo3 s&&yv3 l)=true then(0,15)else(1,0)
theorem yY7{s:List UInt8}{l:List Int}{k:Int}(h:∀x,badK s x=!(x==k||x==0)):l.any (badK s)=!allK l k:=by unfold allK;induction l with|nil=>rfl|cons x l ih=>rw[D8,Ap,ih,h];cases(x==k||x==0)<;>simp
theorem yv8{s:List UInt8}{l:List Int}(h:∀x,badK s x=false):l.any (badK s)=false:=by induction l with|nil=>rfl|cons x l ih=>rw[D8,ih,h];rfl
theorem xA9(s:List UInt8)(l:List Int):xA8 s l=zr8 s l:=by
 have one:∀k:Int,za7 s=1->∀b,(∀x,badK s x=!(x==k||x==0))->((if za7 s=0∨za7 s≠l.length then(0,9)else if l.any (badK s)=true then(0,15)else b:Int×Int)=if((l.length:Int)==1)=false then(0,9)else if allK l k=false then(0,15)else b):=λk h1 b hb=>by
  rw[yY7 hb,h1];by_cases q:(l.length:Int)=1
  .have q2:((l.length:Int)==1)=true:=by simpa using q
   rw[if_neg om,q2];cases allK l k<;>simp
  .rw[if_pos om,if_pos (by simpa using q)]
 have two:∀k:Int,za7 s=2->∀b,(∀x,badK s x=!(x==k||x==0))->((if za7 s=0∨za7 s≠l.length then(0,9)else if l.any (badK s)=true then(0,15)else b:Int×Int)=if((l.length:Int)==2)=false then(0,9)else if allK l k=false then(0,15)else b):=λk h1 b hb=>by
  rw[yY7 hb,h1];by_cases q:(l.length:Int)=2
  .have q2:((l.length:Int)==2)=true:=by simpa using q
   rw[if_neg om,q2];cases allK l k<;>simp
  .rw[if_pos om,if_pos (by simpa using q)]
 unfold xA8 zr8 zN6;by_cases h1:s=[73,83,78,85,76,76]∨s=[78,79,84,78,85,76,76]
 .rw[if_pos h1];have hb:∀x,badK s x=false:=λx=>by rcases h1 with rfl|rfl<;>rfl
  have ha:za7 s=1:=by rcases h1 with rfl|rfl<;>decide
  have hl:zo3 s=false:=by rcases h1 with rfl|rfl<;>decide
  have hr:zn7 s=false:=by rcases h1 with rfl|rfl<;>decide
  rw[yv8 hb,ha,hr,hl];by_cases q:(l.length:Int)=1
  .have hw:yv3 l=false:=by match l,q with|[x],_=>rfl
   rw[if_neg om,hw];simp[q]
  .rw[if_pos om];simp[q]
 rw[if_neg h1];by_cases h2:s=[78,79,84];.subst h2;have:=one 1 dc (1,0) (λx=>by unfold badK;rw[show zo3 [78,79,84]=true from rfl,show zn7 [78,79,84]=false from rfl];simp);rw[if_pos rfl,<-this];rfl
 rw[if_neg h2];by_cases h3:s=[78,69,71];.subst h3;have:=one 2 dc (2,0) (λx=>by unfold badK;rw[show zo3 [78,69,71]=false from rfl,show zn7 [78,69,71]=true from rfl];simp);rw[if_pos rfl,<-this];rfl
 rw[if_neg h3];by_cases h4:s=[79,82]∨s=[65,78,68]
 .have hl:zo3 s=true:=by rcases h4 with rfl|rfl<;>decide
  have hr:zn7 s=false:=by rcases h4 with rfl|rfl<;>decide
  have:=two 1 (by rcases h4 with rfl|rfl<;>decide) (1,0) (λx=>by unfold badK;rw[hl,hr];simp);rw[if_pos h4,<-this,hr,hl];rfl
 rw[if_neg h4];by_cases h5:s=[43]∨s=[45]∨s=[42]∨s=[47]∨s=[37]
 .have hl:zo3 s=false:=by rcases h5 with rfl|rfl|rfl|rfl|rfl<;>decide
  have hr:zn7 s=true:=by rcases h5 with rfl|rfl|rfl|rfl|rfl<;>decide
  have:=two 2 (by rcases h5 with rfl|rfl|rfl|rfl|rfl<;>decide) (2,0) (λx=>by unfold badK;rw[hl,hr];simp);rw[if_pos h5,<-this,hr];rfl
 rw[if_neg h5];by_cases h6:s=[61]∨s=[60,62]∨s=[60]∨s=[60,61]∨s=[62]∨s=[62,61]
 .have ha:za7 s=2:=by rcases h6 with rfl|rfl|rfl|rfl|rfl|rfl<;>decide
  have hl:zo3 s=false:=by rcases h6 with rfl|rfl|rfl|rfl|rfl|rfl<;>decide
  have hr:zn7 s=false:=by rcases h6 with rfl|rfl|rfl|rfl|rfl|rfl<;>decide
  have hb:∀x,badK s x=false:=λx=>by unfold badK;rw[hl,hr];rfl
  rw[if_pos h6,yv8 hb,ha,hr,hl];by_cases q:l.length=2;.match l,q with |[x,y],_=>by_cases p1:x=y<;>by_cases p2:x=0<;>by_cases p3:y=0<;>simp[yv3,p1,p2,p3]
  .have q2:((l.length:Int)==2)=false:=by simp;omega
   rw[if_pos om,if_pos q2]
 rw[if_neg h6];have ha:za7 s=0:=by unfold za7 opsTwo opsOne;simp only[not_or]at h1 h4 h5 h6;simp[h1,h2,h3,h4,h5,h6]
 rw[if_pos (.inl ha)]
theorem xw6(T:GTable)(n:Nat)(ih:∀x,xK x<=n->Wide x->Good x->Pure prog 175 [.agg T.row,.agg x.row] (yL (ze8 T x)))(e:GExpr)(h:xK e<=n+1)(hw:Wide e)(hg:Good e)(hk:e.kind=3):Pure prog 251 [.agg T.row,.agg e.row] (yL (ze8 T e)):=by
 have a1:=zg6 e;have hlen:=hw.len;have ai:=hw.sub;have av:=hg.sub;obtain⟨M,hM⟩:=eX (ze8 T e);rw[hM];rw[zI2,if_neg om,if_neg om,if_pos hk]at hM;have hz:=zC9 e.v;obtain⟨args,ab⟩:=eX e.args;rw[ab]at a1 hlen ai av hM;obtain⟨K,hK⟩:=eX (xR T args);rw[hK]at hM;have ret:∀(a b:Int)(σ:St),(a,b)=M->wret (some (.tup [.int .i64 a,.int .i64 b])) 0 (λr s=>r=yL M/\s=[]) σ:=λa b σ h=>wJ h;have hA:=xp9 e.s;have af:=xL3 e.s;have ah:=xH7 e.s;refine iV 0 func251 ntmps251 results251 λc hc hb=>?_;refine zR (zA ?_);simp[go_sem];refine zR (zA ?_);simp[go_sem];refine zk1 6 1 dc sg ?_;refine xX (S:=List Int) [2,3,6] (λl=>[.ptr 0 0,.ptr 1 0,.sl (.app 2) (l.map λn=>[V.int .i64 n])]) (λl=>[.box T.row,.box e.row,.app l.length 1]) (λl=>K.2=0/\l=K.1/\l.length<=1000000) hc hb ?_ ?_
 .refine zR (zA ?_);simp[go_sem];refine za2 ?_;refine zH (S:=Nat×List Int) [2,3,6,7] (λu=>[.ptr 0 0,.ptr 1 0,.sl (.app 2) (u.2.map λn=>[V.int .i64 n]),.int .i64 (u.1:Int)]) (λu=>[.box T.row,.box e.row,.app u.2.length 1]) (λu=>args.length-u.1) (λu=>u.1<=args.length/\u.2.length=u.1/\(xR T (args.drop u.1)).2=K.2/\(K.2=0->u.2++(xR T (args.drop u.1)).1=K.1)) hc hb (0,[]) ⟨A2 _,rfl,by simp only[B8];rw[hK],λ_=>by simp only[B8];rw[hK];rfl⟩ ?_ ?_;.exact aN 3 (by simp[ltOb,ltC,ltK,GExpr.row_eq,GTable.row])
  rintro⟨i,l⟩⟨hi,hl,hinv,aa⟩;simp only at hi hl hinv aa;by_cases q:i<args.length;rotate_left
  .rw[A9 om,xR]at hinv aa;have ad:K.2=0:=hinv.symm;have aj:l=K.1:=by have:=aa ad;simpa using this
   refine zA ?_;simp[go_sem,q,ab];exact zG l ⟨⟨ad,aj,om⟩,at_n 3 (by simp[go_sem,ab]) rfl (by simp[ltOb,ltC,ltK,GExpr.row_eq]) (A2 _) (zC sg rfl)⟩
  have ei:=zS q om;obtain⟨x,hx⟩:=eX (args[i]);have ak:x∈args:=hx▸A8 q;have aB:=zg1 args x ak;rw[A5 q,hx,xR]at hinv aa;have ae:=ih x om (ai x ak) (av x ak);generalize ze8 T x=kx at ae hinv aa;by_cases q4:kx.2=0
  .rw[if_neg (λh=>h q4)]at hinv aa;have al:(kx.2!=0)=false:=by simpa using q4
   refine zA ?_;simp[go_sem,q,ab];refine yR [(6,0)] 2 sm kR kR ?_;simp[go_sem,q,hx];refine xE ae cB (λ_=>zL sg (by rw[GExpr.row_eq];rfl)) rfl ?_;simp[go_sem,yL,al];refine zI ⟨om,zV rfl⟩ ?_;simp[go_sem,ei];refine zG (i+1,l++[kx.1]) ⟨by simp only;omega,⟨by simp only;omega,by simp;omega,hinv,λh=>by have:=aa h;simpa using this⟩,?_⟩;exact at_n 3 (by simp[go_sem,ab]) rfl (by simp[ltOb,ltC,ltK,GExpr.row_eq]) (A2 _) (zC sg rfl)
  .rw[if_pos q4]at hinv;have al:(kx.2!=0)=true:=by simpa using q4
   have ad:kx.2=K.2:=hinv;rw[if_pos (by rw[<-ad];exact q4),<-ad]at hM;refine zA ?_;simp[go_sem,q,ab];refine yR [(6,0)] 2 sm kR kR ?_;simp[go_sem,q,hx];refine xE ae cB (λ_=>zL sg (by rw[GExpr.row_eq];rfl)) rfl ?_;simp[go_sem,yL,al];exact ret _ _ _ hM
 .rintro l⟨ad,aj,hl⟩;rw[if_neg (λh=>h ad),<-aj,<-xA9]at hM;unfold xA8 at hM;obtain⟨X,hX⟩:∃X,(if l.any (badK e.s)=true then(0,15)else if zn7 e.s=true then(2,0)else if(!zo3 e.s&&yv3 l)=true then(0,15)else(1,0):Int×Int)=X:=⟨_,rfl⟩;rw[hX]at hM;generalize za7 e.s=a at hA hM;generalize zk5 e.v=z at hz hM;have aC:(if a=0∨a≠l.length then(0,9)else if z=false then(0,9)else X:Int×Int)=M:=by rw[<-hM];by_cases p1:a=0∨a≠l.length<;>by_cases p2:z=false<;>simp[p1,p2]
  clear hM;rename _=M=>hM;refine zR (zA ?_);simp[go_sem];refine zJ hA cB (zL sg rfl) rfl ?_;by_cases g1:a=0
  .have an:(a==0)=true:=by simpa using g1
   rw[if_pos (.inl g1)]at hM;simp[go_sem,an];exact ret _ _ _ hM
  have an:(a==0)=false:=by simpa using g1
  simp[go_sem,an];refine zJ hA cB (zL sg rfl) rfl ?_;by_cases g2:a=l.length;rotate_left
  .have ao:(a !=(l.length:Int))=true:=by simpa using g2
   rw[if_pos (.inr g2)]at hM;simp[go_sem,ao];exact ret _ _ _ hM
  have ao:(a !=(l.length:Int))=false:=by simpa using g2
  rw[if_neg (λh=>h.elim g1 (λh=>h g2))]at hM;simp[go_sem,ao,hz];refine(A4 z).elim (λw=>?_) (λw=>?_);rotate_left;.rw[if_pos w]at hM;subst w;simp[go_sem];exact ret _ _ _ hM
  rw[if_neg (by rw[w];decide)]at hM;subst w;simp[go_sem];subst hM;refine xX (S:=Unit) [3,6] (λ_=>[.ptr 0 0,.sl (.app 1) (l.map λn=>[V.int .i64 n])]) (λ_=>[.box e.row,.app l.length 1]) (λ_=>l.any (badK e.s)=false) hc hb ?_ ?_
  .refine zR (zA ?_);simp[go_sem];refine za2 ?_;refine zH (S:=Nat) [3,6,10] (λi=>[.ptr 0 0,.sl (.app 1) (l.map λn=>[V.int .i64 n]),.int .i64 (i:Int)]) (λ_=>[.box e.row,.app l.length 1]) (λi=>l.length-i) (λi=>i<=l.length/\(l.drop i).any (badK e.s)=l.any (badK e.s)) hc hb 0 ⟨A2 _,by rw[B8]⟩ ?_ ?_;.exact zD2 [1,2] dc rfl ⟨by simp[go_sem,yC,renC,renK,GExpr.row_eq],by simp[go_sem,yC],tV⟩ ⟨.inl (by simp[go_sem,renS,renA,renC,renK,ren]),.inl (by simp[go_sem,renS,renA,renC,renK,ren]),zD rfl,tV⟩
   rintro i⟨hi,hinv⟩;by_cases q:i<l.length;rotate_left;.rw[A9 om]at hinv;have hinv:l.any (badK e.s)=false:=hinv.symm;refine zA ?_;simp[go_sem,q];exact zG () ⟨hinv,aN 2 (by simp[ltOb,ltC,ltK,GExpr.row_eq])⟩
   have ei:=zS q om;obtain⟨x,hx⟩:=eX (l[i]);obtain⟨bl,aq⟩:∃b,zo3 e.s=b:=⟨_,rfl⟩;obtain⟨ba,ar⟩:∃b,zn7 e.s=b:=⟨_,rfl⟩;obtain⟨b1,h1⟩:∃b,(x==1)=b:=⟨_,rfl⟩;obtain⟨b2,h2⟩:∃b,(x==2)=b:=⟨_,rfl⟩;obtain⟨b0,h0⟩:∃b,(x==0)=b:=⟨_,rfl⟩;have aw:badK e.s x=((bl&&(!b1&&!b0))||(ba&&(!b2&&!b0))):=by unfold badK;rw[aq,ar,h1,h2,h0]
   rw[A5 q,hx,D8,aw]at hinv;have bad:((bl&&(!b1&&!b0))||(ba&&(!b2&&!b0)))=true->X=(0,15):=λh=>by rw[h,De]at hinv;rw[<-hX,if_pos hinv.symm]
   have good:((bl&&(!b1&&!b0))||(ba&&(!b2&&!b0)))=false->(l.drop (i+1)).any (badK e.s)=l.any (badK e.s):=λh=>by rw[h,C8]at hinv;exact hinv
   have ax:X=(0,15)->∀σ:St,wret (some (.tup [.int .i64 0,.int .i64 15])) 0 (λr s=>r=yL X/\s=[]) σ:=λh σ=>by rw[h];exact wJ rfl
   have a6:(x !=1)=!b1:=by rw[<-h1];rfl
   have a7:(x !=2)=!b2:=by rw[<-h2];rfl
   have a8:(x !=0)=!b0:=by rw[<-h0];rfl
   rw[aq]at af;rw[ar]at ah;clear hinv ret hX aq ar h1 h2 h0 aw hz;refine zA ?_;simp[go_sem,q];refine zJ af cB (zL sg rfl) rfl ?_;simp[go_sem];repeat'(first |(refine zY (λw=>?_) (λw=>?_)<;>simp[go_sem,q,w,hx,a6,a7,a8,ei])|(refine zN (λw=>?_) (λw=>?_)<;>simp[go_sem,w,ei])|(refine zJ ah cB (zL sg rfl) rfl ?_;simp[go_sem]))
   all_goals first |exact ax (bad (by simp_all)) _|exact zG (i+1) ⟨om,⟨om,good (by simp_all)⟩,aN 2 (by simp[ltOb,ltC,ltK,GExpr.row_eq])⟩
  .rintro _ ay;rw[ay]at hX;simp only[Bj,if_false]at hX;generalize zn7 e.s=ba at ah hX;generalize zo3 e.s=bl at af hX;have ag:∀(a b:Int)(σ:St),(a,b)=X->wret (some (.tup [.int .i64 a,.int .i64 b])) 0 (λr s=>r=yL X/\s=[]) σ:=λa b σ h=>wJ h;clear ret;refine zA ?_;simp[go_sem];refine zJ ah cB (zL sg rfl) rfl ?_;refine(A4 ba).elim (λw=>?_) (λw=>?_);.rw[if_pos w]at hX;subst w;simp[go_sem];exact ag _ _ _ hX
   rw[if_neg (by rw[w];decide)]at hX;subst w;simp[go_sem];by_cases h2:l.length=2
   .have au:((l.length:Int)==2)=true:=by simp;omega
    obtain⟨x,y,az⟩:∃x y,l=[x,y]:=by match l,h2 with|[x,y],_=>exact⟨x,y,rfl⟩
    rw[az]at hX;unfold yv3 at hX;simp only at hX;refine yR [(2,0)] 1 sm kR kR ?_;simp[go_sem];refine xE af cB (λ_=>zL sg rfl) rfl ?_;simp[go_sem,az];repeat'(first |(refine zY (λw=>?_) (λw=>?_)<;>simp[go_sem,w])|(refine zN (λw=>?_) (λw=>?_)<;>simp[go_sem,w]))
    all_goals exact ag _ _ _ (by rw[<-hX];simp_all)
   .have au:((l.length:Int)==2)=false:=by simp;omega
    have aA:yv3 l=false:=by match l,h2 with |[],_=>rfl|[x],_=>rfl|x::y::z::l,_=>rfl
    rw[aA,Bool.and_false,if_neg dc]at hX;refine yR [(2,0)] 1 sm kR kR ?_;simp[go_sem];refine xE af cB (λ_=>zL sg rfl) rfl ?_;simp[go_sem];repeat'(first |(refine zY (λw=>?_) (λw=>?_)<;>simp[go_sem,w,au])|(refine zN (λw=>?_) (λw=>?_)<;>simp[go_sem,w,au]))
    all_goals exact ag _ _ _ hX
theorem xw7(T:GTable)(hT:T.cols.length<=maxLen):∀(n:Nat)(e:GExpr),xK e<=n->Wide e->Good e->Pure prog 175 [.agg T.row,.agg e.row] (yL (ze8 T e))
 |0,e,h,_,_=>by have:=zu8 e;omega|n+1,e,h,hw,hg=>by
  have ih:=xw7 T hT n;have aa:=λhk=>xw6 T n ih e h hw hg hk;have ah:=zS0 e.v;have ai:=yi7 T e.s hT;obtain⟨M,hM⟩:=eX (ze8 T e);rw[hM];rw[hM]at aa;rw[zI2]at hM;rw[show wH (λc:GCol=>c.name==e.s) T.cols 0=colF T e.s from rfl]at ai;have hz:=zC9 e.v;have ak:=yE6 e.args;have ad:=yp3 e.args;have ret:∀(a b:Int)(σ:St),(a,b)=M->wret (some (.tup [.int .i64 a,.int .i64 b])) 0 (λr s=>r=yL M/\s=[]) σ:=λa b σ h=>wJ h;refine iV 0 func175 ntmps175 results175 λc hc hb=>?_;refine zA ?_;simp[go_sem];by_cases q1:e.kind=1
  .have ab:(e.kind==1)=true:=by simpa using q1
   rw[if_pos q1]at hM;clear aa;generalize mayF e.v=b at ah hM;generalize e.args.isEmpty=ae at ak ad hM;simp[go_sem,ab,ad];repeat'(first |(refine zY (λq=>?_) (λq=>?_)<;>simp[go_sem,q])|(refine zN (λq=>?_) (λq=>?_)<;>simp[go_sem,q])|(refine zJ ah cB (zL sg rfl) rfl ?_;simp[go_sem]))
   all_goals exact ret _ _ _ (by rw[<-hM];simp_all)
  rw[if_neg q1]at hM;have ab:(e.kind==1)=false:=by simpa using q1
  by_cases q2:e.kind=2
  .have af:(e.kind==2)=true:=by simpa using q2
   rw[if_pos q2]at hM;clear aa;simp[go_sem,ab,af];refine zJ ai cB (zL sg rfl) rfl ?_;by_cases qc:colF T e.s<0;.have ag:decide (colF T e.s<0)=true:=decide_eq_true qc;rw[if_pos qc]at hM;simp[go_sem,ag];exact ret _ _ _ hM
   have ag:decide (colF T e.s<0)=false:=decide_eq_false qc;rw[if_neg qc]at hM;obtain⟨j,hj,al⟩:=zA7 T e.s qc;obtain⟨C,hC⟩:=eX (T.cols[j]);have an:colK T (colF T e.s)=C.kind:=by unfold colK;rw[hj,Az,A0 al,hC];rfl
   rw[an]at hM;rw[hj]at ag⊢;generalize zk5 e.v=z at hz hM;generalize e.args.isEmpty=ae at ak ad hM;simp[go_sem,ag,ad];repeat'(first |(refine zY (λq=>?_) (λq=>?_)<;>simp[go_sem,q,hz])|(refine zN (λq=>?_) (λq=>?_)<;>simp[go_sem,q,al,hC]))
   all_goals exact ret _ _ _ (by rw[<-hM];simp_all)
  rw[if_neg q2]at hM;have af:(e.kind==2)=false:=by simpa using q2
  by_cases q3:e.kind=3;rotate_left
  .rw[if_neg q3]at hM;have aj:(e.kind==3)=false:=by simpa using q3
   simp[go_sem,ab,af,aj];exact ret _ _ _ hM
  have aj:(e.kind==3)=true:=by simpa using q3
  have aa:=aa q3;simp[go_sem,ab,af,aj];refine zJ aa cB (zL sg (by rw[GExpr.row_eq];rfl)) rfl ?_;simp[go_sem,yL];exact ret _ _ _ rfl
def xW(T:GTable)(e:GExpr):Int×Int:=if xK e<=64then ze8 T e else(0,3)
theorem zU8:∀(n:Nat)(e:GExpr),zk4 e<=n->xK e<=n
 |0,e,h=>by have:=yu0 e;omega|n+1,e,h=>by
  rw[zB9]at h;rw[zg6];have:∀l:List GExpr,zg3 l<=n->xM l<=n:=by intro l;induction l with |nil=>intro _;exact A2 _|cons x l ih=>intro hl;rw[zg3]at hl;rw[xM];have h1:=zU8 n x om;have h2:=ih om;omega
  have:=this e.args om;omega
theorem yv6(T:GTable)(hT:T.cols.length<=maxLen)(e:GExpr)(he:EOk e):Pure prog 176 [.agg T.row,.agg e.row] (yL (xW T e)):=by
 have hs:=he.size;have hd:=zU8 4000 e hs;have ab:=xe9 4000 e 1 0 hd he.wide (Int.le_refl _) om om om;have aa:=xf2 T hT 4000 e hd he.wide he.good;generalize hM:xW T e=M;unfold xW at hM;generalize ze8 T e=k at aa hM;have ret:∀(x:Int×Int)(σ:St),x=M->wret (some (.tup [.int .i64 x.1,.int .i64 x.2])) 0 (λr s=>r=yL M/\s=[]) σ:=λx σ h=>wJ h;refine iW 0 func176 ntmps176 results176 λc hc hb=>zO ?_;simp[go_sem];refine zk6 2 ab cB rfl (by rfl) ⟨.inl (by simp[go_sem,renS,renA,renC,renK]),zD rfl,.inl rfl,tV⟩ (λr σ h=>by obtain⟨_,m2,rfl,_⟩:=h;exact⟨_,rfl,rfl⟩) ?_;rintro r o2⟨rfl,m2,h1,h2,h3⟩;obtain rfl:o2=.box [.int .i64 m2]:=by simpa using h1
 by_cases q:xK e<=64;.rw[if_pos q]at hM;rw[decide_eq_true (show(xK e:Int)+1<=65by omega)];simp[go_sem];refine zJ aa cB (zL sg (by rw[GExpr.row_eq];rfl)) rfl ?_;simp[go_sem,yL];exact ret _ _ hM
 .rw[if_neg q]at hM;rw[decide_eq_false (show¬(xK e:Int)+1<=65by omega)];simp[go_sem];exact ret (0,3) _ hM
theorem zL7(T:GTable)(hT:T.cols.length<=maxLen)(e:GExpr)(he:EOk e):Pure prog 101 [.agg T.row,.agg e.row] (yL (xW T e)):=by
 have hs:=he.size;have hd:=zU8 4000 e hs;have aa:=yr3 4000 e 1 4096 hd he.wide om om om om;have ab:=xw7 T hT 4000 e hd he.wide he.good;generalize hM:xW T e=M;unfold xW at hM;generalize ze8 T e=k at ab hM;unfold tooF at aa;have ret:∀(x:Int×Int)(σ:St),x=M->wret (some (.tup [.int .i64 x.1,.int .i64 x.2])) 0 (λr s=>r=yL M/\s=[]) σ:=λx σ h=>wJ h;refine iW 0 func101 ntmps101 results101 λc hc hb=>zO ?_;simp[go_sem];by_cases q:xK e<=64;.rw[if_pos q]at hM;rw[if_pos om]at aa;refine zJ aa cB (zL sg (by rw[GExpr.row_eq];rfl)) rfl ?_;simp[go_sem,tooV];refine zJ ab cB (zL sg (by rw[GExpr.row_eq];rfl)) rfl ?_;simp[go_sem,yL];exact ret _ _ hM
 .rw[if_neg q]at hM;rw[if_neg om]at aa;refine zJ aa cB (zL sg (by rw[GExpr.row_eq];rfl)) rfl ?_;simp[go_sem,tooV];exact ret (0,3) _ hM
end Go.Proofs.YtefbicjgbaaieaaGreat
