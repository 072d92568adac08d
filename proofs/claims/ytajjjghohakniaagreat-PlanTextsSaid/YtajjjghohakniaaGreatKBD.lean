/-
  Contracts of functions that the claimed statement reaches, each proved over trees (the library Vx); used by the theorem at the end of the claim.
  Conditions: as each theorem states them.
-/
import Derived.Test.YtajjjghohakniaaGreatKBC
import Derived.Test.YtajjjghohakniaaGreatKAU
namespace Go.Proofs.YtajjjghohakniaaGreat.R
open Go Go.Vx
set_option maxRecDepth 100000
theorem yA8 (b:Bool):Pure Tryz.prog 146 [.bool b] (.int .i64 (if b then -1 else 1)):=by
 refine VCalls.intro 0 Tryz.func146 Tryz.ntmps146 Tryz.results146 rfl rfl (Nat.le_of_ble_eq_true rfl) fun c hc hb=>zJ ?_
 simp[go_sem]
 refine zU (fun q=> ?_) (fun q=> ?_)<;>simp[go_sem,q]<;>exact zQ (zA rfl) ⟨rfl,rfl⟩
def ye8 (a b:GValue):Int:=
 if a.kind≠b.kind then(if a.kind<b.kind then -1 else 1)else if a.n≠b.n then(if a.n<b.n then -1 else 1)else if a.s≠b.s then(if Op.bytesLess a.s b.s then -1 else 1)else 0
theorem yR3 (a b:GValue):Pure Tryz.prog 100 [.agg a.row,.agg b.row] (.int .i64 (ye8 a b)):=by
 obtain⟨k,n,s⟩:=a
 obtain⟨k2,n2,s2⟩:=b
 refine VCalls.intro 0 Tryz.func100 Tryz.ntmps100 Tryz.results100 rfl rfl (Nat.le_of_ble_eq_true rfl) fun c hc hb=>zJ ?_
 have ret: ∀(r:Int) (σ:St),r=ye8 ⟨k,n,s⟩ ⟨k2,n2,s2⟩→wret (some (.int .i64 r)) 0 (fun r s'=>r= .int .i64 (ye8 ⟨k,n,s⟩ ⟨k2,n2,s2⟩)∧s'= []) σ:=fun r σ h=>by subst h;exact zQ (zA rfl) ⟨rfl,rfl⟩
 unfold ye8 at ret
 simp only at ret
 simp[go_sem]
 refine zU (fun q=> ?_) (fun q=> ?_)
 ·have q:k≠k2:=by simpa using q
  simp[go_sem]
  refine zE (yA8 _) Tryz.callB146 (zH rfl) rfl ?_
  simp[go_sem]
  exact ret _ _ (by rw[if_pos q])
 have q:k=k2:=by simpa using q
 subst q
 simp[go_sem]
 refine zU (fun q=> ?_) (fun q=> ?_)
 ·have q:n≠n2:=by simpa using q
  simp[go_sem]
  refine zE (yA8 _) Tryz.callB146 (zH rfl) rfl ?_
  simp[go_sem]
  exact ret _ _ (by simp only[ne_eq,not_true_eq_false,if_false,q,if_true,not_false_eq_true])
 have q:n=n2:=by simpa using q
 subst q
 simp[go_sem]
 refine zU (fun q=> ?_) (fun q=> ?_)
 ·have q:s≠s2:=by simpa using q
  simp[go_sem]
  refine zE (yA8 _) Tryz.callB146 (zH rfl) rfl ?_
  simp[go_sem]
  exact ret _ _ (by simp only[ne_eq,not_true_eq_false,if_false,q,if_true,not_false_eq_true])
 have q:s=s2:=by simpa using q
 subst q
 simp[go_sem]
 exact ret _ _ (by simp)
def isF (n:Nat) (t:Int):Bool:=decide (0≤t)&&decide (t<n)
theorem zF6 {n:Nat} {t:Int} (h:isF n t=true): ∃j:Nat,t=j∧j<n:=by
 simp[isF]at h
 exact⟨t.toNat,by omega,by omega⟩
def wH (n:Nat) (t:Int) (v:GValue):List UInt8:=if isF n t=true then UInt8.ofNat (t.toNat+1)::keyF v else []
def allF (n:Nat) (t:Int):List UInt8×List UInt8:=if isF n t=true then([UInt8.ofNat (t.toNat+1)],[UInt8.ofNat (t.toNat+2)])else([],[])
theorem yy7 (regs tabs:List (List V)) (t:Int) (v:GValue) (hn:tabs.length≤maxB) (hv:v.ok):Pure Tryz.prog 55 [.agg [.sl .ro regs,.sl .ro tabs],.int .i64 t,.agg v.row] (.str (wH tabs.length t v)):=by
 have his:=is_w regs tabs t
 rw[show(decide (0≤t)&&decide (t<tabs.length))=isF tabs.length t from rfl]at his
 refine VCalls.intro 0 Tryz.func55 Tryz.ntmps55 Tryz.results55 rfl rfl (Nat.le_of_ble_eq_true rfl) fun c hc hb=>zJ ?_
 simp[go_sem]
 refine zE his Tryz.callB105 (zH rfl) rfl ?_
 unfold wH
 refine(Bool.eq_false_or_eq_true (isF tabs.length t)).elim (fun h=> ?_) (fun h=> ?_)
 ·obtain⟨j,rfl,hj⟩:=zF6 h
  rw[h,if_pos rfl]
  have e1:IntKind.u8.wrap (IntKind.i64.wrap ((j:Int)+1))=((UInt8.ofNat (j+1)).toNat:Int):=by
   rw[i64_id (by omega) (by unfold maxB at hn;omega),show(j:Int)+1=((j+1:Nat):Int) by omega,zE1]
  simp[go_sem,e1]
  refine zE (xv5 [UInt8.ofNat (j+1)] v hv (by simp[maxB])) Tryz.callB107 ⟨zr5 (by simp[zR]),zA rfl,trivial⟩ rfl ?_
  simp[go_sem,bys]
  refine zP (xY _) ?_
  simp[go_sem,zn7]
  exact zQ (zA rfl) ⟨rfl,rfl⟩
 ·rw[h]
  simp[go_sem]
  exact zQ (zA rfl) ⟨rfl,rfl⟩
theorem xm8 (regs tabs:List (List V)) (t:Int) (v:GValue) (hn:tabs.length≤maxB) (hv:v.ok) (_hs:v.s.length≤500):Pure Tryz.prog 55 [.agg [.sl .ro regs,.sl .ro tabs],.int .i64 t,.agg v.row] (.str (wH tabs.length t v)):=yy7 regs tabs t v hn hv
theorem xz2 (regs tabs:List (List V)) (t:Int) (hn:tabs.length≤maxB):Pure Tryz.prog 52 [.agg [.sl .ro regs,.sl .ro tabs],.int .i64 t] (.tup [.str (allF tabs.length t).1,.str (allF tabs.length t).2]):=by
 have his:=is_w regs tabs t
 rw[show(decide (0≤t)&&decide (t<tabs.length))=isF tabs.length t from rfl]at his
 refine VCalls.intro 0 Tryz.func52 Tryz.ntmps52 Tryz.results52 rfl rfl (Nat.le_of_ble_eq_true rfl) fun c hc hb=>zJ ?_
 simp[go_sem]
 refine zE his Tryz.callB105 (zH rfl) rfl ?_
 unfold allF
 refine(Bool.eq_false_or_eq_true (isF tabs.length t)).elim (fun h=> ?_) (fun h=> ?_)
 ·obtain⟨j,rfl,hj⟩:=zF6 h
  rw[h,if_pos rfl]
  obtain⟨x,hx⟩: ∃x,UInt8.ofNat (j+1)=x:=⟨_,rfl⟩
  obtain⟨y,hy⟩: ∃y,UInt8.ofNat (j+2)=y:=⟨_,rfl⟩
  have e1:IntKind.u8.wrap (IntKind.i64.wrap ((j:Int)+1))=(x.toNat:Int):=by
   rw[i64_id (by omega) (by unfold maxB at hn;omega),show(j:Int)+1=((j+1:Nat):Int) by omega,zE1,hx]
  have e2:IntKind.u8.wrap (IntKind.i64.wrap ((j:Int)+2))=(y.toNat:Int):=by
   rw[i64_id (by omega) (by unfold maxB at hn;omega),show(j:Int)+2=((j+2:Nat):Int) by omega,zE1,hy]
  simp only[Int.toNat_natCast]
  simp[go_sem]
  refine zj8 [] 1 rfl (by kernel_rfl) (by kernel_rfl) ?_
  simp[go_sem,e1]
  refine zP (xY [x]) ?_
  have r1:zg9 [V.int IntKind.u8 x.toNat]=x:=by simp[zg9]
  have r2:zg9 [V.int IntKind.u8 y.toNat]=y:=by simp[zg9]
  simp[go_sem,e2,r1]
  refine zP (xY [y]) ?_
  simp[go_sem,r2]
  exact zQ (zA rfl) ⟨by rw[←hx,←hy];simp,rfl⟩
 ·rw[h]
  simp[go_sem]
  exact zQ (zA rfl) ⟨rfl,rfl⟩
theorem zS5 (regs tabs:List (List V)) (t:Int) (v:GValue) (hn:tabs.length≤maxB) (hv:v.ok):Pure Tryz.prog 40 [.agg [.sl .ro regs,.sl .ro tabs],.int .i64 t,.agg v.row] (.str (wH tabs.length t v)):=by
 have his:=yM7 regs tabs t
 rw[show(decide (0≤t)&&decide (t<tabs.length))=isF tabs.length t from rfl]at his
 refine VCalls.intro 0 Tryz.func40 Tryz.ntmps40 Tryz.results40 rfl rfl (Nat.le_of_ble_eq_true rfl) fun c hc hb=>zJ ?_
 simp[go_sem]
 refine zE his Tryz.callB36 (zH rfl) rfl ?_
 unfold wH
 refine(Bool.eq_false_or_eq_true (isF tabs.length t)).elim (fun h=> ?_) (fun h=> ?_)
 ·obtain⟨j,rfl,hj⟩:=zF6 h
  rw[h,if_pos rfl]
  have e1:IntKind.u8.wrap (IntKind.i64.wrap ((j:Int)+1))=((UInt8.ofNat (j+1)).toNat:Int):=by
   rw[i64_id (by omega) (by unfold maxB at hn;omega),show(j:Int)+1=((j+1:Nat):Int) by omega,zE1]
  simp[go_sem,e1]
  refine zE (yQ9 [UInt8.ofNat (j+1)] v hv (by simp[maxB])) Tryz.callB91 ⟨zr5 (by simp[zR]),zA rfl,trivial⟩ rfl ?_
  simp[go_sem,bys]
  refine zP (xY _) ?_
  simp[go_sem,zn7]
  exact zQ (zA rfl) ⟨rfl,rfl⟩
 ·rw[h]
  simp[go_sem]
  exact zQ (zA rfl) ⟨rfl,rfl⟩
theorem yV4 (regs tabs:List (List V)) (t:Int) (hn:tabs.length≤maxB):Pure Tryz.prog 56 [.agg [.sl .ro regs,.sl .ro tabs],.int .i64 t] (.tup [.str (allF tabs.length t).1,.str (allF tabs.length t).2]):=by
 have his:=yM7 regs tabs t
 rw[show(decide (0≤t)&&decide (t<tabs.length))=isF tabs.length t from rfl]at his
 refine VCalls.intro 0 Tryz.func56 Tryz.ntmps56 Tryz.results56 rfl rfl (Nat.le_of_ble_eq_true rfl) fun c hc hb=>zJ ?_
 simp[go_sem]
 refine zE his Tryz.callB36 (zH rfl) rfl ?_
 unfold allF
 refine(Bool.eq_false_or_eq_true (isF tabs.length t)).elim (fun h=> ?_) (fun h=> ?_)
 ·obtain⟨j,rfl,hj⟩:=zF6 h
  rw[h,if_pos rfl]
  obtain⟨x,hx⟩: ∃x,UInt8.ofNat (j+1)=x:=⟨_,rfl⟩
  obtain⟨y,hy⟩: ∃y,UInt8.ofNat (j+2)=y:=⟨_,rfl⟩
  have e1:IntKind.u8.wrap (IntKind.i64.wrap ((j:Int)+1))=(x.toNat:Int):=by
   rw[i64_id (by omega) (by unfold maxB at hn;omega),show(j:Int)+1=((j+1:Nat):Int) by omega,zE1,hx]
  have e2:IntKind.u8.wrap (IntKind.i64.wrap ((j:Int)+2))=(y.toNat:Int):=by
   rw[i64_id (by omega) (by unfold maxB at hn;omega),show(j:Int)+2=((j+2:Nat):Int) by omega,zE1,hy]
  simp only[Int.toNat_natCast]
  simp[go_sem]
  refine zj8 [] 1 rfl (by kernel_rfl) (by kernel_rfl) ?_
  simp[go_sem,e1]
  refine zP (xY [x]) ?_
  have r1:zg9 [V.int IntKind.u8 x.toNat]=x:=by simp[zg9]
  have r2:zg9 [V.int IntKind.u8 y.toNat]=y:=by simp[zg9]
  simp[go_sem,e2,r1]
  refine zP (xY [y]) ?_
  simp[go_sem,r2]
  exact zQ (zA rfl) ⟨by rw[←hx,←hy];simp,rfl⟩
 ·rw[h]
  simp[go_sem]
  exact zQ (zA rfl) ⟨rfl,rfl⟩
end Go.Proofs.YtajjjghohakniaaGreat.R
namespace Go.Proofs.YtajjjghohakniaaGreat
open Go Go.Vx R
set_option maxRecDepth 100000
theorem yd0 (v:GValue):(keyF v).length≤140:=by
 by_cases h:mayF v=true
 ·have h1:=yu5 (v:=v)
  have h2:=zW5 h
  omega
 ·unfold keyF;rw[if_neg h];simp
def maxS (x y:List UInt8):List UInt8:=if Op.bytesLess x y=true then y else x
def minS (x y:List UInt8):List UInt8:=if Op.bytesLess x y=true∨x=y then x else y
def cutF (at_:List UInt8) (sign:List UInt8) (b:List UInt8×List UInt8):List UInt8×List UInt8:=
 if sign= [61]then(maxS b.1 at_,minS b.2 (at_++ [0]))
 else if sign= [60]then(b.1,minS b.2 at_)
 else if sign= [60,61]then(b.1,minS b.2 (at_++ [0]))
 else if sign= [62]then(maxS b.1 (at_++ [0]),b.2)
 else if sign= [62,61]then(maxS b.1 at_,b.2)
 else b
def zI0 (n:Nat) (t:Int) (name:List UInt8) (l:List GExpr) (b:List UInt8×List UInt8):List UInt8×List UInt8:=
 l.foldl (fun b e=>match xS e name with|none=>b|some (s,v)=>cutF (wH n t v) s b) b
def zq6 (T:GTable):Option (List UInt8):=if 0≤T.key then(T.cols[T.key.toNat]?).map (·.name)else none
def zc7 (ts:List GTable) (t:Int) (st:GStmt):List UInt8×List UInt8:=
 if isF ts.length t=true then
  match (ts[t.toNat]?).bind zq6 with
  |none=>allF ts.length t
  |some name=>let b:=zI0 ts.length t name (zi5 st) (allF ts.length t);(b.1,maxS b.2 b.1)
 else allF ts.length t
def zE7 (b:List UInt8×List UInt8):V:= .tup [.str b.1,.str b.2]
theorem yN2 (o:Option (List UInt8×GValue)):noS (cutV o)=true:=by
 obtain _|⟨s,v⟩:=o<;>rfl
theorem yw5 (regs:List (List V)) (ts:List GTable) (t:Int) (st:GStmt) (hn:ts.length≤maxB) (_hc0: ∀T∈ts,T.cols.length≤maxLen) (hl:(zi5 st).length≤maxLen)
  (hv: ∀e∈zi5 st,∀name s v,xS e name=some (s,v)→v.ok):
  Pure Tryz.prog 24 [.agg [.sl .ro regs,.sl .ro (ts.map GTable.row)],.int .i64 t,.agg st.row] (zE7 (zc7 ts t st)):=by
 generalize hM:zc7 ts t st=M
 have ret: ∀(r:List UInt8×List UInt8) (σ:St),r=M→wret (some (.tup [.str r.1,.str r.2])) 0 (fun r s=>r=zE7 M∧s= []) σ:=fun r σ h=>by subst h;exact zQ (zA rfl) ⟨rfl,rfl⟩
 have hall:=xz2 regs (ts.map GTable.row) t (by simpa using hn)
 have hcj:=zT1 st
 simp only[List.length_map]at hall
 unfold zc7 at hM
 generalize hA:allF ts.length t=A at hall hM
 generalize hL:zi5 st=L at hcj hM hl hv
 refine VCalls.introV 0 Tryz.func24 Tryz.ntmps24 Tryz.results24 rfl rfl (Nat.le_of_ble_eq_true rfl) fun c hc hb=> ?_
 refine zC ?_
 simp[go_sem]
 refine zE hall Tryz.callB52 (zH rfl) rfl ?_
 simp[go_sem]
 refine(Bool.eq_false_or_eq_true (isF ts.length t)).elim (fun h=> ?_) (fun h=> ?_)
 rotate_left
 ·simp only[h]at hM
  have h2:decide (t<0)=true∨(decide (t<0)=false∧decide ((ts.length:Int)≤t)=true):=by
   unfold isF at h
   simp only[Bool.and_eq_false_iff,decide_eq_false_iff_not]at h
   simp only[decide_eq_true_eq,decide_eq_false_iff_not]
   omega
  refine h2.elim (fun q=> ?_) (fun q=> ?_)
  all_goals simp[go_sem,q]
  all_goals exact ret _ _ hM
 obtain⟨j,rfl,hj⟩:=zF6 h
 obtain⟨T,hT⟩: ∃T,ts[j]=T:=⟨_,rfl⟩
 have hq2:decide ((ts.length:Int)≤j)=false:=decide_eq_false (by omega)
 have hq1:decide ((j:Int)<0)=false:=decide_eq_false (by omega)
 simp only[h,if_true,Int.toNat_natCast,List.getElem?_eq_getElem hj,hT,Option.bind_some]at hM
 have hq3:decide (ts.length≤j)=false:=decide_eq_false (by omega)
 simp[go_sem,hq1,hq3,hj,hT]
 by_cases hk:0≤T.key∧T.key<T.cols.length
 rotate_left
 ·have hkn:zq6 T=none:=by
   unfold zq6
   split
   ·rw[List.getElem?_eq_none (by omega)];rfl
   ·rfl
  rw[hkn]at hM
  have h2:decide (T.key<0)=true∨(decide (T.key<0)=false∧decide ((T.cols.length:Int)≤T.key)=true):=by
   simp only[decide_eq_true_eq,decide_eq_false_iff_not]
   omega
  refine h2.elim (fun q=> ?_) (fun q=> ?_)
  all_goals simp[go_sem,q]
  all_goals exact ret _ _ hM
 obtain⟨m,hm⟩: ∃m:Nat,T.key=m:=⟨T.key.toNat,by omega⟩
 have hmc:m<T.cols.length:=by omega
 obtain⟨C,hC⟩: ∃C,T.cols[m]=C:=⟨_,rfl⟩
 have hkn:zq6 T=some C.name:=by
  unfold zq6
  rw[if_pos (by omega),hm,Int.toNat_natCast,List.getElem?_eq_getElem hmc,hC];rfl
 simp only[hkn]at hM
 have hk1:decide (T.key<0)=false:=decide_eq_false (by omega)
 have hk2:decide ((T.cols.length:Int)≤T.key)=false:=decide_eq_false (by omega)
 simp[go_sem,hk1,hk2]
 refine zE hcj Tryz.callB53 (zF (by simp[go_sem]) rfl) rfl ?_
 simp[go_sem]
 refine zL (S:=Nat×List UInt8×List UInt8) [1,3,6,7,8,52,53,54] (fun u=> [.int .i64 j,.ptr 0 0,.str u.2.1,.str u.2.2,.ptr 1 0,.sl .ro (L.map GExpr.row),.int .i64 L.length,.int .i64 u.1])
  (fun _=> [.box [.sl .ro regs,.sl .ro (ts.map GTable.row)],.box T.row]) (fun u=>L.length - u.1)
  (fun u=>u.1≤L.length∧zI0 ts.length j C.name (L.drop u.1) u.2=zI0 ts.length j C.name L A) hc hb (0,A) ⟨Nat.zero_le _,rfl⟩ ?_ ?_
 ·exact zv5 [0,2] (by decide) rfl ⟨by simp[go_sem,yF,renC,renK],by simp[go_sem,yF,renC,renK],trivial⟩
   ⟨zA rfl,.inl (by simp[go_sem,renS,renA,renC,renK,ren]),zA rfl,zA rfl,.inl (by simp[go_sem,renS,renA,renC,renK,ren]),zV,zA rfl,zA rfl,trivial⟩
 rintro⟨i,b⟩ ⟨hi,hinv⟩
 simp only at hi hinv
 by_cases q:i<L.length
 rotate_left
 ·rw[List.drop_eq_nil_of_le (by omega)]at hinv
  have hbb:b=zI0 ts.length j C.name L A:=hinv
  rw[←hbb]at hM
  refine zC ?_
  simp[go_sem,q]
  exact ret (b.1,maxS b.2 b.1) _ hM
 have ei:=zT q (by unfold maxLen at hl;omega)
 obtain⟨x,hx⟩: ∃x,L[i]=x:=⟨_,rfl⟩
 have hxm:x∈L:=hx▸List.getElem_mem q
 rw[List.drop_eq_getElem_cons q,hx]at hinv
 have hag:=yi0 x C.name
 have hvx:=hv x hxm C.name
 have hrow:=GExpr.row_eq x
 refine zC ?_
 simp[go_sem,q,hx]
 refine zj8 [(8,0),(15,3)] 3 (by simp) (by kernel_rfl) (by kernel_rfl) ?_
 have hCq:T.cols[m]? =some C:=by rw[List.getElem?_eq_getElem hmc,hC]
 simp[go_sem,hm,hCq]
 refine zP hmc ?_
 simp[go_sem]
 refine zS hag Tryz.callB54 (fun _=>zF (by simp[go_sem]) (by rw[GExpr.row_eq];rfl)) (yN2 _) ?_
 cases ha:xS x C.name with
 |none=>
  simp only[zI0,List.foldl_cons,ha]at hinv
  simp[go_sem,cutV,yG7,ei]
  refine zN (i+1,b) ⟨by simp only;omega,⟨by simp only;omega,hinv⟩, ?_⟩
  exact at_n 2 (by simp[go_sem,hm]) rfl (by rfl) (Nat.zero_le _) (zD (by simp[go_sem]) rfl)
 |some p=>
  obtain⟨s,v⟩:=p
  have hvo:=hvx s v ha
  have hbd:=yy7 regs (ts.map GTable.row) j v (by simpa using hn) hvo
  simp only[List.length_map]at hbd
  simp only[zI0,List.foldl_cons,ha]at hinv
  obtain⟨B,hB⟩: ∃B,wH ts.length j v=B:=⟨_,rfl⟩
  have hBl:B.length≤9223372036854775806:=by
   have:=yd0 v
   rw[←hB];unfold wH;rw[if_pos h];simp only[List.length_cons];omega
  rw[hB]at hbd
  simp[go_sem,cutV]
  refine zE hbd Tryz.callB55 (zF (by simp[go_sem]) rfl) rfl ?_
  simp[go_sem]
  refine zP hBl ?_
  simp[go_sem]
  have fin: ∀b',cutF B s b=b'→zI0 ts.length j C.name (L.drop (i+1)) b'=zI0 ts.length j C.name L A:=fun b' h=>by rw[←h,←hB];exact hinv
  repeat' (first|(refine zU (fun q=> ?_) (fun q=> ?_)<;>simp[go_sem,q,ei]))
  all_goals simp only[beq_iff_eq,beq_eq_false_iff_ne]at*
  all_goals refine zN (i+1,cutF B s b) ⟨by simp only;omega,⟨by simp only;omega,fin _ rfl⟩, ?_⟩
  all_goals refine at_n 2 (by simp[go_sem,hm]) rfl (by rfl) (Nat.zero_le _) (zD ?_ rfl)
  all_goals unfold cutF maxS minS
  all_goals simp[go_sem, *]
end Go.Proofs.YtajjjghohakniaaGreat
namespace Go.Proofs.YtajjjghohakniaaGreat
open Go Go.Vx R
set_option maxRecDepth 100000
theorem zg1:(Tryz.prog.funcs.all fun fn=> !(fn.name== "runtime.NumGoroutine"))=true:=by kernel_rfl
theorem zd0:Tryz.prog.follows .mixedOrders=true:=by kernel_rfl
def marks (f:Nat):List Nat:=if f=134 then [7]else []
def yZ3:GZone:=⟨[1],[],[0,1],0,0,0⟩
def tabT:GTable:=⟨[84],[⟨[82],2,false⟩,⟨[75],2,false⟩,⟨[86],3,true⟩,⟨[78],2,true⟩],1,0,0,yZ3⟩
def tabG:GTable:=⟨[71],[⟨[75],3,false⟩,⟨[78],2,false⟩,⟨[66],1,true⟩],0,1,0,yZ3⟩
def tabH:GTable:=⟨[72],[⟨[66],1,false⟩,⟨[78],2,true⟩],0,2,1,yZ3⟩
def tabsS:List GTable:= [tabT,tabG,tabH]
def wN:List (List V):= [[.int .i64 0],[.int .i64 0],[.int .i64 1],[.int .i64 1]]
def schS:V:= .agg [.sl .full wN,.sl .full (tabsS.map GTable.row)]
def schR (ts:List GTable):V:= .agg [.sl .ro wN,.sl .ro (ts.map GTable.row)]
theorem yp7:Pure Tryz.prog 10 [] schS:=zl8 zg1 zd0 marks 10000 (by kernel_rfl)
theorem zN8 {ρ:Nat→Nat}:argS ρ (schR tabsS) schS:=zo3 ⟨wK,wK,trivial⟩
def yV (t r:Int):Int×Int:=if t=0 then(if r=0 then(0,0)else if r=1 then(1,0)else(0,19))else if t=1 then(2,0)else if t=2 then(3,0)else(0,1)
def zR1 (p:Int×Int):V:= .tup [.int .i64 p.1,.int .i64 p.2]
theorem ya1 (t r:Int) (h:t=0∨t=1∨t=2) (hr:r= -1∨r=0∨r=1∨r=2∨r=3∨r=4):Pure Tryz.prog 34 [schR tabsS,.int .i64 t,.int .i64 r] (zR1 (yV t r)):=by
 rcases h with rfl|rfl|rfl<;>rcases hr with rfl|rfl|rfl|rfl|rfl|rfl<;>exact zl8 zg1 zd0 marks 10000 (by kernel_rfl)
theorem yO7 (j:Nat) (hj:j<3):Pure Tryz.prog 34 [schR (tabsS.take (j+1)),.int .i64 j,.int .i64 0] (zR1 (yV j 0)):=by
 match j,hj with
 |0,_=>exact zl8 zg1 zd0 marks 10000 (by kernel_rfl)
 |1,_=>exact zl8 zg1 zd0 marks 10000 (by kernel_rfl)
 |2,_=>exact zl8 zg1 zd0 marks 10000 (by kernel_rfl)
def ofS (r:Int):Int×Int×Int:=if r=0 then(0,0,0)else if r=1 then(0,1,0)else if r=2 then(1,-1,0)else if r=3 then(2,1,0)else(0,0,1)
def ofV (p:Int×Int×Int):V:= .tup [.int .i64 p.1,.int .i64 p.2.1,.int .i64 p.2.2]
theorem xp6:Pure Tryz.prog 58 [schR tabsS] (.int .i64 0):=zl8 zg1 zd0 marks 10000 (by kernel_rfl)
end Go.Proofs.YtajjjghohakniaaGreat
namespace Go.Proofs.YtajjjghohakniaaGreat
open Go Go.Vx R
set_option maxRecDepth 100000
theorem yS9:Pure Tryz.prog 84 [schR tabsS] (.sl .ro [[.int .i64 0],[.int .i64 1]]):=
 VCalls.frz (yg0 zg1 zd0 marks 10000 (v:= .lsv 1 1 4 0 2) (σ':= [.box [.sl .ro wN,.sl .ro (tabsS.map GTable.row)],.lst [[.int .i64 0],[.int .i64 1],[.int .i64 0],[.int .i64 0]] 1]) (by kernel_rfl))
  (fun r s ⟨h1,h2⟩=>by subst h1;subst h2;exact⟨_,_,.step 1 1 [[.int .i64 0],[.int .i64 1],[.int .i64 0],[.int .i64 0]] rfl rfl (.refl _ _),zV⟩)
def yJ6 (t:Nat):Int:=if t=0 then 2 else 1
theorem yB0 (j:Nat) (hj:j<3):Pure Tryz.prog 110 [schR tabsS,.agg (tabsS[j]'hj).row] (.int .i64 (yJ6 j)):=by
 match j,hj with
 |0,_=>exact zl8 zg1 zd0 marks 10000 (by kernel_rfl)
 |1,_=>exact zl8 zg1 zd0 marks 10000 (by kernel_rfl)
 |2,_=>exact zl8 zg1 zd0 marks 10000 (by kernel_rfl)
theorem yp0 {M:Int×Int×Int} {a b e:Int} {σ:St} (h:(a,b,e)=M):wret (some (.tup [.int .i64 a,.int .i64 b,.int .i64 e])) 0 (fun r s=>r=ofV M∧s= []) σ:=by subst h;exact zQ (zA rfl) ⟨rfl,rfl⟩
set_option maxHeartbeats 4000000 in
theorem Of_w (g:Nat) (hg:g<5):Pure Tryz.prog 59 [schR tabsS,.int .i64 g] (ofV (ofS g)):=by
 have hm0:=yB0 0 (by decide)
 have hm1:=yB0 1 (by decide)
 have hm2:=yB0 2 (by decide)
 have hr:=yS9
 generalize hM:ofS g=M
 refine VCalls.introV 0 Tryz.func59 Tryz.ntmps59 Tryz.results59 rfl rfl (Nat.le_of_ble_eq_true rfl) fun c hc hb=> ?_
 refine zC ?_
 simp[go_sem,schR]
 have h0:decide ((g:Int)<0)=false:=decide_eq_false (by omega)
 simp[go_sem,h0]
 refine zL (S:=Nat×Nat) [1,2,13,14,15] (fun u=> [.int .i64 u.2,.ptr 0 0,.sl .ro (tabsS.map GTable.row),.int .i64 3,.int .i64 u.1]) (fun _=> [.box [.sl .ro wN,.sl .ro (tabsS.map GTable.row)]]) (fun u=>3 - u.1)
  (fun u=>(u.1=0∧u.2=g)∨(u.1=1∧u.2+2=g)∨(u.1=2∧u.2+3=g)∨(u.1=3∧u.2+4=g)) hc hb (0,g) (.inl ⟨rfl,rfl⟩) ?_ ?_
 ·exact at_n 1 (by simp[go_sem]) rfl (by rfl) (Nat.zero_le _) (zD (by simp[go_sem];rfl) rfl)
 rintro⟨i,r⟩ h
 simp only at h
 refine h.elim (fun⟨h1,h2⟩=> ?_) fun h=>h.elim (fun⟨h1,h2⟩=> ?_) fun h=>h.elim (fun⟨h1,h2⟩=> ?_) fun⟨h1,h2⟩=> ?_
 ·subst h1
  refine zC ?_
  simp[go_sem,tabsS]
  refine zE hm0 Tryz.callB110 (zF (by simp[go_sem,schR,tabsS]) rfl) rfl ?_
  simp[go_sem,yJ6]
  by_cases q:2≤r
  ·have q':decide ((2:Int)≤r)=true:=decide_eq_true (by omega)
   have e:IntKind.i64.wrap ((r:Int) - 2)=((r - 2:Nat):Int):=by rw[i64_id (by omega) (by omega)];omega
   simp[go_sem,q',e]
   exact zN (1,r - 2) ⟨by simp only;omega,.inr (.inl ⟨rfl,by simp only;omega⟩),at_n 1 (by simp[go_sem]) rfl (by rfl) (Nat.zero_le _) (zD (by simp[go_sem]) rfl)⟩
  ·have q':decide ((2:Int)≤r)=false:=decide_eq_false (by omega)
   simp[go_sem,q',show tabT.place=0 from rfl]
   refine zj8 [(2,0)] 2 (by simp) (by kernel_rfl) (by kernel_rfl) ?_
   simp[go_sem]
   refine zS hr Tryz.callB84 (fun _=>zF (by simp[go_sem,schR,tabsS,show tabT.place=0 from rfl]) rfl) rfl ?_
   have h01:r=0∨r=1:=by omega
   refine h01.elim (fun e=> ?_) (fun e=> ?_)
   all_goals subst e
   all_goals simp[go_sem]
   all_goals exact yp0 (by rw[←hM,←h2];rfl)
 ·subst h1
  refine zC ?_
  simp[go_sem,tabsS]
  refine zE hm1 Tryz.callB110 (zF (by simp[go_sem,schR,tabsS]) rfl) rfl ?_
  simp[go_sem,yJ6]
  by_cases q:1≤r
  ·have q':decide ((1:Int)≤r)=true:=decide_eq_true (by omega)
   have e:IntKind.i64.wrap ((r:Int) - 1)=((r - 1:Nat):Int):=by rw[i64_id (by omega) (by omega)];omega
   simp[go_sem,q',e]
   exact zN (2,r - 1) ⟨by simp only;omega,.inr (.inr (.inl ⟨rfl,by simp only;omega⟩)),at_n 1 (by simp[go_sem]) rfl (by rfl) (Nat.zero_le _) (zD (by simp[go_sem]) rfl)⟩
  ·have q':decide ((1:Int)≤r)=false:=decide_eq_false (by omega)
   simp[go_sem,q',show tabG.place=1 from rfl]
   have h01:r=0:=by omega
   subst h01
   exact yp0 (by rw[←hM,←h2];rfl)
 ·subst h1
  refine zC ?_
  simp[go_sem,tabsS]
  refine zE hm2 Tryz.callB110 (zF (by simp[go_sem,schR,tabsS]) rfl) rfl ?_
  simp[go_sem,yJ6]
  by_cases q:1≤r
  ·have q':decide ((1:Int)≤r)=true:=decide_eq_true (by omega)
   have e:IntKind.i64.wrap ((r:Int) - 1)=((r - 1:Nat):Int):=by rw[i64_id (by omega) (by omega)];omega
   simp[go_sem,q',e]
   exact zN (3,r - 1) ⟨by simp only;omega,.inr (.inr (.inr ⟨rfl,by simp only;omega⟩)),at_n 1 (by simp[go_sem]) rfl (by rfl) (Nat.zero_le _) (zD (by simp[go_sem]) rfl)⟩
  ·have q':decide ((1:Int)≤r)=false:=decide_eq_false (by omega)
   have h01:r=0:=by omega
   subst h01
   simp[go_sem,show tabH.place=2 from rfl]
   refine zj8 [] 2 (by simp) (by kernel_rfl) (by kernel_rfl) ?_
   simp[go_sem]
   exact yp0 (by rw[←hM,←h2];rfl)
 ·subst h1
  refine zC ?_
  simp[go_sem,tabsS]
  exact yp0 (by
    rw[←hM];have:r=0:=by omega
    subst this;rw[←h2];rfl)
end Go.Proofs.YtajjjghohakniaaGreat
namespace Go.Proofs.YtajjjghohakniaaGreat
open Go Go.Vx R
set_option maxRecDepth 100000
theorem xv2 (v:GValue) (l:List Int):([.box v.row,.lst (l.map yH) 1]:St).all (ltOb 2)=true:=by simp[ltOb,ltC,ltK,yH,GValue.row]
theorem xr1 (v:GValue) (r:Int):VCalls Tryz.prog 61 [.int .i64 r,.ptr 0 0] [.box v.row] (fun x s=>x= .bool (r !=v.n)∧s= [.box v.row]):=by
 refine VCalls.intro 1 Tryz.func61 Tryz.ntmps61 Tryz.results61 rfl rfl (Nat.le_of_ble_eq_true rfl) fun c hc hb=>zJ ?_
 simp[go_sem]
 exact zn4 1 (by simp[go_sem]) rfl rfl (Nat.le_refl _) (zA rfl) ⟨rfl,rfl⟩
def idxF (p:Int→Bool):List Int→Nat→Int
 | [],_=> -1
 |x::l,i=>if p x=true then i else idxF p l (i+1)
theorem xz6 (v:GValue) (xs:List Int) (m:Nat) (hm:m≤xs.length) (hl:xs.length≤1000):
  VCalls Tryz.prog 111 [.lsv 1 1 xs.length 0 m,.fn 61 [.ptr 0 0]] [.box v.row,.lst (xs.map yH) 1]
   (fun r s=>r= .int .i64 (idxF (fun x=>x !=v.n) (xs.take m) 0)∧s= [.box v.row,.lst (xs.map yH) 1]):=by
 generalize hM:idxF (fun x=>x !=v.n) (xs.take m) 0=M
 have ret: ∀(r:Int) (σ:St),r=M→σ.take 2= [.box v.row,.lst (xs.map yH) 1]→wret (some (.int .i64 r)) 2 (fun r s=>r= .int .i64 M∧s= [.box v.row,.lst (xs.map yH) 1]) σ:=fun r σ h hs=>by subst h;exact zn4 2 hs rfl (by simp[ltOb,ltC,ltK,yH,GValue.row]) (Nat.le_refl _) (zA rfl) ⟨rfl,rfl⟩
 refine VCalls.introV 2 Tryz.func111 Tryz.ntmps111 Tryz.results111 rfl rfl (Nat.le_of_ble_eq_true rfl) fun c hc hb=> ?_
 refine zC ?_
 simp[go_sem]
 refine zL (S:=Nat) [0,1,7,8] (fun i=> [.lsv 1 1 xs.length 0 m,.fn 61 [.ptr 0 0],.int .i64 m,.int .i64 i]) (fun _=> [.box v.row,.lst (xs.map yH) 1]) (fun i=>m - i) (fun i=>i≤m∧idxF (fun x=>x !=v.n) ((xs.take m).drop i) i=M) hc hb 0 ⟨Nat.zero_le _,hM⟩ ?_ ?_
 ·exact at_n 2 (by simp[go_sem]) rfl (by simp[ltOb,ltC,ltK,yH,GValue.row]) (Nat.le_refl _) (zD (by simp[go_sem]) rfl)
 rintro i ⟨hi,hinv⟩
 by_cases q:i<m
 rotate_left
 ·rw[List.drop_eq_nil_of_le (by simp;omega)]at hinv
  refine zC ?_
  simp[go_sem,q]
  exact ret _ _ hinv rfl
 have ei:=zT q (by omega)
 have hic:i<xs.length:=by omega
 obtain⟨x,hx⟩: ∃x,xs[i]=x:=⟨_,rfl⟩
 have hxt:(xs.take m)[i]'(by simp;omega)=x:=by rw[List.getElem_take];exact hx
 rw[List.drop_eq_getElem_cons (by simp;omega),hxt,idxF]at hinv
 have hd:=xr1 v x
 obtain⟨b,hb1⟩: ∃b,(x !=v.n)=b:=⟨_,rfl⟩
 rw[hb1]at hd hinv
 refine zC ?_
 simp[go_sem,q,hic,hx]
 refine yo8 1 hd Tryz.callB61 (by simp[go_sem]) rfl rfl (zD7 rfl) (fun r s h=>by obtain⟨rfl,rfl⟩:=h;exact⟨rfl,rfl,rfl⟩) ?_
 rintro r s ⟨rfl,rfl⟩
 simp[go_sem]
 refine zU (fun w=> ?_) (fun w=> ?_)
 ·rw[if_pos w]at hinv
  simp[go_sem]
  exact ret _ _ hinv rfl
 ·rw[if_neg (by rw[w];decide)]at hinv
  simp[go_sem,ei]
  exact zN (i+1) ⟨by omega,⟨q,hinv⟩,at_n 2 (by simp[go_sem]) rfl (by simp[ltOb,ltC,ltK,yH]) (Nat.le_refl _) (zD (by simp[go_sem]) rfl)⟩
def zg2 (n:Int) (l:List Int):List Int:=l.filter (· ==n)
theorem yi7 {n:Int}: ∀(l:List Int) (i:Nat),idxF (fun x=>x !=n) l i= -1→zg2 n l=l
 | [],_,_=>rfl
 |x::l,i,h=>by
  unfold idxF at h
  split at h
  ·omega
  ·rename_i q
   have:=yi7 l (i+1) h
   have hx:(x==n)=true:=by simpa using q
   unfold zg2 at this⊢
   rw[List.filter_cons_of_pos (by simpa using hx),this]
theorem ye4 {n:Int}: ∀(l:List Int) (i:Nat),idxF (fun x=>x !=n) l i≠ -1→ ∃k,idxF (fun x=>x !=n) l i=((i+k:Nat):Int)∧k<l.length∧zg2 n (l.take k)=l.take k∧(∀x,l[k]? =some x→x≠n)
 | [],i,h=>absurd rfl h
 |x::l,i,h=>by
  unfold idxF at h⊢
  split
  ·rename_i q
   exact⟨0,by simp,by simp,rfl,fun y hy=>by simp at hy;subst hy;simpa using q⟩
  ·rename_i q
   rw[if_neg q]at h
   obtain⟨k,h1,h2,h3,h4⟩:=ye4 l (i+1) h
   have hx:(x==n)=true:=by simpa using q
   refine⟨k+1,by rw[h1];congr 1;omega,by simp;omega, ?_,fun y hy=>h4 y (by simpa using hy)⟩
   unfold zg2 at h3⊢
   rw[List.take_succ_cons,List.filter_cons_of_pos (by simpa using hx),h3]
theorem zJ5 {n:Int} {xs:List Int} {j:Nat} {x:Int} (h:xs[j]? =some x):zg2 n (xs.take (j+1))=zg2 n (xs.take j)++(if x=n then [x]else []):=by
 unfold zg2
 rw[List.take_add_one,h,List.filter_append]
 by_cases q:x=n
 ·simp[q]
 ·simp[q]
theorem xs6 (v:GValue) (xs:List Int) (m:Nat) (hm:m≤xs.length) (hl:xs.length≤1000):
  VCalls Tryz.prog 60 [.lsv 1 1 xs.length 0 m,.fn 61 [.ptr 0 0]] [.box v.row,.lst (xs.map yH) 1]
   (fun r s=> ∃ys:List Int,ys.length=xs.length∧(zg2 v.n (xs.take m)).length≤m∧ys.take (zg2 v.n (xs.take m)).length=zg2 v.n (xs.take m)∧r= .lsv 1 1 xs.length 0 (zg2 v.n (xs.take m)).length∧s= [.box v.row,.lst (ys.map yH) 1]):=by
 obtain⟨K,hK⟩: ∃K,zg2 v.n (xs.take m)=K:=⟨_,rfl⟩
 have hKm:K.length≤m:=by rw[←hK];unfold zg2;exact Nat.le_trans (List.length_filter_le _ _) (by simp;omega)
 rw[hK]
 have ret: ∀(ys:List Int) (k:Nat) (σ:St),ys.length=xs.length→k=K.length→ys.take K.length=K→σ.take 2= [.box v.row,.lst (ys.map yH) 1]→
   wret (some (.lsv 1 1 xs.length 0 k)) 2 (fun r s=> ∃ys:List Int,ys.length=xs.length∧K.length≤m∧ys.take K.length=K∧r= .lsv 1 1 xs.length 0 K.length∧s= [.box v.row,.lst (ys.map yH) 1]) σ:=fun ys k σ h1 h2 h3 h4=>by
  subst h2
  exact zn4 2 h4 rfl (by simp[ltOb,ltC,ltK,yH,GValue.row]) (Nat.le_refl _) (zo0 rfl) ⟨ys,h1,hKm,h3,rfl,rfl⟩
 have hix:=xz6 v xs m hm hl
 refine VCalls.introV 2 Tryz.func60 Tryz.ntmps60 Tryz.results60 rfl rfl (Nat.le_of_ble_eq_true rfl) fun c hc hb=> ?_
 refine zC ?_
 simp[go_sem]
 refine yo8 2 hix Tryz.callB111 (by simp[go_sem]) rfl (by simp[ltOb,ltC,ltK,yH,GValue.row]) (zD7 rfl) (fun r s h=>by obtain⟨rfl,rfl⟩:=h;exact⟨rfl,by simp[ltOb,ltC,ltK,yH,GValue.row],rfl⟩) ?_
 rintro r s ⟨rfl,rfl⟩
 by_cases h0:idxF (fun x=>x !=v.n) (xs.take m) 0= -1
 ·have hkk:=yi7 _ _ h0
  rw[hK]at hkk
  rw[h0]
  simp[go_sem]
  exact ret xs m _ rfl (by rw[hkk];simp;omega) (by rw[hkk];simp) (by rfl)
 obtain⟨k,h1,h2,h3,h4⟩:=ye4 _ _ h0
 rw[Nat.zero_add]at h1
 rw[h1]
 have hk1:k<m:=by simp at h2;omega
 have hne:((k:Int)== -1)=false:=by simp
 have ek:IntKind.i64.wrap ((k:Int)+1)=((k+1:Nat):Int):=by rw[i64_id (by omega) (by omega)];omega
 have hx0:zg2 v.n (xs.take (k+1))=xs.take k:=by
  have hkx:k<xs.length:=by omega
  have h5:=h4 xs[k] (by rw[List.getElem?_take,if_pos hk1,List.getElem?_eq_getElem hkx])
  rw[zJ5 (List.getElem?_eq_getElem hkx),if_neg h5,List.append_nil]
  rw[List.take_take,Nat.min_eq_left (by omega)]at h3
  exact h3
 simp[go_sem,hne,ek]
 refine zL (S:=Nat×Nat×List Int) [0,1,5,6] (fun u=> [.lsv 1 1 xs.length 0 m,.fn 61 [.ptr 0 0],.int .i64 u.1,.int .i64 u.2.1]) (fun u=> [.box v.row,.lst (u.2.2.map yH) 1]) (fun u=>m - u.2.1)
  (fun u=>u.1<u.2.1∧u.2.1≤m∧u.2.2.length=xs.length∧u.2.2.take u.1=zg2 v.n (xs.take u.2.1)∧u.2.2.drop u.2.1=xs.drop u.2.1) hc hb (k,k+1,xs) ⟨by simp only;omega,by simp only;omega,rfl,hx0.symm,rfl⟩ ?_ ?_
 ·exact at_n 2 (by simp[go_sem]) rfl (by simp[ltOb,ltC,ltK,yH,GValue.row]) (Nat.le_refl _) (zD (by simp[go_sem]) rfl)
 rintro⟨i,j,ys⟩ ⟨hij,hjm,hyl,hpre,hsuf⟩
 simp only at hij hjm hyl hpre hsuf
 by_cases q:j<m
 rotate_left
 ·have hj:j=m:=by omega
  subst hj
  rw[hK]at hpre
  have hiK:i=K.length:=by rw[←hpre];simp;omega
  have hij':i≤j:=by omega
  refine zC ?_
  simp[go_sem]
  refine zP hij' ?_
  simp[go_sem,hyl]
  refine zP (by omega) ?_
  simp[go_sem]
  refine zP (.inl hij') ?_
  simp[go_sem]
  refine ret (ys.take i++List.replicate (j - i) 0++ys.drop (i+(j - i))) i _ (by simp;omega) hiK (by rw[←hiK,List.append_assoc,List.take_append_of_le_length (by simp;omega)];rw[List.take_take,Nat.min_self,hpre]) ?_
  simp[go_sem,yH]
 have ej:=zT q (by omega)
 have hjc:j<ys.length:=by omega
 have hjx:j<xs.length:=by omega
 obtain⟨x,hx⟩: ∃x,ys[j]=x:=⟨_,rfl⟩
 have hxq:ys[j]? =some x:=by rw[List.getElem?_eq_getElem hjc,hx]
 have hxj:xs[j]? =some x:=by
  have:=congrArg (fun l=>l[0]?) hsuf
  simp only[List.getElem?_drop,Nat.add_zero]at this
  rw[←this,hxq]
 have ei:IntKind.i64.wrap ((i:Int)+1)=((i+1:Nat):Int):=by rw[i64_id (by omega) (by omega)];omega
 have hd:=xr1 v x
 obtain⟨b,hb1⟩: ∃b,(x !=v.n)=b:=⟨_,rfl⟩
 rw[hb1]at hd
 refine zC ?_
 simp[go_sem,q,hjx,hx,hyl]
 refine yo8 1 hd Tryz.callB61 (by simp[go_sem]) rfl rfl (zD7 rfl) (fun r s h=>by obtain⟨rfl,rfl⟩:=h;exact⟨rfl,rfl,rfl⟩) ?_
 rintro r s ⟨rfl,rfl⟩
 simp[go_sem]
 refine zU (fun w=> ?_) (fun w=> ?_)
 all_goals simp[go_sem,ej]
 ·have q2:x=v.n:=by simpa using (show(x !=v.n)=false by rw[hb1];simpa using w)
  have hst:=zJ5 (n:=v.n) hxj
  rw[if_pos q2]at hst
  refine zP (by omega) ?_
  have hix2:i<xs.length:=by omega
  obtain⟨y,hyi⟩: ∃y,ys[i]? =some y:=⟨_,List.getElem?_eq_getElem (by omega)⟩
  simp[go_sem,hyl,hix2,ei,ej]
  refine zN (i+1,j+1,ys.set i x) ⟨by simp only;omega,⟨by simp only;omega,by simp only;omega,by simp[hyl], ?_, ?_⟩, ?_⟩
  ·rw[hst,←hpre,List.take_add_one,List.getElem?_set_self (by omega),List.take_set_of_le (Nat.le_refl i)]
   simp
  ·simp only
   rw[List.drop_set,if_pos (by omega)]
   have:=congrArg (List.drop 1) hsuf
   simpa[List.drop_drop,Nat.add_comm]using this
  ·exact at_n 2 (by simp[go_sem,List.map_set,yH]) rfl (xv2 v _) (Nat.le_refl _) (zD (by simp[go_sem]) rfl)
 ·have q2: ¬x=v.n:=by
   have:(x !=v.n)=true:=by rw[hb1];simpa using w
   simpa using this
  have hst:=zJ5 (n:=v.n) hxj
  rw[if_neg q2,List.append_nil]at hst
  refine zN (i,j+1,ys) ⟨by simp only;omega,⟨by simp only;omega,by simp only;omega,hyl,by rw[hst];exact hpre, ?_⟩, ?_⟩
  ·have:=congrArg (List.drop 1) hsuf
   simpa[List.drop_drop,Nat.add_comm]using this
  ·exact at_n 2 (by simp[go_sem]) rfl (by simp[ltOb,ltC,ltK,yH]) (Nat.le_refl _) (zD (by simp[go_sem]) rfl)
end Go.Proofs.YtajjjghohakniaaGreat
