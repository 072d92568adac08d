/-
  Which SELECTs may be, by the document, over trees (the library Vx); used by the theorem at the end of the claim.
  Conditions: as each theorem states them.
-/
import Derived.Test.YtajjjghohakniaaGreatKBL
namespace Go.Proofs.YtajjjghohakniaaGreat
open Go Go.Vx R
set_option maxRecDepth 100000
def oneB (k w:Int):Bool:=k==w||k==0
theorem zK9 (T:GTable) (e:GExpr) (w:Int):zt2 T e w=if(xV T e).2≠0 then(xV T e).2 else if oneB (xV T e).1 w=true then 0 else 15:=by
 unfold zt2 oneB
 by_cases h1:(xV T e).1=w<;>by_cases h2:(xV T e).1=0<;>simp[h1,h2]
theorem xr9 {X Y C:Int} (h:(if X≠0 then X else Y)=C):(X≠0∧X=C)∨(X=0∧Y=C):=by
 by_cases q:X=0
 ·rw[if_neg (fun g=>g q)]at h;exact .inr ⟨q,h⟩
 ·rw[if_pos q]at h;exact .inl ⟨q,h⟩
theorem zJ9 (T:GTable) (hT:T.cols.length≤maxLen) (st:GStmt) (hs:SOk st):Pure Tryz.prog 48 [.agg T.row,.agg st.row] (.int .i64 (zj5 T st)):=by
 have h:=zy1 T hT st.where_ hs.where_
 generalize hM:zj5 T st=M
 unfold zj5 at hM
 rw[zK9]at hM
 generalize xV T st.where_=k at h hM
 have ho:Pure Tryz.prog 102 [.int .i64 k.1,.int .i64 1] (.bool (oneB k.1 1)):=zU6 k.1 1
 generalize oneB k.1 1=ob at ho hM
 refine VCalls.intro 0 Tryz.func48 Tryz.ntmps48 Tryz.results48 rfl rfl (Nat.le_of_ble_eq_true rfl) fun c hc hb=>zJ ?_
 simp[go_sem]
 refine(Bool.eq_false_or_eq_true st.filtered).elim (fun w=> ?_) (fun w=> ?_)
 rotate_left
 ·rw[if_neg (by rw[w];decide)]at hM
  simp[go_sem,w]
  exact iret hM
 rw[if_pos w]at hM
 simp[go_sem,w]
 refine zE h Tryz.callB41 (zF (by simp[go_sem]) (by rw[GExpr.row_eq];rfl)) rfl ?_
 simp[go_sem,yK]
 by_cases q:k.2=0
 ·have q':(k.2 !=0)=false:=by simpa using q
  rw[if_neg (fun h=>h q)]at hM
  simp[go_sem,q']
  refine zE ho Tryz.callB102 (zH rfl) rfl ?_
  refine(Bool.eq_false_or_eq_true ob).elim (fun p=> ?_) (fun p=> ?_)
  ·rw[if_pos p]at hM
   simp[go_sem,p]
   exact iret hM
  ·rw[if_neg (by rw[p];decide)]at hM
   simp[go_sem,p]
   exact iret hM
 ·have q':(k.2 !=0)=true:=by simpa using q
  rw[if_pos q]at hM
  simp[go_sem,q']
  exact iret hM
set_option maxHeartbeats 2000000 in
theorem yl0 (T:GTable) (_hT:T.cols.length≤1000) (st:GStmt) (hs:SOk st):Pure Tryz.prog 46 [.agg T.row,.agg st.row] (.int .i64 (zC4 T st.rows)):=by
 obtain⟨R,hR⟩: ∃R,st.rows=R:=⟨_,rfl⟩
 obtain⟨hRl,hRx⟩:=hs.rows
 rw[hR]at hRl hRx
 rw[hR]
 generalize hM:zC4 T R=M
 refine VCalls.introV 0 Tryz.func46 Tryz.ntmps46 Tryz.results46 rfl rfl (Nat.le_of_ble_eq_true rfl) fun c hc hb=> ?_
 refine zC ?_
 simp[go_sem,hR]
 refine zL (S:=Nat) [2,3,5] (fun i=> [.ptr 0 0,.ptr 1 0,.int .i64 (i:Int)]) (fun _=> [.box T.row,.box st.row]) (fun i=>R.length - i)
  (fun i=>i≤R.length∧zC4 T (R.drop i)=M) hc hb 0 ⟨Nat.zero_le _,hM⟩ ?_ ?_
 ·exact at_n 2 (by simp[go_sem,hR]) rfl (st_T T st 2) (Nat.zero_le _) (zD (by simp[go_sem]) rfl)
 rintro i ⟨hi,hinv⟩
 by_cases q:i<R.length
 rotate_left
 ·rw[List.drop_eq_nil_of_le (by omega)]at hinv
  refine zC ?_
  simp[go_sem,hR,q]
  exact iret hinv
 have ei:=zT q (by omega)
 obtain⟨r,hr⟩: ∃r,R[i]=r:=⟨_,rfl⟩
 obtain⟨hrl,hrx⟩:=hRx r (hr▸List.getElem_mem q)
 rw[List.drop_eq_getElem_cons q,hr,zC4]at hinv
 by_cases q2:r.length=T.cols.length
 rotate_left
 ·have q2':((r.length:Int) !=T.cols.length)=true:=by simp;omega
  have hrc:zq1 T r=9:=by unfold zq1;rw[if_pos q2]
  rw[hrc,if_pos (by decide)]at hinv
  refine zC ?_
  simp[go_sem,hR,q]
  refine zX [] 2 (by simp) (by kernel_rfl) (by kernel_rfl) ?_
  simp[go_sem,q,hr,q2']
  exact iret hinv
 have q2':((r.length:Int) !=T.cols.length)=false:=by simp;omega
 have hrc:zq1 T r=zw6 T.cols r:=by unfold zq1;rw[if_neg (fun h=>h q2)]
 rw[hrc]at hinv
 obtain⟨C,hC⟩: ∃C,zw6 T.cols r=C:=⟨_,rfl⟩
 rw[hC]at hinv
 refine zC ?_
 simp[go_sem,hR,q]
 refine zX [] 2 (by simp) (by kernel_rfl) (by kernel_rfl) ?_
 simp[go_sem,q,hr,q2']
 refine zL (S:=Nat) [2,3,5,6] (fun k=> [.ptr 0 0,.ptr 1 0,.int .i64 (i:Int),.int .i64 (k:Int)]) (fun _=> [.box T.row,.box st.row]) (fun k=>r.length - k)
  (fun k=>k≤r.length∧zw6 (T.cols.drop k) (r.drop k)=C) hc hb 0 ⟨Nat.zero_le _,hC⟩ ?_ ?_
 ·exact at_n 2 (by simp[go_sem,hR]) rfl (st_T T st 2) (Nat.zero_le _) (zD (by simp[go_sem]) rfl)
 rintro k ⟨hk,hcv⟩
 by_cases qk:k<r.length
 rotate_left
 ·rw[List.drop_eq_nil_of_le (by omega),List.drop_eq_nil_of_le (by omega)]at hcv
  have hcv:C=0:=hcv.symm
  rw[if_neg (fun h=>h hcv)]at hinv
  refine zC ?_
  simp[go_sem,hR,q,hr,qk,ei]
  exact zN (i+1) ⟨by omega,⟨by omega,hinv⟩,at_n 2 (by simp[go_sem,hR]) rfl (st_T T st 2) (Nat.zero_le _) (zD (by simp[go_sem]) rfl)⟩
 have ek:=zT qk (by omega)
 have qc:k<T.cols.length:=by omega
 obtain⟨e,he⟩: ∃e,r[k]=e:=⟨_,rfl⟩
 obtain⟨c1,hc1⟩: ∃c1,T.cols[k]=c1:=⟨_,rfl⟩
 have hE:=hrx e (he▸List.getElem_mem qk)
 rw[List.drop_eq_getElem_cons qk,List.drop_eq_getElem_cons qc,he,hc1,zw6,zK9]at hcv
 have hcall:=zy1 tab00 (by decide) e hE
 generalize xV tab00 e=ty at hcall hcv
 have hcv:=xr9 hcv
 have ho:Pure Tryz.prog 102 [.int .i64 ty.1,.int .i64 c1.kind] (.bool (oneB ty.1 c1.kind)):=zU6 ty.1 c1.kind
 generalize oneB ty.1 c1.kind=ob at ho hcv
 refine zC ?_
 simp[go_sem,hR,q,hr,qk,he]
 refine zE hcall Tryz.callB41 ⟨yE4,zY6 e,trivial⟩ rfl ?_
 simp[go_sem,yK]
 by_cases qe:ty.2=0
 rotate_left
 ·have qe':(ty.2 !=0)=true:=by simpa using qe
  rw[if_pos qe]at hcv
  have hcv:ty.2=C:=hcv.elim (·.2) (fun h=>absurd h.1 qe)
  rw[if_pos (by rw[←hcv];exact qe)]at hinv
  simp[go_sem,qe']
  exact iret (hcv.trans hinv)
 have qe':(ty.2 !=0)=false:=by simpa using qe
 rw[if_neg (fun h=>h qe)]at hcv
 simp[go_sem,qe',qc,hc1]
 refine zE ho Tryz.callB102 (zH rfl) rfl ?_
 refine(Bool.eq_false_or_eq_true ob).elim (fun p=> ?_) (fun p=> ?_)
 ·rw[if_pos p]at hcv
  have hcv:=hcv.elim (fun h=>absurd rfl h.1) (·.2)
  simp[go_sem,p,ek]
  exact zN (k+1) ⟨by omega,⟨by omega,hcv⟩,at_n 2 (by simp[go_sem,hR]) rfl (st_T T st 2) (Nat.zero_le _) (zD (by simp[go_sem]) rfl)⟩
 ·rw[if_neg (by rw[p];decide)]at hcv
  have hcv:15=C:=hcv.elim (·.2) (fun h=>by cases h.1)
  rw[←hcv,if_pos (by decide)]at hinv
  simp[go_sem,p]
  exact iret hinv
end Go.Proofs.YtajjjghohakniaaGreat
namespace Go.Proofs.YtajjjghohakniaaGreat
open Go Go.Vx R
set_option maxRecDepth 100000
def setB (T:GTable) (p:List GAssign):List (List V):=(List.range T.cols.length).map fun(j:Nat)=> [.bool (p.any fun y=>colF T y.name==(j:Int))]
theorem zL1 (T:GTable) (p:List GAssign):(setB T p).length=T.cols.length:=by simp[setB]
theorem yV7 (T:GTable):setB T []=List.replicate T.cols.length [.bool false]:=by
 unfold setB
 rw[List.eq_replicate_iff]
 exact⟨by simp,fun r hr=>by obtain⟨j,_,rfl⟩:=List.mem_map.1 hr;rfl⟩
theorem zW1 (T:GTable) (p:List GAssign) {j:Nat} (h:j<T.cols.length):(setB T p)[j]? =some [.bool (p.any fun y=>colF T y.name==(j:Int))]:=by
 unfold setB
 rw[List.getElem?_map,List.getElem?_range h];rfl
theorem xh6 (T:GTable) (p:List GAssign) (x:GAssign) {j:Nat} (hj:colF T x.name=j) (h:j<T.cols.length):(setB T p).set j [.bool true]=setB T (p++ [x]):=by
 apply List.ext_getElem?
 intro i
 by_cases hi:i<T.cols.length
 ·rw[zW1 T _ hi,List.any_append,List.any_cons,List.any_nil,Bool.or_false,hj]
  by_cases e:i=j
  ·subst e
   rw[List.getElem?_set_self (by rw[zL1];exact h)]
   simp
  ·rw[List.getElem?_set_ne (fun q=>e q.symm),zW1 T _ hi]
   have:((j:Int)==(i:Int))=false:=by simp;omega
   rw[this,Bool.or_false]
 ·rw[List.getElem?_eq_none (by simp[zL1];omega),List.getElem?_eq_none (by rw[zL1];omega)]
theorem ye3 {α:Type} (p:α→Bool): ∀(l:List α) (i j:Nat),xD p l i=((i+j:Nat):Int)→ ∃x,l[j]? =some x∧p x=true
 | [],i,j,h=>by rw[xD]at h;omega
 |x::l,i,j,h=>by
  rw[xD]at h
  split at h
  ·rename_i hp
   have:j=0:=by omega
   subst this
   exact⟨x,rfl,hp⟩
  ·have hge:=zL8 p l (i+1)
   cases j with
   |zero=>omega
   |succ j=>exact ye3 p l (i+1) j (by rw[h];congr 1;omega)
theorem yg5 {T:GTable} {s:List UInt8} {j:Nat} (h:colF T s=j):(T.cols[j]?).map (·.name)=some s:=by
 obtain⟨x,hx,hp⟩:=ye3 (fun c:GCol=>c.name==s) T.cols 0 j (by rw[Nat.zero_add];exact h)
 rw[hx]
 have:x.name=s:=by simpa using hp
 rw[←this];rfl
theorem xf9 (T:GTable) (p:List GAssign) (x:GAssign) {j:Nat} (hj:colF T x.name=j):(p.any fun y=>colF T y.name==(j:Int))=p.any fun y=>y.name==x.name:=by
 induction p with
 |nil=>rfl
 |cons y p ih=>
  rw[List.any_cons,List.any_cons,ih]
  congr 1
  by_cases e:y.name=x.name
  ·rw[e,hj];simp
  ·have: ¬colF T y.name=j:=fun h=>by
    have a1:=yg5 hj
    have a2:=yg5 h
    rw[a1]at a2
    exact e (by simpa using a2.symm)
   have n1:(colF T y.name==(j:Int))=false:=by simpa using this
   have n2:(y.name==x.name)=false:=by simpa using e
   rw[n1,n2]
set_option maxHeartbeats 4000000 in
theorem yn8 (T:GTable) (hT:T.cols.length≤1000) (st:GStmt) (hs:SOk st):Pure Tryz.prog 47 [.agg T.row,.agg st.row] (.int .i64 (if zm6 T [] st.sets≠0 then zm6 T [] st.sets else zj5 T st)):=by
 have hwh:=zJ9 T (by unfold maxLen;omega) st hs
 obtain⟨L,hL⟩: ∃L,st.sets=L:=⟨_,rfl⟩
 obtain⟨hLl,hLx⟩:=hs.sets
 rw[hL]at hLl hLx
 rw[hL]
 generalize hM:(if zm6 T [] L≠0 then zm6 T [] L else zj5 T st)=M
 generalize zj5 T st=wh at hwh hM
 obtain⟨n,hn⟩: ∃n,T.cols.length=n:=⟨_,rfl⟩
 have hnil:=yV7 T
 rw[hn]at hnil
 refine VCalls.introV 0 Tryz.func47 Tryz.ntmps47 Tryz.results47 rfl rfl (Nat.le_of_ble_eq_true rfl) fun c hc hb=> ?_
 refine zo6 13 (by decide) ?_
 refine zC ?_
 simp[go_sem,hL,hn]
 refine zP (by omega) ?_
 simp[go_sem,←hnil]
 refine zL (S:=Nat) [2,3,5,6] (fun i=> [.ptr 0 0,.ptr 1 0,.lsv 2 1 n 0 n,.int .i64 (i:Int)]) (fun i=> [.box T.row,.box st.row,.lst (setB T (L.take i)) 1]) (fun i=>L.length - i)
  (fun i=>i≤L.length∧(if zm6 T (L.take i) (L.drop i)≠0 then zm6 T (L.take i) (L.drop i)else wh)=M) hc hb 0 ⟨Nat.zero_le _,hM⟩ ?_ ?_
 ·exact at_n 3 (by simp[go_sem,hL]) rfl (by simp[ltOb,ltC,ltK,setB,GTable.row,GStmt.row]) (Nat.zero_le _) (zD (by simp[go_sem]) rfl)
 rintro i ⟨hi,hinv⟩
 have hok: ∀p:List GAssign,([.box T.row,.box st.row,.lst (setB T p) 1]:St).all (ltOb 3)=true:=fun p=>by simp[ltOb,ltC,ltK,setB,GTable.row,GStmt.row]
 by_cases q:i<L.length
 rotate_left
 ·rw[List.drop_eq_nil_of_le (by omega),zm6]at hinv
  refine zC ?_
  simp[go_sem,hL,q]
  refine zE hwh Tryz.callB48 (zF (by rw[←hL];rfl) rfl) rfl ?_
  simp[go_sem]
  exact iret hinv
 have ei:=zT q (by omega)
 obtain⟨x,hx⟩: ∃x,L[i]=x:=⟨_,rfl⟩
 obtain⟨hxn,hE⟩:=hLx x (hx▸List.getElem_mem q)
 have hcol:=zL6 T x.name (by unfold maxLen;omega)
 rw[show xD (fun c:GCol=>c.name==x.name) T.cols 0=colF T x.name from rfl]at hcol
 have htk:L.take (i+1)=L.take i++ [x]:=by rw[List.take_add_one,List.getElem?_eq_getElem q,hx];rfl
 rw[List.drop_eq_getElem_cons q,hx]at hinv
 generalize hS:zm6 T (L.take i) (x::L.drop (i+1))=S at hinv
 rw[zm6,←htk]at hS
 have bad:S≠0→S=M:=fun h=>by rw[if_pos h]at hinv;exact hinv
 by_cases qc:colF T x.name<0
 ·have qc':decide (colF T x.name<0)=true:=decide_eq_true qc
  rw[if_pos qc]at hS
  have hM:=bad (by rw[←hS];decide)
  refine zC ?_
  simp[go_sem,hL,q]
  refine zX [(7,0)] 2 (by simp) (by kernel_rfl) (by kernel_rfl) ?_
  simp[go_sem,q,hx]
  refine zS hcol Tryz.callB94 (fun _=>zF (by simp[go_sem]) rfl) rfl ?_
  simp[go_sem,qc']
  exact iret (hS.trans hM)
 have qc':decide (colF T x.name<0)=false:=decide_eq_false qc
 rw[if_neg qc]at hS
 obtain⟨j,hj,hjl⟩:=zt8 T x.name qc
 obtain⟨C,hC⟩: ∃C,T.cols[j]=C:=⟨_,rfl⟩
 have hck:colK T (colF T x.name)=C.kind:=by
  unfold colK
  rw[hj,Int.toNat_natCast,List.getElem?_eq_getElem hjl,hC];rfl
 rw[hck,zK9]at hS
 have hty:=zy1 T (by unfold maxLen;omega) x.e hE
 generalize xV T x.e=ty at hty hS
 have ho:Pure Tryz.prog 102 [.int .i64 ty.1,.int .i64 C.kind] (.bool (oneB ty.1 C.kind)):=zU6 ty.1 C.kind
 generalize oneB ty.1 C.kind=ob at ho hS
 have hnm:=xf9 T (L.take i) x hj
 have hgb:=zW1 T (L.take i) hjl
 have hadd:=xh6 T (L.take i) x hj hjl
 rw[←htk]at hadd
 rw[hnm]at hgb
 generalize ((L.take i).any fun y=>y.name==x.name)=b at hgb hS
 have hgb2:=(List.getElem?_eq_some_iff.1 hgb).2
 have hsl:=zL1 T (L.take i)
 rw[hn]at hjl hsl
 rw[hj]at hcol hS qc'
 by_cases qk:(j:Int)=T.key∨((j:Int)=0∧T.place=0)
 ·rw[if_pos qk]at hS
  have hM:=bad (by rw[←hS];decide)
  refine zC ?_
  simp[go_sem,hL,q]
  refine zX [(7,0)] 2 (by simp) (by kernel_rfl) (by kernel_rfl) ?_
  simp[go_sem,q,hx]
  refine zS hcol Tryz.callB94 (fun _=>zF (by simp[go_sem]) rfl) rfl ?_
  simp[go_sem,qc']
  by_cases k1:(j:Int)=T.key
  ·have k1':((j:Int)==T.key)=true:=by simpa using k1
   simp[go_sem,k1']
   exact iret (hS.trans hM)
  ·have k1':((j:Int)==T.key)=false:=by simpa using k1
   obtain⟨k2,k3⟩:=qk.resolve_left k1
   have k2':((j:Int)==0)=true:=by simpa using k2
   have k3':(T.place==0)=true:=by simpa using k3
   simp[go_sem,k1',k2',k3']
   exact iret (hS.trans hM)
 rw[if_neg qk]at hS
 have k1':((j:Int)==T.key)=false:=by simpa using fun h=>qk (.inl h)
 have key:((j:Int)==0)=false∨(((j:Int)==0)=true∧(T.place==0)=false):=by
  by_cases k2:(j:Int)=0
  ·exact .inr ⟨by simpa using k2,by simpa using fun h=>qk (.inr ⟨k2,h⟩)⟩
  ·exact .inl (by simpa using k2)
 refine zC ?_
 simp[go_sem,hL,q]
 refine zX [(7,0)] 2 (by simp) (by kernel_rfl) (by kernel_rfl) ?_
 simp[go_sem,q,hx]
 refine zS hcol Tryz.callB94 (fun _=>zF (by simp[go_sem]) rfl) rfl ?_
 simp[go_sem,qc',k1']
 rcases key with k2'|⟨k2',k3'⟩
 case' inl=>simp[go_sem,k2',hsl,hjl,hgb2]
 case' inr=>simp[go_sem,k2',k3',hsl,hjl,hgb2]
 all_goals
  refine(Bool.eq_false_or_eq_true b).elim (fun p=> ?_) (fun p=> ?_)
  ·rw[if_pos p]at hS
   simp[go_sem,p]
   exact iret (hS.trans (bad (by rw[←hS];decide)))
  rw[if_neg (by rw[p];decide)]at hS
  have hS:=xr9 hS
  simp[go_sem,p,hsl,hjl]
  refine zX [(7,0)] 3 (by simp) (by kernel_rfl) (by kernel_rfl) ?_
  simp[go_sem,q,hx]
  refine zS hty Tryz.callB41 (fun _=>⟨zA rfl,zY6 x.e,trivial⟩) rfl ?_
  simp[go_sem,yK]
  by_cases qe:ty.2=0
  rotate_left
  ·have qe':(ty.2 !=0)=true:=by simpa using qe
   rw[if_pos qe]at hS
   have hS:ty.2=S:=hS.elim (·.2) (fun h=>absurd h.1 qe)
   simp[go_sem,qe']
   exact iret (hS.trans (bad (by rw[←hS];exact qe)))
  have qe':(ty.2 !=0)=false:=by simpa using qe
  rw[if_neg (fun h=>h qe)]at hS
  simp[go_sem,qe',hn,hjl,hC]
  refine zE ho Tryz.callB102 (zH rfl) rfl ?_
  refine(Bool.eq_false_or_eq_true ob).elim (fun p=> ?_) (fun p=> ?_)
  ·rw[if_pos p]at hS
   have hS:=hS.elim (fun h=>absurd rfl h.1) (·.2)
   rw[←hS]at hinv
   simp[go_sem,p,ei]
   exact zN (i+1) ⟨by omega,⟨by omega,hinv⟩,at_n 3 (by simp[go_sem,hL,hgb2,hadd]) rfl (hok _) (Nat.zero_le _) (zD (by simp[go_sem]) rfl)⟩
  ·rw[if_neg (by rw[p];decide)]at hS
   have hS:15=S:=hS.elim (·.2) (fun h=>by cases h.1)
   simp[go_sem,p]
   exact iret (hS.trans (bad (by rw[←hS];decide)))
end Go.Proofs.YtajjjghohakniaaGreat
namespace Go.Proofs.YtajjjghohakniaaGreat
open Go Go.Vx R
set_option maxRecDepth 100000
theorem yy2 (x:GItem) (l:List GItem):za8 (x::l)=((x.kind==3||x.kind==4)||za8 l):=by unfold za8;rw[List.any_cons]
theorem yu9 (x:GItem) (l:List GItem):zb4 (x::l)=((x.kind==2)||zb4 l):=by unfold zb4;rw[List.any_cons]
set_option maxHeartbeats 4000000 in
theorem yl4 (T:GTable) (hT:T.cols.length≤maxLen) (st:GStmt) (hs:SOk st) (hk: ∀x∈st.items,x.kind=1∨x.kind=2∨x.kind=3∨x.kind=4):Pure Tryz.prog 45 [.agg T.row,.agg st.row] (.int .i64 (zB2 T st)):=by
 obtain⟨L,hL⟩: ∃L,st.items=L:=⟨_,rfl⟩
 obtain⟨hLl,hLx⟩:=hs.items
 rw[hL]at hLl hLx hk
 have hwh:=zJ9 T hT st hs
 have hcol:=zL6 T st.order hT
 rw[show xD (fun c:GCol=>c.name==st.order) T.cols 0=colF T st.order from rfl]at hcol
 generalize hM:zB2 T st=M
 unfold zB2 endC at hM
 rw[hL]at hM
 generalize zj5 T st=wh at hwh hM
 generalize colF T st.order=co at hcol hM
 refine VCalls.introV 0 Tryz.func45 Tryz.ntmps45 Tryz.results45 rfl rfl (Nat.le_of_ble_eq_true rfl) fun c hc hb=> ?_
 refine wM (zC ?_)
 simp[go_sem]
 refine wM (zC ?_)
 simp[go_sem]
 refine zf4 (S:=Nat×Nat) [2,3,5,6] (fun u=> [.ptr 0 0,.ptr 1 0,.int .i64 (u.1:Int),.int .i64 (u.2:Int)]) (fun _=> [.box T.row,.box st.row]) (fun u=>decide (0<u.1)=za8 L∧decide (0<u.2)=zb4 L∧za7 T L=0) hc hb ?_ ?_
 ·refine wM (zC ?_)
  simp[go_sem]
  refine zk6 ?_
  refine zL (S:=Nat×Nat×Nat) [2,3,5,6,7] (fun u=> [.ptr 0 0,.ptr 1 0,.int .i64 (u.2.1:Int),.int .i64 (u.2.2:Int),.int .i64 (u.1:Int)]) (fun _=> [.box T.row,.box st.row]) (fun u=>L.length - u.1)
   (fun u=>u.1≤L.length∧u.2.1≤u.1∧u.2.2≤u.1∧(decide (0<u.2.1)||za8 (L.drop u.1))=za8 L∧(decide (0<u.2.2)||zb4 (L.drop u.1))=zb4 L∧za7 T (L.drop u.1)=za7 T L) hc hb (0,0,0) ⟨Nat.zero_le _,Nat.le_refl _,Nat.le_refl _,by simp,by simp,by simp⟩ ?_ ?_
  ·exact at_n 2 (by simp[go_sem,hL]) rfl (st_T T st 2) (Nat.zero_le _) (zD (by simp[go_sem]) rfl)
  rintro⟨i,s,p⟩ ⟨hi,hsi,hpi,hw,hp,hinv⟩
  simp only at hi hsi hpi hw hp hinv
  by_cases q:i<L.length
  rotate_left
  ·rw[List.drop_eq_nil_of_le (by omega)]at hw hp hinv
   have hw:decide (0<s)=za8 L:=by rw[←hw];exact(Bool.or_false _).symm
   have hp:decide (0<p)=zb4 L:=by rw[←hp];exact(Bool.or_false _).symm
   refine zC ?_
   simp[go_sem,hL,q]
   exact zN (s,p) ⟨⟨hw,hp,hinv.symm⟩,at_n 2 (by simp[go_sem,hL]) rfl (st_T T st 2) (Nat.zero_le _) (zD (by simp[go_sem]) rfl)⟩
  have ei:=zT q (by omega)
  have es:IntKind.i64.wrap ((s:Int)+1)=((s+1:Nat):Int):=by rw[i64_id (by omega) (by omega)];omega
  have ep:IntKind.i64.wrap ((p:Int)+1)=((p+1:Nat):Int):=by rw[i64_id (by omega) (by omega)];omega
  obtain⟨x,hx⟩: ∃x,L[i]=x:=⟨_,rfl⟩
  have hxm:x∈L:=hx▸List.getElem_mem q
  have hE:=(hLx x hxm).2
  have hxk:=hk x hxm
  rw[List.drop_eq_getElem_cons q,hx]at hp hw hinv
  rw[yu9]at hp
  rw[yy2]at hw
  rw[za7]at hinv
  have bad:zH4 T x≠0→zH4 T x=M:=fun h=>by
   rw[if_pos h]at hinv
   rw[←hM,←hinv,if_pos h]
  have good:zH4 T x=0→za7 T (L.drop (i+1))=za7 T L:=fun h=>by
   rw[if_neg (fun g=>g h)]at hinv
   exact hinv
  clear hinv
  unfold zH4 at bad good
  rw[zK9]at bad good
  have hty:=zy1 T hT x.e hE
  generalize xV T x.e=ty at hty bad good
  have ho:Pure Tryz.prog 102 [.int .i64 ty.1,.int .i64 2] (.bool (oneB ty.1 2)):=zU6 ty.1 2
  generalize oneB ty.1 2=ob at ho bad good
  have go: ∀(a b:Nat) (e σ),a≤i+1→b≤i+1→(decide (0<a)||za8 (L.drop (i+1)))=za8 L→(decide (0<b)||zb4 (L.drop (i+1)))=zb4 L→za7 T (L.drop (i+1))=za7 T L→At 0 [2,3,5,6,7] [.ptr 0 0,.ptr 1 0,.int .i64 (a:Int),.int .i64 (b:Int),.int .i64 ((i+1:Nat):Int)] [.box T.row,.box st.row] e σ→
   Vx.Next (fun s':Nat×Nat×Nat=>L.length - s'.1<L.length - i∧(s'.1≤L.length∧s'.2.1≤s'.1∧s'.2.2≤s'.1∧(decide (0<s'.2.1)||za8 (L.drop s'.1))=za8 L∧(decide (0<s'.2.2)||zb4 (L.drop s'.1))=zb4 L∧za7 T (L.drop s'.1)=za7 T L)∧At 0 [2,3,5,6,7] [.ptr 0 0,.ptr 1 0,.int .i64 (s'.2.1:Int),.int .i64 (s'.2.2:Int),.int .i64 (s'.1:Int)] [.box T.row,.box st.row] e σ) fx:=fun a b e σ h0 h00 h1 h2 h3 h4=>
    zN (i+1,a,b) ⟨by simp only;omega,⟨by simp only;omega,h0,h00,h1,h2,h3⟩,h4⟩
  refine zC ?_
  simp[go_sem,hL,q,hx]
  rcases hxk with k1|k2|k3|k4
  ·simp only[k1]at bad good hw hp
   simp[go_sem,k1,ei]
   exact go s p _ _ (by omega) (by omega) (by simpa using hw) (by simpa using hp) (good rfl) (at_n 2 (by simp[go_sem,hL]) rfl (st_T T st 2) (Nat.zero_le _) (zD (by simp[go_sem]) rfl))
  ·simp only[k2,if_true]at bad good hw hp
   simp[go_sem,k2]
   refine zE hty Tryz.callB41 (zF (by simp[go_sem]) (by rw[GExpr.row_eq];rfl)) rfl ?_
   simp[go_sem,yK]
   by_cases qe:ty.2=0
   ·have qe':(ty.2 !=0)=false:=by simpa using qe
    simp[go_sem,qe',ei,ep]
    exact go s (p+1) _ _ (by omega) (by omega) (by simpa using hw) (by simpa using hp) (good qe) (at_n 2 (by simp[go_sem,hL]) rfl (st_T T st 2) (Nat.zero_le _) (zD (by simp[go_sem]) rfl))
   ·have qe':(ty.2 !=0)=true:=by simpa using qe
    simp[go_sem,qe']
    exact iret (bad qe)
  ·simp only[k3]at bad good hw hp
   simp[go_sem,k3,ei,es]
   exact go (s+1) p _ _ (by omega) (by omega) (by simpa using hw) (by simpa using hp) (good rfl) (at_n 2 (by simp[go_sem,hL]) rfl (st_T T st 2) (Nat.zero_le _) (zD (by simp[go_sem]) rfl))
  ·have n42: ¬(4:Int)=2:=by decide
   simp only[k4,if_neg n42,if_true]at bad good hw hp
   simp[go_sem,k4]
   refine zE hty Tryz.callB41 (zF (by simp[go_sem]) (by rw[GExpr.row_eq];rfl)) rfl ?_
   simp[go_sem,yK]
   by_cases qe:ty.2=0
   rotate_left
   ·have qe':(ty.2 !=0)=true:=by simpa using qe
    rw[if_pos qe]at bad
    simp[go_sem,qe']
    exact iret (bad qe)
   have qe':(ty.2 !=0)=false:=by simpa using qe
   rw[if_neg (fun h=>h qe)]at bad good
   simp[go_sem,qe',es]
   refine zE ho Tryz.callB102 (zH rfl) rfl ?_
   refine(Bool.eq_false_or_eq_true ob).elim (fun p1=> ?_) (fun p1=> ?_)
   ·rw[if_pos p1]at good
    simp[go_sem,p1,ei]
    exact go (s+1) p _ _ (by omega) (by omega) (by simpa using hw) (by simpa using hp) (good rfl) (at_n 2 (by simp[go_sem,hL]) rfl (st_T T st 2) (Nat.zero_le _) (zD (by simp[go_sem]) rfl))
   ·rw[if_neg (by rw[p1];decide)]at bad
    simp[go_sem,p1]
    exact iret (bad (by decide))
 ·rintro⟨s,p⟩ ⟨hw,hp,hI⟩
  simp only at hw hp
  rw[if_neg (fun h=>h hI),←hp,←hw]at hM
  clear hw hp hI
  have ho1:(st.order== [])=st.order.isEmpty:=by cases st.order<;>rfl
  generalize hbs:decide (0<s)=bs at hM
  generalize hbp:decide (0<p)=bp at hM
  have key:(bs=true∧bp=true)∨(bs=true∧bp=false)∨bs=false:=by cases bs<;>cases bp<;>simp
  have tail: ¬(bp&&bs)=true→(if wh≠0 then wh else if st.order.isEmpty=true then 0 else if co<0 then 14 else if bs=true then 9 else 0)=M:=fun h=>by rw[if_neg h]at hM;exact hM
  refine zC ?_
  simp[go_sem,hbs]
  rcases key with ⟨w1,w2⟩|⟨w1,w2⟩|w1
  ·rw[w1,w2]at hM
   simp[go_sem,hbp,w1,w2]
   exact iret hM
  case' inr.inl=>
   have hT:=tail (by rw[w2,Bool.false_and];decide)
   simp[go_sem,hbp,w1,w2]
  case' inr.inr=>
   have hT:=tail (by rw[w1,Bool.and_false];decide)
   simp[go_sem,w1]
  all_goals
   refine zE hwh Tryz.callB48 (zF (by simp[go_sem]) rfl) rfl ?_
   by_cases qe:wh=0
   rotate_left
   ·have qe':(wh !=0)=true:=by simpa using qe
    rw[if_pos qe]at hT
    simp[go_sem,qe']
    exact iret hT
   have qe':(wh !=0)=false:=by simpa using qe
   rw[if_neg (fun h=>h qe)]at hT
   simp[go_sem,qe',ho1]
   refine(Bool.eq_false_or_eq_true st.order.isEmpty).elim (fun w3=> ?_) (fun w3=> ?_)
   ·rw[if_pos w3]at hT
    simp[go_sem,w3]
    exact iret (qe.trans hT)
   rw[if_neg (by rw[w3];decide)]at hT
   simp[go_sem,w3]
   refine zE hcol Tryz.callB94 (zF (by simp[go_sem]) rfl) rfl ?_
   by_cases w4:co<0
   ·have w4':decide (co<0)=true:=decide_eq_true w4
    rw[if_pos w4]at hT
    simp[go_sem,w4']
    exact iret hT
   have w4':decide (co<0)=false:=decide_eq_false w4
   rw[if_neg w4]at hT
   simp[go_sem,w4',hbs,w1]
   exact iret (by rw[←hT,w1];rfl)
end Go.Proofs.YtajjjghohakniaaGreat
