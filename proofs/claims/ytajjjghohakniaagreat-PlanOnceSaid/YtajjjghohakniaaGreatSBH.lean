/-
  Contracts of functions that the claimed statement reaches, each proved over trees (the library Vx); used by the theorem at the end of the claim.
  Conditions: as each theorem states them.
-/
import Derived.Test.YtajjjghohakniaaGreatSBE
import Derived.Test.YtajjjghohakniaaGreatSBG
namespace Go.Proofs.YtajjjghohakniaaGreat
open Go Go.Vx R
set_option maxRecDepth 100000
def regC (n:Int):Int:=if 4<(if n< -1 then -1 else n)then 4 else if n< -1 then -1 else n
theorem regC_in (n:Int):regC n= -1∨regC n=0∨regC n=1∨regC n=2∨regC n=3∨regC n=4:=by
 unfold regC
 repeat' split
 all_goals omega
def regN (T:GTable) (r:List GExpr):Option Int:=
 if T.place=0 then(if(evN (r.getD 0 zeroE)).2≠0∨(evN (r.getD 0 zeroE)).1.kind≠2 then none else some (regC (evN (r.getD 0 zeroE)).1.n))else some 0
def rowS (t:Int) (r:List GExpr) (U:US):US:=
 match tabsS[t.toNat]? with
 |none=>U
 |some T=>
  if r.length≤T.key.toNat then U else
  if(evN (r.getD T.key.toNat zeroE)).2≠0∨(evN (r.getD T.key.toNat zeroE)).1.kind=0 then U else
  match regN T r with
  |none=>U
  |some g=>if(rangeS t g).2≠0 then U else needF (rangeS t g).1 ⟨boundF 3 t (evN (r.getD T.key.toNat zeroE)).1,boundF 3 t (evN (r.getD T.key.toNat zeroE)).1++ [0]⟩ U
theorem rowS_bd (t:Int) (r:List GExpr) (n:Nat) (U:US) (h:Bd n U):Bd (n+1) (rowS t r U):=by
 unfold rowS
 split
 ·exact⟨by have:=h.1;omega,fun y hy=>by have:=h.2 y hy;omega⟩
 ·split
  ·exact⟨by have:=h.1;omega,fun y hy=>by have:=h.2 y hy;omega⟩
  ·split
   ·exact⟨by have:=h.1;omega,fun y hy=>by have:=h.2 y hy;omega⟩
   ·split
    ·exact⟨by have:=h.1;omega,fun y hy=>by have:=h.2 y hy;omega⟩
    ·split
     ·exact⟨by have:=h.1;omega,fun y hy=>by have:=h.2 y hy;omega⟩
     ·exact Bd.need h _ _
section
variable {b:List V} {rows:List (List V)} {A:List Nat} {τ:St}
theorem gS_at (i:Nat):(gS b rows A++τ)[A.length+2+i]? =τ[i]? :=by
 rw[List.getElem?_append_right (by rw[gS_len];omega),gS_len];congr 1;omega
theorem gS_take2:(gS b rows A++τ).take (A.length+2)=gS b rows A:=by rw[←gS_len (b:=b) (rows:=rows),List.take_left]
theorem gS_get5:(gS b rows A++τ)[A.length+5]? =τ[3]? :=gS_at 3
end
theorem vk_val {v:GValue} {k:Int} (h:VK v k):v.ok∧v.s.length≤500:=by
 have hm:=h.may
 have hn:=h.n
 unfold mayF at hm
 have:i64R v.kind∧v.s.length≤64:=by
  unfold i64R
  split at hm
  ·rename_i q;rw[q];simp at hm;exact⟨by decide,by rw[hm.2];decide⟩
  split at hm
  ·rename_i q;rw[q];simp at hm;exact⟨by decide,by rw[hm.2];decide⟩
  split at hm
  ·rename_i q;rw[q];simp at hm;exact⟨by decide,by rw[hm];decide⟩
  split at hm
  ·rename_i q;rw[q];simp at hm;exact⟨by decide,hm.2⟩
  ·cases hm
 exact⟨⟨this.1,hn,by unfold maxLen;omega⟩,by omega⟩
set_option maxHeartbeats 2000000 in
theorem row_w (tn:Nat) (T:GTable) (hT:tabsS[tn]? =some T) (r:List GExpr) (hr:r.length≤1000) (he: ∀e∈r,EOk e) (N:List (Int×List GSpan×Nat)) (A:List Nat) (h:NOk N A) (hB:Bd 1000 (uOf N)):
  VCalls Tryz.prog 33 [.ptr 0 0,schR tabsS,.int .i64 tn,.sl .ro (r.map GExpr.row)] (nSt N A) (fun x s=>x= .tup []∧ ∃N' A',s=nSt N' A'∧NOk N' A'∧uOf N'=rowS tn r (uOf N)):=by
 have hkey: ∃kk:Nat,T.key=(kk:Int):=by
  match tn,hT with
  |0,h=>simp[tabsS]at h;subst h;exact⟨1,rfl⟩
  |1,h=>simp[tabsS]at h;subst h;exact⟨0,rfl⟩
  |2,h=>simp[tabsS]at h;subst h;exact⟨0,rfl⟩
  |n+3,h=>simp[tabsS]at h
 obtain⟨kk,hkk⟩:=hkey
 generalize hM:rowS tn r (uOf N)=M
 unfold rowS at hM
 rw[Int.toNat_natCast,hT]at hM
 simp only at hM
 rw[hkk,Int.toNat_natCast]at hM
 have done: ∀(τ:St),uOf N=M→wret (some (.tup [])) (A.length+2) (fun x s=>x= .tup []∧ ∃N' A',s=nSt N' A'∧NOk N' A'∧uOf N'=M) (gS [.lsv 1 2 N.length 0 N.length] (N.map nRow) A++τ):=fun τ hM=>
  wret_s (A.length+2) (s:=gS [.lsv 1 2 N.length 0 N.length] (N.map nRow) A) gS_take2 gS_len (gS_ok _ _ h) (Nat.le_refl _) (argS_no rfl) ⟨rfl,N,A,rfl,h,hM⟩
 have htl:tn<tabsS.length:=(List.getElem?_eq_some_iff.1 hT).1
 have ht3:(tn:Int)=0∨(tn:Int)=1∨(tn:Int)=2:=by have:tn<3:=htl;omega
 have hTg:tabsS[tn]'htl=T:=(List.getElem?_eq_some_iff.1 hT).2
 have hk0:decide ((kk:Int)<0)=false:=decide_eq_false (by omega)
 refine VCalls.introV (A.length+2) Tryz.func33 Tryz.ntmps33 Tryz.results33 rfl (by simp[nSt,gS]) (Nat.le_of_ble_eq_true rfl) fun c hc hb=> ?_
 refine wVW_code ?_
 unfold nSt
 rw[←List.append_nil (gS _ _ _)]
 simp[go_sem,gS_len,schR,htl,hTg,gS_get2,gS_get3,hkk,hk0]
 have ret: ∀(τ:St),uOf N=M→wret (some (.tup [])) (A.length+2) (fun x s=>x= .tup []∧ ∃N' A',s=gS [.lsv 1 2 N'.length 0 N'.length] (N'.map nRow) A'∧NOk N' A'∧uOf N'=M) (gS [.lsv 1 2 N.length 0 N.length] (N.map nRow) A++τ):=done
 by_cases q1:r.length≤kk
 ·rw[if_pos q1]at hM
  have q1':decide (r.length≤kk)=true:=decide_eq_true q1
  simp[go_sem,q1']
  exact ret _ hM
 rw[if_neg q1]at hM
 have q1':decide (r.length≤kk)=false:=decide_eq_false q1
 have qk:kk<r.length:=by omega
 obtain⟨x,hx⟩: ∃x,r[kk]=x:=⟨_,rfl⟩
 have hxd:r.getD kk zeroE=x:=by rw[List.getD_eq_getElem?_getD,List.getElem?_eq_getElem qk,hx];rfl
 have hxo:=he x (hx▸List.getElem_mem qk)
 have hev:=EvalN_w x hxo
 rw[hxd]at hM
 simp[go_sem,q1',gS_get3,gS_len,hkk,qk,hx]
 refine wVC_pure hev Tryz.callB81 ⟨argS_agg ⟨argC_no rfl,argC_ro,argC_no rfl,argC_no rfl,argC_no rfl,argC_ro,argC_ro,argC_ro,argC_no rfl,argC_no rfl,argC_no rfl,trivial⟩,argS_ro,args_eq (by simp[go_sem]) (by rw[GExpr.row_eq];rfl)⟩ rfl ?_
 have hvo:(evN x).2=0→VK (evN x).1 (typeF noT x).1:=evN_ok hxo
 generalize evN x=kv at hM hvo⊢
 simp[go_sem,valP,gS_len,gS_get4]
 by_cases q2:kv.2=0
 rotate_left
 ·rw[if_pos (.inl q2)]at hM
  have q2':(kv.2 !=0)=true:=by simpa using q2
  simp[go_sem,q2']
  exact ret _ hM
 have q2':(kv.2 !=0)=false:=by simpa using q2
 by_cases q3:kv.1.kind=0
 ·rw[if_pos (.inr q3)]at hM
  have q3':(kv.1.kind==0)=true:=by simpa using q3
  simp[go_sem,q2',q3',gS_get4,gS_len]
  exact ret _ hM
 have q3':(kv.1.kind==0)=false:=by simpa using q3
 rw[if_neg (fun h=>h.elim (fun h=>h q2) q3)]at hM
 obtain⟨hvk,hvs⟩:=vk_val (hvo q2)
 have hbo:=Bound_w regsS (tabsS.map GTable.row) tn kv.1 (by decide) hvk hvs
 rw[show(tabsS.map GTable.row).length=3 from rfl]at hbo
 obtain⟨bd,hbd⟩: ∃bd,boundF 3 (tn:Int) kv.1=bd:=⟨_,rfl⟩
 have hbl:bd.length≤9223372036854775806:=by
  have:=keyF_len (v:=kv.1)
  rw[←hbd];unfold boundF;split
  ·simp only[List.length_cons];omega
  ·simp
 rw[hbd]at hbo hM
 simp[go_sem,q2',q3',gS_get4,gS_get3,gS_len]
 have hbd1':=uOf_bd hB
 by_cases q4:T.place=0
 ·have q4':(T.place==0)=true:=by simpa using q4
  have q5:0<r.length:=by omega
  obtain⟨y,hy⟩: ∃y,r[0]=y:=⟨_,rfl⟩
  have hyd:r.getD 0 zeroE=y:=by rw[List.getD_eq_getElem?_getD,List.getElem?_eq_getElem q5,hy];rfl
  have hyo:=he y (hy▸List.getElem_mem q5)
  have hev2:=EvalN_w y hyo
  unfold regN at hM
  rw[if_pos q4,hyd]at hM
  simp[go_sem,q4',q5,hy,gS_len]
  refine wVC_pure hev2 Tryz.callB81 ⟨argS_agg ⟨argC_no rfl,argC_ro,argC_no rfl,argC_no rfl,argC_no rfl,argC_ro,argC_ro,argC_ro,argC_no rfl,argC_no rfl,argC_no rfl,trivial⟩,argS_ro,args_eq (by simp[go_sem]) (by rw[GExpr.row_eq];rfl)⟩ rfl ?_
  generalize evN y=rv at hM⊢
  simp[go_sem,valP,gS_len,gS_get5]
  by_cases q6:rv.2=0
  rotate_left
  ·rw[if_pos (.inl q6)]at hM
   have q6':(rv.2 !=0)=true:=by simpa using q6
   simp[go_sem,q6']
   exact ret _ hM
  have q6':(rv.2 !=0)=false:=by simpa using q6
  by_cases q7:rv.1.kind=2
  rotate_left
  ·rw[if_pos (.inr q7)]at hM
   have q7':(rv.1.kind !=2)=true:=by simpa using q7
   simp[go_sem,q6',q7',gS_get5,gS_len]
   exact ret _ hM
  have q7':(rv.1.kind !=2)=false:=by simpa using q7
  rw[if_neg (fun h=>h.elim (fun h=>h q6) (fun h=>h q7))]at hM
  simp only at hM
  have hrg:=Range_at tn (regC rv.1.n) ht3 (regC_in _)
  obtain⟨⟨g,ge⟩,hg⟩: ∃g,rangeS tn (regC rv.1.n)=g:=⟨_,rfl⟩
  rw[hg]at hrg hM
  simp only at hM
  unfold regC at hrg
  simp[go_sem,q6',q7',gS_get5,gS_get3,gS_len]
  refine wVC_pure hrg Tryz.callB34 (args_eq (by simp[go_sem,schR]) rfl) rfl ?_
  simp[go_sem,rangeV]
  by_cases q8:ge=0
  rotate_left
  ·rw[if_pos q8]at hM
   have q8':(ge !=0)=true:=by simpa using q8
   simp[go_sem,q8']
   exact ret _ hM
  have q8':(ge !=0)=false:=by simpa using q8
  rw[if_neg (fun h=>h q8)]at hM
  have hcall:=need_w N A h g ⟨bd,bd++ [0]⟩ (by omega) (fun y hy=>by have:=hbd1'.2 y hy;omega)
  simp[go_sem,q8',gS_get4,gS_get3,gS_len]
  refine wVC_pure hbo Tryz.callB55 (args_eq (by simp[go_sem,schR]) rfl) rfl ?_
  simp[go_sem]
  refine wneed_i hbl ?_
  simp[go_sem]
  refine wVC_front hcall Tryz.callB35 (nSt_ok h) (by simp[ltOb,ltC,ltK]) ⟨argS_lt (n:=(nSt N A).length) (by simp[ltS,ltA,ltC,ltK,nSt_len]),argS_no rfl,argS_no rfl,trivial⟩ (fun r s h=>by
   obtain⟨rfl,N2,A2,rfl,h2,_⟩:=h
   exact⟨rfl,nSt_ok h2⟩) ?_
  rintro r' s ⟨rfl,N2,A2,rfl,hok2,hu2⟩ hle σ' pick hF2
  simp[go_sem]
  exact wret_front hF2 (by rw[gS_len];exact Nat.le_refl _) (nSt_ok hok2) hle rfl ⟨rfl,N2,A2,rfl,hok2,hu2.trans hM⟩
 have q4':(T.place==0)=false:=by simpa using q4
 unfold regN at hM
 rw[if_neg q4]at hM
 simp only at hM
 have hrg:=Range_at tn 0 ht3 (by omega)
 obtain⟨⟨g,ge⟩,hg⟩: ∃g,rangeS tn 0=g:=⟨_,rfl⟩
 rw[hg]at hrg hM
 simp only at hM
 simp[go_sem,q4',gS_get3,gS_len]
 refine wVC_pure hrg Tryz.callB34 (args_eq (by simp[go_sem,schR]) rfl) rfl ?_
 simp[go_sem,rangeV]
 by_cases q8:ge=0
 rotate_left
 ·rw[if_pos q8]at hM
  have q8':(ge !=0)=true:=by simpa using q8
  simp[go_sem,q8']
  exact ret _ hM
 have q8':(ge !=0)=false:=by simpa using q8
 rw[if_neg (fun h=>h q8)]at hM
 have hcall:=need_w N A h g ⟨bd,bd++ [0]⟩ (by omega) (fun y hy=>by have:=hbd1'.2 y hy;omega)
 simp[go_sem,q8',gS_get4,gS_get3,gS_len]
 refine wVC_pure hbo Tryz.callB55 (args_eq (by simp[go_sem,schR]) rfl) rfl ?_
 simp[go_sem]
 refine wneed_i hbl ?_
 simp[go_sem]
 refine wVC_front hcall Tryz.callB35 (nSt_ok h) (by simp[ltOb,ltC,ltK]) ⟨argS_lt (n:=(nSt N A).length) (by simp[ltS,ltA,ltC,ltK,nSt_len]),argS_no rfl,argS_no rfl,trivial⟩ (fun r s h=>by
  obtain⟨rfl,N2,A2,rfl,h2,_⟩:=h
  exact⟨rfl,nSt_ok h2⟩) ?_
 rintro r' s ⟨rfl,N2,A2,rfl,hok2,hu2⟩ hle σ' pick hF2
 simp[go_sem]
 exact wret_front hF2 (by rw[gS_len];exact Nat.le_refl _) (nSt_ok hok2) hle rfl ⟨rfl,N2,A2,rfl,hok2,hu2.trans hM⟩
end Go.Proofs.YtajjjghohakniaaGreat
