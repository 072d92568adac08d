/-
  Contracts of functions that the claimed statement reaches, each proved over trees (the library Vx); used by the theorem at the end of the claim.
  Conditions: as each theorem states them.
-/
import Derived.Test.YtajjjghohakniaaGreatSBD
import Derived.Test.YtajjjghohakniaaGreatSBA
namespace Go.Proofs.YtajjjghohakniaaGreat
open Go Go.Vx R
set_option maxRecDepth 100000
def cmpOps:List (List UInt8):= [[61],[60,62],[60],[60,61],[62],[62,61]]
def doesF (s:List UInt8) (l:List GValue):GValue×Int:=
 let x:=l.getD 0 zeroV
 let y:=l.getD 1 zeroV
 if s= [73,83,78,85,76,76]then(truthV (x.kind==0),0)
 else if s= [78,79,84,78,85,76,76]then(truthV (!(x.kind==0)),0)
 else if s= [65,78,68]then(bothL 0 l false,0)
 else if s= [79,82]then(bothL 1 l false,0)
 else if(l.any fun v=>v.kind==0)=true then(zeroV,0)
 else if s= [78,79,84]then(truthV (!trueF x),0)
 else if s= [78,69,71]then numberF (rngF (-x.n))
 else if cmpOps.contains s=true then(truthV (holdsF s (cmpV x y)),0)
 else numberF (reckonF s x.n y.n)
theorem valP_ret {x:GValue×Int} {M:GValue×Int} {σ:St} (h:x=M):wret (some (.tup [.agg x.1.row,.int .i64 x.2])) 0 (fun v s=>v=valP M∧s= []) σ:=by
 subst h
 exact wret_0 (argS_no rfl) ⟨rfl,rfl⟩
set_option maxHeartbeats 2000000 in
theorem does_w (s:List UInt8) (l:List GValue) (h1:1≤l.length) (h2:l.length≤2) (hn: ∀v∈l,okI v.n) (hs:l.length=1→s= [73,83,78,85,76,76]∨s= [78,79,84,78,85,76,76]∨s= [78,79,84]∨s= [78,69,71]):
  Pure Tryz.prog 177 [.str s,.sl .ro (l.map GValue.row)] (valP (doesF s l)):=by
 obtain⟨x,hx⟩: ∃x,l[0]'h1=x:=⟨_,rfl⟩
 have hxd:l.getD 0 zeroV=x:=by rw[List.getD_eq_getElem?_getD,List.getElem?_eq_getElem h1,hx];rfl
 have hx0:l[0]? =some x:=by rw[List.getElem?_eq_getElem h1,hx]
 have hpos:0<l.length:=h1
 have hxn:okI x.n:=hn x (hx▸List.getElem_mem h1)
 generalize hM:doesF s l=M
 have ret: ∀(v:GValue) (e:Int) (σ:St),(v,e)=M→wret (some (.tup [.agg v.row,.int .i64 e])) 0 (fun r s=>r=valP M∧s= []) σ:=fun v e σ h=>valP_ret h
 unfold doesF at hM
 simp only[hxd]at hM
 refine VCalls.introV 0 Tryz.func177 Tryz.ntmps177 Tryz.results177 rfl rfl (Nat.le_of_ble_eq_true rfl) fun c hc hb=> ?_
 by_cases a1:s= [73,83,78,85,76,76]
 ·rw[if_pos a1]at hM
  refine wVW_code ?_
  simp[go_sem,a1,hpos,hx]
  refine wVC_pure (null_w x) Tryz.callB196 (args_no rfl) rfl ?_
  simp[go_sem]
  refine wVC_pure (truth_w (x.kind==0)) Tryz.callB195 (args_no rfl) rfl ?_
  simp[go_sem]
  exact ret _ _ _ hM
 by_cases a2:s= [78,79,84,78,85,76,76]
 ·rw[if_neg a1,if_pos a2]at hM
  refine wVW_code ?_
  simp[go_sem,a2,hpos,hx]
  refine wVC_pure (null_w x) Tryz.callB196 (args_no rfl) rfl ?_
  simp[go_sem]
  refine wVC_pure (truth_w (!(x.kind==0))) Tryz.callB195 (args_no rfl) rfl ?_
  simp[go_sem]
  exact ret _ _ _ hM
 by_cases a3:s= [65,78,68]
 ·rw[if_neg a1,if_neg a2,if_pos a3]at hM
  refine wVW_code ?_
  simp[go_sem,a3]
  refine wVC_pure (both_w l 0 (by unfold maxLen;omega)) Tryz.callB197 (args_no rfl) rfl ?_
  simp[go_sem]
  exact ret _ _ _ hM
 by_cases a4:s= [79,82]
 ·rw[if_neg a1,if_neg a2,if_neg a3,if_pos a4]at hM
  refine wVW_code ?_
  simp[go_sem,a4]
  refine wVC_pure (both_w l 1 (by unfold maxLen;omega)) Tryz.callB197 (args_no rfl) rfl ?_
  simp[go_sem]
  exact ret _ _ _ hM
 rw[if_neg a1,if_neg a2,if_neg a3,if_neg a4]at hM
 have b1:(s== [73,83,78,85,76,76])=false:=by simpa using a1
 have b2:(s== [78,79,84,78,85,76,76])=false:=by simpa using a2
 have b3:(s== [65,78,68])=false:=by simpa using a3
 have b4:(s== [79,82])=false:=by simpa using a4
 refine wVW_code ?_
 simp[go_sem,b1,b2,b3,b4]
 refine wVW_while (S:=Nat) [0,1,4,5,32,33,34] (fun i=> [.str s,.sl .ro (l.map GValue.row),.ptr 0 0,.int .i64 0,.sl .ro (l.map GValue.row),.int .i64 l.length,.int .i64 i]) (fun _=> [.box [.int .i64 0,.int .i64 0,.str []]]) (fun i=>l.length - i)
  (fun i=>i≤l.length∧((l.drop i).any fun v=>v.kind==0)=(l.any fun v=>v.kind==0)) hc hb 0 ⟨Nat.zero_le _,rfl⟩ ?_ ?_
 ·exact at_n 1 (by simp[go_sem]) rfl (by simp[ltOb,ltC,ltK]) (Nat.zero_le _) (args_lt_eq (by simp[go_sem]) rfl)
 rintro i ⟨hi,hinv⟩
 by_cases q:i<l.length
 ·have ei:=i64_inc q (by omega)
  obtain⟨r,hr⟩: ∃r,l[i]=r:=⟨_,rfl⟩
  rw[List.drop_eq_getElem_cons q,List.any_cons,hr]at hinv
  refine wVW_code ?_
  simp[go_sem,q,hr]
  refine wVC_pure (null_w r) Tryz.callB196 (args_no rfl) rfl ?_
  simp[go_sem]
  by_cases w1:r.kind=0
  ·have w1':(r.kind==0)=true:=by simpa using w1
   rw[w1',Bool.true_or]at hinv
   rw[if_pos hinv.symm]at hM
   simp[go_sem,w1']
   exact ret zeroV 0 _ hM
  ·have w1':(r.kind==0)=false:=by simpa using w1
   rw[w1',Bool.false_or]at hinv
   simp[go_sem,w1',ei]
   exact next_i (i+1) ⟨by omega,⟨q,hinv⟩,at_n 1 (by simp[go_sem]) rfl (by simp[ltOb,ltC,ltK]) (Nat.zero_le _) (args_lt_eq (by simp[go_sem]) rfl)⟩
 have e:l.drop i= []:=List.drop_eq_nil_of_le (by omega)
 rw[e,List.any_nil]at hinv
 rw[if_neg (by rw[←hinv];exact Bool.false_ne_true)]at hM
 by_cases a5:s= [78,79,84]
 ·rw[if_pos a5]at hM
  refine wVW_code ?_
  simp[go_sem,q,a5,hpos,hx]
  refine wVC_pure (true_w x) Tryz.callB198 (args_no rfl) rfl ?_
  simp[go_sem]
  refine wVC_pure (truth_w (!trueF x)) Tryz.callB195 (args_no rfl) rfl ?_
  simp[go_sem]
  exact ret _ _ _ hM
 by_cases a6:s= [78,69,71]
 ·rw[if_neg a5,if_pos a6]at hM
  refine wVW_code ?_
  simp[go_sem,q,a6,hpos,hx]
  refine wVC_pure (minus_w 0 x.n (by decide) hxn) Tryz.callB200 (args_no rfl) rfl ?_
  simp[go_sem,pairV]
  refine wVC_pure (number_w (rngF (-x.n))) Tryz.callB199 (args_no rfl) rfl ?_
  simp[go_sem,valP]
  exact valP_ret hM
 rw[if_neg a5,if_neg a6]at hM
 have h3:1<l.length:=by
  by_cases q:1<l.length
  ·exact q
  ·rcases hs (by omega)with h|h|h|h
   ·exact absurd h a1
   ·exact absurd h a2
   ·exact absurd h a5
   ·exact absurd h a6
 obtain⟨y,hy⟩: ∃y,l[1]'h3=y:=⟨_,rfl⟩
 have hyd:l.getD 1 zeroV=y:=by rw[List.getD_eq_getElem?_getD,List.getElem?_eq_getElem h3,hy];rfl
 have hyn:okI y.n:=hn y (hy▸List.getElem_mem h3)
 rw[hyd]at hM
 have b5:(s== [78,79,84])=false:=by simpa using a5
 have b6:(s== [78,69,71])=false:=by simpa using a6
 have hcm:=compare_w x y
 have hho:=holds_w s (cmpV x y)
 have htr:=truth_w (holdsF s (cmpV x y))
 have hre:=reckon_w s x.n y.n hxn hyn
 have hnu:=number_w (reckonF s x.n y.n)
 by_cases a7:cmpOps.contains s=true
 ·rw[if_pos a7]at hM
  have a8:s= [61]∨s= [60,62]∨s= [60]∨s= [60,61]∨s= [62]∨s= [62,61]:=by
   simpa[cmpOps]using a7
  rcases a8 with a8|a8|a8|a8|a8|a8
  all_goals
   rw[a8]at hho htr hM
   refine wVW_code ?_
   simp[go_sem,q,a8]
   refine wdraw [(7,0),(8,0),(9,0)] 1 rfl (by kernel_rfl) (by kernel_rfl) ?_
   simp[go_sem,hpos,hx,h3,hy]
   refine wneed_i (by omega) ?_
   simp[go_sem]
   refine wVD_pure hcm Tryz.callB202 (fun _=>args_no rfl) rfl ?_
   simp[go_sem]
   refine wVD_pure hho Tryz.callB201 (fun _=>args_no rfl) rfl ?_
   simp[go_sem]
   refine wVD_pure htr Tryz.callB195 (fun _=>args_no rfl) rfl ?_
   simp[go_sem]
   exact ret _ _ _ hM
 rw[if_neg a7]at hM
 have a8: ¬s= [61]∧ ¬s= [60,62]∧ ¬s= [60]∧ ¬s= [60,61]∧ ¬s= [62]∧ ¬s= [62,61]:=by
  simpa[cmpOps]using a7
 have c1:(s== [61])=false:=by simpa using a8.1
 have c2:(s== [60,62])=false:=by simpa using a8.2.1
 have c3:(s== [60])=false:=by simpa using a8.2.2.1
 have c4:(s== [60,61])=false:=by simpa using a8.2.2.2.1
 have c5:(s== [62])=false:=by simpa using a8.2.2.2.2.1
 have c6:(s== [62,61])=false:=by simpa using a8.2.2.2.2.2
 refine wVW_code ?_
 simp[go_sem,q,b5,b6,c1,c2,c3,c4,c5,c6]
 refine wdraw [(9,0),(12,0)] 1 rfl (by kernel_rfl) (by kernel_rfl) ?_
 simp[go_sem,hpos,hx,h3,hy]
 refine wneed_i (by omega) ?_
 simp[go_sem]
 refine wVD_pure hre Tryz.callB203 (fun _=>args_no rfl) rfl ?_
 simp[go_sem,pairV]
 refine wVD_pure hnu Tryz.callB199 (fun _=>args_no rfl) rfl ?_
 simp[go_sem,valP]
 exact valP_ret hM
end Go.Proofs.YtajjjghohakniaaGreat
namespace Go.Proofs.YtajjjghohakniaaGreat
open Go Go.Vx R
set_option maxRecDepth 100000
mutual
def evF (T:GTable) (row:List GValue):GExpr→GValue×Int
 | .mk k s v args=>
  if k=1 then(v,0)else if k=2 then(row.getD (colF T s).toNat zeroV,0)
  else if(evsF T row args).2≠0 then(zeroV,(evsF T row args).2)else doesF s (evsF T row args).1
def evsF (T:GTable) (row:List GValue):List GExpr→List GValue×Int
 | []=>([],0)
 |e::l=>if(evF T row e).2≠0 then([],(evF T row e).2)else((evF T row e).1::(evsF T row l).1,(evsF T row l).2)
end
theorem evF_eq (T:GTable) (row:List GValue) (e:GExpr):evF T row e=
  if e.kind=1 then(e.v,0)else if e.kind=2 then(row.getD (colF T e.s).toNat zeroV,0)
  else if(evsF T row e.args).2≠0 then(zeroV,(evsF T row e.args).2)else doesF e.s (evsF T row e.args).1:=by cases e;rw[evF];rfl
structure VK (v:GValue) (k:Int):Prop where
 may:mayF v=true
 n:okI v.n
 kind:v.kind=k∨v.kind=0
theorem vk_zero (k:Int):VK zeroV k:=⟨by decide,by decide,.inr rfl⟩
theorem vk_truth (b:Bool):VK (truthV b) 1:=by cases b<;>exact⟨by decide,by decide,.inl rfl⟩
theorem rngF_ok (n:Int):okI (rngF n).1:=by
 unfold rngF
 split
 ·assumption
 ·decide
theorem reckonF_ok {s:List UInt8} {a b:Int} (ha:okI a) (hb:okI b):okI (reckonF s a b).1:=by
 unfold reckonF
 repeat' split
 all_goals first|exact rngF_ok _|exact tmod_ok ha hb|decide
theorem vk_number {r:Int×Int} (h:okI r.1):VK (numberF r).1 2:=by
 unfold numberF
 split
 ·exact⟨rfl,h,.inl rfl⟩
 ·exact vk_zero 2
theorem vk_both (w:Int): ∀(l:List GValue) (b:Bool),(∀v∈l,VK v 1)→VK (bothL w l b) 1
 | [],b,_=>by
  rw[bothL]
  split
  ·exact vk_zero 1
  ·exact vk_truth _
 |v::l,b,h=>by
  rw[bothL]
  split
  ·exact vk_both w l true fun x hx=>h x (List.mem_cons_of_mem _ hx)
  ·split
   ·exact h v (List.mem_cons_self ..)
   ·exact vk_both w l b fun x hx=>h x (List.mem_cons_of_mem _ hx)
theorem toldF_ok {m s:Bool} {k k':Int} (h:toldF m s k=(k',0)):m=true∧s=true∧k'=k:=by
 unfold toldF at h
 cases m<;>cases s<;>simp at h
 exact⟨rfl,rfl,h.symm⟩
inductive OpK (s:List UInt8) (ks:List Int) (k:Int):Prop
 |null (hs:s= [73,83,78,85,76,76]∨s= [78,79,84,78,85,76,76]) (hl:ks.length=1) (hk:k=1)
 |not (hs:s= [78,79,84]) (hl:ks.length=1) (ha:allK ks 1=true) (hk:k=1)
 |neg (hs:s= [78,69,71]) (hl:ks.length=1) (ha:allK ks 2=true) (hk:k=2)
 |both (hs:s= [79,82]∨s= [65,78,68]) (hl:ks.length=2) (ha:allK ks 1=true) (hk:k=1)
 |sum (hs:s= [43]∨s= [45]∨s= [42]∨s= [47]∨s= [37]) (hl:ks.length=2) (ha:allK ks 2=true) (hk:k=2)
 |cmp (hs:s= [61]∨s= [60,62]∨s= [60]∨s= [60,61]∨s= [62]∨s= [62,61]) (hl:ks.length=2) (hk:k=1)
theorem operF_ok {s:List UInt8} {ks:List Int} {k:Int} (h:operF s ks=(k,0)):OpK s ks k:=by
 have one:((ks.length:Int)==1)=true→ks.length=1:=fun h=>by
   have:(ks.length:Int)=1:=by simpa using h
   omega
 have two:((ks.length:Int)==2)=true→ks.length=2:=fun h=>by
   have:(ks.length:Int)=2:=by simpa using h
   omega
 unfold operF at h
 split at h
 ·obtain⟨h1,_,h3⟩:=toldF_ok h;exact .null (by assumption) (one h1) h3
 split at h
 ·obtain⟨h1,h2,h3⟩:=toldF_ok h;exact .not (by assumption) (one h1) h2 h3
 split at h
 ·obtain⟨h1,h2,h3⟩:=toldF_ok h;exact .neg (by assumption) (one h1) h2 h3
 split at h
 ·obtain⟨h1,h2,h3⟩:=toldF_ok h;exact .both (by assumption) (two h1) h2 h3
 split at h
 ·obtain⟨h1,h2,h3⟩:=toldF_ok h;exact .sum (by assumption) (two h1) h2 h3
 split at h
 ·obtain⟨h1,_,h3⟩:=toldF_ok h;exact .cmp (by assumption) (two h1) h3
 ·cases h
theorem all2_len {R:GValue→Int→Prop}: ∀{l:List GValue} {ks:List Int},All2 R l ks→l.length=ks.length
 | [],[],_=>rfl
 |_::_,_::_,⟨_,h⟩=>by rw[List.length_cons,List.length_cons,all2_len h]
theorem allK_vk {k:Int}: ∀{l:List GValue} {ks:List Int},All2 VK l ks→allK ks k=true→ ∀v∈l,VK v k
 | [],[],_,_,v,hv=>by cases hv
 |x::l,y::ks,⟨h1,h2⟩,ha,v,hv=>by
  unfold allK at ha
  rw[List.all_cons,Bool.and_eq_true,Bool.or_eq_true,beq_iff_eq,beq_iff_eq]at ha
  rcases List.mem_cons.1 hv with rfl|hv
  ·exact⟨h1.may,h1.n,by
    rcases h1.kind with q|q
    ·rcases ha.1 with r|r
     ·exact .inl (q.trans r)
     ·exact .inr (q.trans r)
    ·exact .inr q⟩
  ·exact allK_vk h2 ha.2 v hv
theorem all2_n {R:GValue→Int→Prop} (hR: ∀v k,R v k→okI v.n): ∀{l:List GValue} {ks:List Int},All2 R l ks→ ∀v∈l,okI v.n
 | [],[],_,v,hv=>by cases hv
 |x::l,y::ks,⟨h1,h2⟩,v,hv=>by
  rcases List.mem_cons.1 hv with rfl|hv
  ·exact hR _ _ h1
  ·exact all2_n hR h2 v hv
theorem doesF_not (l:List GValue):doesF [78,79,84] l=if(l.any fun v=>v.kind==0)=true then(zeroV,0)else(truthV (!trueF (l.getD 0 zeroV)),0):=rfl
theorem doesF_neg (l:List GValue):doesF [78,69,71] l=if(l.any fun v=>v.kind==0)=true then(zeroV,0)else numberF (rngF (-(l.getD 0 zeroV).n)):=rfl
theorem doesF_cmp {s:List UInt8} (hs:s= [61]∨s= [60,62]∨s= [60]∨s= [60,61]∨s= [62]∨s= [62,61]) (l:List GValue):
  doesF s l=if(l.any fun v=>v.kind==0)=true then(zeroV,0)else(truthV (holdsF s (cmpV (l.getD 0 zeroV) (l.getD 1 zeroV))),0):=by
 rcases hs with rfl|rfl|rfl|rfl|rfl|rfl<;>rfl
theorem doesF_sum {s:List UInt8} (hs:s= [43]∨s= [45]∨s= [42]∨s= [47]∨s= [37]) (l:List GValue):
  doesF s l=if(l.any fun v=>v.kind==0)=true then(zeroV,0)else numberF (reckonF s (l.getD 0 zeroV).n (l.getD 1 zeroV).n):=by
 rcases hs with rfl|rfl|rfl|rfl|rfl<;>rfl
theorem does_ok {s:List UInt8} {l:List GValue} {ks:List Int} {k:Int} (ho:operF s ks=(k,0)) (ha:All2 VK l ks):
  VK (doesF s l).1 k∧1≤l.length∧l.length≤2∧(∀v∈l,okI v.n)∧(l.length=1→s= [73,83,78,85,76,76]∨s= [78,79,84,78,85,76,76]∨s= [78,79,84]∨s= [78,69,71]):=by
 have hlen:=all2_len ha
 have hn:=all2_n (fun _ _ h=>VK.n h) ha
 have hx: ∀j,okI (l.getD j zeroV).n:=fun j=>by
  rw[List.getD_eq_getElem?_getD]
  cases hj:l[j]? with
  |none=>decide
  |some v=>exact hn v (List.mem_of_getElem? hj)
 have hng: ∀n:Int,okI (rngF n).1:=rngF_ok
 cases operF_ok ho with
 |null hs hl hk=>
  subst hk
  refine⟨?_,by omega,by omega,hn,fun _=>by rcases hs with h|h<;>simp[h]⟩
  rcases hs with rfl|rfl<;>exact vk_truth _
 |not hs hl hk' hk=>
  subst hs hk
  refine⟨?_,by omega,by omega,hn,fun _=>by simp⟩
  rw[doesF_not]
  split
  ·exact vk_zero 1
  ·exact vk_truth _
 |neg hs hl hk' hk=>
  subst hs hk
  refine⟨?_,by omega,by omega,hn,fun _=>by simp⟩
  rw[doesF_neg]
  split
  ·exact vk_zero 2
  ·exact vk_number (hng _)
 |both hs hl hk' hk=>
  subst hk
  refine⟨?_,by omega,by omega,hn,fun h=>by omega⟩
  rcases hs with rfl|rfl
  ·exact vk_both 1 l false (allK_vk ha hk')
  ·exact vk_both 0 l false (allK_vk ha hk')
 |sum hs hl hk' hk=>
  subst hk
  refine⟨?_,by omega,by omega,hn,fun h=>by omega⟩
  rw[doesF_sum hs]
  split
  ·exact vk_zero 2
  ·exact vk_number (reckonF_ok (hx 0) (hx 1))
 |cmp hs hl hk=>
  subst hk
  refine⟨?_,by omega,by omega,hn,fun h=>by omega⟩
  rw[doesF_cmp hs]
  split
  ·exact vk_zero 1
  ·exact vk_truth _
structure RowOk (T:GTable) (row:List GValue):Prop where
 len:row.length=T.cols.length
 cell: ∀(j:Nat) (C:GCol) (v:GValue),T.cols[j]? =some C→row[j]? =some v→VK v C.kind
theorem ev_ok {T:GTable} {row:List GValue} (hr:RowOk T row): ∀(n:Nat) (e:GExpr),deepF e≤n→Good e→(kindF T e).2=0→(evF T row e).2=0→VK (evF T row e).1 (kindF T e).1
 |0,e,h,_,_,_=>by have:=deepF_pos e;omega
 |n+1,e,h,hg,hk,he=>by
  have ih:=ev_ok hr n
  have hde:=deepF_eq e
  rw[evF_eq]at he⊢
  rw[kindF_eq]at hk⊢
  by_cases q1:e.kind=1
  ·rw[if_pos q1]at hk⊢
   rw[if_pos q1]
   by_cases w:e.s.isEmpty=false∨e.args.isEmpty=false∨mayF e.v=false
   ·rw[if_pos w]at hk;cases hk
   ·rw[if_neg w]
    refine⟨by
      cases hm:mayF e.v with
      |true=>rfl
      |false=>exact absurd (.inr (.inr hm)) w,⟨hg.v.n.1,hg.v.n.2⟩,.inl rfl⟩
  rw[if_neg q1]at hk he⊢
  rw[if_neg q1]
  by_cases q2:e.kind=2
  ·rw[if_pos q2]at hk⊢
   rw[if_pos q2]
   by_cases w:colF T e.s<0
   ·rw[if_pos w]at hk;cases hk
   rw[if_neg w]at hk⊢
   by_cases w2:e.args.isEmpty=false∨zeroB e.v=false
   ·rw[if_pos w2]at hk;cases hk
   rw[if_neg w2]
   obtain⟨j,hj,hjl⟩:=colF_rng T e.s w
   have hjr:j<row.length:=by rw[hr.len];exact hjl
   simp only
   rw[hj,Int.toNat_natCast,List.getD_eq_getElem?_getD,List.getElem?_eq_getElem hjr]
   unfold colK
   rw[Int.toNat_natCast,List.getElem?_eq_getElem hjl]
   exact hr.cell j _ _ (List.getElem?_eq_getElem hjl) (List.getElem?_eq_getElem hjr)
  rw[if_neg q2]at hk he⊢
  rw[if_neg q2]
  by_cases q3:e.kind=3
  rotate_left
  ·rw[if_neg q3]at hk;cases hk
  rw[if_pos q3]at hk⊢
  have hgs:=hg.sub
  have list: ∀args:List GExpr,(∀x∈args,x∈e.args)→(kindsF T args).2=0→(evsF T row args).2=0→All2 VK (evsF T row args).1 (kindsF T args).1:=by
   intro args
   induction args with
   |nil=>intro _ _ _;exact trivial
   |cons x l ihl=>
    intro hm hk he
    rw[kindsF]at hk⊢
    rw[evsF]at he⊢
    by_cases w1:(kindF T x).2=0
    rotate_left
    ·rw[if_pos w1]at hk;exact absurd hk w1
    by_cases w2:(evF T row x).2=0
    rotate_left
    ·rw[if_pos w2]at he;exact absurd he w2
    have n1: ¬(kindF T x).2≠0:=fun h=>h w1
    have n2: ¬(evF T row x).2≠0:=fun h=>h w2
    rw[if_neg n1]at hk⊢
    rw[if_neg n2]at he⊢
    have hx:=hm x (List.mem_cons_self ..)
    have hdx:=deepsF_mem e.args x hx
    exact⟨ih x (by omega) (hgs x hx) w1 w2,ihl (fun y hy=>hm y (List.mem_cons_of_mem _ hy)) hk he⟩
  by_cases w1:(kindsF T e.args).2=0
  rotate_left
  ·rw[if_pos w1]at hk;exact absurd hk w1
  by_cases w2:(evsF T row e.args).2=0
  rotate_left
  ·rw[if_pos w2]at he;exact absurd he w2
  have n1: ¬(kindsF T e.args).2≠0:=fun h=>h w1
  have n2: ¬(evsF T row e.args).2≠0:=fun h=>h w2
  rw[if_neg n1]at hk⊢
  rw[if_neg n2]at he⊢
  by_cases w3:zeroB e.v=false
  ·rw[if_pos w3]at hk;cases hk
  rw[if_neg w3]at hk⊢
  exact(does_ok (Prod.ext rfl hk) (list e.args (fun _ h=>h) w1 w2)).1
end Go.Proofs.YtajjjghohakniaaGreat
namespace Go.Proofs.YtajjjghohakniaaGreat
open Go Go.Vx R
set_option maxRecDepth 100000
theorem kindsF_mem {T:GTable}: ∀{args:List GExpr},(kindsF T args).2=0→ ∀x∈args,(kindF T x).2=0
 | [],_,x,hx=>by cases hx
 |y::l,h,x,hx=>by
  rw[kindsF]at h
  by_cases w:(kindF T y).2=0
  ·have n1: ¬(kindF T y).2≠0:=fun h=>h w
   rw[if_neg n1]at h
   rcases List.mem_cons.1 hx with rfl|hx
   ·exact w
   ·exact kindsF_mem h x hx
  ·rw[if_pos w]at h;exact absurd h w
theorem evs_ok {T:GTable} {row:List GValue} (hr:RowOk T row) (n:Nat): ∀{args:List GExpr},(∀x∈args,deepF x≤n∧Good x)→(kindsF T args).2=0→(evsF T row args).2=0→All2 VK (evsF T row args).1 (kindsF T args).1
 | [],_,_,_=>trivial
 |x::l,hm,hk,he=>by
  rw[kindsF]at hk⊢
  rw[evsF]at he⊢
  by_cases w1:(kindF T x).2=0
  rotate_left
  ·rw[if_pos w1]at hk;exact absurd hk w1
  by_cases w2:(evF T row x).2=0
  rotate_left
  ·rw[if_pos w2]at he;exact absurd he w2
  have n1: ¬(kindF T x).2≠0:=fun h=>h w1
  have n2: ¬(evF T row x).2≠0:=fun h=>h w2
  rw[if_neg n1]at hk⊢
  rw[if_neg n2]at he⊢
  have hx:=hm x (List.mem_cons_self ..)
  exact⟨ev_ok hr n x hx.1 hx.2 w1 w2,evs_ok hr n (fun y hy=>hm y (List.mem_cons_of_mem _ hy)) hk he⟩
set_option maxHeartbeats 2000000 in
theorem eval_w {T:GTable} {row:List GValue} (hr:RowOk T row) (hT:T.cols.length≤maxLen): ∀(n:Nat) (e:GExpr),deepF e≤n→Wide e→Good e→(kindF T e).2=0→Pure Tryz.prog 131 [.agg T.row,.sl .ro (row.map GValue.row),.agg e.row] (valP (evF T row e))
 |0,e,h,_,_,_=>by have:=deepF_pos e;omega
 |n+1,e,h,hw,hg,hk=>by
  have ih:=eval_w hr hT n
  have hok:= @evs_ok _ _ hr n
  have hde:=deepF_eq e
  have hlen:=hw.len
  have hsub:=hw.sub
  have hgs:=hg.sub
  have hcol:=Col_w T e.s hT
  rw[show findF (fun c:GCol=>c.name==e.s) T.cols 0=colF T e.s from rfl]at hcol
  obtain⟨M,hM⟩: ∃M,evF T row e=M:=⟨_,rfl⟩
  rw[hM]
  rw[evF_eq]at hM
  rw[kindF_eq]at hk
  have ret: ∀(v:GValue) (e:Int) (σ:St),(v,e)=M→wret (some (.tup [.agg v.row,.int .i64 e])) 0 (fun r s=>r=valP M∧s= []) σ:=fun v e σ h=>valP_ret h
  refine VCalls.introV 0 Tryz.func131 Tryz.ntmps131 Tryz.results131 rfl rfl (Nat.le_of_ble_eq_true rfl) fun c hc hb=> ?_
  refine wVW_code ?_
  simp[go_sem]
  by_cases q1:e.kind=1
  ·have q1':(e.kind==1)=true:=by simpa using q1
   rw[if_pos q1]at hM
   simp[go_sem,q1']
   exact ret _ _ _ hM
  rw[if_neg q1]at hM hk
  have q1':(e.kind==1)=false:=by simpa using q1
  by_cases q2:e.kind=2
  ·have q2':(e.kind==2)=true:=by simpa using q2
   rw[if_pos q2]at hM hk
   by_cases w:colF T e.s<0
   ·rw[if_pos w]at hk;cases hk
   obtain⟨j,hj,hjl⟩:=colF_rng T e.s w
   have hjr:j<row.length:=by rw[hr.len];exact hjl
   obtain⟨v,hv⟩: ∃v,row[j]=v:=⟨_,rfl⟩
   rw[hj,Int.toNat_natCast,List.getD_eq_getElem?_getD,List.getElem?_eq_getElem hjr,hv]at hM
   rw[hj]at hcol
   simp[go_sem,q1',q2']
   refine wVC_pure hcol Tryz.callB127 (args_eq (by simp[go_sem]) rfl) rfl ?_
   simp[go_sem,hjr,hv]
   exact ret _ _ _ hM
  rw[if_neg q2]at hM hk
  have q2':(e.kind==2)=false:=by simpa using q2
  by_cases q3:e.kind=3
  rotate_left
  ·rw[if_neg q3]at hk;cases hk
  rw[if_pos q3]at hk
  obtain⟨args,hargs⟩: ∃args,e.args=args:=⟨_,rfl⟩
  rw[hargs]at hde hlen hsub hgs hM hk
  by_cases w1:(kindsF T args).2=0
  rotate_left
  ·rw[if_pos w1]at hk;exact absurd hk w1
  have n1: ¬(kindsF T args).2≠0:=fun h=>h w1
  rw[if_neg n1]at hk
  by_cases w3:zeroB e.v=false
  ·rw[if_pos w3]at hk;cases hk
  rw[if_neg w3]at hk
  have hop:operF e.s (kindsF T args).1=((operF e.s (kindsF T args).1).1,0):=Prod.ext rfl hk
  have hmem:=kindsF_mem w1
  have hevs:(evsF T row args).2=0→All2 VK (evsF T row args).1 (kindsF T args).1:=fun h=>
   hok (fun x hx=>⟨by have:=deepsF_mem args x hx;omega,hgs x hx⟩) w1 h
  obtain⟨K,hK⟩: ∃K,evsF T row args=K:=⟨_,rfl⟩
  rw[hK]at hM hevs
  simp[go_sem,q1',q2',hargs]
  refine wVW_app 8 3 (by decide) (by simp[go_sem]) ?_
  refine wVW_while (S:=Nat×List GValue) [1,3,5,6,8,29,30,31] (fun u=> [.sl .ro (row.map GValue.row),.ptr 0 0,.ptr 1 0,.ptr 2 0,.sl (.app 3) (u.2.map GValue.row),.sl .ro (args.map GExpr.row),.int .i64 args.length,.int .i64 (u.1:Int)])
   (fun u=> [.box T.row,.box e.row,.box [.int .i64 0,.int .i64 0,.str []],.app u.2.length 3]) (fun u=>args.length - u.1)
   (fun u=>u.1≤args.length∧u.2.length=u.1∧(evsF T row (args.drop u.1)).2=K.2∧(K.2=0→u.2++(evsF T row (args.drop u.1)).1=K.1)) hc hb (0,[])
   ⟨Nat.zero_le _,rfl,by simp only[List.drop_zero];rw[hK],fun _=>by simp only[List.drop_zero];rw[hK];rfl⟩ ?_ ?_
  ·exact at_n 4 (by simp[go_sem,hargs]) rfl (by simp[ltOb,ltC,ltK,GExpr.row_eq,GTable.row]) (Nat.zero_le _) (args_lt_eq (by simp[go_sem]) rfl)
  rintro⟨i,l⟩ ⟨hi,hl,hinv,hinv2⟩
  simp only at hi hl hinv hinv2
  by_cases q:i<args.length
  rotate_left
  ·rw[List.drop_eq_nil_of_le (by omega),evsF]at hinv hinv2
   have hK2:K.2=0:=hinv.symm
   have hK1:l=K.1:=by have:=hinv2 hK2;simpa using this
   have n2: ¬K.2≠0:=fun h=>h hK2
   rw[if_neg n2,←hK1]at hM
   have hA:=hevs hK2
   rw[←hK1]at hA
   obtain⟨_,d1,d2,d3,d4⟩:=does_ok hop hA
   have hdo:=does_w e.s l d1 d2 d3 d4
   generalize doesF e.s l=o at hdo hM
   refine wVW_code ?_
   simp[go_sem,q]
   refine wVC_pure hdo Tryz.callB177 ⟨argS_no rfl,argS_ro,trivial⟩ rfl ?_
   simp[go_sem,valP]
   exact valP_ret hM
  have ei:=i64_inc q (by omega)
  obtain⟨x,hx⟩: ∃x,args[i]=x:=⟨_,rfl⟩
  have hxm:x∈args:=hx▸List.getElem_mem q
  have hdx:=deepsF_mem args x hxm
  rw[List.drop_eq_getElem_cons q,hx,evsF]at hinv hinv2
  have hcall:=ih x (by omega) (hsub x hxm) (hgs x hxm) (hmem x hxm)
  generalize evF T row x=kx at hcall hinv hinv2
  by_cases q4:kx.2=0
  ·have n3: ¬kx.2≠0:=fun h=>h q4
   rw[if_neg n3]at hinv hinv2
   have q4':(kx.2 !=0)=false:=by simpa using q4
   refine wVW_code ?_
   simp[go_sem,q,hx]
   refine wVC_pure hcall Tryz.callB131 (args_eq (by simp[go_sem]) (by rw[GExpr.row_eq];rfl)) rfl ?_
   simp[go_sem,valP,q4']
   refine wneed_i ⟨by omega,by unfold uni;simp⟩ ?_
   simp[go_sem,ei]
   refine next_i (i+1,l++ [kx.1]) ⟨by simp only;omega,⟨by simp only;omega,by simp;omega,hinv,fun h=>by have:=hinv2 h;simpa using this⟩, ?_⟩
   exact at_n 4 (by simp[go_sem]) rfl (by simp[ltOb,ltC,ltK,GExpr.row_eq,GTable.row]) (Nat.zero_le _) (args_lt_eq (by simp[go_sem]) rfl)
  ·rw[if_pos q4]at hinv
   have q4':(kx.2 !=0)=true:=by simpa using q4
   have hK2:kx.2=K.2:=hinv
   rw[if_pos (by rw[←hK2];exact q4),←hK2]at hM
   refine wVW_code ?_
   simp[go_sem,q,hx]
   refine wVC_pure hcall Tryz.callB131 (args_eq (by simp[go_sem]) (by rw[GExpr.row_eq];rfl)) rfl ?_
   simp[go_sem,valP,q4']
   exact ret zeroV _ _ hM
end Go.Proofs.YtajjjghohakniaaGreat
namespace Go.Proofs.YtajjjghohakniaaGreat
open Go Go.Vx R
set_option maxRecDepth 100000
def noT:GTable:=⟨[],[],0,0,0,⟨[],[],[],0,0,0⟩⟩
theorem noT_row:RowOk noT []:=⟨rfl,fun j C v h=>by simp[noT]at h⟩
theorem noT_cols:noT.cols= []:=rfl
def evN (e:GExpr):GValue×Int:=if(typeF noT e).2≠0 then(zeroV,(typeF noT e).2)else evF noT [] e
theorem evN_ok {e:GExpr} (he:EOk e) (h:(evN e).2=0):VK (evN e).1 (typeF noT e).1:=by
 unfold evN at h⊢
 by_cases q:(typeF noT e).2=0
 rotate_left
 ·rw[if_pos q]at h;exact absurd h q
 have n1: ¬(typeF noT e).2≠0:=fun h=>h q
 rw[if_neg n1]at h⊢
 have hs:=he.size
 unfold typeF at q⊢
 by_cases d:deepF e≤64
 ·rw[if_pos d]at q⊢
  exact ev_ok noT_row 64 e d he.good q h
 ·rw[if_neg d]at q;cases q
theorem EvalN_w (e:GExpr) (he:EOk e):Pure Tryz.prog 81 [.agg noT.row,.sl .ro [],.agg e.row] (valP (evN e)):=by
 have hty:=Type_w noT (by simp[noT,maxLen]) e he
 have hev:=fun(d:deepF e≤64) (k:(kindF noT e).2=0)=>eval_w noT_row (by simp[noT,maxLen]) 64 e d he.wide he.good k
 generalize hM:evN e=M
 unfold evN at hM
 have ret: ∀(v:GValue) (e:Int) (σ:St),(v,e)=M→wret (some (.tup [.agg v.row,.int .i64 e])) 0 (fun r s=>r=valP M∧s= []) σ:=fun v e σ h=>valP_ret h
 refine VCalls.introV 0 Tryz.func81 Tryz.ntmps81 Tryz.results81 rfl rfl (Nat.le_of_ble_eq_true rfl) fun c hc hb=> ?_
 refine wVW_code ?_
 simp[go_sem]
 refine wVC_pure hty Tryz.callB125 (args_eq (by simp[go_sem]) (by rw[GExpr.row_eq];rfl)) rfl ?_
 simp[go_sem,pairV]
 by_cases q:(typeF noT e).2=0
 rotate_left
 ·have q':((typeF noT e).2 !=0)=true:=by simpa using q
  rw[if_pos q]at hM
  simp[go_sem,q']
  exact ret zeroV _ _ hM
 have q':((typeF noT e).2 !=0)=false:=by simpa using q
 have n1: ¬(typeF noT e).2≠0:=fun h=>h q
 rw[if_neg n1]at hM
 have hcall:Pure Tryz.prog 131 [.agg noT.row,.sl .ro [],.agg e.row] (valP (evF noT [] e)):=by
  unfold typeF at q
  by_cases d:deepF e≤64
  ·rw[if_pos d]at q;exact hev d q
  ·rw[if_neg d]at q;cases q
 rw[hM]at hcall
 simp[go_sem,q',noT_cols]
 refine wVW_while (S:=Unit) [1,3,5,6,29,30,31] (fun _=> [.sl .ro [],.ptr 0 0,.ptr 1 0,.ptr 2 0,.sl .ro [],.int .i64 0,.int .i64 0])
   (fun _=> [.box noT.row,.box e.row,.box [.int .i64 0,.int .i64 0,.str []]]) (fun _=>0) (fun _=>True) hc hb () trivial ?_ ?_
 ·exact at_n 3 (by simp[go_sem,noT]) rfl (by simp[ltOb,ltC,ltK,GExpr.row_eq,GTable.row]) (Nat.zero_le _) (args_lt_eq (by simp[go_sem]) rfl)
 rintro u _
 refine wVW_code ?_
 simp[go_sem]
 refine wVC_pure hcall Tryz.callB131 (args_eq (by simp[go_sem]) (by rw[GExpr.row_eq];rfl)) rfl ?_
 simp[go_sem,valP]
 exact valP_ret rfl
end Go.Proofs.YtajjjghohakniaaGreat
