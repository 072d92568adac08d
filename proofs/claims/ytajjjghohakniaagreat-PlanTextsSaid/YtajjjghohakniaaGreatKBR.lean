/-
  What a lot needs, of every lot that is not too great; used by the theorem at the end of the claim.
  Conditions: as each theorem states them.
-/
import Derived.Test.YtajjjghohakniaaGreatKBQ
import Derived.Test.YtajjjghohakniaaGreatKBE
import Derived.Test.YtajjjghohakniaaGreatKBL
import Derived.Test.YtajjjghohakniaaGreatKBP
namespace Go.Proofs.YtajjjghohakniaaGreat
open Go Go.Vx R
set_option maxRecDepth 100000
attribute [go_sem] GCut.row
def zC8 (n:Nat) (t:Int) (name:List UInt8) (l:List GCut) (b:List UInt8×List UInt8):List UInt8×List UInt8:=
 l.foldl (fun b c=>if c.name=name then cutF (wH n t c.v) c.sign b else b) b
def zr2 (ts:List GTable) (t:Int) (L:List GCut):List UInt8×List UInt8:=
 if isF ts.length t=true then
  match (ts[t.toNat]?).bind zq6 with
  |none=>allF ts.length t
  |some name=>let b:=zC8 ts.length t name L (allF ts.length t);(b.1,maxS b.1 b.2)
 else allF ts.length t
set_option maxHeartbeats 4000000 in
theorem yt9 (n:Nat) (regs:List (List V)) (ts:List GTable) (t:Int) (st:GStmt) (hn:ts.length≤maxB) (hkey: ∀T∈ts,0≤T.key∧T.key<T.cols.length) (hd:yX st.where_≤n) (hz:zc2 st.where_≤4000) (hl:(ofF n st).length≤maxLen)
  (hv: ∀c∈ofF n st,c.v.ok):
  Pure Tryz.prog 25 [.agg [.sl .ro regs,.sl .ro (ts.map GTable.row)],.int .i64 t,.agg st.row] (zE7 (zr2 ts t (ofF n st))):=by
 have hof:=of_w n st hd hz
 generalize hL:ofF n st=L at hof hl hv
 generalize hM:zr2 ts t L=M
 have ret: ∀(r:List UInt8×List UInt8) (σ:St),r=M→wret (some (.tup [.str r.1,.str r.2])) 0 (fun r s=>r=zE7 M∧s= []) σ:=fun r σ h=>by subst h;exact zQ (zA rfl) ⟨rfl,rfl⟩
 have hall:=yV4 regs (ts.map GTable.row) t (by simpa using hn)
 simp only[List.length_map]at hall
 unfold zr2 at hM
 generalize hA:allF ts.length t=A at hall hM
 refine VCalls.introV 0 Tryz.func25 Tryz.ntmps25 Tryz.results25 rfl rfl (Nat.le_of_ble_eq_true rfl) fun c hc hb=> ?_
 refine zC ?_
 simp[go_sem]
 refine zE hall Tryz.callB56 (zH rfl) rfl ?_
 simp[go_sem]
 refine(Bool.eq_false_or_eq_true (isF ts.length t)).elim (fun h=> ?_) (fun h=> ?_)
 rotate_left
 ·simp only[h]at hM
  have h2:decide (t<0)=true∨(decide (t<0)=false∧decide ((ts.length:Int)≤t)=true):=by
   unfold isF at h
   simp only[Bool.and_eq_false_iff,decide_eq_false_iff_not]at h
   simp only[decide_eq_true_eq,decide_eq_false_iff_not]
   omega
  refine h2.elim (fun q=> ?_) (fun q=> ?_)
  all_goals simp[go_sem,q]
  all_goals exact ret _ _ hM
 obtain⟨j,rfl,hj⟩:=zF6 h
 obtain⟨T,hT⟩: ∃T,ts[j]=T:=⟨_,rfl⟩
 have hq2:decide ((ts.length:Int)≤j)=false:=decide_eq_false (by omega)
 have hq1:decide ((j:Int)<0)=false:=decide_eq_false (by omega)
 simp only[h,if_true,Int.toNat_natCast,List.getElem?_eq_getElem hj,hT,Option.bind_some]at hM
 have hq3:decide (ts.length≤j)=false:=decide_eq_false (by omega)
 obtain⟨hk0,hk1⟩:=hkey T (hT▸List.getElem_mem hj)
 obtain⟨m,hm⟩: ∃m:Nat,T.key=m:=⟨T.key.toNat,by omega⟩
 have hmc:m<T.cols.length:=by omega
 obtain⟨C,hC⟩: ∃C,T.cols[m]=C:=⟨_,rfl⟩
 have hkn:zq6 T=some C.name:=by
  unfold zq6
  rw[if_pos (by omega),hm,Int.toNat_natCast,List.getElem?_eq_getElem hmc,hC];rfl
 simp only[hkn]at hM
 simp[go_sem,hq1,hq3,hj,hT]
 refine zE hof Tryz.callB57 (zF (by simp[go_sem]) rfl) rfl ?_
 simp[go_sem]
 refine zL (S:=Nat×List UInt8×List UInt8) [1,3,8,9,10,11,12] (fun u=> [.int .i64 j,.ptr 0 0,.str u.2.1,.str u.2.2,.ptr 1 0,.sl .ro (L.map GCut.row),.int .i64 u.1])
  (fun _=> [.box [.sl .ro regs,.sl .ro (ts.map GTable.row)],.box T.row]) (fun u=>L.length - u.1)
  (fun u=>u.1≤L.length∧zC8 ts.length j C.name (L.drop u.1) u.2=zC8 ts.length j C.name L A) hc hb (0,A) ⟨Nat.zero_le _,rfl⟩ ?_ ?_
 ·exact zv5 [0,2] (by decide) rfl ⟨by simp[go_sem,yF,renC,renK],by simp[go_sem,yF,renC,renK],trivial⟩
   ⟨zA rfl,.inl (by simp[go_sem,renS,renA,renC,renK,ren]),zA rfl,zA rfl,.inl (by simp[go_sem,renS,renA,renC,renK,ren]),zV,zA rfl,trivial⟩
 rintro⟨i,b⟩ ⟨hi,hinv⟩
 simp only at hi hinv
 by_cases q:i<L.length
 rotate_left
 ·rw[List.drop_eq_nil_of_le (by omega)]at hinv
  have hbb:b=zC8 ts.length j C.name L A:=hinv
  rw[←hbb]at hM
  refine zC ?_
  simp[go_sem,q]
  exact ret (b.1,maxS b.1 b.2) _ hM
 have ei:=zT q (by unfold maxLen at hl;omega)
 obtain⟨x,hx⟩: ∃x,L[i]=x:=⟨_,rfl⟩
 have hxm:x∈L:=hx▸List.getElem_mem q
 rw[List.drop_eq_getElem_cons q,hx]at hinv
 have hvo:=hv x hxm
 have hbd:=zS5 regs (ts.map GTable.row) j x.v (by simpa using hn) hvo
 simp only[List.length_map]at hbd
 have hCq:T.cols[m]? =some C:=by rw[List.getElem?_eq_getElem hmc,hC]
 simp only[zC8,List.foldl_cons]at hinv
 have hlen:(wH ts.length j x.v).length≤200:=by
  have:=yd0 x.v
  unfold wH;rw[if_pos h];simp only[List.length_cons];omega
 generalize wH ts.length j x.v=bd at hbd hinv hlen
 have go: ∀(b':List UInt8×List UInt8) e σ,zC8 ts.length j C.name (L.drop (i+1)) b'=zC8 ts.length j C.name L A→At 0 [1,3,8,9,10,11,12] [.int .i64 j,.ptr 0 0,.str b'.1,.str b'.2,.ptr 1 0,.sl .ro (L.map GCut.row),.int .i64 ((i+1:Nat):Int)] [.box [.sl .ro regs,.sl .ro (ts.map GTable.row)],.box T.row] e σ→
  Vx.Next (fun s':Nat×List UInt8×List UInt8=>L.length - s'.1<L.length - i∧(s'.1≤L.length∧zC8 ts.length j C.name (L.drop s'.1) s'.2=zC8 ts.length j C.name L A)∧At 0 [1,3,8,9,10,11,12] [.int .i64 j,.ptr 0 0,.str s'.2.1,.str s'.2.2,.ptr 1 0,.sl .ro (L.map GCut.row),.int .i64 s'.1] [.box [.sl .ro regs,.sl .ro (ts.map GTable.row)],.box T.row] e σ) fx:=fun b' e σ h1 h2=>zN (i+1,b') ⟨by simp only;omega,⟨by simp only;omega,h1⟩,h2⟩
 refine zC ?_
 simp[go_sem,q]
 refine zX [] 2 (by simp) (by kernel_rfl) (by kernel_rfl) ?_
 simp[go_sem,q,hx,hm,hCq]
 refine zP hmc ?_
 simp[go_sem]
 by_cases hnm:x.name=C.name
 rotate_left
 ·have hnm':(x.name==C.name)=false:=by simpa using hnm
  rw[if_neg hnm]at hinv
  simp[go_sem,hnm',ei]
  exact go b _ _ hinv (at_n 2 (by simp[go_sem,hm]) rfl (by rfl) (Nat.zero_le _) (zD (by simp[go_sem]) rfl))
 have hnm':(x.name==C.name)=true:=by simpa using hnm
 rw[if_pos hnm]at hinv
 simp[go_sem,hnm']
 refine zX [(7,0)] 2 (by simp) (by kernel_rfl) (by kernel_rfl) ?_
 simp[go_sem,q,hx]
 refine zS hbd Tryz.callB40 (fun _=>zF (by simp[go_sem]) rfl) rfl ?_
 simp[go_sem,q,hx]
 repeat' (first
  |(refine zP (by omega) ?_;simp[go_sem,ei])
  |(refine zU (fun q=> ?_) (fun q=> ?_)<;>simp[go_sem,q,ei]))
 all_goals simp only[beq_iff_eq,beq_eq_false_iff_ne]at*
 all_goals refine go (cutF bd x.sign b) _ _ hinv ?_
 all_goals refine at_n 2 (by simp[go_sem,hm]) rfl (by rfl) (Nat.zero_le _) (zD ?_ rfl)
 all_goals unfold cutF
 all_goals (simp[go_sem, *];try first|exact⟨rfl,rfl⟩|rfl)
def zM0 (name:List UInt8) (l:List GCut) (r:Int):Bool:=l.all fun c=> !(c.name==name&&(c.sign== [61]&&(c.v.kind==2&& !(c.v.n==r))))
set_option maxHeartbeats 1000000 in
theorem xw1 (n:Nat) (T:GTable) (C:GCol) (hC:T.cols[0]? =some C) (st:GStmt) (r:Int) (hd:yX st.where_≤n) (hz:zc2 st.where_≤4000) (hl:(ofF n st).length≤maxLen):
  Pure Tryz.prog 63 [.agg T.row,.agg st.row,.int .i64 r] (.bool (zM0 C.name (ofF n st) r)):=by
 have hof:=of_w n st hd hz
 generalize hL:ofF n st=L at hof hl
 generalize hM:zM0 C.name L r=M
 unfold zM0 at hM
 obtain⟨hCl,hCx⟩:=List.getElem?_eq_some_iff.1 hC
 refine VCalls.introV 0 Tryz.func63 Tryz.ntmps63 Tryz.results63 rfl rfl (Nat.le_of_ble_eq_true rfl) fun c hc hb=> ?_
 refine zC ?_
 simp[go_sem]
 refine zE hof Tryz.callB57 (zF (by simp[go_sem]) rfl) rfl ?_
 simp[go_sem]
 refine zL (S:=Nat) [2,3,7,8] (fun i=> [.int .i64 r,.ptr 0 0,.sl .ro (L.map GCut.row),.int .i64 (i:Int)]) (fun _=> [.box T.row]) (fun i=>L.length - i)
  (fun i=>i≤L.length∧((L.drop i).all fun c=> !(c.name==C.name&&(c.sign== [61]&&(c.v.kind==2&& !(c.v.n==r)))))=M) hc hb 0 ⟨Nat.zero_le _,hM⟩ ?_ ?_
 ·exact at_n 1 (by simp[go_sem]) rfl (by simp[ltOb,ltC,ltK,GTable.row]) (Nat.zero_le _) (zD (by simp[go_sem]) rfl)
 rintro i ⟨hi,hinv⟩
 by_cases q:i<L.length
 rotate_left
 ·rw[List.drop_eq_nil_of_le (by omega)]at hinv
  refine zC ?_
  simp[go_sem,q]
  exact bret hinv
 have ei:=zT q (by unfold maxLen at hl;omega)
 obtain⟨x,hx⟩: ∃x,L[i]=x:=⟨_,rfl⟩
 rw[zd9 _ _ _ q,hx]at hinv
 obtain⟨tl,hTl⟩: ∃tl,((L.drop (i+1)).all fun c=> !(c.name==C.name&&(c.sign== [61]&&(c.v.kind==2&& !(c.v.n==r)))))=tl:=⟨_,rfl⟩
 rw[hTl]at hinv
 have go: ∀e σ,tl=M→At 0 [2,3,7,8] [.int .i64 r,.ptr 0 0,.sl .ro (L.map GCut.row),.int .i64 ((i+1:Nat):Int)] [.box T.row] e σ→
  Vx.Next (fun s':Nat=>L.length - s'<L.length - i∧(s'≤L.length∧((L.drop s').all fun c=> !(c.name==C.name&&(c.sign== [61]&&(c.v.kind==2&& !(c.v.n==r)))))=M)∧At 0 [2,3,7,8] [.int .i64 r,.ptr 0 0,.sl .ro (L.map GCut.row),.int .i64 (s':Int)] [.box T.row] e σ) fx:=fun e σ h1 h2=>zN (i+1) ⟨by omega,⟨by omega,hTl.trans h1⟩,h2⟩
 obtain⟨b1,hb1⟩: ∃b,(x.name==C.name)=b:=⟨_,rfl⟩
 obtain⟨b2,hb2⟩: ∃b,(x.sign== [61])=b:=⟨_,rfl⟩
 obtain⟨b3,hb3⟩: ∃b,(x.v.kind==2)=b:=⟨_,rfl⟩
 obtain⟨b4,hb4⟩: ∃b,(x.v.n==r)=b:=⟨_,rfl⟩
 have hb4':(x.v.n !=r)= !b4:=by rw[←hb4];rfl
 rw[hb1,hb2,hb3,hb4]at hinv
 refine zC ?_
 simp[go_sem,q]
 refine zX [] 1 (by simp) (by kernel_rfl) (by kernel_rfl) ?_
 simp[go_sem,q,hx,hCl,hCx,hb1]
 repeat' (first
  |(refine yI (fun w=> ?_) (fun w=> ?_)<;>simp[go_sem,q,hx,w,hb2,hb3,hb4',ei])
  |(refine zU (fun w=> ?_) (fun w=> ?_)<;>simp[go_sem,w,ei]))
 all_goals first
  |exact bret (by rw[←hinv];simp_all)
  |exact go _ _ (by rw[←hinv];simp_all) (at_n 1 (by simp[go_sem]) rfl (by simp[ltOb,ltC,ltK,GTable.row]) (Nat.zero_le _) (zD (by simp[go_sem]) rfl))
def xs3:Option (V×St)→Option (List (List V))
 |some (.sl _ r,_)=>some r
 |_=>none
theorem xf4 {f:FuncId} {l:List V} {rows:List (List V)} (h:xs3 (zC0 Tryz.prog marks (zy5 Tryz.prog Vx.noT marks 10000) (.fn f []) l [])=some rows):Pure Tryz.prog f l (.sl .ro rows):=by
 obtain⟨o,ho⟩: ∃o,zC0 Tryz.prog marks (zy5 Tryz.prog Vx.noT marks 10000) (.fn f []) l []=o:=⟨_,rfl⟩
 rw[ho]at h
 match o,h with
 |some (.sl g r,s),h=>
  cases h
  exact VCalls.frz (yg0 zg1 zd0 marks 10000 ho) fun r s h=>⟨_,_,.refl _ _,by rw[h.1];exact zV⟩
theorem yT4:Pure Tryz.prog 62 [schR tabsS] (.sl .ro [[.int .i64 0],[.int .i64 1]]):=xf4 (by kernel_rfl)
theorem yP7:Pure Tryz.prog 49 [schR tabsS] (.sl .ro [[.int .i64 0,.int .i64 0],[.int .i64 0,.int .i64 1],[.int .i64 1,.int .i64 (-1)],[.int .i64 2,.int .i64 1]]):=xf4 (by kernel_rfl)
def zg0 (t:Int) (l:List GCut):List Int:=if t=0 then [0,1].filter (zM0 [82] l)else if t=1 then [-1]else if t=2 then [1]else []
set_option maxHeartbeats 1000000 in
theorem yl6 (n:Nat) (t:Int) (st:GStmt) (hd:yX st.where_≤n) (hz:zc2 st.where_≤4000) (hl:(ofF n st).length≤maxLen):
  Pure Tryz.prog 27 [schR tabsS,.int .i64 t,.agg st.row] (.sl .ro ((zg0 t (ofF n st)).map yH)):=by
 have hlt:=fun r=>xw1 n tabT ⟨[82],2,false⟩ rfl st r hd hz hl
 have hrg:=yT4
 generalize ofF n st=L at hlt
 generalize hM:zg0 t L=M
 unfold zg0 at hM
 by_cases h0:t<0∨3≤t
 ·rw[if_neg (by omega),if_neg (by omega),if_neg (by omega)]at hM
  subst hM
  have h2:decide (t<0)=true∨(decide (t<0)=false∧decide (3≤t)=true):=by
   simp only[decide_eq_true_eq,decide_eq_false_iff_not];omega
  refine VCalls.intro 0 Tryz.func27 Tryz.ntmps27 Tryz.results27 rfl rfl (Nat.le_of_ble_eq_true rfl) fun c hc hb=>zJ ?_
  simp[go_sem,schR]
  refine h2.elim (fun q=> ?_) (fun q=> ?_)
  all_goals simp[go_sem,q,tabsS]
  all_goals exact zQ zV ⟨rfl,rfl⟩
 have hj:t=0∨t=1∨t=2:=by omega
 rcases hj with rfl|rfl|rfl
 rotate_left
 ·rw[if_neg (by omega),if_pos rfl]at hM
  subst hM
  refine VCalls.intro 0 Tryz.func27 Tryz.ntmps27 Tryz.results27 rfl rfl (Nat.le_of_ble_eq_true rfl) fun c hc hb=>zJ ?_
  simp[go_sem,schR,tabsS,tabT,tabG,tabH,GTable.row]
  exact zQ zV ⟨rfl,rfl⟩
 ·rw[if_neg (by omega),if_neg (by omega),if_pos rfl]at hM
  subst hM
  refine VCalls.intro 0 Tryz.func27 Tryz.ntmps27 Tryz.results27 rfl rfl (Nat.le_of_ble_eq_true rfl) fun c hc hb=>zJ ?_
  simp[go_sem,schR,tabsS,tabT,tabG,tabH,GTable.row]
  exact zQ zV ⟨rfl,rfl⟩
 rw[if_pos rfl]at hM
 obtain⟨j,hj0⟩: ∃j:Nat,j=0:=⟨0,rfl⟩
 have hj3:j<tabsS.length:=by rw[hj0];decide
 have hT:tabsS[j]=tabT:=by subst hj0;rfl
 have ht:(0:Int)=(j:Int):=by rw[hj0];rfl
 have hq1:decide ((j:Int)<0)=false:=decide_eq_false (by omega)
 have hq2:decide ((tabsS.length:Int)≤j)=false:=decide_eq_false (by omega)
 have hq3:decide (tabsS.length≤j)=false:=decide_eq_false (by omega)
 rw[ht]
 clear ht hj0
 refine VCalls.introV 0 Tryz.func27 Tryz.ntmps27 Tryz.results27 rfl rfl (Nat.le_of_ble_eq_true rfl) fun c hc hb=> ?_
 have htp:tabT.place=0:=rfl
 refine zC ?_
 simp[go_sem,schR,hq1,hq3,hj3,hT,htp]
 refine zE hrg Tryz.callB62 (zH rfl) rfl ?_
 simp[go_sem]
 refine zj1 8 1 (by decide) (by simp[go_sem]) ?_
 refine zL (S:=Nat×List Int) [5,7,8,9,10] (fun u=> [.ptr 1 0,.ptr 2 0,.sl (.app 3) (u.2.map yH),.sl .ro [[.int .i64 0],[.int .i64 1]],.int .i64 (u.1:Int)]) (fun u=> [.box [.sl .ro wN,.sl .ro (tabsS.map GTable.row)],.box st.row,.box tabT.row,.app u.2.length 1]) (fun u=>2 - u.1)
  (fun u=>u.1≤2∧u.2=([0,1].take u.1).filter (zM0 [82] L)) hc hb (0,[]) ⟨by omega,rfl⟩ ?_ ?_
 ·exact at_n 4 (by simp[go_sem,htp]) rfl (by simp[ltOb,ltC,ltK,GTable.row,GStmt.row]) (Nat.zero_le _) (zD (by simp[go_sem]) rfl)
 rintro⟨i,out⟩ ⟨hi,hinv⟩
 simp only at hi hinv
 by_cases q:i<2
 rotate_left
 ·have hi2:i=2:=by omega
  rw[hi2]at hinv
  have ho:out=M:=by rw[hinv,←hM];rfl
  refine zC ?_
  simp[go_sem,hi2]
  rw[ho]
  exact zQ zV ⟨rfl,rfl⟩
 obtain⟨r,hr,hw⟩: ∃r:Int,[[V.int .i64 0],[V.int .i64 1]][i]? =some [V.int .i64 r]∧([0,1].take (i+1)).filter (zM0 [82] L)=out++(if zM0 [82] L r=true then [r]else []):=by
  rw[hinv]
  match i,q with
  |0,_=>exact⟨0,rfl,by simp[List.filter_cons]⟩
  |1,_=>exact⟨1,rfl,by simp only[List.take_succ_cons,List.take_zero,List.filter_cons,List.filter_nil];split<;>simp⟩
 obtain⟨hrl,hrx⟩:=List.getElem?_eq_some_iff.1 hr
 have hcall:=hlt r
 have ei:=zT q (by omega)
 obtain⟨b,hbb⟩: ∃b,zM0 [82] L r=b:=⟨_,rfl⟩
 simp only[hbb]at hcall hw
 refine zC ?_
 have q':decide ((i:Int)<2)=true:=decide_eq_true (by omega)
 simp[go_sem,q']
 refine zX [(6,0)] 3 (by simp) (by kernel_rfl) (by kernel_rfl) ?_
 simp[go_sem,hr]
 refine zP (by omega) ?_
 simp[go_sem]
 refine zS hcall Tryz.callB63 (fun _=>zF (by simp[go_sem]) rfl) rfl ?_
 have hl2:(([0,1]:List Int).take (i+1)).length≤2:=by simp;omega
 refine(Bool.eq_false_or_eq_true b).elim (fun p=> ?_) (fun p=> ?_)
 ·rw[if_pos p]at hw
  have hol:out.length≤2:=by rw[hinv];exact Nat.le_trans (List.length_filter_le _ _) (by simp;omega)
  simp[go_sem,p,hr]
  refine zP (by omega) ?_
  simp[go_sem]
  refine zP ⟨by omega,yT rfl⟩ ?_
  simp[go_sem,ei]
  exact zN (i+1,out++ [r]) ⟨by simp only;omega,⟨by simp only;omega,hw.symm⟩,at_n 4 (by simp[go_sem,htp]) rfl (by simp[ltOb,ltC,ltK]) (Nat.zero_le _) (zD (by simp[go_sem,yH]) rfl)⟩
 ·rw[if_neg (by rw[p];decide),List.append_nil]at hw
  simp[go_sem,p,ei]
  exact zN (i+1,out) ⟨by simp only;omega,⟨by simp only;omega,hw.symm⟩,at_n 4 (by simp[go_sem,htp]) rfl (by simp[ltOb,ltC,ltK]) (Nat.zero_le _) (zD (by simp[go_sem]) rfl)⟩
end Go.Proofs.YtajjjghohakniaaGreat
namespace Go.Proofs.YtajjjghohakniaaGreat
open Go Go.Vx R
set_option maxRecDepth 100000
def yj0 (v:GValue) (C:GCol):Bool:=mayF v&&(v.kind==0||v.kind==C.kind)
def zA1 (cs:List GCol) (row:List GValue):Bool:=decide (row.length=cs.length)&&(row.zip cs).all fun p=>yj0 p.1 p.2
set_option maxHeartbeats 1000000 in
theorem yv2 (T:GTable) (row:List GValue) (hT:T.cols.length≤maxLen):Pure Tryz.prog 42 [.agg T.row,.sl .ro (row.map GValue.row)] (.bool (zA1 T.cols row)):=by
 generalize hM:zA1 T.cols row=M
 unfold zA1 at hM
 by_cases hlen:row.length=T.cols.length
 rotate_left
 ·have h1:((row.length:Int) !=T.cols.length)=true:=by simp;omega
  rw[decide_eq_false hlen,Bool.false_and]at hM
  refine VCalls.intro 0 Tryz.func42 Tryz.ntmps42 Tryz.results42 rfl rfl (Nat.le_of_ble_eq_true rfl) fun c hc hb=>zJ ?_
  simp[go_sem,h1]
  exact bret hM
 have h1:((row.length:Int) !=T.cols.length)=false:=by simp;omega
 rw[decide_eq_true hlen,Bool.true_and]at hM
 refine VCalls.introV 0 Tryz.func42 Tryz.ntmps42 Tryz.results42 rfl rfl (Nat.le_of_ble_eq_true rfl) fun c hc hb=> ?_
 refine zC ?_
 simp[go_sem,h1]
 refine zL (S:=Nat) [1,2,5] (fun i=> [.sl .ro (row.map GValue.row),.ptr 0 0,.int .i64 (i:Int)]) (fun _=> [.box T.row]) (fun i=>row.length - i)
  (fun i=>i≤row.length∧(((row.zip T.cols).drop i).all fun p=>yj0 p.1 p.2)=M) hc hb 0 ⟨Nat.zero_le _,hM⟩ ?_ ?_
 ·exact at_n 1 (by simp[go_sem]) rfl (by simp[ltOb,ltC,ltK,GTable.row]) (Nat.zero_le _) (zD (by simp[go_sem]) rfl)
 rintro i ⟨hi,hinv⟩
 by_cases q:i<row.length
 rotate_left
 ·rw[List.drop_eq_nil_of_le (by rw[List.length_zip];omega)]at hinv
  refine zC ?_
  simp[go_sem,q]
  exact bret hinv
 have qc:i<T.cols.length:=by omega
 have ei:=zT q (by unfold maxLen at hT;omega)
 obtain⟨v,hv⟩: ∃v,row[i]=v:=⟨_,rfl⟩
 obtain⟨C,hC⟩: ∃C,T.cols[i]=C:=⟨_,rfl⟩
 have qz:i<(row.zip T.cols).length:=by rw[List.length_zip];omega
 rw[zd9 _ _ _ qz,List.getElem_zip,hv,hC]at hinv
 obtain⟨tl,hTl⟩: ∃tl,(((row.zip T.cols).drop (i+1)).all fun p=>yj0 p.1 p.2)=tl:=⟨_,rfl⟩
 rw[hTl]at hinv
 unfold yj0 at hinv
 have hmy:=zN6 v
 simp only at hinv
 generalize mayF v=mv at hmy hinv
 have go: ∀e σ,tl=M→At 0 [1,2,5] [.sl .ro (row.map GValue.row),.ptr 0 0,.int .i64 ((i+1:Nat):Int)] [.box T.row] e σ→
  Vx.Next (fun s':Nat=>row.length - s'<row.length - i∧(s'≤row.length∧(((row.zip T.cols).drop s').all fun p=>yj0 p.1 p.2)=M)∧At 0 [1,2,5] [.sl .ro (row.map GValue.row),.ptr 0 0,.int .i64 (s':Int)] [.box T.row] e σ) fx:=fun e σ h1 h2=>zN (i+1) ⟨by omega,⟨by omega,hTl.trans h1⟩,h2⟩
 refine zC ?_
 simp[go_sem,q]
 refine zX [(4,0)] 1 (by simp) (by kernel_rfl) (by kernel_rfl) ?_
 simp[go_sem,q,hv]
 refine zS hmy Tryz.callB90 (fun _=>zH rfl) rfl ?_
 refine(Bool.eq_false_or_eq_true mv).elim (fun p=> ?_) (fun p=> ?_)
 rotate_left
 ·rw[p]at hinv
  simp[go_sem,p]
  exact bret hinv
 rw[p,Bool.true_and]at hinv
 simp[go_sem,p,q,hv]
 by_cases k0:v.kind=0
 ·have k0':(v.kind !=0)=false:=by simpa using k0
  have k0'':(v.kind==0)=true:=by simpa using k0
  rw[k0'',Bool.true_or,Bool.true_and]at hinv
  simp[go_sem,k0',ei]
  exact go _ _ hinv (at_n 1 (by simp[go_sem]) rfl (by simp[ltOb,ltC,ltK,GTable.row]) (Nat.zero_le _) (zD (by simp[go_sem]) rfl))
 have k0':(v.kind !=0)=true:=by simpa using k0
 have k0'':(v.kind==0)=false:=by simpa using k0
 rw[k0'',Bool.false_or]at hinv
 simp[go_sem,k0',q,hv,qc,hC]
 by_cases k1:v.kind=C.kind
 ·have k1':(v.kind !=C.kind)=false:=by simpa using k1
  have k1'':(v.kind==C.kind)=true:=by simpa using k1
  rw[k1'',Bool.true_and]at hinv
  simp[go_sem,k1',ei]
  exact go _ _ hinv (at_n 1 (by simp[go_sem]) rfl (by simp[ltOb,ltC,ltK,GTable.row]) (Nat.zero_le _) (zD (by simp[go_sem]) rfl))
 ·have k1':(v.kind !=C.kind)=true:=by simpa using k1
  have k1'':(v.kind==C.kind)=false:=by simpa using k1
  rw[k1'',Bool.false_and]at hinv
  simp[go_sem,k1']
  exact bret hinv
theorem yN7 {T:GTable} {row:List GValue} (h:zA1 T.cols row=true) (hv: ∀v∈row,v.ok):RowOk T row:=by
 unfold zA1 at h
 rw[Bool.and_eq_true,decide_eq_true_eq]at h
 refine⟨h.1,fun j C v hC hV=> ?_⟩
 have hz:(row.zip T.cols)[j]? =some (v,C):=by rw[List.getElem?_zip_eq_some];exact⟨hV,hC⟩
 have h2:=List.all_eq_true.1 h.2 _ (List.mem_of_getElem? hz)
 unfold yj0 at h2
 simp only[Bool.and_eq_true,Bool.or_eq_true,beq_iff_eq]at h2
 have hvo:=hv v (List.mem_of_getElem? hV)
 exact⟨h2.1,⟨hvo.n.1,hvo.n.2⟩,h2.2.elim .inr .inl⟩
def evR (T:GTable) (row:List GValue) (e:GExpr):GValue×Int:=if(xV T e).2≠0 then(xN,(xV T e).2)else if zA1 T.cols row=false then(xN,9)else evF T row e
theorem xy4 (e:GExpr):evR noT [] e=evN e:=rfl
theorem yT8 (T:GTable) (hT:T.cols.length≤maxLen) (row:List GValue) (hv: ∀v∈row,v.ok) (e:GExpr) (he:EOk e):Pure Tryz.prog 18 [.agg T.row,.sl .ro (row.map GValue.row),.agg e.row] (valP (evR T row e)):=by
 have hty:=zy1 T hT e he
 have hmr:=yv2 T row hT
 have hok:= @yN7 T row
 generalize hM:evR T row e=M
 unfold evR at hM
 have ret: ∀(v:GValue) (e:Int) (σ:St),(v,e)=M→wret (some (.tup [.agg v.row,.int .i64 e])) 0 (fun r s=>r=valP M∧s= []) σ:=fun v e σ h=>zh7 h
 generalize zA1 T.cols row=mr at hmr hok hM
 refine VCalls.intro 0 Tryz.func18 Tryz.ntmps18 Tryz.results18 rfl rfl (Nat.le_of_ble_eq_true rfl) fun c hc hb=>zJ ?_
 simp[go_sem]
 refine zE hty Tryz.callB41 (zF (by simp[go_sem]) (by rw[GExpr.row_eq];rfl)) rfl ?_
 simp[go_sem,yK]
 by_cases q:(xV T e).2=0
 rotate_left
 ·have q':((xV T e).2 !=0)=true:=by simpa using q
  rw[if_pos q]at hM
  simp[go_sem,q']
  exact ret xN _ _ hM
 have q':((xV T e).2 !=0)=false:=by simpa using q
 have n1: ¬(xV T e).2≠0:=fun h=>h q
 rw[if_neg n1]at hM
 simp[go_sem,q']
 refine zE hmr Tryz.callB42 ⟨zA rfl,zV,trivial⟩ rfl ?_
 refine(Bool.eq_false_or_eq_true mr).elim (fun p=> ?_) (fun p=> ?_)
 rotate_left
 ·rw[if_pos p]at hM
  simp[go_sem,p]
  exact ret xN 9 _ hM
 rw[if_neg (by rw[p];decide)]at hM
 have hrow:=hok p hv
 have hcall:Pure Tryz.prog 43 [.agg T.row,.sl .ro (row.map GValue.row),.agg e.row] (valP (evF T row e)):=by
  unfold xV at q
  by_cases d:yX e≤64
  ·rw[if_pos d]at q;exact zW4 hrow hT 64 e d he.wide he.good q
  ·rw[if_neg d]at q;cases q
 rw[hM]at hcall
 simp[go_sem,p]
 refine zE hcall Tryz.callB43 ⟨zA rfl,zV,zY6 e,trivial⟩ rfl ?_
 simp[go_sem,valP]
 exact zh7 rfl
theorem zZ8 (e:GExpr) (he:EOk e):Pure Tryz.prog 104 [.agg e.row] (.tup [.agg (evN e).1.row,.bool ((evN e).2==0)]):=by
 have h:=yT8 noT (by simp[noT,maxLen]) [] (fun v hv=>by cases hv) e he
 rw[xy4]at h
 generalize evN e=x at h
 refine VCalls.intro 0 Tryz.func104 Tryz.ntmps104 Tryz.results104 rfl rfl (Nat.le_of_ble_eq_true rfl) fun c hc hb=>zJ ?_
 simp[go_sem]
 refine zE h Tryz.callB18 ⟨yE4,zV,zY6 e,trivial⟩ rfl ?_
 simp[go_sem,valP]
 exact zQ (zA rfl) ⟨rfl,rfl⟩
end Go.Proofs.YtajjjghohakniaaGreat
namespace Go.Proofs.YtajjjghohakniaaGreat
open Go Go.Vx R
set_option maxRecDepth 100000
def regC (n:Int):Int:=if 4<(if n< -1 then -1 else n)then 4 else if n< -1 then -1 else n
theorem xl5 (n:Int):regC n= -1∨regC n=0∨regC n=1∨regC n=2∨regC n=3∨regC n=4:=by
 unfold regC
 repeat' split
 all_goals omega
def regN (T:GTable) (r:List GExpr):Option Int:=
 if T.place=0 then(if(evN (r.getD 0 zeroE)).2≠0∨(evN (r.getD 0 zeroE)).1.kind≠2 then none else some (regC (evN (r.getD 0 zeroE)).1.n))else some 0
def rowS (t:Int) (r:List GExpr) (U:US):US:=
 match tabsS[t.toNat]? with
 |none=>U
 |some T=>
  if r.length≤T.key.toNat then U else
  if(evN (r.getD T.key.toNat zeroE)).2≠0∨(evN (r.getD T.key.toNat zeroE)).1.kind=0 then U else
  match regN T r with
  |none=>U
  |some g=>if(yV t g).2≠0 then U else zx4 (yV t g).1 ⟨wH 3 t (evN (r.getD T.key.toNat zeroE)).1,wH 3 t (evN (r.getD T.key.toNat zeroE)).1++ [0]⟩ U
theorem xo8 (t:Int) (r:List GExpr) (n:Nat) (U:US) (h:Bd n U):Bd (n+1) (rowS t r U):=by
 unfold rowS
 split
 ·exact⟨by have:=h.1;omega,fun y hy=>by have:=h.2 y hy;omega⟩
 ·split
  ·exact⟨by have:=h.1;omega,fun y hy=>by have:=h.2 y hy;omega⟩
  ·split
   ·exact⟨by have:=h.1;omega,fun y hy=>by have:=h.2 y hy;omega⟩
   ·split
    ·exact⟨by have:=h.1;omega,fun y hy=>by have:=h.2 y hy;omega⟩
    ·split
     ·exact⟨by have:=h.1;omega,fun y hy=>by have:=h.2 y hy;omega⟩
     ·exact Bd.need h _ _
section
variable {b:List V} {rows:List (List V)} {A:List Nat} {τ:St}
theorem yW0:(gS b rows A++τ).take (A.length+2)=gS b rows A:=by rw[←yE (b:=b) (rows:=rows),List.take_left]
end
theorem xc8 {v:GValue} {k:Int} (h:VK v k):v.ok∧v.s.length≤500:=by
 have hm:=h.may
 have hn:=h.n
 unfold mayF at hm
 have:i64R v.kind∧v.s.length≤64:=by
  unfold i64R
  split at hm
  ·rename_i q;rw[q];simp at hm;exact⟨by decide,by rw[hm.2];decide⟩
  split at hm
  ·rename_i q;rw[q];simp at hm;exact⟨by decide,by rw[hm.2];decide⟩
  split at hm
  ·rename_i q;rw[q];simp at hm;exact⟨by decide,by rw[hm];decide⟩
  split at hm
  ·rename_i q;rw[q];simp at hm;exact⟨by decide,hm.2⟩
  ·cases hm
 exact⟨⟨this.1,hn,by unfold maxLen;omega⟩,by omega⟩
set_option maxHeartbeats 2000000 in
theorem xz8 (tn:Nat) (T:GTable) (hT:tabsS[tn]? =some T) (r:List GExpr) (hr:r.length≤1000) (he: ∀e∈r,EOk e) (N:List (Int×List GSpan×Nat)) (A:List Nat) (h:NOk N A) (hB:Bd 1000 (uOf N)):
  VCalls Tryz.prog 33 [.ptr 0 0,schR tabsS,.int .i64 tn,.sl .ro (r.map GExpr.row)] (nSt N A) (fun x s=>x= .tup []∧ ∃N' A',s=nSt N' A'∧NOk N' A'∧uOf N'=rowS tn r (uOf N)):=by
 have hkey: ∃kk:Nat,T.key=(kk:Int):=by
  match tn,hT with
  |0,h=>simp[tabsS]at h;subst h;exact⟨1,rfl⟩
  |1,h=>simp[tabsS]at h;subst h;exact⟨0,rfl⟩
  |2,h=>simp[tabsS]at h;subst h;exact⟨0,rfl⟩
  |n+3,h=>simp[tabsS]at h
 obtain⟨kk,hkk⟩:=hkey
 generalize hM:rowS tn r (uOf N)=M
 unfold rowS at hM
 rw[Int.toNat_natCast,hT]at hM
 simp only at hM
 rw[hkk,Int.toNat_natCast]at hM
 have done: ∀(τ:St),uOf N=M→wret (some (.tup [])) (A.length+2) (fun x s=>x= .tup []∧ ∃N' A',s=nSt N' A'∧NOk N' A'∧uOf N'=M) (gS [.lsv 1 2 N.length 0 N.length] (N.map nRow) A++τ):=fun τ hM=>
  zn4 (A.length+2) (s:=gS [.lsv 1 2 N.length 0 N.length] (N.map nRow) A) yW0 yE (yf5 _ _ h) (Nat.le_refl _) (zA rfl) ⟨rfl,N,A,rfl,h,hM⟩
 have htl:tn<tabsS.length:=(List.getElem?_eq_some_iff.1 hT).1
 have ht3:(tn:Int)=0∨(tn:Int)=1∨(tn:Int)=2:=by have:tn<3:=htl;omega
 have hTg:tabsS[tn]'htl=T:=(List.getElem?_eq_some_iff.1 hT).2
 have hk0:decide ((kk:Int)<0)=false:=decide_eq_false (by omega)
 refine VCalls.introV (A.length+2) Tryz.func33 Tryz.ntmps33 Tryz.results33 rfl (by simp[nSt,gS]) (Nat.le_of_ble_eq_true rfl) fun c hc hb=> ?_
 refine zC ?_
 unfold nSt
 rw[←List.append_nil (gS _ _ _)]
 simp[go_sem,yE,schR,htl,hTg,hkk,hk0]
 have ret: ∀(τ:St),uOf N=M→wret (some (.tup [])) (A.length+2) (fun x s=>x= .tup []∧ ∃N' A',s=gS [.lsv 1 2 N'.length 0 N'.length] (N'.map nRow) A'∧NOk N' A'∧uOf N'=M) (gS [.lsv 1 2 N.length 0 N.length] (N.map nRow) A++τ):=done
 by_cases q1:r.length≤kk
 ·rw[if_pos q1]at hM
  have q1':decide (r.length≤kk)=true:=decide_eq_true q1
  simp[go_sem,q1']
  exact ret _ hM
 rw[if_neg q1]at hM
 have q1':decide (r.length≤kk)=false:=decide_eq_false q1
 have qk:kk<r.length:=by omega
 obtain⟨x,hx⟩: ∃x,r[kk]=x:=⟨_,rfl⟩
 have hxd:r.getD kk zeroE=x:=by rw[List.getD_eq_getElem?_getD,List.getElem?_eq_getElem qk,hx];rfl
 have hxo:=he x (hx▸List.getElem_mem qk)
 have hev:=yK0 x hxo
 rw[hxd]at hM
 simp[go_sem,q1',yE,qk,hx]
 refine zE hev Tryz.callB81 ⟨zo3 ⟨yA rfl,wK,yA rfl,yA rfl,yA rfl,wK,wK,wK,yA rfl,yA rfl,yA rfl,trivial⟩,zV,zF (by simp[go_sem]) (by rw[GExpr.row_eq];rfl)⟩ rfl ?_
 have hvo:(evN x).2=0→VK (evN x).1 (xV noT x).1:=xe9 hxo
 generalize evN x=kv at hM hvo⊢
 simp[go_sem,valP,yE]
 by_cases q2:kv.2=0
 rotate_left
 ·rw[if_pos (.inl q2)]at hM
  have q2':(kv.2 !=0)=true:=by simpa using q2
  simp[go_sem,q2']
  exact ret _ hM
 have q2':(kv.2 !=0)=false:=by simpa using q2
 by_cases q3:kv.1.kind=0
 ·rw[if_pos (.inr q3)]at hM
  have q3':(kv.1.kind==0)=true:=by simpa using q3
  simp[go_sem,q2',q3',yE]
  exact ret _ hM
 have q3':(kv.1.kind==0)=false:=by simpa using q3
 rw[if_neg (fun h=>h.elim (fun h=>h q2) q3)]at hM
 obtain⟨hvk,hvs⟩:=xc8 (hvo q2)
 have hbo:=xm8 wN (tabsS.map GTable.row) tn kv.1 (by decide) hvk hvs
 rw[show(tabsS.map GTable.row).length=3 from rfl]at hbo
 obtain⟨bd,hbd⟩: ∃bd,wH 3 (tn:Int) kv.1=bd:=⟨_,rfl⟩
 have hbl:bd.length≤9223372036854775806:=by
  have:=yu5 (v:=kv.1)
  rw[←hbd];unfold wH;split
  ·simp only[List.length_cons];omega
  ·simp
 rw[hbd]at hbo hM
 simp[go_sem,q2',q3',yE]
 have hbd1':=xe8 hB
 by_cases q4:T.place=0
 ·have q4':(T.place==0)=true:=by simpa using q4
  have q5:0<r.length:=by omega
  obtain⟨y,hy⟩: ∃y,r[0]=y:=⟨_,rfl⟩
  have hyd:r.getD 0 zeroE=y:=by rw[List.getD_eq_getElem?_getD,List.getElem?_eq_getElem q5,hy];rfl
  have hyo:=he y (hy▸List.getElem_mem q5)
  have hev2:=yK0 y hyo
  unfold regN at hM
  rw[if_pos q4,hyd]at hM
  simp[go_sem,q4',q5,hy]
  refine zE hev2 Tryz.callB81 ⟨zo3 ⟨yA rfl,wK,yA rfl,yA rfl,yA rfl,wK,wK,wK,yA rfl,yA rfl,yA rfl,trivial⟩,zV,zF (by simp[go_sem]) (by rw[GExpr.row_eq];rfl)⟩ rfl ?_
  generalize evN y=rv at hM⊢
  simp[go_sem,valP,yE]
  by_cases q6:rv.2=0
  rotate_left
  ·rw[if_pos (.inl q6)]at hM
   have q6':(rv.2 !=0)=true:=by simpa using q6
   simp[go_sem,q6']
   exact ret _ hM
  have q6':(rv.2 !=0)=false:=by simpa using q6
  by_cases q7:rv.1.kind=2
  rotate_left
  ·rw[if_pos (.inr q7)]at hM
   have q7':(rv.1.kind !=2)=true:=by simpa using q7
   simp[go_sem,q6',q7',yE]
   exact ret _ hM
  have q7':(rv.1.kind !=2)=false:=by simpa using q7
  rw[if_neg (fun h=>h.elim (fun h=>h q6) (fun h=>h q7))]at hM
  simp only at hM
  have hrg:=ya1 tn (regC rv.1.n) ht3 (xl5 _)
  obtain⟨⟨g,ge⟩,hg⟩: ∃g,yV tn (regC rv.1.n)=g:=⟨_,rfl⟩
  rw[hg]at hrg hM
  simp only at hM
  unfold regC at hrg
  simp[go_sem,q6',q7',yE]
  refine zE hrg Tryz.callB34 (zF (by simp[go_sem,schR]) rfl) rfl ?_
  simp[go_sem,zR1]
  by_cases q8:ge=0
  rotate_left
  ·rw[if_pos q8]at hM
   have q8':(ge !=0)=true:=by simpa using q8
   simp[go_sem,q8']
   exact ret _ hM
  have q8':(ge !=0)=false:=by simpa using q8
  rw[if_neg (fun h=>h q8)]at hM
  have hcall:=yA0 N A h g ⟨bd,bd++ [0]⟩ (by omega) (fun y hy=>by have:=hbd1'.2 y hy;omega)
  simp[go_sem,q8',yE]
  refine zE hbo Tryz.callB55 (zF (by simp[go_sem]) rfl) rfl ?_
  simp[go_sem]
  refine zP hbl ?_
  simp[go_sem]
  refine zG8 hcall Tryz.callB35 (zw7 h) (by simp[ltOb,ltC,ltK]) ⟨zo0 (n:=(nSt N A).length) (by simp[ltS,ltA,ltC,ltK,zl5]),zA rfl,zA rfl,trivial⟩ (fun r s h=>by
   obtain⟨rfl,N2,A2,rfl,h2,_⟩:=h
   exact⟨rfl,zw7 h2⟩) ?_
  rintro r' s ⟨rfl,N2,A2,rfl,hok2,hu2⟩ hle σ' pick hF2
  simp[go_sem]
  exact zX7 hF2 (by rw[yE];exact Nat.le_refl _) (zw7 hok2) hle rfl ⟨rfl,N2,A2,rfl,hok2,hu2.trans hM⟩
 have q4':(T.place==0)=false:=by simpa using q4
 unfold regN at hM
 rw[if_neg q4]at hM
 simp only at hM
 have hrg:=ya1 tn 0 ht3 (by omega)
 obtain⟨⟨g,ge⟩,hg⟩: ∃g,yV tn 0=g:=⟨_,rfl⟩
 rw[hg]at hrg hM
 simp only at hM
 simp[go_sem,q4',yE]
 refine zE hrg Tryz.callB34 (zF (by simp[go_sem,schR]) rfl) rfl ?_
 simp[go_sem,zR1]
 by_cases q8:ge=0
 rotate_left
 ·rw[if_pos q8]at hM
  have q8':(ge !=0)=true:=by simpa using q8
  simp[go_sem,q8']
  exact ret _ hM
 have q8':(ge !=0)=false:=by simpa using q8
 rw[if_neg (fun h=>h q8)]at hM
 have hcall:=yA0 N A h g ⟨bd,bd++ [0]⟩ (by omega) (fun y hy=>by have:=hbd1'.2 y hy;omega)
 simp[go_sem,q8',yE]
 refine zE hbo Tryz.callB55 (zF (by simp[go_sem]) rfl) rfl ?_
 simp[go_sem]
 refine zP hbl ?_
 simp[go_sem]
 refine zG8 hcall Tryz.callB35 (zw7 h) (by simp[ltOb,ltC,ltK]) ⟨zo0 (n:=(nSt N A).length) (by simp[ltS,ltA,ltC,ltK,zl5]),zA rfl,zA rfl,trivial⟩ (fun r s h=>by
  obtain⟨rfl,N2,A2,rfl,h2,_⟩:=h
  exact⟨rfl,zw7 h2⟩) ?_
 rintro r' s ⟨rfl,N2,A2,rfl,hok2,hu2⟩ hle σ' pick hF2
 simp[go_sem]
 exact zX7 hF2 (by rw[yE];exact Nat.le_refl _) (zw7 hok2) hle rfl ⟨rfl,N2,A2,rfl,hok2,hu2.trans hM⟩
end Go.Proofs.YtajjjghohakniaaGreat
namespace Go.Proofs.YtajjjghohakniaaGreat
open Go Go.Vx R
set_option maxRecDepth 100000
def txA:List UInt8:= [83,69,76,69,67,84,32,42,32,70,82,79,77,32,84,32,87,72,69,82,69,32,75,32,62,61,32,51,32,65,78,68,32,75,32,60,32,53,32,65,78,68,32,82,32,61,32,49]
def txB:List UInt8:= [83,69,76,69,67,84,32,88,32,70,82,79,77,32,84]
def cutE (w:List UInt8) (name:List UInt8) (n:Int):GExpr:=opE w [namE name,valE ⟨2,n,[]⟩]
def whA:GExpr:=opE wAND [opE wAND [cutE [62,61] [75] 3,cutE [60] [75] 5],cutE [61] [82] 1]
def stA:GStmt:=⟨1,[84],[⟨1,zeroE⟩],[],[],true,whA,[],false,-1⟩
def stB:GStmt:=⟨1,[84],[⟨2,namE [88]⟩],[],[],false,zeroE,[],false,-1⟩
theorem xr8:zt5 txA=(⟨0,0,[stA]⟩,0,0):=by kernel_rfl
theorem xs2:zt5 txB=(⟨0,0,[stB]⟩,0,0):=by kernel_rfl
def xc0 (l:GLot):US:=l.stmts.foldl (zw2 fun _ _ U=>U) []
theorem xy5:zu6 ⟨0,0,[stA]⟩=(0,0):=by kernel_rfl
theorem xz5:zu6 ⟨0,0,[stB]⟩=(0,14):=by kernel_rfl
theorem xv4: ∃x:GSpan,xc0 ⟨0,0,[stA]⟩= [(1,[x])]:=⟨_,rfl⟩
theorem Bd.more {n:Nat} {U:US} (h:Bd n U):Bd (n+1) U:=⟨by have:=h.1;omega,fun y hy=>by have:=h.2 y hy;omega⟩
theorem yz2 (l:GLot) (hl:l.stmts.length≤12) (hk: ∀st∈l.stmts,st.kind≠2∧st.rows.length≤20) (hv: ∀st∈l.stmts,VOk st):Pure Tryz.prog 15 [schR tabsS,.agg l.row] (.sl .ro ((xc0 l).map uRow)):=by
 refine yH9 (fun _ _ U=>U) (fun _ _ _ _ h=>h.more) l (by unfold maxLen;omega) hv ?_ (fun st hst=>by have:=(hk st hst).2;unfold maxLen;omega) (fun st hst h2=>absurd h2 (hk st hst).1)
 have: ∀L:List GStmt,(∀st∈L,st.kind≠2)→(L.map cntF).sum=2*L.length:=by
  intro L
  induction L with
  |nil=>intro _;rfl
  |cons x L ih=>
   intro h
   rw[List.map_cons,List.sum_cons,ih (fun st hst=>h st (List.mem_cons_of_mem _ hst)),List.length_cons]
   have:cntF x=2:=by unfold cntF;rw[if_neg (h x (List.mem_cons_self ..))]
   omega
 rw[this _ (fun st hst=>(hk st hst).1)]
 omega
theorem xp4 {st:GStmt} (h:(zi5 st).all (fun e=>(e.args.all fun a=>decide (-9223372036854775808≤a.v.kind∧a.v.kind≤9223372036854775807∧ -9223372036854775808≤a.v.n∧a.v.n≤9223372036854775807∧a.v.s.length≤500)))=true):VOk st:=fun e he name s v ha=>by
 have h1:=List.all_eq_true.1 h e he
 have hin: ∃a∈e.args,a.v=v:=by
  unfold xS at ha
  split at ha
  ·rename_i a b heq hab
   rw[hab]
   split at ha
   ·split at ha
    ·cases ha;exact⟨a,by simp,rfl⟩
    ·cases ha
   ·split at ha
    ·cases ha;exact⟨b,by simp,rfl⟩
    ·cases ha
  ·cases ha
 obtain⟨a,ham,rfl⟩:=hin
 have h2:=List.all_eq_true.1 h1 a ham
 simp only[decide_eq_true_eq]at h2
 exact⟨⟨h2.1,h2.2.1⟩,⟨h2.2.2.1,h2.2.2.2.1⟩,by unfold maxLen;omega⟩
theorem yj2 {s:List UInt8} {l:GLot} {a b:Int} (h:zt5 s=(l,a,b)):LOk l:=by
 have:=yw4 s
 rw[h]at this
 exact this
set_option maxHeartbeats 1000000 in
theorem xn2:Pure Tryz.prog 8 [] (.bool true):=by
 have hla:=xe2 txA (by decide)
 have hlb:=xe2 txB (by decide)
 rw[xr8]at hla
 rw[xs2]at hlb
 have hca:=zF1 ⟨0,0,[stA]⟩ (yj2 xr8)
 have hcb:=zF1 ⟨0,0,[stB]⟩ (yj2 xs2)
 rw[xy5]at hca
 rw[xz5]at hcb
 have hn:=yz2 ⟨0,0,[stA]⟩ (by decide) (fun st hst=>by simp at hst;subst hst;exact⟨by decide,by decide⟩) (fun st hst=>by simp at hst;subst hst;exact xp4 (by kernel_rfl))
 obtain⟨x,hx⟩:=xv4
 rw[hx]at hn
 obtain⟨lA,hlA⟩: ∃l:GLot,l=⟨0,0,[stA]⟩:=⟨_,rfl⟩
 obtain⟨lB,hlB⟩: ∃l:GLot,l=⟨0,0,[stB]⟩:=⟨_,rfl⟩
 rw[←hlA]at hla hca hn
 rw[←hlB]at hlb hcb
 have hsc:=yp7
 refine VCalls.intro 0 Tryz.func8 Tryz.ntmps8 Tryz.results8 rfl rfl (Nat.le_of_ble_eq_true rfl) fun c hc hb=>zJ ?_
 simp[go_sem]
 refine zE hsc Tryz.callB10 (zH rfl) rfl ?_
 simp[go_sem,schS]
 refine zE hla Tryz.callB11 (zH rfl) rfl ?_
 simp[go_sem]
 refine zE hca Tryz.callB13 ⟨zN8,zA rfl,trivial⟩ rfl ?_
 simp[go_sem,yK]
 refine zE hn Tryz.callB15 ⟨zN8,zA rfl,trivial⟩ rfl ?_
 simp[go_sem]
 refine zX [(1,0),(2,0)] 2 (by simp) (by kernel_rfl) (by kernel_rfl) ?_
 simp[go_sem]
 refine zS hlb Tryz.callB11 (fun _=>zH rfl) rfl ?_
 simp[go_sem]
 refine zS hcb Tryz.callB13 (fun _=>⟨zN8,zA rfl,trivial⟩) rfl ?_
 simp[go_sem,yK]
 exact zQ (zA rfl) ⟨rfl,rfl⟩
end Go.Proofs.YtajjjghohakniaaGreat
namespace Go.Proofs.YtajjjghohakniaaGreat
open Go Go.Vx R
set_option maxRecDepth 100000
def zK1 (l:GLot):US:=l.stmts.foldl (zw2 rowS) []
theorem yb8: ∀(n:Nat) (q l:List GExpr),(∀e∈q,Good e)→(∀e∈l,Good e)→ ∀e∈bfs n q l,Good e
 |0,_,_,_,hl=>hl
 |n+1,[],_,_,hl=>by rw[bfs];exact hl
 |n+1,x::q,l,hq,hl=>by
  have hx:=hq x (List.mem_cons_self ..)
  have hq': ∀e∈q,Good e:=fun e he=>hq e (List.mem_cons_of_mem _ he)
  rw[bfs]
  split
  ·exact yb8 n _ _ (fun e he=>by
    rcases List.mem_append.1 he with he|he
    ·exact hq' e he
    ·exact hx.sub e he) hl
  ·exact yb8 n _ _ hq' (fun e he=>by
    rcases List.mem_append.1 he with he|he
    ·exact hl e he
    ·rw[List.mem_singleton]at he;subst he;exact hx)
theorem yr8 {st:GStmt} (h:Good st.where_):VOk st:=fun e he name s v ha=>by
 have hg:Good e:=by
  unfold zi5 at he
  split at he
  ·exact yb8 4096 [st.where_] [] (fun e he=>by rw[List.mem_singleton]at he;subst he;exact h) (fun e he=>by cases he) e he
  ·cases he
 have hin: ∃a∈e.args,a.v=v:=by
  unfold xS at ha
  split at ha
  ·rename_i a b heq hab
   rw[hab]
   split at ha
   ·split at ha
    ·cases ha;exact⟨a,by simp,rfl⟩
    ·cases ha
   ·split at ha
    ·cases ha;exact⟨b,by simp,rfl⟩
    ·cases ha
  ·cases ha
 obtain⟨a,ham,rfl⟩:=hin
 exact(hg.sub a ham).v
theorem xg9 (l:GLot) (hl:l.stmts.length≤24) (hs: ∀st∈l.stmts,SOk st):Pure Tryz.prog 15 [schR tabsS,.agg l.row] (.sl .ro ((zK1 l).map uRow)):=by
 refine yH9 rowS (fun t r n U h=>xo8 t r n U h) l (by unfold maxLen;omega) (fun st hst=>yr8 (hs st hst).where_.good) ?_ (fun st hst=>by have:=(hs st hst).rows.1;unfold maxLen;omega) (fun st hst hk ht=> ?_)
 ·have: ∀L:List GStmt,(∀st∈L,SOk st)→(L.map cntF).sum≤20*L.length:=by
   intro L
   induction L with
   |nil=>intro _;exact Nat.le_refl _
   |cons x L ih=>
    intro h
    have h1:=ih (fun st hst=>h st (List.mem_cons_of_mem _ hst))
    have h2:=(h x (List.mem_cons_self ..)).rows.1
    rw[List.map_cons,List.sum_cons,List.length_cons]
    have:cntF x≤20:=by unfold cntF;split<;>omega
    omega
  have:=this _ hs
  omega
 ·intro r hr N A hN hB
  obtain⟨hr1,hr2⟩:=(hs st hst).rows.2 r hr
  have htc:=zp3 st.table
  obtain⟨tn,htn⟩: ∃tn:Nat,xP st.table=(tn:Int):=⟨(xP st.table).toNat,by omega⟩
  rw[htn]at htc⊢
  have htl:tn<tabsS.length:=by show tn<3;omega
  exact xz8 tn _ (List.getElem?_eq_getElem htl) r (by omega) hr2 N A hN hB
end Go.Proofs.YtajjjghohakniaaGreat
