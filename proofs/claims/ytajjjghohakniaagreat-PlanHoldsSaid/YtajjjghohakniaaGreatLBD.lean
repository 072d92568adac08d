/-
  The kinds of expressions, in both texts, over trees (the library Vx); used by the theorem at the end of the claim.
  Conditions: as each theorem states them.
-/
import Derived.Test.YtajjjghohakniaaGreatLBC
import Derived.Test.YtajjjghohakniaaGreatLBA
namespace Go.Proofs.YtajjjghohakniaaGreat
open Go Go.Vx R
set_option maxRecDepth 100000
theorem xt5 (v:GValue) (l:List Int):([.box v.row,.lst (l.map yS) 1]:St).all (ltOb 2)=true:=by simp[ltOb,ltC,ltK,yS,GValue.row]
theorem xo1 (v:GValue) (r:Int):VCalls Tryz.prog 61 [.int .i64 r,.ptr 0 0] [.box v.row] (fun x s=>x= .bool (r !=v.n)∧s= [.box v.row]):=by
 refine VCalls.intro 1 Tryz.func61 Tryz.ntmps61 Tryz.results61 rfl rfl (Nat.le_of_ble_eq_true rfl) fun c hc hb=>zJ ?_
 simp[go_sem]
 exact zm3 1 (by simp[go_sem]) rfl rfl (Nat.le_refl _) (zA rfl) ⟨rfl,rfl⟩
def idxF (p:Int→Bool):List Int→Nat→Int
 | [],_=> -1
 |x::l,i=>if p x=true then i else idxF p l (i+1)
theorem xv5 (v:GValue) (xs:List Int) (m:Nat) (hm:m≤xs.length) (hl:xs.length≤1000):
  VCalls Tryz.prog 111 [.lsv 1 1 xs.length 0 m,.fn 61 [.ptr 0 0]] [.box v.row,.lst (xs.map yS) 1]
   (fun r s=>r= .int .i64 (idxF (fun x=>x !=v.n) (xs.take m) 0)∧s= [.box v.row,.lst (xs.map yS) 1]):=by
 generalize hM:idxF (fun x=>x !=v.n) (xs.take m) 0=M
 have ret: ∀(r:Int) (σ:St),r=M→σ.take 2= [.box v.row,.lst (xs.map yS) 1]→wret (some (.int .i64 r)) 2 (fun r s=>r= .int .i64 M∧s= [.box v.row,.lst (xs.map yS) 1]) σ:=fun r σ h hs=>by subst h;exact zm3 2 hs rfl (by simp[ltOb,ltC,ltK,yS,GValue.row]) (Nat.le_refl _) (zA rfl) ⟨rfl,rfl⟩
 refine VCalls.introV 2 Tryz.func111 Tryz.ntmps111 Tryz.results111 rfl rfl (Nat.le_of_ble_eq_true rfl) fun c hc hb=> ?_
 refine zC ?_
 simp[go_sem]
 refine zN (S:=Nat) [0,1,7,8] (fun i=> [.lsv 1 1 xs.length 0 m,.fn 61 [.ptr 0 0],.int .i64 m,.int .i64 i]) (fun _=> [.box v.row,.lst (xs.map yS) 1]) (fun i=>m - i) (fun i=>i≤m∧idxF (fun x=>x !=v.n) ((xs.take m).drop i) i=M) hc hb 0 ⟨Nat.zero_le _,hM⟩ ?_ ?_
 ·exact at_n 2 (by simp[go_sem]) rfl (by simp[ltOb,ltC,ltK,yS,GValue.row]) (Nat.le_refl _) (zE (by simp[go_sem]) rfl)
 rintro i ⟨hi,hinv⟩
 by_cases q:i<m
 rotate_left
 ·rw[List.drop_eq_nil_of_le (by simp;omega)]at hinv
  refine zC ?_
  simp[go_sem,q]
  exact ret _ _ hinv rfl
 have ei:=zU q (by omega)
 have hic:i<xs.length:=by omega
 obtain⟨x,hx⟩: ∃x,xs[i]=x:=⟨_,rfl⟩
 have hxt:(xs.take m)[i]'(by simp;omega)=x:=by rw[List.getElem_take];exact hx
 rw[List.drop_eq_getElem_cons (by simp;omega),hxt,idxF]at hinv
 have hd:=xo1 v x
 obtain⟨b,hb1⟩: ∃b,(x !=v.n)=b:=⟨_,rfl⟩
 rw[hb1]at hd hinv
 refine zC ?_
 simp[go_sem,q,hic,hx]
 refine yk7 1 hd Tryz.callB61 (by simp[go_sem]) rfl rfl (zA1 rfl) (fun r s h=>by obtain⟨rfl,rfl⟩:=h;exact⟨rfl,rfl,rfl⟩) ?_
 rintro r s ⟨rfl,rfl⟩
 simp[go_sem]
 refine zS (fun w=> ?_) (fun w=> ?_)
 ·rw[if_pos w]at hinv
  simp[go_sem]
  exact ret _ _ hinv rfl
 ·rw[if_neg (by rw[w];decide)]at hinv
  simp[go_sem,ei]
  exact zP (i+1) ⟨by omega,⟨q,hinv⟩,at_n 2 (by simp[go_sem]) rfl (by simp[ltOb,ltC,ltK,yS]) (Nat.le_refl _) (zE (by simp[go_sem]) rfl)⟩
def zg0 (n:Int) (l:List Int):List Int:=l.filter (· ==n)
theorem yc7 {n:Int}: ∀(l:List Int) (i:Nat),idxF (fun x=>x !=n) l i= -1→zg0 n l=l
 | [],_,_=>rfl
 |x::l,i,h=>by
  unfold idxF at h
  split at h
  ·omega
  ·rename_i q
   have:=yc7 l (i+1) h
   have hx:(x==n)=true:=by simpa using q
   unfold zg0 at this⊢
   rw[List.filter_cons_of_pos (by simpa using hx),this]
theorem yc8 {n:Int}: ∀(l:List Int) (i:Nat),idxF (fun x=>x !=n) l i≠ -1→ ∃k,idxF (fun x=>x !=n) l i=((i+k:Nat):Int)∧k<l.length∧zg0 n (l.take k)=l.take k∧(∀x,l[k]? =some x→x≠n)
 | [],i,h=>absurd rfl h
 |x::l,i,h=>by
  unfold idxF at h⊢
  split
  ·rename_i q
   exact⟨0,by simp,by simp,rfl,fun y hy=>by simp at hy;subst hy;simpa using q⟩
  ·rename_i q
   rw[if_neg q]at h
   obtain⟨k,h1,h2,h3,h4⟩:=yc8 l (i+1) h
   have hx:(x==n)=true:=by simpa using q
   refine⟨k+1,by rw[h1];congr 1;omega,by simp;omega, ?_,fun y hy=>h4 y (by simpa using hy)⟩
   unfold zg0 at h3⊢
   rw[List.take_succ_cons,List.filter_cons_of_pos (by simpa using hx),h3]
theorem zH5 {n:Int} {xs:List Int} {j:Nat} {x:Int} (h:xs[j]? =some x):zg0 n (xs.take (j+1))=zg0 n (xs.take j)++(if x=n then [x]else []):=by
 unfold zg0
 rw[List.take_add_one,h,List.filter_append]
 by_cases q:x=n
 ·simp[q]
 ·simp[q]
theorem xq3 (v:GValue) (xs:List Int) (m:Nat) (hm:m≤xs.length) (hl:xs.length≤1000):
  VCalls Tryz.prog 60 [.lsv 1 1 xs.length 0 m,.fn 61 [.ptr 0 0]] [.box v.row,.lst (xs.map yS) 1]
   (fun r s=> ∃ys:List Int,ys.length=xs.length∧(zg0 v.n (xs.take m)).length≤m∧ys.take (zg0 v.n (xs.take m)).length=zg0 v.n (xs.take m)∧r= .lsv 1 1 xs.length 0 (zg0 v.n (xs.take m)).length∧s= [.box v.row,.lst (ys.map yS) 1]):=by
 obtain⟨K,hK⟩: ∃K,zg0 v.n (xs.take m)=K:=⟨_,rfl⟩
 have hKm:K.length≤m:=by rw[←hK];unfold zg0;exact Nat.le_trans (List.length_filter_le _ _) (by simp;omega)
 rw[hK]
 have ret: ∀(ys:List Int) (k:Nat) (σ:St),ys.length=xs.length→k=K.length→ys.take K.length=K→σ.take 2= [.box v.row,.lst (ys.map yS) 1]→
   wret (some (.lsv 1 1 xs.length 0 k)) 2 (fun r s=> ∃ys:List Int,ys.length=xs.length∧K.length≤m∧ys.take K.length=K∧r= .lsv 1 1 xs.length 0 K.length∧s= [.box v.row,.lst (ys.map yS) 1]) σ:=fun ys k σ h1 h2 h3 h4=>by
  subst h2
  exact zm3 2 h4 rfl (by simp[ltOb,ltC,ltK,yS,GValue.row]) (Nat.le_refl _) (zm4 rfl) ⟨ys,h1,hKm,h3,rfl,rfl⟩
 have hix:=xv5 v xs m hm hl
 refine VCalls.introV 2 Tryz.func60 Tryz.ntmps60 Tryz.results60 rfl rfl (Nat.le_of_ble_eq_true rfl) fun c hc hb=> ?_
 refine zC ?_
 simp[go_sem]
 refine yk7 2 hix Tryz.callB111 (by simp[go_sem]) rfl (by simp[ltOb,ltC,ltK,yS,GValue.row]) (zA1 rfl) (fun r s h=>by obtain⟨rfl,rfl⟩:=h;exact⟨rfl,by simp[ltOb,ltC,ltK,yS,GValue.row],rfl⟩) ?_
 rintro r s ⟨rfl,rfl⟩
 by_cases h0:idxF (fun x=>x !=v.n) (xs.take m) 0= -1
 ·have hkk:=yc7 _ _ h0
  rw[hK]at hkk
  rw[h0]
  simp[go_sem]
  exact ret xs m _ rfl (by rw[hkk];simp;omega) (by rw[hkk];simp) (by rfl)
 obtain⟨k,h1,h2,h3,h4⟩:=yc8 _ _ h0
 rw[Nat.zero_add]at h1
 rw[h1]
 have hk1:k<m:=by simp at h2;omega
 have hne:((k:Int)== -1)=false:=by simp
 have ek:IntKind.i64.wrap ((k:Int)+1)=((k+1:Nat):Int):=by rw[i64_id (by omega) (by omega)];omega
 have hx0:zg0 v.n (xs.take (k+1))=xs.take k:=by
  have hkx:k<xs.length:=by omega
  have h5:=h4 xs[k] (by rw[List.getElem?_take,if_pos hk1,List.getElem?_eq_getElem hkx])
  rw[zH5 (List.getElem?_eq_getElem hkx),if_neg h5,List.append_nil]
  rw[List.take_take,Nat.min_eq_left (by omega)]at h3
  exact h3
 simp[go_sem,hne,ek]
 refine zN (S:=Nat×Nat×List Int) [0,1,5,6] (fun u=> [.lsv 1 1 xs.length 0 m,.fn 61 [.ptr 0 0],.int .i64 u.1,.int .i64 u.2.1]) (fun u=> [.box v.row,.lst (u.2.2.map yS) 1]) (fun u=>m - u.2.1)
  (fun u=>u.1<u.2.1∧u.2.1≤m∧u.2.2.length=xs.length∧u.2.2.take u.1=zg0 v.n (xs.take u.2.1)∧u.2.2.drop u.2.1=xs.drop u.2.1) hc hb (k,k+1,xs) ⟨by simp only;omega,by simp only;omega,rfl,hx0.symm,rfl⟩ ?_ ?_
 ·exact at_n 2 (by simp[go_sem]) rfl (by simp[ltOb,ltC,ltK,yS,GValue.row]) (Nat.le_refl _) (zE (by simp[go_sem]) rfl)
 rintro⟨i,j,ys⟩ ⟨hij,hjm,hyl,hpre,hsuf⟩
 simp only at hij hjm hyl hpre hsuf
 by_cases q:j<m
 rotate_left
 ·have hj:j=m:=by omega
  subst hj
  rw[hK]at hpre
  have hiK:i=K.length:=by rw[←hpre];simp;omega
  have hij':i≤j:=by omega
  refine zC ?_
  simp[go_sem]
  refine zO hij' ?_
  simp[go_sem,hyl]
  refine zO (by omega) ?_
  simp[go_sem]
  refine zO (.inl hij') ?_
  simp[go_sem]
  refine ret (ys.take i++List.replicate (j - i) 0++ys.drop (i+(j - i))) i _ (by simp;omega) hiK (by rw[←hiK,List.append_assoc,List.take_append_of_le_length (by simp;omega)];rw[List.take_take,Nat.min_self,hpre]) ?_
  simp[go_sem,yS]
 have ej:=zU q (by omega)
 have hjc:j<ys.length:=by omega
 have hjx:j<xs.length:=by omega
 obtain⟨x,hx⟩: ∃x,ys[j]=x:=⟨_,rfl⟩
 have hxq:ys[j]? =some x:=by rw[List.getElem?_eq_getElem hjc,hx]
 have hxj:xs[j]? =some x:=by
  have:=congrArg (fun l=>l[0]?) hsuf
  simp only[List.getElem?_drop,Nat.add_zero]at this
  rw[←this,hxq]
 have ei:IntKind.i64.wrap ((i:Int)+1)=((i+1:Nat):Int):=by rw[i64_id (by omega) (by omega)];omega
 have hd:=xo1 v x
 obtain⟨b,hb1⟩: ∃b,(x !=v.n)=b:=⟨_,rfl⟩
 rw[hb1]at hd
 refine zC ?_
 simp[go_sem,q,hjx,hx,hyl]
 refine yk7 1 hd Tryz.callB61 (by simp[go_sem]) rfl rfl (zA1 rfl) (fun r s h=>by obtain⟨rfl,rfl⟩:=h;exact⟨rfl,rfl,rfl⟩) ?_
 rintro r s ⟨rfl,rfl⟩
 simp[go_sem]
 refine zS (fun w=> ?_) (fun w=> ?_)
 all_goals simp[go_sem,ej]
 ·have q2:x=v.n:=by simpa using (show(x !=v.n)=false by rw[hb1];simpa using w)
  have hst:=zH5 (n:=v.n) hxj
  rw[if_pos q2]at hst
  refine zO (by omega) ?_
  have hix2:i<xs.length:=by omega
  obtain⟨y,hyi⟩: ∃y,ys[i]? =some y:=⟨_,List.getElem?_eq_getElem (by omega)⟩
  simp[go_sem,hyl,hix2,ei,ej]
  refine zP (i+1,j+1,ys.set i x) ⟨by simp only;omega,⟨by simp only;omega,by simp only;omega,by simp[hyl], ?_, ?_⟩, ?_⟩
  ·rw[hst,←hpre,List.take_add_one,List.getElem?_set_self (by omega),List.take_set_of_le (Nat.le_refl i)]
   simp
  ·simp only
   rw[List.drop_set,if_pos (by omega)]
   have:=congrArg (List.drop 1) hsuf
   simpa[List.drop_drop,Nat.add_comm]using this
  ·exact at_n 2 (by simp[go_sem,List.map_set,yS]) rfl (xt5 v _) (Nat.le_refl _) (zE (by simp[go_sem]) rfl)
 ·have q2: ¬x=v.n:=by
   have:(x !=v.n)=true:=by rw[hb1];simpa using w
   simpa using this
  have hst:=zH5 (n:=v.n) hxj
  rw[if_neg q2,List.append_nil]at hst
  refine zP (i,j+1,ys) ⟨by simp only;omega,⟨by simp only;omega,by simp only;omega,hyl,by rw[hst];exact hpre, ?_⟩, ?_⟩
  ·have:=congrArg (List.drop 1) hsuf
   simpa[List.drop_drop,Nat.add_comm]using this
  ·exact at_n 2 (by simp[go_sem]) rfl (by simp[ltOb,ltC,ltK,yS]) (Nat.le_refl _) (zE (by simp[go_sem]) rfl)
end Go.Proofs.YtajjjghohakniaaGreat
namespace Go.Proofs.YtajjjghohakniaaGreat
open Go Go.Vx R
set_option maxRecDepth 100000
def zz6 (t:Nat):List Int:=if t=0 then [0,1]else if t=1 then [-1]else [1]
def cutR (l:List GExpr) (rs:List Int):List Int:=l.foldl (fun rs e=>match xS e [82]with|none=>rs|some (s,v)=>if s= [61]∧v.kind=2 then zg0 v.n rs else rs) rs
def zc6 (t:Int) (st:GStmt):List Int:=if t=0 then cutR (zj4 st) [0,1]else if t=1 then [-1]else if t=2 then [1]else []
theorem yN0 {n:Int} (l:List Int):(zg0 n l).length≤l.length:=List.length_filter_le _ _
theorem yM8 (l:List Int):wO (l.map yS)=true:=by simp[wO,yS,zk9]
theorem yv7 (l:List Int) (m:Nat):za8 (l.map yS) 0 m=(l.take m).map yS:=by
 unfold za8
 rw[List.drop_zero,←List.map_take,List.map_map]
 rfl
theorem xc6 (st:GStmt) (T:GTable) (l:List Int):([.box [.sl .ro zf3,.sl .ro (tabsS.map GTable.row)],.box st.row,.box T.row,.lst (l.map yS) 1]:St).all (ltOb 4)=true:=by simp[ltOb,ltC,ltK,yS,GStmt.row,GTable.row]
theorem yj9 (T:GTable) (l:List Int):([.box T.row,.lst (l.map yS) 1]:St).all (ltOb 2)=true:=by simp[ltOb,ltC,ltK,yS,GTable.row]
theorem yF4 (n:Nat) (l:List Int):ltOb n (.lst (l.map yS) 1)=true:=by simp[ltOb,ltC,ltK,yS]
theorem yA3 (j:Nat) (hj:j<3): ∃s0:Nat,zb8 j 0=((s0:Int),0)∧s0+(zz6 j).length<5∧(∀(k:Nat) x,(zz6 j)[k]? =some x→ofS ((s0+k:Nat):Int)=((j:Int),x,0))∧
  ((ofS ((s0+(zz6 j).length:Nat):Int)).2.2≠0∨((ofS ((s0+(zz6 j).length:Nat):Int)).2.2=0∧(ofS ((s0+(zz6 j).length:Nat):Int)).1≠j)):=by
 match j,hj with
 |0,_=>exact⟨0,rfl,by decide,fun k x h=>(by match k with
   |0=>cases h;rfl
   |1=>cases h;rfl
   |k+2=>cases h),.inr (by decide)⟩
 |1,_=>exact⟨2,rfl,by decide,fun k x h=>(by match k with
   |0=>cases h;rfl
   |k+1=>cases h),.inr (by decide)⟩
 |2,_=>exact⟨3,rfl,by decide,fun k x h=>(by match k with
   |0=>cases h;rfl
   |k+1=>cases h),.inl (by decide)⟩
theorem yn4: ∀(l:List GExpr) (rs:List Int),(cutR l rs).length≤rs.length
 | [],_=>Nat.le_refl _
 |e::l,rs=>by
  have h1:cutR (e::l) rs=cutR l (match xS e [82]with|none=>rs|some (s,v)=>if s= [61]∧v.kind=2 then zg0 v.n rs else rs):=rfl
  rw[h1]
  refine Nat.le_trans (yn4 l _) ?_
  split
  ·exact Nat.le_refl _
  ·split
   ·exact yN0 _
   ·exact Nat.le_refl _
set_option maxHeartbeats 1000000 in
theorem yK5 (t:Int) (st:GStmt) (hl:(zj4 st).length≤maxLen):Pure Tryz.prog 26 [schR tabsS,.int .i64 t,.agg st.row] (.sl .ro ((zc6 t st).map yS)):=by
 have hcj:=zP8 st
 generalize hM:zc6 t st=M
 unfold zc6 at hM
 generalize hL:zj4 st=L at hcj hM hl
 have retN: ∀(g:Tag) (σ:St),[]=M→wret (some (.sl g [])) 0 (fun r s=>r= .sl .ro (M.map yS)∧s= []) σ:=fun g σ h=>by subst h;exact zQ zW ⟨rfl,rfl⟩
 have retL: ∀(id:Nat) (ys:List Int) (N m:Nat) (σ:St),σ[id]? =some (.lst (ys.map yS) 1)→ys.length=N→m≤N→ys.take m=M→wret (some (.lsv id 1 N 0 m)) 0 (fun r s=>r= .sl .ro (M.map yS)∧s= []) σ:=fun id ys N m σ h1 h2 h3 h4=>by
  refine yu7 id 1 (ys.map yS) h1 (yM8 ys) ?_
  simp only[frzS,frzA,frzC,frzK,List.length_map,h2,Nat.zero_add,h3,and_self,if_true,yv7,h4]
  exact zQ zW ⟨rfl,rfl⟩
 refine VCalls.introV 0 Tryz.func26 Tryz.ntmps26 Tryz.results26 rfl rfl (Nat.le_of_ble_eq_true rfl) fun c hc hb=> ?_
 refine zC ?_
 simp[go_sem,schR]
 by_cases ht:0≤t∧t<3
 rotate_left
 ·have hM0: []=M:=by rw[←hM,if_neg (by omega),if_neg (by omega),if_neg (by omega)]
  have h2:decide (t<0)=true∨(decide (t<0)=false∧decide ((tabsS.length:Int)≤t)=true):=by
   simp only[decide_eq_true_eq,decide_eq_false_iff_not,show tabsS.length=3 from rfl]
   omega
  refine h2.elim (fun q=> ?_) (fun q=> ?_)
  all_goals simp[go_sem,q]
  all_goals exact retN _ _ hM0
 obtain⟨j,rfl⟩: ∃j:Nat,t=j:=⟨t.toNat,by omega⟩
 have hj:j<3:=by omega
 obtain⟨T,hT⟩: ∃T,tabsS[j]'(by exact hj)=T:=⟨_,rfl⟩
 have hrp:=yK4 j hj
 obtain⟨s0,hs0,hs5,hok,hend⟩:=yA3 j hj
 obtain⟨n,hn⟩: ∃n,(zz6 j).length=n:=⟨_,rfl⟩
 rw[hn]at hs5 hend
 rw[hs0]at hrp
 have hq1:decide ((j:Int)<0)=false:=decide_eq_false (by omega)
 have hq2:decide ((tabsS.length:Int)≤j)=false:=decide_eq_false (by simp only[show tabsS.length=3 from rfl];omega)
 have hq3:decide (tabsS.length≤j)=false:=decide_eq_false (by simp only[show tabsS.length=3 from rfl];omega)
 have hjl:j<tabsS.length:=hj
 have hle:=xi9
 have e1:IntKind.i64.wrap ((j:Int)+1)=((j+1:Nat):Int):=by rw[i64_id (by omega) (by omega)];omega
 simp[go_sem,hq1,hq3,hjl]
 refine xn1 8 1 (by decide) (by simp[go_sem]) ?_
 refine zi5 [(10,0),(11,0)] 4 (by simp) (by kernel_rfl) (by kernel_rfl) ?_
 simp[go_sem,e1]
 refine zO ⟨by omega,by simp only[show tabsS.length=3 from rfl];omega,zS7 fun T=>rfl⟩ ?_
 simp[go_sem]
 refine zT hle Tryz.callB58 (fun _=>zI (by simp[go_sem,schR]) rfl) rfl ?_
 simp[go_sem]
 refine zT hrp Tryz.callB34 (fun _=>zI (by simp[go_sem,schR]) rfl) rfl ?_
 simp[go_sem,zy2]
 refine zN (S:=Nat) [1,3,5,7,8,9] (fun k=> [.int .i64 j,.ptr 0 0,.ptr 1 0,.ptr 2 0,.lsv 3 1 k 0 k,.int .i64 ((s0+k:Nat):Int)])
  (fun k=> [.box [.sl .ro zf3,.sl .ro (tabsS.map GTable.row)],.box st.row,.box T.row,.lst (((zz6 j).take k).map yS) 1]) (fun k=>n - k) (fun k=>k≤n) hc hb 0 (Nat.zero_le _) ?_ ?_
 ·exact at_n 4 (by simp[go_sem,←hT];exact⟨rfl,rfl,rfl,rfl,rfl,rfl,rfl,rfl,rfl,rfl,rfl⟩) rfl (xc6 st T _) (Nat.zero_le _) (zE (by simp[go_sem]) rfl)
 intro k hk
 have hof:=Of_w (s0+k) (by omega)
 refine zC ?_
 simp[go_sem]
 refine zD hof Tryz.callB59 (zI (by simp[go_sem,schR]) rfl) rfl ?_
 by_cases hkn:k<n
 ·obtain⟨x,hx⟩: ∃x,(zz6 j)[k]? =some x:=⟨_,List.getElem?_eq_getElem (by omega)⟩
  rw[hok k x hx]
  have hkk: ¬(k+1≤k):=by omega
  have ei:IntKind.i64.wrap (((s0:Int)+k)+1)=(s0:Int)+k+1:=by rw[i64_id (by omega) (by omega)]
  simp[go_sem,ofV,hkk]
  refine zO ⟨by omega,xD rfl,by omega⟩ ?_
  simp[go_sem,ei]
  refine zP (k+1) ⟨by omega,by omega, ?_⟩
  exact at_n 4 (by simp[go_sem,List.take_add_one,hx,yS]) rfl (xc6 st T _) (Nat.zero_le _) (zE (by simp[go_sem];omega) rfl)
 ·obtain rfl:k=n:=by omega
  obtain⟨⟨a,b2,e⟩,hp⟩: ∃p,ofS ((s0+k:Nat):Int)=p:=⟨_,rfl⟩
  rw[hp]at hend⊢
  simp only at hend
  have hY:((zz6 j).take k).length=k:=by simp;omega
  have hend2:(e !=0)=true∨((e !=0)=false∧(a !=j)=true):=by
   rcases hend with h|h
   ·exact .inl (by simpa using h)
   ·exact .inr ⟨by simpa using h.1,by simpa using h.2⟩
  by_cases hj0:j=0
  rotate_left
  ·have hpl:(T.place !=0)=true:=by
    rw[←hT]
    match j,hj,hj0 with
    |1,_,_=>rfl
    |2,_,_=>rfl
   have hMj:(zz6 j)=M:=by
    rw[←hM]
    match j,hj,hj0 with
    |1,_,_=>rfl
    |2,_,_=>rfl
   refine hend2.elim (fun q=> ?_) (fun q=> ?_)
   all_goals simp[go_sem,ofV,q,hpl]
   all_goals exact retL 3 ((zz6 j).take k) k k _ (by simp[go_sem]) hY (Nat.le_refl _) (by rw[List.take_take,Nat.min_self,List.take_of_length_le (by omega)];exact hMj)
  subst hj0
  have hpl:(T.place !=0)=false:=by rw[←hT];rfl
  have hcl:T.cols= [⟨[82],2,false⟩,⟨[75],2,false⟩,⟨[86],3,true⟩,⟨[78],2,true⟩]:=by rw[←hT];rfl
  have hk2:k=2:=by rw[←hn];rfl
  subst hk2
  have hend3:(e !=0)=true∨((e !=0)=false∧(a !=0)=true):=by simpa using hend2
  refine hend3.elim (fun q=> ?_) (fun q=> ?_)
  all_goals simp[go_sem,ofV,q,hpl,hcl]
  all_goals refine zD hcj Tryz.callB53 (zI (by simp[go_sem]) rfl) rfl ?_
  all_goals simp[go_sem]
  all_goals refine zN (S:=Nat×List Int×List Int) [7,8,79,80,81] (fun u=> [.ptr 0 0,.lsv 1 1 2 0 u.2.1.length,.sl .ro (L.map GExpr.row),.int .i64 L.length,.int .i64 u.1]) (fun u=> [.box T.row,.lst (u.2.2.map yS) 1]) (fun u=>L.length - u.1) (fun u=>u.1≤L.length∧u.2.1.length≤2∧u.2.2.length=2∧u.2.2.take u.2.1.length=u.2.1∧cutR (L.drop u.1) u.2.1=M) hc hb (0,[0,1],[0,1]) ⟨Nat.zero_le _,Nat.le_refl _,rfl,rfl,hM⟩ ?_ ?_
  all_goals try exact zw7 [2,3] (by decide) rfl ⟨by simp[go_sem,yF,renC,renK,hcl],by simp[go_sem,yF,renC,renK,zz6,yS],trivial⟩ ⟨.inl (by simp[go_sem,renS,renA,renC,renK,ren]),.inl (by simp[go_sem,renS,renA,renC,renK,ren]),zW,zA rfl,zA rfl,trivial⟩
  all_goals rintro⟨i,rs,ys⟩ ⟨hi,hrl,hyl,hyt,hinv⟩
  all_goals simp only at hi hrl hyl hyt hinv
  all_goals (
   by_cases hq:i<L.length
   rotate_left
   ·rw[List.drop_eq_nil_of_le (by omega)]at hinv
    have hrs:rs=M:=hinv
    refine zC ?_
    simp[go_sem,hq]
    exact retL 1 ys 2 rs.length _ (by simp[go_sem]) hyl hrl (by rw[hyt];exact hrs)
   have ei:=zU hq (by unfold maxLen at hl;omega)
   obtain⟨x,hx⟩: ∃x,L[i]=x:=⟨_,rfl⟩
   rw[List.drop_eq_getElem_cons hq,hx]at hinv
   have hag:=ya8 x [82]
   refine zC ?_
   simp[go_sem,hq,hx,hcl]
   refine zi5 [(6,0),(13,3)] 3 (by simp) (by kernel_rfl) (by kernel_rfl) ?_
   simp[go_sem]
   refine zT hag Tryz.callB54 (fun _=>zI (by simp[go_sem]) (by rw[GExpr.row_eq];rfl)) (yE5 _) ?_
   cases ha:xS x [82]with
   |none=>
    simp only[cutR,List.foldl_cons,ha]at hinv
    simp[go_sem,cutV,yH0,ei]
    refine zP (i+1,rs,ys) ⟨by simp only;omega,⟨by simp only;omega,hrl,hyl,hyt,hinv⟩, ?_⟩
    exact at_n 2 (by simp[go_sem,hcl]) rfl (yj9 T _) (Nat.zero_le _) (zE (by simp[go_sem]) rfl)
   |some p=>
    obtain⟨s,v⟩:=p
    simp only[cutR,List.foldl_cons,ha]at hinv
    simp[go_sem,cutV]
    by_cases hs:s= [61]∧v.kind=2
    ·rw[if_pos hs]at hinv
     have hs1:(s== [61])=true:=by simpa using hs.1
     have hs2:(v.kind==2)=true:=by simpa using hs.2
     have hdf:=xq3 v ys rs.length (by omega) (by omega)
     rw[hyt,hyl]at hdf
     simp[go_sem,hs1,hs2]
     refine xm8 3 1 hdf Tryz.callB60 (by decide) (by simp[go_sem]) (by simp[go_sem]) rfl (yF4 _ _) ⟨.inl (by simp[go_sem,renS,renA,renC,renK,ren]),.inl (by simp[go_sem,renS,renA,renC,renK,ren]),trivial⟩ (fun r s h=>by
      obtain⟨zs,_,_,_,_,rfl⟩:=h
      exact⟨_,_,rfl,rfl,yF4 _ _⟩) ?_
     rintro r o2 p2 ⟨zs,hz1,hz2,hz3,rfl,hz4⟩
     obtain⟨rfl,rfl⟩:o2= .box v.row∧p2= .lst (zs.map yS) 1:=by simpa using hz4
     simp[go_sem,renS,renA,renC,renK,ren,ei]
     refine zP (i+1,zg0 v.n rs,zs) ⟨by simp only;omega,⟨by simp only;omega,by simp only;omega,by omega,hz3,hinv⟩, ?_⟩
     exact at_n 2 (by simp[go_sem,hcl]) rfl (yj9 T _) (Nat.zero_le _) (zE (by simp[go_sem]) rfl)
    ·rw[if_neg hs]at hinv
     have hs3:(s== [61])=false∨((s== [61])=true∧(v.kind==2)=false):=by
      by_cases h1:s= [61]
      ·exact .inr ⟨by simpa using h1,by simpa using fun h2=>hs ⟨h1,h2⟩⟩
      ·exact .inl (by simpa using h1)
     refine hs3.elim (fun q1=> ?_) (fun q1=> ?_)
     all_goals simp[go_sem,q1,ei]
     all_goals refine zP (i+1,rs,ys) ⟨by simp only;omega,⟨by simp only;omega,hrl,hyl,hyt,hinv⟩, ?_⟩
     all_goals exact at_n 2 (by simp[go_sem,hcl]) rfl (yj9 T _) (Nat.zero_le _) (zE (by simp[go_sem]) rfl))
end Go.Proofs.YtajjjghohakniaaGreat
namespace Go.Proofs.YtajjjghohakniaaGreat
open Go Go.Vx R
set_option maxRecDepth 100000
def xO {α:Type} (p:α→Bool):List α→Nat→Int
 | [],_=> -1
 |x::l,i=>if p x=true then(i:Int)else xO p l (i+1)
theorem zV2 {α:Type} (p:α→Bool): ∀(l:List α) (i:Nat),xO p l i= -1∨((i:Int)≤xO p l i∧xO p l i<i+l.length)
 | [],i=> .inl rfl
 |x::l,i=>by
  unfold xO
  split
  ·right;simp;omega
  ·have:=zV2 p l (i+1)
   simp only[List.length_cons]
   omega
theorem xv3 (t:GTable) (name:List UInt8):VCalls Tryz.prog 80 [.agg t.row,.ptr 0 0] [.box [.str name]] (fun r s=>r= .bool (t.name==name)∧s= [.box [.str name]]):=by
 refine VCalls.intro 1 Tryz.func80 Tryz.ntmps80 Tryz.results80 rfl rfl (Nat.le_of_ble_eq_true rfl) fun c hc hb=>zJ ?_
 simp[go_sem]
 exact zO9 1 rfl rfl (Nat.le_refl _) (zA rfl) ⟨rfl,rfl⟩
theorem xv2 (t:GCol) (name:List UInt8):VCalls Tryz.prog 175 [.agg t.row,.ptr 0 0] [.box [.str name]] (fun r s=>r= .bool (t.name==name)∧s= [.box [.str name]]):=by
 refine VCalls.intro 1 Tryz.func175 Tryz.ntmps175 Tryz.results175 rfl rfl (Nat.le_of_ble_eq_true rfl) fun c hc hb=>zJ ?_
 simp[go_sem]
 exact zO9 1 rfl rfl (Nat.le_refl _) (zA rfl) ⟨rfl,rfl⟩
theorem xr7 (l:List GTable) (name:List UInt8) (hl:l.length≤maxLen):VCalls Tryz.prog 79 [.sl .ro (l.map GTable.row),.fn 80 [.ptr 0 0]] [.box [.str name]] (fun r s=>r= .int .i64 (xO (fun t:GTable=>t.name==name) l 0)∧s= [.box [.str name]]):=by
 generalize hM:xO (fun t:GTable=>t.name==name) l 0=M
 have ret: ∀(r:Int) (σ:St),r=M→wret (some (.int .i64 r)) 1 (fun r s=>r= .int .i64 M∧s= [.box [.str name]]) (.box [.str name]::σ):=fun r σ h=>by subst h;exact zO9 1 rfl rfl (Nat.le_refl _) (zA rfl) ⟨rfl,rfl⟩
 refine VCalls.introV 1 Tryz.func79 Tryz.ntmps79 Tryz.results79 rfl rfl (Nat.le_of_ble_eq_true rfl) fun c hc hb=> ?_
 refine zC ?_
 simp[go_sem]
 refine zN (S:=Nat) [0,1,7,8] (fun i=> [.sl .ro (l.map GTable.row),.fn 80 [.ptr 0 0],.int .i64 l.length,.int .i64 i]) (fun _=> [.box [.str name]]) (fun i=>l.length - i) (fun i=>i≤l.length∧xO (fun t:GTable=>t.name==name) (l.drop i) i=M) hc hb 0 ⟨Nat.zero_le _,hM⟩ ?_ ?_
 ·exact at_n 1 (by simp[go_sem]) rfl rfl (Nat.le_refl _) (zE (by simp[go_sem]) rfl)
 rintro i ⟨hi,hinv⟩
 by_cases q:i<l.length
 rotate_left
 ·rw[List.drop_of_length_le (by omega),xO]at hinv
  refine zC ?_
  simp[go_sem,q]
  exact ret _ _ hinv
 have ei:=zU q (by unfold maxLen at hl;omega)
 obtain⟨x,hx⟩: ∃x,l[i]=x:=⟨_,rfl⟩
 rw[List.drop_eq_getElem_cons q,hx,xO]at hinv
 obtain⟨b,hb1⟩: ∃b,(x.name==name)=b:=⟨_,rfl⟩
 have hcl:=xv3 x name
 rw[hb1]at hcl hinv
 refine zC ?_
 simp[go_sem,q,hx]
 refine zm1 0 hcl Tryz.callB80 rfl rfl ⟨zA rfl,.inl rfl,trivial⟩ (by rintro r s ⟨rfl,rfl⟩;exact⟨_,rfl,rfl⟩) ?_
 rintro r o ⟨rfl,ho⟩
 cases ho
 simp[go_sem]
 refine zS (fun w=> ?_) (fun w=> ?_)
 ·rw[if_pos w]at hinv
  simp[go_sem]
  exact ret _ _ hinv
 ·rw[if_neg (by rw[w];decide)]at hinv
  simp[go_sem,ei]
  exact zP (i+1) ⟨by omega,⟨q,hinv⟩,at_n 1 (by simp[go_sem]) rfl rfl (Nat.le_refl _) (zE (by simp[go_sem]) rfl)⟩
theorem xr3 (l:List GCol) (name:List UInt8) (hl:l.length≤maxLen):VCalls Tryz.prog 174 [.sl .ro (l.map GCol.row),.fn 175 [.ptr 0 0]] [.box [.str name]] (fun r s=>r= .int .i64 (xO (fun t:GCol=>t.name==name) l 0)∧s= [.box [.str name]]):=by
 generalize hM:xO (fun t:GCol=>t.name==name) l 0=M
 have ret: ∀(r:Int) (σ:St),r=M→wret (some (.int .i64 r)) 1 (fun r s=>r= .int .i64 M∧s= [.box [.str name]]) (.box [.str name]::σ):=fun r σ h=>by subst h;exact zO9 1 rfl rfl (Nat.le_refl _) (zA rfl) ⟨rfl,rfl⟩
 refine VCalls.introV 1 Tryz.func174 Tryz.ntmps174 Tryz.results174 rfl rfl (Nat.le_of_ble_eq_true rfl) fun c hc hb=> ?_
 refine zC ?_
 simp[go_sem]
 refine zN (S:=Nat) [0,1,7,8] (fun i=> [.sl .ro (l.map GCol.row),.fn 175 [.ptr 0 0],.int .i64 l.length,.int .i64 i]) (fun _=> [.box [.str name]]) (fun i=>l.length - i) (fun i=>i≤l.length∧xO (fun t:GCol=>t.name==name) (l.drop i) i=M) hc hb 0 ⟨Nat.zero_le _,hM⟩ ?_ ?_
 ·exact at_n 1 (by simp[go_sem]) rfl rfl (Nat.le_refl _) (zE (by simp[go_sem]) rfl)
 rintro i ⟨hi,hinv⟩
 by_cases q:i<l.length
 rotate_left
 ·rw[List.drop_of_length_le (by omega),xO]at hinv
  refine zC ?_
  simp[go_sem,q]
  exact ret _ _ hinv
 have ei:=zU q (by unfold maxLen at hl;omega)
 obtain⟨x,hx⟩: ∃x,l[i]=x:=⟨_,rfl⟩
 rw[List.drop_eq_getElem_cons q,hx,xO]at hinv
 obtain⟨b,hb1⟩: ∃b,(x.name==name)=b:=⟨_,rfl⟩
 have hcl:=xv2 x name
 rw[hb1]at hcl hinv
 refine zC ?_
 simp[go_sem,q,hx]
 refine zm1 0 hcl Tryz.callB175 rfl rfl ⟨zA rfl,.inl rfl,trivial⟩ (by rintro r s ⟨rfl,rfl⟩;exact⟨_,rfl,rfl⟩) ?_
 rintro r o ⟨rfl,ho⟩
 cases ho
 simp[go_sem]
 refine zS (fun w=> ?_) (fun w=> ?_)
 ·rw[if_pos w]at hinv
  simp[go_sem]
  exact ret _ _ hinv
 ·rw[if_neg (by rw[w];decide)]at hinv
  simp[go_sem,ei]
  exact zP (i+1) ⟨by omega,⟨q,hinv⟩,at_n 1 (by simp[go_sem]) rfl rfl (Nat.le_refl _) (zE (by simp[go_sem]) rfl)⟩
theorem yR8 (ts:List GTable) (name:List UInt8) (hl:ts.length≤maxLen):Pure Tryz.prog 32 [schR ts,.str name] (.int .i64 (xO (fun t:GTable=>t.name==name) ts 0)):=by
 have hx:=xr7 ts name hl
 refine VCalls.intro 0 Tryz.func32 Tryz.ntmps32 Tryz.results32 rfl rfl (Nat.le_of_ble_eq_true rfl) fun c hc hb=>zJ ?_
 simp[go_sem,schR]
 refine zm1 1 hx Tryz.callB79 rfl rfl ⟨zA rfl,.inl rfl,trivial⟩ (by rintro r s ⟨rfl,rfl⟩;exact⟨_,rfl,rfl⟩) ?_
 rintro r o ⟨rfl,ho⟩
 cases ho
 simp[go_sem]
 exact zQ (zA rfl) ⟨rfl,rfl⟩
theorem yC8 (t:GTable) (name:List UInt8) (hl:t.cols.length≤maxLen):Pure Tryz.prog 127 [.agg t.row,.str name] (.int .i64 (xO (fun t:GCol=>t.name==name) t.cols 0)):=by
 have hx:=xr3 t.cols name hl
 refine VCalls.intro 0 Tryz.func127 Tryz.ntmps127 Tryz.results127 rfl rfl (Nat.le_of_ble_eq_true rfl) fun c hc hb=>zJ ?_
 simp[go_sem]
 refine zm1 1 hx Tryz.callB174 rfl rfl ⟨zA rfl,.inl rfl,trivial⟩ (by rintro r s ⟨rfl,rfl⟩;exact⟨_,rfl,rfl⟩) ?_
 rintro r o ⟨rfl,ho⟩
 cases ho
 simp[go_sem]
 exact zQ (zA rfl) ⟨rfl,rfl⟩
end Go.Proofs.YtajjjghohakniaaGreat
namespace Go.Proofs.YtajjjghohakniaaGreat
open Go Go.Vx R
set_option maxRecDepth 100000
theorem yP8 (ts:List GTable) (name:List UInt8) (hl:ts.length≤maxLen):Pure Tryz.prog 16 [schR ts,.str name] (.int .i64 (xO (fun t:GTable=>t.name==name) ts 0)):=by
 generalize hM:xO (fun t:GTable=>t.name==name) ts 0=M
 have ret: ∀(r:Int) (σ:St),r=M→wret (some (.int .i64 r)) 0 (fun r s=>r= .int .i64 M∧s= []) σ:=fun r σ h=>by subst h;exact zQ (zA rfl) ⟨rfl,rfl⟩
 refine VCalls.introV 0 Tryz.func16 Tryz.ntmps16 Tryz.results16 rfl rfl (Nat.le_of_ble_eq_true rfl) fun c hc hb=> ?_
 refine zC ?_
 simp[go_sem,schR]
 refine zN (S:=Nat) [1,2,5] (fun i=> [.str name,.ptr 0 0,.int .i64 i]) (fun _=> [.box [.sl .ro zf3,.sl .ro (ts.map GTable.row)]]) (fun i=>ts.length - i) (fun i=>i≤ts.length∧xO (fun t:GTable=>t.name==name) (ts.drop i) i=M) hc hb 0 ⟨Nat.zero_le _,hM⟩ ?_ ?_
 ·exact at_n 1 (by simp[go_sem]) rfl rfl (Nat.zero_le _) (zE (by simp[go_sem]) rfl)
 rintro i ⟨hi,hinv⟩
 refine zC ?_
 simp[go_sem]
 refine zS (fun q=> ?_) (fun q=> ?_)
 ·have q:i<ts.length:=by simpa using q
  have ei:=zU q (by unfold maxLen at hl;omega)
  obtain⟨x,hx⟩: ∃x,ts[i]=x:=⟨_,rfl⟩
  rw[List.drop_eq_getElem_cons q,hx,xO]at hinv
  simp[go_sem,q,hx]
  refine zS (fun w=> ?_) (fun w=> ?_)
  ·rw[if_pos w]at hinv
   simp[go_sem]
   exact ret _ _ hinv
  ·rw[if_neg (by rw[w];decide)]at hinv
   simp[go_sem,ei]
   exact zP (i+1) ⟨by omega,⟨q,hinv⟩,at_n 1 (by simp[go_sem]) rfl rfl (Nat.zero_le _) (zE (by simp[go_sem]) rfl)⟩
 ·have q:i=ts.length:=by
   have: ¬i<ts.length:=by simpa using q
   omega
  subst q
  rw[List.drop_length]at hinv
  simp[go_sem]
  exact ret _ _ hinv
theorem ys3 (t:GTable) (name:List UInt8) (hl:t.cols.length≤maxLen):Pure Tryz.prog 94 [.agg t.row,.str name] (.int .i64 (xO (fun c:GCol=>c.name==name) t.cols 0)):=by
 generalize hM:xO (fun c:GCol=>c.name==name) t.cols 0=M
 have ret: ∀(r:Int) (σ:St),r=M→wret (some (.int .i64 r)) 0 (fun r s=>r= .int .i64 M∧s= []) σ:=fun r σ h=>by subst h;exact zQ (zA rfl) ⟨rfl,rfl⟩
 refine VCalls.introV 0 Tryz.func94 Tryz.ntmps94 Tryz.results94 rfl rfl (Nat.le_of_ble_eq_true rfl) fun c hc hb=> ?_
 refine zC ?_
 simp[go_sem]
 refine zN (S:=Nat) [1,2,5] (fun i=> [.str name,.ptr 0 0,.int .i64 i]) (fun _=> [.box t.row]) (fun i=>t.cols.length - i) (fun i=>i≤t.cols.length∧xO (fun c:GCol=>c.name==name) (t.cols.drop i) i=M) hc hb 0 ⟨Nat.zero_le _,hM⟩ ?_ ?_
 ·exact at_n 1 (by simp[go_sem]) rfl rfl (Nat.zero_le _) (zE (by simp[go_sem]) rfl)
 rintro i ⟨hi,hinv⟩
 refine zC ?_
 simp[go_sem]
 refine zS (fun q=> ?_) (fun q=> ?_)
 ·have q:i<t.cols.length:=by simpa using q
  have ei:=zU q (by unfold maxLen at hl;omega)
  obtain⟨x,hx⟩: ∃x,t.cols[i]=x:=⟨_,rfl⟩
  rw[List.drop_eq_getElem_cons q,hx,xO]at hinv
  simp[go_sem,q,hx]
  refine zS (fun w=> ?_) (fun w=> ?_)
  ·rw[if_pos w]at hinv
   simp[go_sem]
   exact ret _ _ hinv
  ·rw[if_neg (by rw[w];decide)]at hinv
   simp[go_sem,ei]
   exact zP (i+1) ⟨by omega,⟨q,hinv⟩,at_n 1 (by simp[go_sem]) rfl rfl (Nat.zero_le _) (zE (by simp[go_sem]) rfl)⟩
 ·have q:i=t.cols.length:=by
   have: ¬i<t.cols.length:=by simpa using q
   omega
  subst q
  rw[List.drop_length]at hinv
  simp[go_sem]
  exact ret _ _ hinv
end Go.Proofs.YtajjjghohakniaaGreat
namespace Go.Proofs.YtajjjghohakniaaGreat
open Go Go.Vx R
set_option maxRecDepth 100000
def colF (T:GTable) (name:List UInt8):Int:=xO (fun c:GCol=>c.name==name) T.cols 0
def colK (T:GTable) (c:Int):Int:=((T.cols[c.toNat]?).map (·.kind)).getD 0
def zh5 (v:GValue):Bool:=v.kind==0&&(v.n==0&&v.s.isEmpty)
theorem zF2 (v:GValue):(!(v.kind==0)||(!(v.n==0)|| !v.s.isEmpty))= !zh5 v:=by unfold zh5;cases v.kind==0<;>cases v.n==0<;>cases v.s.isEmpty<;>rfl
mutual
def yZ (T:GTable):GExpr→Int×Int
 | .mk k s v args=>
  if k=1 then(if s.isEmpty=false∨args.isEmpty=false∨mayF v=false then(0,9)else(v.kind,0))
  else if k=2 then(if colF T s<0 then(0,14)else if args.isEmpty=false∨zh5 v=false then(0,9)else(colK T (colF T s),0))
  else if k=3 then(if(yL T args).2≠0 then(0,(yL T args).2)else if zh5 v=false then(0,9)else zf2 s (yL T args).1)
  else(0,9)
def yL (T:GTable):List GExpr→List Int×Int
 | []=>([],0)
 |e::l=>if(yZ T e).2≠0 then([],(yZ T e).2)else((yZ T e).1::(yL T l).1,(yL T l).2)
end
theorem zg1 (T:GTable) (e:GExpr):yZ T e=
  if e.kind=1 then(if e.s.isEmpty=false∨e.args.isEmpty=false∨mayF e.v=false then(0,9)else(e.v.kind,0))
  else if e.kind=2 then(if colF T e.s<0 then(0,14)else if e.args.isEmpty=false∨zh5 e.v=false then(0,9)else(colK T (colF T e.s),0))
  else if e.kind=3 then(if(yL T e.args).2≠0 then(0,(yL T e.args).2)else if zh5 e.v=false then(0,9)else zf2 e.s (yL T e.args).1)
  else(0,9):=by cases e;rw[yZ];rfl
theorem zd7 {M:Int×Int} {a e:Int} {σ:St} (h:(a,e)=M):wret (some (.tup [.int .i64 a,.int .i64 e])) 0 (fun r s=>r=yN M∧s= []) σ:=by
 subst h
 exact zQ (zA rfl) ⟨rfl,rfl⟩
theorem zr0 (T:GTable) (s:List UInt8) (h: ¬colF T s<0): ∃j:Nat,colF T s=j∧j<T.cols.length:=by
 have:=zV2 (fun c:GCol=>c.name==s) T.cols 0
 unfold colF at h⊢
 refine⟨(xO (fun c:GCol=>c.name==s) T.cols 0).toNat,by omega,by omega⟩
theorem yl9 (l:List GExpr):decide ((0:Int)<l.length)= !l.isEmpty:=by
 cases l with
 |nil=>rfl
 |cons _ _=>exact decide_eq_true (by simp only[List.length_cons];omega)
theorem yb0 (l:List GExpr):decide (0<l.length)= !l.isEmpty:=by
 cases l with
 |nil=>rfl
 |cons _ _=>exact decide_eq_true (by simp only[List.length_cons];omega)
set_option maxHeartbeats 2000000 in
theorem yJ1 (T:GTable) (hT:T.cols.length≤maxLen): ∀(n:Nat) (e:GExpr),xA e≤n→Wide e→Good e→Pure Tryz.prog 173 [.agg T.row,.agg e.row] (yN (yZ T e))
 |0,e,h,_,_=>by have:=zg8 e;omega
 |n+1,e,h,hw,hg=>by
  have ih:=yJ1 T hT n
  have hde:=wV e
  have hlen:=hw.len
  have hsub:=hw.sub
  have hgs:=hg.sub
  have hmay:=yS0 e.v
  have hcol:=yC8 T e.s hT
  obtain⟨M,hM⟩: ∃M,yZ T e=M:=⟨_,rfl⟩
  rw[hM]
  rw[zg1]at hM
  rw[show xO (fun c:GCol=>c.name==e.s) T.cols 0=colF T e.s from rfl]at hcol
  have hz:=zF2 e.v
  have ha1:=yl9 e.args
  have ha2:=yb0 e.args
  have ret: ∀(a b:Int) (σ:St),(a,b)=M→wret (some (.tup [.int .i64 a,.int .i64 b])) 0 (fun r s=>r=yN M∧s= []) σ:=fun a b σ h=>zd7 h
  refine VCalls.introV 0 Tryz.func173 Tryz.ntmps173 Tryz.results173 rfl rfl (Nat.le_of_ble_eq_true rfl) fun c hc hb=> ?_
  refine zC ?_
  simp[go_sem]
  by_cases q1:e.kind=1
  ·have q1':(e.kind==1)=true:=by simpa using q1
   rw[if_pos q1]at hM
   generalize mayF e.v=b at hmay hM
   generalize e.args.isEmpty=ae at ha1 ha2 hM
   simp[go_sem,q1']
   repeat' (first
    |(refine yT (fun q=> ?_) (fun q=> ?_)<;>simp[go_sem,q,ha2])
    |(refine zS (fun q=> ?_) (fun q=> ?_)<;>simp[go_sem,q])
    |(refine zD hmay Tryz.callB130 (zI (by simp[go_sem]) rfl) rfl ?_;simp[go_sem]))
   all_goals exact ret _ _ _ (by rw[←hM];simp_all)
  rw[if_neg q1]at hM
  have q1':(e.kind==1)=false:=by simpa using q1
  by_cases q2:e.kind=2
  ·have q2':(e.kind==2)=true:=by simpa using q2
   rw[if_pos q2]at hM
   simp[go_sem,q1',q2']
   refine zD hcol Tryz.callB127 (zI (by simp[go_sem]) rfl) rfl ?_
   by_cases qc:colF T e.s<0
   ·have qc':decide (colF T e.s<0)=true:=decide_eq_true qc
    rw[if_pos qc]at hM
    simp[go_sem,qc']
    exact ret _ _ _ hM
   have qc':decide (colF T e.s<0)=false:=decide_eq_false qc
   rw[if_neg qc]at hM
   obtain⟨j,hj,hjl⟩:=zr0 T e.s qc
   obtain⟨C,hC⟩: ∃C,T.cols[j]=C:=⟨_,rfl⟩
   have hck:colK T (colF T e.s)=C.kind:=by
    unfold colK
    rw[hj,Int.toNat_natCast,List.getElem?_eq_getElem hjl,hC];rfl
   rw[hck]at hM
   rw[hj]at qc'⊢
   generalize zh5 e.v=z at hz hM
   generalize e.args.isEmpty=ae at ha1 ha2 hM
   simp[go_sem,qc',ha2]
   repeat' (first
    |(refine yT (fun q=> ?_) (fun q=> ?_)<;>simp[go_sem,q,hz])
    |(refine zS (fun q=> ?_) (fun q=> ?_)<;>simp[go_sem,q,hjl,hC]))
   all_goals exact ret _ _ _ (by rw[←hM];simp_all)
  rw[if_neg q2]at hM
  have q2':(e.kind==2)=false:=by simpa using q2
  by_cases q3:e.kind=3
  rotate_left
  ·rw[if_neg q3]at hM
   have q3':(e.kind==3)=false:=by simpa using q3
   simp[go_sem,q1',q2',q3']
   exact ret _ _ _ hM
  have q3':(e.kind==3)=true:=by simpa using q3
  rw[if_pos q3]at hM
  obtain⟨args,hargs⟩: ∃args,e.args=args:=⟨_,rfl⟩
  rw[hargs]at hde hlen hsub hgs hM
  obtain⟨K,hK⟩: ∃K,yL T args=K:=⟨_,rfl⟩
  rw[hK]at hM
  simp[go_sem,q1',q2',q3',hargs]
  refine zu4 7 1 (by decide) (by simp[go_sem]) ?_
  refine zN (S:=Nat×List Int) [2,3,7,61,62,63] (fun u=> [.ptr 0 0,.ptr 1 0,.sl (.app 2) (u.2.map fun n=> [V.int .i64 n]),.sl .ro (args.map GExpr.row),.int .i64 args.length,.int .i64 (u.1:Int)]) (fun u=> [.box T.row,.box e.row,.app u.2.length 1]) (fun u=>args.length - u.1)
   (fun u=>u.1≤args.length∧u.2.length=u.1∧(yL T (args.drop u.1)).2=K.2∧(K.2=0→u.2++(yL T (args.drop u.1)).1=K.1)) hc hb (0,[])
   ⟨Nat.zero_le _,rfl,by simp only[List.drop_zero];rw[hK],fun _=>by simp only[List.drop_zero];rw[hK];rfl⟩ ?_ ?_
  ·exact at_n 3 (by simp[go_sem,hargs]) rfl (by simp[ltOb,ltC,ltK,GExpr.row_eq,GTable.row]) (Nat.zero_le _) (zE (by simp[go_sem]) rfl)
  rintro⟨i,l⟩ ⟨hi,hl,hinv,hinv2⟩
  simp only at hi hl hinv hinv2
  by_cases q:i<args.length
  rotate_left
  ·rw[List.drop_eq_nil_of_le (by omega),yL]at hinv hinv2
   have hK2:K.2=0:=hinv.symm
   have hK1:l=K.1:=by have:=hinv2 hK2;simpa using this
   rw[if_neg (fun h=>h hK2),←hK1]at hM
   have hop:=yz5 e.s l (by unfold maxLen;omega)
   generalize zf2 e.s l=o at hop hM
   generalize zh5 e.v=z at hz hM
   refine zC ?_
   simp[go_sem,q,hz]
   refine(Bool.eq_false_or_eq_true z).elim (fun w=> ?_) (fun w=> ?_)
   ·rw[if_neg (by rw[w];decide)]at hM
    subst w
    simp[go_sem]
    refine zD hop Tryz.callB194 ⟨zA rfl,zW,trivial⟩ rfl ?_
    simp[go_sem,yN]
    exact ret _ _ _ hM
   ·rw[if_pos w]at hM
    subst w
    simp[go_sem]
    exact ret _ _ _ hM
  have ei:=zU q (by omega)
  obtain⟨x,hx⟩: ∃x,args[i]=x:=⟨_,rfl⟩
  have hxm:x∈args:=hx▸List.getElem_mem q
  have hdx:=xX args x hxm
  rw[List.drop_eq_getElem_cons q,hx,yL]at hinv hinv2
  have hcall:=ih x (by omega) (hsub x hxm) (hgs x hxm)
  generalize yZ T x=kx at hcall hinv hinv2
  by_cases q4:kx.2=0
  ·rw[if_neg (fun h=>h q4)]at hinv hinv2
   have q4':(kx.2 !=0)=false:=by simpa using q4
   refine zC ?_
   simp[go_sem,q,hx]
   refine zD hcall Tryz.callB173 (zI (by simp[go_sem]) (by rw[GExpr.row_eq];rfl)) rfl ?_
   simp[go_sem,yN,q4']
   refine zO ⟨by omega,xD rfl⟩ ?_
   simp[go_sem,ei]
   refine zP (i+1,l++ [kx.1]) ⟨by simp only;omega,⟨by simp only;omega,by simp;omega,hinv,fun h=>by have:=hinv2 h;simpa using this⟩, ?_⟩
   exact at_n 3 (by simp[go_sem]) rfl (by simp[ltOb,ltC,ltK,GExpr.row_eq]) (Nat.zero_le _) (zE (by simp[go_sem]) rfl)
  ·rw[if_pos q4]at hinv
   have q4':(kx.2 !=0)=true:=by simpa using q4
   have hK2:kx.2=K.2:=hinv
   rw[if_pos (by rw[←hK2];exact q4),←hK2]at hM
   refine zC ?_
   simp[go_sem,q,hx]
   refine zD hcall Tryz.callB173 (zI (by simp[go_sem]) (by rw[GExpr.row_eq];rfl)) rfl ?_
   simp[go_sem,yN,q4']
   exact ret _ _ _ hM
end Go.Proofs.YtajjjghohakniaaGreat
