/-
  The kinds of expressions, in both texts, over trees (the library Vx); used by the theorem at the end of the claim.
  Conditions: as each theorem states them.
-/
import Derived.Test.YtajjjghohakniaaGreatKBD
import Derived.Test.YtajjjghohakniaaGreatKBB
namespace Go.Proofs.YtajjjghohakniaaGreat
open Go Go.Vx R
set_option maxRecDepth 100000
def zC2 (t:Nat):List Int:=if t=0 then [0,1]else if t=1 then [-1]else [1]
def cutR (l:List GExpr) (rs:List Int):List Int:=l.foldl (fun rs e=>match xS e [82]with|none=>rs|some (s,v)=>if s= [61]∧v.kind=2 then zg2 v.n rs else rs) rs
def xZ (t:Int) (st:GStmt):List Int:=if t=0 then cutR (zi5 st) [0,1]else if t=1 then [-1]else if t=2 then [1]else []
theorem yQ4 {n:Int} (l:List Int):(zg2 n l).length≤l.length:=List.length_filter_le _ _
theorem yS0 (l:List Int):xO (l.map yH)=true:=by simp[xO,yH,zi6]
theorem yB9 (l:List Int) (m:Nat):za4 (l.map yH) 0 m=(l.take m).map yH:=by
 unfold za4
 rw[List.drop_zero,←List.map_take,List.map_map]
 rfl
theorem xf0 (st:GStmt) (T:GTable) (l:List Int):([.box [.sl .ro wN,.sl .ro (tabsS.map GTable.row)],.box st.row,.box T.row,.lst (l.map yH) 1]:St).all (ltOb 4)=true:=by simp[ltOb,ltC,ltK,yH,GStmt.row,GTable.row]
theorem yn3 (T:GTable) (l:List Int):([.box T.row,.lst (l.map yH) 1]:St).all (ltOb 2)=true:=by simp[ltOb,ltC,ltK,yH,GTable.row]
theorem yG4 (n:Nat) (l:List Int):ltOb n (.lst (l.map yH) 1)=true:=by simp[ltOb,ltC,ltK,yH]
theorem yC5 (j:Nat) (hj:j<3): ∃s0:Nat,yV j 0=((s0:Int),0)∧s0+(zC2 j).length<5∧(∀(k:Nat) x,(zC2 j)[k]? =some x→ofS ((s0+k:Nat):Int)=((j:Int),x,0))∧
  ((ofS ((s0+(zC2 j).length:Nat):Int)).2.2≠0∨((ofS ((s0+(zC2 j).length:Nat):Int)).2.2=0∧(ofS ((s0+(zC2 j).length:Nat):Int)).1≠j)):=by
 match j,hj with
 |0,_=>exact⟨0,rfl,by decide,fun k x h=>(by match k with
   |0=>cases h;rfl
   |1=>cases h;rfl
   |k+2=>cases h),.inr (by decide)⟩
 |1,_=>exact⟨2,rfl,by decide,fun k x h=>(by match k with
   |0=>cases h;rfl
   |k+1=>cases h),.inr (by decide)⟩
 |2,_=>exact⟨3,rfl,by decide,fun k x h=>(by match k with
   |0=>cases h;rfl
   |k+1=>cases h),.inl (by decide)⟩
theorem yt4: ∀(l:List GExpr) (rs:List Int),(cutR l rs).length≤rs.length
 | [],_=>Nat.le_refl _
 |e::l,rs=>by
  have h1:cutR (e::l) rs=cutR l (match xS e [82]with|none=>rs|some (s,v)=>if s= [61]∧v.kind=2 then zg2 v.n rs else rs):=rfl
  rw[h1]
  refine Nat.le_trans (yt4 l _) ?_
  split
  ·exact Nat.le_refl _
  ·split
   ·exact yQ4 _
   ·exact Nat.le_refl _
set_option maxHeartbeats 1000000 in
theorem yj3 (t:Int) (st:GStmt) (hl:(zi5 st).length≤maxLen):Pure Tryz.prog 26 [schR tabsS,.int .i64 t,.agg st.row] (.sl .ro ((xZ t st).map yH)):=by
 have hcj:=zT1 st
 generalize hM:xZ t st=M
 unfold xZ at hM
 generalize hL:zi5 st=L at hcj hM hl
 have retN: ∀(g:Tag) (σ:St),[]=M→wret (some (.sl g [])) 0 (fun r s=>r= .sl .ro (M.map yH)∧s= []) σ:=fun g σ h=>by subst h;exact zQ zV ⟨rfl,rfl⟩
 have retL: ∀(id:Nat) (ys:List Int) (N m:Nat) (σ:St),σ[id]? =some (.lst (ys.map yH) 1)→ys.length=N→m≤N→ys.take m=M→wret (some (.lsv id 1 N 0 m)) 0 (fun r s=>r= .sl .ro (M.map yH)∧s= []) σ:=fun id ys N m σ h1 h2 h3 h4=>by
  refine zW7 id 1 (ys.map yH) h1 (yS0 ys) ?_
  simp only[frzS,frzA,frzC,frzK,List.length_map,h2,Nat.zero_add,h3,and_self,if_true,yB9,h4]
  exact zQ zV ⟨rfl,rfl⟩
 refine VCalls.introV 0 Tryz.func26 Tryz.ntmps26 Tryz.results26 rfl rfl (Nat.le_of_ble_eq_true rfl) fun c hc hb=> ?_
 refine zC ?_
 simp[go_sem,schR]
 by_cases ht:0≤t∧t<3
 rotate_left
 ·have hM0: []=M:=by rw[←hM,if_neg (by omega),if_neg (by omega),if_neg (by omega)]
  have h2:decide (t<0)=true∨(decide (t<0)=false∧decide ((tabsS.length:Int)≤t)=true):=by
   simp only[decide_eq_true_eq,decide_eq_false_iff_not,show tabsS.length=3 from rfl]
   omega
  refine h2.elim (fun q=> ?_) (fun q=> ?_)
  all_goals simp[go_sem,q]
  all_goals exact retN _ _ hM0
 obtain⟨j,rfl⟩: ∃j:Nat,t=j:=⟨t.toNat,by omega⟩
 have hj:j<3:=by omega
 obtain⟨T,hT⟩: ∃T,tabsS[j]'(by exact hj)=T:=⟨_,rfl⟩
 have hrp:=yO7 j hj
 obtain⟨s0,hs0,hs5,hok,hend⟩:=yC5 j hj
 obtain⟨n,hn⟩: ∃n,(zC2 j).length=n:=⟨_,rfl⟩
 rw[hn]at hs5 hend
 rw[hs0]at hrp
 have hq1:decide ((j:Int)<0)=false:=decide_eq_false (by omega)
 have hq2:decide ((tabsS.length:Int)≤j)=false:=decide_eq_false (by simp only[show tabsS.length=3 from rfl];omega)
 have hq3:decide (tabsS.length≤j)=false:=decide_eq_false (by simp only[show tabsS.length=3 from rfl];omega)
 have hjl:j<tabsS.length:=hj
 have hle:=xp6
 have e1:IntKind.i64.wrap ((j:Int)+1)=((j+1:Nat):Int):=by rw[i64_id (by omega) (by omega)];omega
 simp[go_sem,hq1,hq3,hjl]
 refine xk0 8 1 (by decide) (by simp[go_sem]) ?_
 refine zj8 [(10,0),(11,0)] 4 (by simp) (by kernel_rfl) (by kernel_rfl) ?_
 simp[go_sem,e1]
 refine zP ⟨by omega,by simp only[show tabsS.length=3 from rfl];omega,zN5 fun T=>rfl⟩ ?_
 simp[go_sem]
 refine zS hle Tryz.callB58 (fun _=>zF (by simp[go_sem,schR]) rfl) rfl ?_
 simp[go_sem]
 refine zS hrp Tryz.callB34 (fun _=>zF (by simp[go_sem,schR]) rfl) rfl ?_
 simp[go_sem,zR1]
 refine zL (S:=Nat) [1,3,5,7,8,9] (fun k=> [.int .i64 j,.ptr 0 0,.ptr 1 0,.ptr 2 0,.lsv 3 1 k 0 k,.int .i64 ((s0+k:Nat):Int)])
  (fun k=> [.box [.sl .ro wN,.sl .ro (tabsS.map GTable.row)],.box st.row,.box T.row,.lst (((zC2 j).take k).map yH) 1]) (fun k=>n - k) (fun k=>k≤n) hc hb 0 (Nat.zero_le _) ?_ ?_
 ·exact at_n 4 (by simp[go_sem,←hT];exact⟨rfl,rfl,rfl,rfl,rfl,rfl,rfl,rfl,rfl,rfl,rfl⟩) rfl (xf0 st T _) (Nat.zero_le _) (zD (by simp[go_sem]) rfl)
 intro k hk
 have hof:=Of_w (s0+k) (by omega)
 refine zC ?_
 simp[go_sem]
 refine zE hof Tryz.callB59 (zF (by simp[go_sem,schR]) rfl) rfl ?_
 by_cases hkn:k<n
 ·obtain⟨x,hx⟩: ∃x,(zC2 j)[k]? =some x:=⟨_,List.getElem?_eq_getElem (by omega)⟩
  rw[hok k x hx]
  have hkk: ¬(k+1≤k):=by omega
  have ei:IntKind.i64.wrap (((s0:Int)+k)+1)=(s0:Int)+k+1:=by rw[i64_id (by omega) (by omega)]
  simp[go_sem,ofV,hkk]
  refine zP ⟨by omega,yT rfl,by omega⟩ ?_
  simp[go_sem,ei]
  refine zN (k+1) ⟨by omega,by omega, ?_⟩
  exact at_n 4 (by simp[go_sem,List.take_add_one,hx,yH]) rfl (xf0 st T _) (Nat.zero_le _) (zD (by simp[go_sem];omega) rfl)
 ·obtain rfl:k=n:=by omega
  obtain⟨⟨a,b2,e⟩,hp⟩: ∃p,ofS ((s0+k:Nat):Int)=p:=⟨_,rfl⟩
  rw[hp]at hend⊢
  simp only at hend
  have hY:((zC2 j).take k).length=k:=by simp;omega
  have hend2:(e !=0)=true∨((e !=0)=false∧(a !=j)=true):=by
   rcases hend with h|h
   ·exact .inl (by simpa using h)
   ·exact .inr ⟨by simpa using h.1,by simpa using h.2⟩
  by_cases hj0:j=0
  rotate_left
  ·have hpl:(T.place !=0)=true:=by
    rw[←hT]
    match j,hj,hj0 with
    |1,_,_=>rfl
    |2,_,_=>rfl
   have hMj:(zC2 j)=M:=by
    rw[←hM]
    match j,hj,hj0 with
    |1,_,_=>rfl
    |2,_,_=>rfl
   refine hend2.elim (fun q=> ?_) (fun q=> ?_)
   all_goals simp[go_sem,ofV,q,hpl]
   all_goals exact retL 3 ((zC2 j).take k) k k _ (by simp[go_sem]) hY (Nat.le_refl _) (by rw[List.take_take,Nat.min_self,List.take_of_length_le (by omega)];exact hMj)
  subst hj0
  have hpl:(T.place !=0)=false:=by rw[←hT];rfl
  have hcl:T.cols= [⟨[82],2,false⟩,⟨[75],2,false⟩,⟨[86],3,true⟩,⟨[78],2,true⟩]:=by rw[←hT];rfl
  have hk2:k=2:=by rw[←hn];rfl
  subst hk2
  have hend3:(e !=0)=true∨((e !=0)=false∧(a !=0)=true):=by simpa using hend2
  refine hend3.elim (fun q=> ?_) (fun q=> ?_)
  all_goals simp[go_sem,ofV,q,hpl,hcl]
  all_goals refine zE hcj Tryz.callB53 (zF (by simp[go_sem]) rfl) rfl ?_
  all_goals simp[go_sem]
  all_goals refine zL (S:=Nat×List Int×List Int) [7,8,79,80,81] (fun u=> [.ptr 0 0,.lsv 1 1 2 0 u.2.1.length,.sl .ro (L.map GExpr.row),.int .i64 L.length,.int .i64 u.1]) (fun u=> [.box T.row,.lst (u.2.2.map yH) 1]) (fun u=>L.length - u.1) (fun u=>u.1≤L.length∧u.2.1.length≤2∧u.2.2.length=2∧u.2.2.take u.2.1.length=u.2.1∧cutR (L.drop u.1) u.2.1=M) hc hb (0,[0,1],[0,1]) ⟨Nat.zero_le _,Nat.le_refl _,rfl,rfl,hM⟩ ?_ ?_
  all_goals try exact zv5 [2,3] (by decide) rfl ⟨by simp[go_sem,yF,renC,renK,hcl],by simp[go_sem,yF,renC,renK,zC2,yH],trivial⟩ ⟨.inl (by simp[go_sem,renS,renA,renC,renK,ren]),.inl (by simp[go_sem,renS,renA,renC,renK,ren]),zV,zA rfl,zA rfl,trivial⟩
  all_goals rintro⟨i,rs,ys⟩ ⟨hi,hrl,hyl,hyt,hinv⟩
  all_goals simp only at hi hrl hyl hyt hinv
  all_goals (
   by_cases hq:i<L.length
   rotate_left
   ·rw[List.drop_eq_nil_of_le (by omega)]at hinv
    have hrs:rs=M:=hinv
    refine zC ?_
    simp[go_sem,hq]
    exact retL 1 ys 2 rs.length _ (by simp[go_sem]) hyl hrl (by rw[hyt];exact hrs)
   have ei:=zT hq (by unfold maxLen at hl;omega)
   obtain⟨x,hx⟩: ∃x,L[i]=x:=⟨_,rfl⟩
   rw[List.drop_eq_getElem_cons hq,hx]at hinv
   have hag:=yi0 x [82]
   refine zC ?_
   simp[go_sem,hq,hx,hcl]
   refine zj8 [(6,0),(13,3)] 3 (by simp) (by kernel_rfl) (by kernel_rfl) ?_
   simp[go_sem]
   refine zS hag Tryz.callB54 (fun _=>zF (by simp[go_sem]) (by rw[GExpr.row_eq];rfl)) (yN2 _) ?_
   cases ha:xS x [82]with
   |none=>
    simp only[cutR,List.foldl_cons,ha]at hinv
    simp[go_sem,cutV,yG7,ei]
    refine zN (i+1,rs,ys) ⟨by simp only;omega,⟨by simp only;omega,hrl,hyl,hyt,hinv⟩, ?_⟩
    exact at_n 2 (by simp[go_sem,hcl]) rfl (yn3 T _) (Nat.zero_le _) (zD (by simp[go_sem]) rfl)
   |some p=>
    obtain⟨s,v⟩:=p
    simp only[cutR,List.foldl_cons,ha]at hinv
    simp[go_sem,cutV]
    by_cases hs:s= [61]∧v.kind=2
    ·rw[if_pos hs]at hinv
     have hs1:(s== [61])=true:=by simpa using hs.1
     have hs2:(v.kind==2)=true:=by simpa using hs.2
     have hdf:=xs6 v ys rs.length (by omega) (by omega)
     rw[hyt,hyl]at hdf
     simp[go_sem,hs1,hs2]
     refine xm2 3 1 hdf Tryz.callB60 (by decide) (by simp[go_sem]) (by simp[go_sem]) rfl (yG4 _ _) ⟨.inl (by simp[go_sem,renS,renA,renC,renK,ren]),.inl (by simp[go_sem,renS,renA,renC,renK,ren]),trivial⟩ (fun r s h=>by
      obtain⟨zs,_,_,_,_,rfl⟩:=h
      exact⟨_,_,rfl,rfl,yG4 _ _⟩) ?_
     rintro r o2 p2 ⟨zs,hz1,hz2,hz3,rfl,hz4⟩
     obtain⟨rfl,rfl⟩:o2= .box v.row∧p2= .lst (zs.map yH) 1:=by simpa using hz4
     simp[go_sem,renS,renA,renC,renK,ren,ei]
     refine zN (i+1,zg2 v.n rs,zs) ⟨by simp only;omega,⟨by simp only;omega,by simp only;omega,by omega,hz3,hinv⟩, ?_⟩
     exact at_n 2 (by simp[go_sem,hcl]) rfl (yn3 T _) (Nat.zero_le _) (zD (by simp[go_sem]) rfl)
    ·rw[if_neg hs]at hinv
     have hs3:(s== [61])=false∨((s== [61])=true∧(v.kind==2)=false):=by
      by_cases h1:s= [61]
      ·exact .inr ⟨by simpa using h1,by simpa using fun h2=>hs ⟨h1,h2⟩⟩
      ·exact .inl (by simpa using h1)
     refine hs3.elim (fun q1=> ?_) (fun q1=> ?_)
     all_goals simp[go_sem,q1,ei]
     all_goals refine zN (i+1,rs,ys) ⟨by simp only;omega,⟨by simp only;omega,hrl,hyl,hyt,hinv⟩, ?_⟩
     all_goals exact at_n 2 (by simp[go_sem,hcl]) rfl (yn3 T _) (Nat.zero_le _) (zD (by simp[go_sem]) rfl))
end Go.Proofs.YtajjjghohakniaaGreat
namespace Go.Proofs.YtajjjghohakniaaGreat
open Go Go.Vx R
set_option maxRecDepth 100000
def xD {α:Type} (p:α→Bool):List α→Nat→Int
 | [],_=> -1
 |x::l,i=>if p x=true then(i:Int)else xD p l (i+1)
theorem zL8 {α:Type} (p:α→Bool): ∀(l:List α) (i:Nat),xD p l i= -1∨((i:Int)≤xD p l i∧xD p l i<i+l.length)
 | [],i=> .inl rfl
 |x::l,i=>by
  unfold xD
  split
  ·right;simp;omega
  ·have:=zL8 p l (i+1)
   simp only[List.length_cons]
   omega
theorem xy6 (t:GTable) (name:List UInt8):VCalls Tryz.prog 80 [.agg t.row,.ptr 0 0] [.box [.str name]] (fun r s=>r= .bool (t.name==name)∧s= [.box [.str name]]):=by
 refine VCalls.intro 1 Tryz.func80 Tryz.ntmps80 Tryz.results80 rfl rfl (Nat.le_of_ble_eq_true rfl) fun c hc hb=>zJ ?_
 simp[go_sem]
 exact zQ4 1 rfl rfl (Nat.le_refl _) (zA rfl) ⟨rfl,rfl⟩
theorem xz3 (t:GCol) (name:List UInt8):VCalls Tryz.prog 175 [.agg t.row,.ptr 0 0] [.box [.str name]] (fun r s=>r= .bool (t.name==name)∧s= [.box [.str name]]):=by
 refine VCalls.intro 1 Tryz.func175 Tryz.ntmps175 Tryz.results175 rfl rfl (Nat.le_of_ble_eq_true rfl) fun c hc hb=>zJ ?_
 simp[go_sem]
 exact zQ4 1 rfl rfl (Nat.le_refl _) (zA rfl) ⟨rfl,rfl⟩
theorem xu6 (l:List GTable) (name:List UInt8) (hl:l.length≤maxLen):VCalls Tryz.prog 79 [.sl .ro (l.map GTable.row),.fn 80 [.ptr 0 0]] [.box [.str name]] (fun r s=>r= .int .i64 (xD (fun t:GTable=>t.name==name) l 0)∧s= [.box [.str name]]):=by
 generalize hM:xD (fun t:GTable=>t.name==name) l 0=M
 have ret: ∀(r:Int) (σ:St),r=M→wret (some (.int .i64 r)) 1 (fun r s=>r= .int .i64 M∧s= [.box [.str name]]) (.box [.str name]::σ):=fun r σ h=>by subst h;exact zQ4 1 rfl rfl (Nat.le_refl _) (zA rfl) ⟨rfl,rfl⟩
 refine VCalls.introV 1 Tryz.func79 Tryz.ntmps79 Tryz.results79 rfl rfl (Nat.le_of_ble_eq_true rfl) fun c hc hb=> ?_
 refine zC ?_
 simp[go_sem]
 refine zL (S:=Nat) [0,1,7,8] (fun i=> [.sl .ro (l.map GTable.row),.fn 80 [.ptr 0 0],.int .i64 l.length,.int .i64 i]) (fun _=> [.box [.str name]]) (fun i=>l.length - i) (fun i=>i≤l.length∧xD (fun t:GTable=>t.name==name) (l.drop i) i=M) hc hb 0 ⟨Nat.zero_le _,hM⟩ ?_ ?_
 ·exact at_n 1 (by simp[go_sem]) rfl rfl (Nat.le_refl _) (zD (by simp[go_sem]) rfl)
 rintro i ⟨hi,hinv⟩
 by_cases q:i<l.length
 rotate_left
 ·rw[List.drop_of_length_le (by omega),xD]at hinv
  refine zC ?_
  simp[go_sem,q]
  exact ret _ _ hinv
 have ei:=zT q (by unfold maxLen at hl;omega)
 obtain⟨x,hx⟩: ∃x,l[i]=x:=⟨_,rfl⟩
 rw[List.drop_eq_getElem_cons q,hx,xD]at hinv
 obtain⟨b,hb1⟩: ∃b,(x.name==name)=b:=⟨_,rfl⟩
 have hcl:=xy6 x name
 rw[hb1]at hcl hinv
 refine zC ?_
 simp[go_sem,q,hx]
 refine zn6 0 hcl Tryz.callB80 rfl rfl ⟨zA rfl,.inl rfl,trivial⟩ (by rintro r s ⟨rfl,rfl⟩;exact⟨_,rfl,rfl⟩) ?_
 rintro r o ⟨rfl,ho⟩
 cases ho
 simp[go_sem]
 refine zU (fun w=> ?_) (fun w=> ?_)
 ·rw[if_pos w]at hinv
  simp[go_sem]
  exact ret _ _ hinv
 ·rw[if_neg (by rw[w];decide)]at hinv
  simp[go_sem,ei]
  exact zN (i+1) ⟨by omega,⟨q,hinv⟩,at_n 1 (by simp[go_sem]) rfl rfl (Nat.le_refl _) (zD (by simp[go_sem]) rfl)⟩
theorem xv6 (l:List GCol) (name:List UInt8) (hl:l.length≤maxLen):VCalls Tryz.prog 174 [.sl .ro (l.map GCol.row),.fn 175 [.ptr 0 0]] [.box [.str name]] (fun r s=>r= .int .i64 (xD (fun t:GCol=>t.name==name) l 0)∧s= [.box [.str name]]):=by
 generalize hM:xD (fun t:GCol=>t.name==name) l 0=M
 have ret: ∀(r:Int) (σ:St),r=M→wret (some (.int .i64 r)) 1 (fun r s=>r= .int .i64 M∧s= [.box [.str name]]) (.box [.str name]::σ):=fun r σ h=>by subst h;exact zQ4 1 rfl rfl (Nat.le_refl _) (zA rfl) ⟨rfl,rfl⟩
 refine VCalls.introV 1 Tryz.func174 Tryz.ntmps174 Tryz.results174 rfl rfl (Nat.le_of_ble_eq_true rfl) fun c hc hb=> ?_
 refine zC ?_
 simp[go_sem]
 refine zL (S:=Nat) [0,1,7,8] (fun i=> [.sl .ro (l.map GCol.row),.fn 175 [.ptr 0 0],.int .i64 l.length,.int .i64 i]) (fun _=> [.box [.str name]]) (fun i=>l.length - i) (fun i=>i≤l.length∧xD (fun t:GCol=>t.name==name) (l.drop i) i=M) hc hb 0 ⟨Nat.zero_le _,hM⟩ ?_ ?_
 ·exact at_n 1 (by simp[go_sem]) rfl rfl (Nat.le_refl _) (zD (by simp[go_sem]) rfl)
 rintro i ⟨hi,hinv⟩
 by_cases q:i<l.length
 rotate_left
 ·rw[List.drop_of_length_le (by omega),xD]at hinv
  refine zC ?_
  simp[go_sem,q]
  exact ret _ _ hinv
 have ei:=zT q (by unfold maxLen at hl;omega)
 obtain⟨x,hx⟩: ∃x,l[i]=x:=⟨_,rfl⟩
 rw[List.drop_eq_getElem_cons q,hx,xD]at hinv
 obtain⟨b,hb1⟩: ∃b,(x.name==name)=b:=⟨_,rfl⟩
 have hcl:=xz3 x name
 rw[hb1]at hcl hinv
 refine zC ?_
 simp[go_sem,q,hx]
 refine zn6 0 hcl Tryz.callB175 rfl rfl ⟨zA rfl,.inl rfl,trivial⟩ (by rintro r s ⟨rfl,rfl⟩;exact⟨_,rfl,rfl⟩) ?_
 rintro r o ⟨rfl,ho⟩
 cases ho
 simp[go_sem]
 refine zU (fun w=> ?_) (fun w=> ?_)
 ·rw[if_pos w]at hinv
  simp[go_sem]
  exact ret _ _ hinv
 ·rw[if_neg (by rw[w];decide)]at hinv
  simp[go_sem,ei]
  exact zN (i+1) ⟨by omega,⟨q,hinv⟩,at_n 1 (by simp[go_sem]) rfl rfl (Nat.le_refl _) (zD (by simp[go_sem]) rfl)⟩
theorem yX7 (ts:List GTable) (name:List UInt8) (hl:ts.length≤maxLen):Pure Tryz.prog 32 [schR ts,.str name] (.int .i64 (xD (fun t:GTable=>t.name==name) ts 0)):=by
 have hx:=xu6 ts name hl
 refine VCalls.intro 0 Tryz.func32 Tryz.ntmps32 Tryz.results32 rfl rfl (Nat.le_of_ble_eq_true rfl) fun c hc hb=>zJ ?_
 simp[go_sem,schR]
 refine zn6 1 hx Tryz.callB79 rfl rfl ⟨zA rfl,.inl rfl,trivial⟩ (by rintro r s ⟨rfl,rfl⟩;exact⟨_,rfl,rfl⟩) ?_
 rintro r o ⟨rfl,ho⟩
 cases ho
 simp[go_sem]
 exact zQ (zA rfl) ⟨rfl,rfl⟩
theorem yI2 (t:GTable) (name:List UInt8) (hl:t.cols.length≤maxLen):Pure Tryz.prog 127 [.agg t.row,.str name] (.int .i64 (xD (fun t:GCol=>t.name==name) t.cols 0)):=by
 have hx:=xv6 t.cols name hl
 refine VCalls.intro 0 Tryz.func127 Tryz.ntmps127 Tryz.results127 rfl rfl (Nat.le_of_ble_eq_true rfl) fun c hc hb=>zJ ?_
 simp[go_sem]
 refine zn6 1 hx Tryz.callB174 rfl rfl ⟨zA rfl,.inl rfl,trivial⟩ (by rintro r s ⟨rfl,rfl⟩;exact⟨_,rfl,rfl⟩) ?_
 rintro r o ⟨rfl,ho⟩
 cases ho
 simp[go_sem]
 exact zQ (zA rfl) ⟨rfl,rfl⟩
end Go.Proofs.YtajjjghohakniaaGreat
namespace Go.Proofs.YtajjjghohakniaaGreat
open Go Go.Vx R
set_option maxRecDepth 100000
theorem yg2 (ts:List GTable) (name:List UInt8) (hl:ts.length≤maxLen):Pure Tryz.prog 16 [schR ts,.str name] (.int .i64 (xD (fun t:GTable=>t.name==name) ts 0)):=by
 generalize hM:xD (fun t:GTable=>t.name==name) ts 0=M
 have ret: ∀(r:Int) (σ:St),r=M→wret (some (.int .i64 r)) 0 (fun r s=>r= .int .i64 M∧s= []) σ:=fun r σ h=>by subst h;exact zQ (zA rfl) ⟨rfl,rfl⟩
 refine VCalls.introV 0 Tryz.func16 Tryz.ntmps16 Tryz.results16 rfl rfl (Nat.le_of_ble_eq_true rfl) fun c hc hb=> ?_
 refine zC ?_
 simp[go_sem,schR]
 refine zL (S:=Nat) [1,2,5] (fun i=> [.str name,.ptr 0 0,.int .i64 i]) (fun _=> [.box [.sl .ro wN,.sl .ro (ts.map GTable.row)]]) (fun i=>ts.length - i) (fun i=>i≤ts.length∧xD (fun t:GTable=>t.name==name) (ts.drop i) i=M) hc hb 0 ⟨Nat.zero_le _,hM⟩ ?_ ?_
 ·exact at_n 1 (by simp[go_sem]) rfl rfl (Nat.zero_le _) (zD (by simp[go_sem]) rfl)
 rintro i ⟨hi,hinv⟩
 refine zC ?_
 simp[go_sem]
 refine zU (fun q=> ?_) (fun q=> ?_)
 ·have q:i<ts.length:=by simpa using q
  have ei:=zT q (by unfold maxLen at hl;omega)
  obtain⟨x,hx⟩: ∃x,ts[i]=x:=⟨_,rfl⟩
  rw[List.drop_eq_getElem_cons q,hx,xD]at hinv
  simp[go_sem,q,hx]
  refine zU (fun w=> ?_) (fun w=> ?_)
  ·rw[if_pos w]at hinv
   simp[go_sem]
   exact ret _ _ hinv
  ·rw[if_neg (by rw[w];decide)]at hinv
   simp[go_sem,ei]
   exact zN (i+1) ⟨by omega,⟨q,hinv⟩,at_n 1 (by simp[go_sem]) rfl rfl (Nat.zero_le _) (zD (by simp[go_sem]) rfl)⟩
 ·have q:i=ts.length:=by
   have: ¬i<ts.length:=by simpa using q
   omega
  subst q
  rw[List.drop_length]at hinv
  simp[go_sem]
  exact ret _ _ hinv
theorem zL6 (t:GTable) (name:List UInt8) (hl:t.cols.length≤maxLen):Pure Tryz.prog 94 [.agg t.row,.str name] (.int .i64 (xD (fun c:GCol=>c.name==name) t.cols 0)):=by
 generalize hM:xD (fun c:GCol=>c.name==name) t.cols 0=M
 have ret: ∀(r:Int) (σ:St),r=M→wret (some (.int .i64 r)) 0 (fun r s=>r= .int .i64 M∧s= []) σ:=fun r σ h=>by subst h;exact zQ (zA rfl) ⟨rfl,rfl⟩
 refine VCalls.introV 0 Tryz.func94 Tryz.ntmps94 Tryz.results94 rfl rfl (Nat.le_of_ble_eq_true rfl) fun c hc hb=> ?_
 refine zC ?_
 simp[go_sem]
 refine zL (S:=Nat) [1,2,5] (fun i=> [.str name,.ptr 0 0,.int .i64 i]) (fun _=> [.box t.row]) (fun i=>t.cols.length - i) (fun i=>i≤t.cols.length∧xD (fun c:GCol=>c.name==name) (t.cols.drop i) i=M) hc hb 0 ⟨Nat.zero_le _,hM⟩ ?_ ?_
 ·exact at_n 1 (by simp[go_sem]) rfl rfl (Nat.zero_le _) (zD (by simp[go_sem]) rfl)
 rintro i ⟨hi,hinv⟩
 refine zC ?_
 simp[go_sem]
 refine zU (fun q=> ?_) (fun q=> ?_)
 ·have q:i<t.cols.length:=by simpa using q
  have ei:=zT q (by unfold maxLen at hl;omega)
  obtain⟨x,hx⟩: ∃x,t.cols[i]=x:=⟨_,rfl⟩
  rw[List.drop_eq_getElem_cons q,hx,xD]at hinv
  simp[go_sem,q,hx]
  refine zU (fun w=> ?_) (fun w=> ?_)
  ·rw[if_pos w]at hinv
   simp[go_sem]
   exact ret _ _ hinv
  ·rw[if_neg (by rw[w];decide)]at hinv
   simp[go_sem,ei]
   exact zN (i+1) ⟨by omega,⟨q,hinv⟩,at_n 1 (by simp[go_sem]) rfl rfl (Nat.zero_le _) (zD (by simp[go_sem]) rfl)⟩
 ·have q:i=t.cols.length:=by
   have: ¬i<t.cols.length:=by simpa using q
   omega
  subst q
  rw[List.drop_length]at hinv
  simp[go_sem]
  exact ret _ _ hinv
end Go.Proofs.YtajjjghohakniaaGreat
namespace Go.Proofs.YtajjjghohakniaaGreat
open Go Go.Vx R
set_option maxRecDepth 100000
def colF (T:GTable) (name:List UInt8):Int:=xD (fun c:GCol=>c.name==name) T.cols 0
def colK (T:GTable) (c:Int):Int:=((T.cols[c.toNat]?).map (·.kind)).getD 0
def zg4 (v:GValue):Bool:=v.kind==0&&(v.n==0&&v.s.isEmpty)
theorem zy6 (v:GValue):(!(v.kind==0)||(!(v.n==0)|| !v.s.isEmpty))= !zg4 v:=by unfold zg4;cases v.kind==0<;>cases v.n==0<;>cases v.s.isEmpty<;>rfl
mutual
def zc1 (T:GTable):GExpr→Int×Int
 | .mk k s v args=>
  if k=1 then(if s.isEmpty=false∨args.isEmpty=false∨mayF v=false then(0,9)else(v.kind,0))
  else if k=2 then(if colF T s<0 then(0,14)else if args.isEmpty=false∨zg4 v=false then(0,9)else(colK T (colF T s),0))
  else if k=3 then(if(xB T args).2≠0 then(0,(xB T args).2)else if zg4 v=false then(0,9)else zj7 s (xB T args).1)
  else(0,9)
def xB (T:GTable):List GExpr→List Int×Int
 | []=>([],0)
 |e::l=>if(zc1 T e).2≠0 then([],(zc1 T e).2)else((zc1 T e).1::(xB T l).1,(xB T l).2)
end
theorem zy4 (T:GTable) (e:GExpr):zc1 T e=
  if e.kind=1 then(if e.s.isEmpty=false∨e.args.isEmpty=false∨mayF e.v=false then(0,9)else(e.v.kind,0))
  else if e.kind=2 then(if colF T e.s<0 then(0,14)else if e.args.isEmpty=false∨zg4 e.v=false then(0,9)else(colK T (colF T e.s),0))
  else if e.kind=3 then(if(xB T e.args).2≠0 then(0,(xB T e.args).2)else if zg4 e.v=false then(0,9)else zj7 e.s (xB T e.args).1)
  else(0,9):=by cases e;rw[zc1];rfl
theorem xT {M:Int×Int} {a e:Int} {σ:St} (h:(a,e)=M):wret (some (.tup [.int .i64 a,.int .i64 e])) 0 (fun r s=>r=yK M∧s= []) σ:=by
 subst h
 exact zQ (zA rfl) ⟨rfl,rfl⟩
theorem zt8 (T:GTable) (s:List UInt8) (h: ¬colF T s<0): ∃j:Nat,colF T s=j∧j<T.cols.length:=by
 have:=zL8 (fun c:GCol=>c.name==s) T.cols 0
 unfold colF at h⊢
 refine⟨(xD (fun c:GCol=>c.name==s) T.cols 0).toNat,by omega,by omega⟩
theorem yx0 (l:List GExpr):decide ((0:Int)<l.length)= !l.isEmpty:=by
 cases l with
 |nil=>rfl
 |cons _ _=>exact decide_eq_true (by simp only[List.length_cons];omega)
theorem ye2 (l:List GExpr):decide (0<l.length)= !l.isEmpty:=by
 cases l with
 |nil=>rfl
 |cons _ _=>exact decide_eq_true (by simp only[List.length_cons];omega)
set_option maxHeartbeats 2000000 in
theorem yM2 (T:GTable) (hT:T.cols.length≤maxLen): ∀(n:Nat) (e:GExpr),yX e≤n→Wide e→Good e→Pure Tryz.prog 173 [.agg T.row,.agg e.row] (yK (zc1 T e))
 |0,e,h,_,_=>by have:=ze8 e;omega
 |n+1,e,h,hw,hg=>by
  have ih:=yM2 T hT n
  have hde:=wX e
  have hlen:=hw.len
  have hsub:=hw.sub
  have hgs:=hg.sub
  have hmay:=xb9 e.v
  have hcol:=yI2 T e.s hT
  obtain⟨M,hM⟩: ∃M,zc1 T e=M:=⟨_,rfl⟩
  rw[hM]
  rw[zy4]at hM
  rw[show xD (fun c:GCol=>c.name==e.s) T.cols 0=colF T e.s from rfl]at hcol
  have hz:=zy6 e.v
  have ha1:=yx0 e.args
  have ha2:=ye2 e.args
  have ret: ∀(a b:Int) (σ:St),(a,b)=M→wret (some (.tup [.int .i64 a,.int .i64 b])) 0 (fun r s=>r=yK M∧s= []) σ:=fun a b σ h=>xT h
  refine VCalls.introV 0 Tryz.func173 Tryz.ntmps173 Tryz.results173 rfl rfl (Nat.le_of_ble_eq_true rfl) fun c hc hb=> ?_
  refine zC ?_
  simp[go_sem]
  by_cases q1:e.kind=1
  ·have q1':(e.kind==1)=true:=by simpa using q1
   rw[if_pos q1]at hM
   generalize mayF e.v=b at hmay hM
   generalize e.args.isEmpty=ae at ha1 ha2 hM
   simp[go_sem,q1']
   repeat' (first
    |(refine yI (fun q=> ?_) (fun q=> ?_)<;>simp[go_sem,q,ha2])
    |(refine zU (fun q=> ?_) (fun q=> ?_)<;>simp[go_sem,q])
    |(refine zE hmay Tryz.callB130 (zF (by simp[go_sem]) rfl) rfl ?_;simp[go_sem]))
   all_goals exact ret _ _ _ (by rw[←hM];simp_all)
  rw[if_neg q1]at hM
  have q1':(e.kind==1)=false:=by simpa using q1
  by_cases q2:e.kind=2
  ·have q2':(e.kind==2)=true:=by simpa using q2
   rw[if_pos q2]at hM
   simp[go_sem,q1',q2']
   refine zE hcol Tryz.callB127 (zF (by simp[go_sem]) rfl) rfl ?_
   by_cases qc:colF T e.s<0
   ·have qc':decide (colF T e.s<0)=true:=decide_eq_true qc
    rw[if_pos qc]at hM
    simp[go_sem,qc']
    exact ret _ _ _ hM
   have qc':decide (colF T e.s<0)=false:=decide_eq_false qc
   rw[if_neg qc]at hM
   obtain⟨j,hj,hjl⟩:=zt8 T e.s qc
   obtain⟨C,hC⟩: ∃C,T.cols[j]=C:=⟨_,rfl⟩
   have hck:colK T (colF T e.s)=C.kind:=by
    unfold colK
    rw[hj,Int.toNat_natCast,List.getElem?_eq_getElem hjl,hC];rfl
   rw[hck]at hM
   rw[hj]at qc'⊢
   generalize zg4 e.v=z at hz hM
   generalize e.args.isEmpty=ae at ha1 ha2 hM
   simp[go_sem,qc',ha2]
   repeat' (first
    |(refine yI (fun q=> ?_) (fun q=> ?_)<;>simp[go_sem,q,hz])
    |(refine zU (fun q=> ?_) (fun q=> ?_)<;>simp[go_sem,q,hjl,hC]))
   all_goals exact ret _ _ _ (by rw[←hM];simp_all)
  rw[if_neg q2]at hM
  have q2':(e.kind==2)=false:=by simpa using q2
  by_cases q3:e.kind=3
  rotate_left
  ·rw[if_neg q3]at hM
   have q3':(e.kind==3)=false:=by simpa using q3
   simp[go_sem,q1',q2',q3']
   exact ret _ _ _ hM
  have q3':(e.kind==3)=true:=by simpa using q3
  rw[if_pos q3]at hM
  obtain⟨args,hargs⟩: ∃args,e.args=args:=⟨_,rfl⟩
  rw[hargs]at hde hlen hsub hgs hM
  obtain⟨K,hK⟩: ∃K,xB T args=K:=⟨_,rfl⟩
  rw[hK]at hM
  simp[go_sem,q1',q2',q3',hargs]
  refine zj1 7 1 (by decide) (by simp[go_sem]) ?_
  refine zL (S:=Nat×List Int) [2,3,7,61,62,63] (fun u=> [.ptr 0 0,.ptr 1 0,.sl (.app 2) (u.2.map fun n=> [V.int .i64 n]),.sl .ro (args.map GExpr.row),.int .i64 args.length,.int .i64 (u.1:Int)]) (fun u=> [.box T.row,.box e.row,.app u.2.length 1]) (fun u=>args.length - u.1)
   (fun u=>u.1≤args.length∧u.2.length=u.1∧(xB T (args.drop u.1)).2=K.2∧(K.2=0→u.2++(xB T (args.drop u.1)).1=K.1)) hc hb (0,[])
   ⟨Nat.zero_le _,rfl,by simp only[List.drop_zero];rw[hK],fun _=>by simp only[List.drop_zero];rw[hK];rfl⟩ ?_ ?_
  ·exact at_n 3 (by simp[go_sem,hargs]) rfl (by simp[ltOb,ltC,ltK,GExpr.row_eq,GTable.row]) (Nat.zero_le _) (zD (by simp[go_sem]) rfl)
  rintro⟨i,l⟩ ⟨hi,hl,hinv,hinv2⟩
  simp only at hi hl hinv hinv2
  by_cases q:i<args.length
  rotate_left
  ·rw[List.drop_eq_nil_of_le (by omega),xB]at hinv hinv2
   have hK2:K.2=0:=hinv.symm
   have hK1:l=K.1:=by have:=hinv2 hK2;simpa using this
   rw[if_neg (fun h=>h hK2),←hK1]at hM
   have hop:=yD4 e.s l (by unfold maxLen;omega)
   generalize zj7 e.s l=o at hop hM
   generalize zg4 e.v=z at hz hM
   refine zC ?_
   simp[go_sem,q,hz]
   refine(Bool.eq_false_or_eq_true z).elim (fun w=> ?_) (fun w=> ?_)
   ·rw[if_neg (by rw[w];decide)]at hM
    subst w
    simp[go_sem]
    refine zE hop Tryz.callB194 ⟨zA rfl,zV,trivial⟩ rfl ?_
    simp[go_sem,yK]
    exact ret _ _ _ hM
   ·rw[if_pos w]at hM
    subst w
    simp[go_sem]
    exact ret _ _ _ hM
  have ei:=zT q (by omega)
  obtain⟨x,hx⟩: ∃x,args[i]=x:=⟨_,rfl⟩
  have hxm:x∈args:=hx▸List.getElem_mem q
  have hdx:=xQ args x hxm
  rw[List.drop_eq_getElem_cons q,hx,xB]at hinv hinv2
  have hcall:=ih x (by omega) (hsub x hxm) (hgs x hxm)
  generalize zc1 T x=kx at hcall hinv hinv2
  by_cases q4:kx.2=0
  ·rw[if_neg (fun h=>h q4)]at hinv hinv2
   have q4':(kx.2 !=0)=false:=by simpa using q4
   refine zC ?_
   simp[go_sem,q,hx]
   refine zE hcall Tryz.callB173 (zF (by simp[go_sem]) (by rw[GExpr.row_eq];rfl)) rfl ?_
   simp[go_sem,yK,q4']
   refine zP ⟨by omega,yT rfl⟩ ?_
   simp[go_sem,ei]
   refine zN (i+1,l++ [kx.1]) ⟨by simp only;omega,⟨by simp only;omega,by simp;omega,hinv,fun h=>by have:=hinv2 h;simpa using this⟩, ?_⟩
   exact at_n 3 (by simp[go_sem]) rfl (by simp[ltOb,ltC,ltK,GExpr.row_eq]) (Nat.zero_le _) (zD (by simp[go_sem]) rfl)
  ·rw[if_pos q4]at hinv
   have q4':(kx.2 !=0)=true:=by simpa using q4
   have hK2:kx.2=K.2:=hinv
   rw[if_pos (by rw[←hK2];exact q4),←hK2]at hM
   refine zC ?_
   simp[go_sem,q,hx]
   refine zE hcall Tryz.callB173 (zF (by simp[go_sem]) (by rw[GExpr.row_eq];rfl)) rfl ?_
   simp[go_sem,yK,q4']
   exact ret _ _ _ hM
end Go.Proofs.YtajjjghohakniaaGreat
