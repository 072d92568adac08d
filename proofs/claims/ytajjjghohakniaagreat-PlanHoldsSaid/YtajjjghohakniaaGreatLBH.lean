/-
  Which statements may be, in the program: kinds, WHERE, SELECT, INSERT, over trees (the library Vx); used by the theorem at the end of the claim.
  Conditions: as each theorem states them.
-/
import Derived.Test.YtajjjghohakniaaGreatLBG
namespace Go.Proofs.YtajjjghohakniaaGreat
open Go Go.Vx R
set_option maxRecDepth 100000
def mayI (n:Nat) (x:GItem):Bool:=if x.kind=1 then decide (n≤1)&&zu6 x.e else if x.kind=3 then zu6 x.e else if x.kind=2∨x.kind=4 then mayE 16 x.e else false
def yq5 (l:List GItem):Bool:=l.all (mayI l.length)&&(decide (1≤l.length)&&decide (l.length≤6))
def mayR (r:List GExpr):Bool:=(decide (1≤r.length)&&decide (r.length≤6))&&r.all (mayE 16)
def yq6 (l:List (List GExpr)):Bool:=l.all mayR&&(decide (1≤l.length)&&decide (l.length≤16))
def mayA (x:GAssign):Bool:=zi6 x.name&&mayE 16 x.e
def yq4 (l:List GAssign):Bool:=(decide (1≤l.length)&&decide (l.length≤6))&&l.all mayA
theorem bret {b M:Bool} {σ:St} (h:b=M):wret (some (.bool b)) 0 (fun r s=>r= .bool M∧s= []) σ:=by subst h;exact zQ (zA rfl) ⟨rfl,rfl⟩
set_option maxHeartbeats 1000000 in
theorem yy2 (l:List GItem) (hl:l.length≤12) (hx: ∀x∈l,i64R x.kind∧EOk x.e):Pure Tryz.prog 122 [.sl .ro (l.map GItem.row)] (.bool (yq5 l)):=by
 obtain⟨n,hn⟩: ∃n,l.length=n:=⟨_,rfl⟩
 generalize hM:yq5 l=M
 unfold yq5 at hM
 rw[hn]at hM
 have e1:decide ((1:Int)≤n)=decide (1≤n):=decide_eq_decide.2 (by omega)
 have e2:decide ((n:Int)≤6)=decide (n≤6):=decide_eq_decide.2 (by omega)
 have e3:decide ((1:Int)<n)= !decide (n≤1):=by
  by_cases h:n≤1
  ·rw[decide_eq_true h,decide_eq_false (by omega)];rfl
  ·rw[decide_eq_false h,decide_eq_true (by omega)];rfl
 refine VCalls.introV 0 Tryz.func122 Tryz.ntmps122 Tryz.results122 rfl rfl (Nat.le_of_ble_eq_true rfl) fun c hc hb=> ?_
 refine zC ?_
 simp[go_sem]
 refine zN (S:=Nat) [0,5,6,7] (fun i=> [.sl .ro (l.map GItem.row),.sl .ro (l.map GItem.row),.int .i64 n,.int .i64 (i:Int)]) (fun _=> []) (fun i=>n - i)
  (fun i=>i≤n∧((l.drop i).all (mayI n)&&(decide (1≤n)&&decide (n≤6)))=M) hc hb 0 ⟨Nat.zero_le _,by rw[List.drop_zero];exact hM⟩ ?_ ?_
 ·exact at_0 rfl (zI (by simp[go_sem,hn]) rfl)
 rintro i ⟨hi,hinv⟩
 by_cases q:i<n
 rotate_left
 ·rw[List.drop_eq_nil_of_le (by omega),List.all_nil,Bool.true_and]at hinv
  refine zC ?_
  simp[go_sem,q,hn,e1]
  refine yT (fun w=> ?_) (fun w=> ?_)
  ·simp[go_sem,w,hn,e2]
   exact bret (by rw[←hinv,w,Bool.true_and])
  ·simp[go_sem,w]
   exact bret (by rw[←hinv,w];rfl)
 have hq:i<l.length:=by omega
 have ei:=zU q (by omega)
 rw[zz9 _ _ _ hq]at hinv
 obtain⟨x,hxe⟩: ∃x,l[i]=x:=⟨_,rfl⟩
 obtain⟨hk,hE⟩:=hx x (hxe▸List.getElem_mem hq)
 have hbl:=yE1 x.e (by have:=hE.wide.len;unfold maxLen;omega)
 have hme:=zv7 16 x.e (by decide) hE.wide hE.good
 rw[hxe]at hinv
 obtain⟨b,hb1⟩: ∃b,mayI n x=b:=⟨_,rfl⟩
 rw[hb1]at hinv
 unfold mayI at hb1
 have yes:b=true→((l.drop (i+1)).all (mayI n)&&(decide (1≤n)&&decide (n≤6)))=M:=fun h=>by rw[h,Bool.true_and]at hinv;exact hinv
 have no:b=false→false=M:=fun h=>by rw[h]at hinv;exact hinv
 clear hinv
 generalize zu6 x.e=bl at hbl hb1
 generalize mayE 16 x.e=me at hme hb1
 simp only[Int.cast_ofNat_Int]at hme
 refine zC ?_
 simp[go_sem,q,hq,hxe]
 by_cases k1:x.kind=1
 ·have k1':(x.kind==1)=true:=by simpa using k1
  rw[if_pos k1]at hb1
  simp[go_sem,k1',hn,e3]
  refine yT (fun w=> ?_) (fun w=> ?_)
  ·have w2:decide (n≤1)=true:=by simpa using w
   rw[w2,Bool.true_and]at hb1
   simp[go_sem,w2]
   refine zD hbl Tryz.callB121 (zI (by simp[go_sem]) (by rw[GExpr.row_eq];rfl)) rfl ?_
   simp[go_sem]
   refine(Bool.eq_false_or_eq_true bl).elim (fun w=> ?_) (fun w=> ?_)
   ·simp[go_sem,w,ei]
    exact zP (i+1) ⟨by omega,⟨by omega,yes (by rw[←hb1,w])⟩,at_0 rfl (zI (by simp[go_sem]) rfl)⟩
   ·simp[go_sem,w]
    exact bret (no (by rw[←hb1,w]))
  ·have w2:decide (n≤1)=false:=by simpa using w
   rw[w2,Bool.false_and]at hb1
   simp[go_sem,w2]
   exact bret (no hb1.symm)
 rw[if_neg k1]at hb1
 have k1':(x.kind==1)=false:=by simpa using k1
 by_cases k3:x.kind=3
 ·have k3':(x.kind==3)=true:=by simpa using k3
  rw[if_pos k3]at hb1
  simp[go_sem,k1',k3']
  refine zD hbl Tryz.callB121 (zI (by simp[go_sem]) (by rw[GExpr.row_eq];rfl)) rfl ?_
  simp[go_sem]
  refine(Bool.eq_false_or_eq_true bl).elim (fun w=> ?_) (fun w=> ?_)
  ·simp[go_sem,w,ei]
   exact zP (i+1) ⟨by omega,⟨by omega,yes (by rw[←hb1,w])⟩,at_0 rfl (zI (by simp[go_sem]) rfl)⟩
  ·simp[go_sem,w]
   exact bret (no (by rw[←hb1,w]))
 rw[if_neg k3]at hb1
 have k3':(x.kind==3)=false:=by simpa using k3
 by_cases k2:x.kind=2
 ·have k2':(x.kind==2)=true:=by simpa using k2
  rw[if_pos (.inl k2)]at hb1
  simp[go_sem,k1',k3',k2']
  refine zD hme Tryz.callB120 (zI (by simp[go_sem]) (by rw[GExpr.row_eq];rfl)) rfl ?_
  simp[go_sem]
  refine(Bool.eq_false_or_eq_true me).elim (fun w=> ?_) (fun w=> ?_)
  ·simp[go_sem,w,ei]
   exact zP (i+1) ⟨by omega,⟨by omega,yes (by rw[←hb1,w])⟩,at_0 rfl (zI (by simp[go_sem]) rfl)⟩
  ·simp[go_sem,w]
   exact bret (no (by rw[←hb1,w]))
 have k2':(x.kind==2)=false:=by simpa using k2
 by_cases k4:x.kind=4
 ·have k4':(x.kind==4)=true:=by simpa using k4
  rw[if_pos (.inr k4)]at hb1
  simp[go_sem,k1',k3',k2',k4']
  refine zD hme Tryz.callB120 (zI (by simp[go_sem]) (by rw[GExpr.row_eq];rfl)) rfl ?_
  simp[go_sem]
  refine(Bool.eq_false_or_eq_true me).elim (fun w=> ?_) (fun w=> ?_)
  ·simp[go_sem,w,ei]
   exact zP (i+1) ⟨by omega,⟨by omega,yes (by rw[←hb1,w])⟩,at_0 rfl (zI (by simp[go_sem]) rfl)⟩
  ·simp[go_sem,w]
   exact bret (no (by rw[←hb1,w]))
 have k4':(x.kind==4)=false:=by simpa using k4
 rw[if_neg (fun h=>h.elim k2 k4)]at hb1
 simp[go_sem,k1',k3',k2',k4']
 exact bret (no hb1.symm)
def ze9 {α:Type} (p:α→Bool):List α→Nat→Int
 | [],_=> -1
 |x::l,i=>if p x=true then(i:Int)else ze9 p l (i+1)
theorem zE0 {α:Type} (p:α→Bool): ∀(l:List α) (i:Nat),decide (0≤ze9 p l i)=l.any p
 | [],i=>rfl
 |x::l,i=>by
  rw[ze9,List.any_cons]
  split
  ·rename_i h;rw[h];exact decide_eq_true (by omega)
  ·rename_i h
   have h:p x=false:=by simpa using h
   rw[h,Bool.false_or,zE0 p l (i+1)]
theorem xq0 (x:GExpr) (hE:EOk x):Pure Tryz.prog 170 [.agg x.row] (.bool (!mayE 16 x)):=by
 have hme:=zv7 16 x (by decide) hE.wide hE.good
 generalize mayE 16 x=b at hme⊢
 simp only[Int.cast_ofNat_Int]at hme
 refine VCalls.intro 0 Tryz.func170 Tryz.ntmps170 Tryz.results170 rfl rfl (Nat.le_of_ble_eq_true rfl) fun c hc hb=>zJ ?_
 simp[go_sem]
 refine zD hme Tryz.callB120 (zI (by simp[go_sem]) (by rw[GExpr.row_eq];rfl)) rfl ?_
 simp[go_sem]
 exact zQ (zA rfl) ⟨rfl,rfl⟩
theorem xp9 (x:GAssign) (hn:x.name.length≤maxLen) (hE:EOk x.e):Pure Tryz.prog 171 [.agg x.row] (.bool (!mayA x)):=by
 have hme:=zv7 16 x.e (by decide) hE.wide hE.good
 have hw:=zE3 x.name hn
 generalize hM:(!mayA x)=M
 unfold mayA at hM
 generalize mayE 16 x.e=b at hme hM
 generalize zi6 x.name=w at hw hM
 simp only[Int.cast_ofNat_Int]at hme
 refine VCalls.intro 0 Tryz.func171 Tryz.ntmps171 Tryz.results171 rfl rfl (Nat.le_of_ble_eq_true rfl) fun c hc hb=>zJ ?_
 simp[go_sem]
 refine zD hw Tryz.callB119 (zI (by simp[go_sem]) rfl) rfl ?_
 refine(Bool.eq_false_or_eq_true w).elim (fun p=> ?_) (fun p=> ?_)
 ·simp[go_sem,p]
  refine zD hme Tryz.callB120 (zI (by simp[go_sem]) (by rw[GExpr.row_eq];rfl)) rfl ?_
  simp[go_sem]
  exact bret (by rw[←hM,p,Bool.true_and])
 ·simp[go_sem,p]
  exact bret (by rw[←hM,p];rfl)
theorem xr5 (l:List GExpr) (hl:l.length≤12) (hx: ∀x∈l,EOk x):Pure Tryz.prog 193 [.sl .ro (l.map GExpr.row),.fn 170 []] (.int .i64 (ze9 (fun x=> !mayE 16 x) l 0)):=by
 generalize hM:ze9 (fun x=> !mayE 16 x) l 0=M
 have ret: ∀(r:Int) (σ:St),r=M→wret (some (.int .i64 r)) 0 (fun r s=>r= .int .i64 M∧s= []) σ:=fun r σ h=>by subst h;exact zQ (zA rfl) ⟨rfl,rfl⟩
 refine VCalls.introV 0 Tryz.func193 Tryz.ntmps193 Tryz.results193 rfl rfl (Nat.le_of_ble_eq_true rfl) fun c hc hb=> ?_
 refine zC ?_
 simp[go_sem]
 refine zN (S:=Nat) [0,1,6,7,8] (fun i=> [.sl .ro (l.map GExpr.row),.fn 170 [],.sl .ro (l.map GExpr.row),.int .i64 l.length,.int .i64 (i:Int)]) (fun _=> []) (fun i=>l.length - i)
  (fun i=>i≤l.length∧ze9 (fun x=> !mayE 16 x) (l.drop i) i=M) hc hb 0 ⟨Nat.zero_le _,hM⟩ ?_ ?_
 ·exact at_0 rfl (zI (by simp[go_sem]) rfl)
 rintro i ⟨hi,hinv⟩
 by_cases q:i<l.length
 rotate_left
 ·rw[List.drop_eq_nil_of_le (by omega)]at hinv
  refine zC ?_
  simp[go_sem,q]
  exact ret _ _ hinv
 have ei:=zU q (by omega)
 obtain⟨x,hxe⟩: ∃x,l[i]=x:=⟨_,rfl⟩
 rw[List.drop_eq_getElem_cons q,hxe,ze9]at hinv
 have hcall:=xq0 x (hx x (hxe▸List.getElem_mem q))
 generalize (!mayE 16 x)=b at hcall hinv
 refine zC ?_
 simp[go_sem,q,hxe]
 refine zD hcall Tryz.callB170 (zI (by simp[go_sem]) (by rw[GExpr.row_eq];rfl)) rfl ?_
 refine(Bool.eq_false_or_eq_true b).elim (fun p=> ?_) (fun p=> ?_)
 ·rw[if_pos p]at hinv
  simp[go_sem,p]
  exact ret _ _ hinv
 ·rw[if_neg (by rw[p];decide)]at hinv
  simp[go_sem,p,ei]
  exact zP (i+1) ⟨by omega,⟨by omega,hinv⟩,at_0 rfl (zI (by simp[go_sem]) rfl)⟩
theorem xr1 (l:List GExpr) (hl:l.length≤12) (hx: ∀x∈l,EOk x):Pure Tryz.prog 169 [.sl .ro (l.map GExpr.row),.fn 170 []] (.bool (!l.all (mayE 16))):=by
 have h:=xr5 l hl hx
 have hg:=zE0 (fun x=> !mayE 16 x) l 0
 have ha:l.any (fun x=> !mayE 16 x)= !l.all (mayE 16):=by rw[List.all_eq_not_any_not,Bool.not_not]
 rw[ha]at hg
 rw[←hg]
 generalize ze9 (fun x=> !mayE 16 x) l 0=n at h⊢
 refine VCalls.intro 0 Tryz.func169 Tryz.ntmps169 Tryz.results169 rfl rfl (Nat.le_of_ble_eq_true rfl) fun c hc hb=>zJ ?_
 simp[go_sem]
 refine zD h Tryz.callB193 (zI (by simp[go_sem]) rfl) rfl ?_
 simp[go_sem]
 exact zQ (zA rfl) ⟨rfl,rfl⟩
theorem xr2 (l:List GAssign) (hl:l.length≤12) (hx: ∀x∈l,x.name.length≤1048576∧EOk x.e):Pure Tryz.prog 176 [.sl .ro (l.map GAssign.row),.fn 171 []] (.int .i64 (ze9 (fun x=> !mayA x) l 0)):=by
 generalize hM:ze9 (fun x=> !mayA x) l 0=M
 have ret: ∀(r:Int) (σ:St),r=M→wret (some (.int .i64 r)) 0 (fun r s=>r= .int .i64 M∧s= []) σ:=fun r σ h=>by subst h;exact zQ (zA rfl) ⟨rfl,rfl⟩
 refine VCalls.introV 0 Tryz.func176 Tryz.ntmps176 Tryz.results176 rfl rfl (Nat.le_of_ble_eq_true rfl) fun c hc hb=> ?_
 refine zC ?_
 simp[go_sem]
 refine zN (S:=Nat) [0,1,6,7,8] (fun i=> [.sl .ro (l.map GAssign.row),.fn 171 [],.sl .ro (l.map GAssign.row),.int .i64 l.length,.int .i64 (i:Int)]) (fun _=> []) (fun i=>l.length - i)
  (fun i=>i≤l.length∧ze9 (fun x=> !mayA x) (l.drop i) i=M) hc hb 0 ⟨Nat.zero_le _,hM⟩ ?_ ?_
 ·exact at_0 rfl (zI (by simp[go_sem]) rfl)
 rintro i ⟨hi,hinv⟩
 by_cases q:i<l.length
 rotate_left
 ·rw[List.drop_eq_nil_of_le (by omega)]at hinv
  refine zC ?_
  simp[go_sem,q]
  exact ret _ _ hinv
 have ei:=zU q (by omega)
 obtain⟨x,hxe⟩: ∃x,l[i]=x:=⟨_,rfl⟩
 rw[List.drop_eq_getElem_cons q,hxe,ze9]at hinv
 obtain⟨hxn,hxE⟩:=hx x (hxe▸List.getElem_mem q)
 have hcall:=xp9 x (by unfold maxLen;omega) hxE
 generalize (!mayA x)=b at hcall hinv
 refine zC ?_
 simp[go_sem,q,hxe]
 refine zD hcall Tryz.callB171 (zI (by simp[go_sem]) rfl) rfl ?_
 refine(Bool.eq_false_or_eq_true b).elim (fun p=> ?_) (fun p=> ?_)
 ·rw[if_pos p]at hinv
  simp[go_sem,p]
  exact ret _ _ hinv
 ·rw[if_neg (by rw[p];decide)]at hinv
  simp[go_sem,p,ei]
  exact zP (i+1) ⟨by omega,⟨by omega,hinv⟩,at_0 rfl (zI (by simp[go_sem]) rfl)⟩
theorem xq9 (l:List GAssign) (hl:l.length≤12) (hx: ∀x∈l,x.name.length≤1048576∧EOk x.e):Pure Tryz.prog 128 [.sl .ro (l.map GAssign.row),.fn 171 []] (.bool (!l.all mayA)):=by
 have h:=xr2 l hl hx
 have hg:=zE0 (fun x=> !mayA x) l 0
 have ha:l.any (fun x=> !mayA x)= !l.all mayA:=by rw[List.all_eq_not_any_not,Bool.not_not]
 rw[ha]at hg
 rw[←hg]
 generalize ze9 (fun x=> !mayA x) l 0=n at h⊢
 refine VCalls.intro 0 Tryz.func128 Tryz.ntmps128 Tryz.results128 rfl rfl (Nat.le_of_ble_eq_true rfl) fun c hc hb=>zJ ?_
 simp[go_sem]
 refine zD h Tryz.callB176 (zI (by simp[go_sem]) rfl) rfl ?_
 simp[go_sem]
 exact zQ (zA rfl) ⟨rfl,rfl⟩
end Go.Proofs.YtajjjghohakniaaGreat
namespace Go.Proofs.YtajjjghohakniaaGreat
open Go Go.Vx R
set_option maxRecDepth 100000
theorem dec1 (n:Nat):decide ((1:Int)≤n)=decide (1≤n):=decide_eq_decide.2 (by omega)
theorem xo0 (n k:Nat):decide ((n:Int)≤k)=decide (n≤k):=decide_eq_decide.2 (by omega)
theorem yN7 (l:List (List GExpr)) (hl:l.length≤20) (hx: ∀r∈l,r.length≤12∧ ∀e∈r,EOk e):Pure Tryz.prog 123 [.sl .ro (l.map fun r=> [V.sl .ro (r.map GExpr.row)])] (.bool (yq6 l)):=by
 obtain⟨n,hn⟩: ∃n,l.length=n:=⟨_,rfl⟩
 generalize hM:yq6 l=M
 unfold yq6 at hM
 rw[hn]at hM
 have e1:=dec1 n
 have e2:decide ((n:Int)≤16)=decide (n≤16):=xo0 n 16
 refine VCalls.introV 0 Tryz.func123 Tryz.ntmps123 Tryz.results123 rfl rfl (Nat.le_of_ble_eq_true rfl) fun c hc hb=> ?_
 refine zC ?_
 simp[go_sem]
 refine zN (S:=Nat) [0,5,6,7] (fun i=> [.sl .ro (l.map fun r=> [V.sl .ro (r.map GExpr.row)]),.sl .ro (l.map fun r=> [V.sl .ro (r.map GExpr.row)]),.int .i64 n,.int .i64 (i:Int)]) (fun _=> []) (fun i=>n - i)
  (fun i=>i≤n∧((l.drop i).all mayR&&(decide (1≤n)&&decide (n≤16)))=M) hc hb 0 ⟨Nat.zero_le _,by rw[List.drop_zero];exact hM⟩ ?_ ?_
 ·exact at_0 rfl (zI (by simp[go_sem,hn]) rfl)
 rintro i ⟨hi,hinv⟩
 by_cases q:i<n
 rotate_left
 ·rw[List.drop_eq_nil_of_le (by omega),List.all_nil,Bool.true_and]at hinv
  refine zC ?_
  simp[go_sem,q,hn,e1]
  refine yT (fun w=> ?_) (fun w=> ?_)
  ·simp[go_sem,w,hn,e2]
   exact bret (by rw[←hinv,w,Bool.true_and])
  ·simp[go_sem,w]
   exact bret (by rw[←hinv,w];rfl)
 have hq:i<l.length:=by omega
 have ei:=zU q (by omega)
 rw[zz9 _ _ _ hq]at hinv
 obtain⟨r,hr⟩: ∃r,l[i]=r:=⟨_,rfl⟩
 obtain⟨hrl,hrE⟩:=hx r (hr▸List.getElem_mem hq)
 have hcall:=xr1 r hrl hrE
 rw[hr]at hinv
 obtain⟨b,hb1⟩: ∃b,mayR r=b:=⟨_,rfl⟩
 rw[hb1]at hinv
 unfold mayR at hb1
 have yes:b=true→((l.drop (i+1)).all mayR&&(decide (1≤n)&&decide (n≤16)))=M:=fun h=>by rw[h,Bool.true_and]at hinv;exact hinv
 have no:b=false→false=M:=fun h=>by rw[h]at hinv;exact hinv
 clear hinv
 generalize r.all (mayE 16)=ra at hcall hb1
 have hr0:((r.length:Int)==0)= !decide (1≤r.length):=by
  cases r with
  |nil=>rfl
  |cons _ _=>rw[decide_eq_true (by simp)];simp;omega
 have hr6:decide ((6:Int)<r.length)= !decide (r.length≤6):=by
  by_cases h:r.length≤6
  ·rw[decide_eq_true h,decide_eq_false (by omega)];rfl
  ·rw[decide_eq_false h,decide_eq_true (by omega)];rfl
 generalize decide (1≤r.length)=d1 at hr0 hb1
 generalize decide (r.length≤6)=d2 at hr6 hb1
 refine zC ?_
 simp[go_sem,q,hq,hr,hr0]
 refine(Bool.eq_false_or_eq_true d1).elim (fun w=> ?_) (fun w=> ?_)
 rotate_left
 ·simp[go_sem,w]
  exact bret (no (by rw[←hb1,w];rfl))
 simp[go_sem,w,hr6]
 refine(Bool.eq_false_or_eq_true d2).elim (fun w2=> ?_) (fun w2=> ?_)
 rotate_left
 ·simp[go_sem,w2]
  exact bret (no (by rw[←hb1,w,w2];rfl))
 simp[go_sem,w2]
 refine zD hcall Tryz.callB169 (zI (by simp[go_sem]) rfl) rfl ?_
 simp[go_sem]
 refine(Bool.eq_false_or_eq_true ra).elim (fun w3=> ?_) (fun w3=> ?_)
 ·simp[go_sem,w3,ei]
  exact zP (i+1) ⟨by omega,⟨by omega,yes (by rw[←hb1,w,w2,w3];rfl)⟩,at_0 rfl (zI (by simp[go_sem]) rfl)⟩
 ·simp[go_sem,w3]
  exact bret (no (by rw[←hb1,w,w2,w3];rfl))
theorem yN8 (l:List GAssign) (hl:l.length≤12) (hx: ∀x∈l,x.name.length≤1048576∧EOk x.e):Pure Tryz.prog 124 [.sl .ro (l.map GAssign.row)] (.bool (yq4 l)):=by
 have hcall:=xq9 l hl hx
 generalize hM:yq4 l=M
 unfold yq4 at hM
 generalize l.all mayA=a at hcall hM
 obtain⟨n,hn⟩: ∃n,l.length=n:=⟨_,rfl⟩
 rw[hn]at hM
 have e1:=dec1 n
 have e2:decide ((n:Int)≤6)=decide (n≤6):=xo0 n 6
 refine VCalls.intro 0 Tryz.func124 Tryz.ntmps124 Tryz.results124 rfl rfl (Nat.le_of_ble_eq_true rfl) fun c hc hb=>zJ ?_
 simp[go_sem,hn,e1]
 refine yT (fun w=> ?_) (fun w=> ?_)
 rotate_left
 ·simp[go_sem,w]
  exact bret (by rw[←hM,w];rfl)
 simp[go_sem,w,hn,e2]
 refine yT (fun w2=> ?_) (fun w2=> ?_)
 rotate_left
 ·simp[go_sem,w2]
  exact bret (by rw[←hM,w,w2];rfl)
 simp[go_sem,w2]
 refine zD hcall Tryz.callB128 (zI (by simp[go_sem]) rfl) rfl ?_
 simp[go_sem]
 exact bret (by rw[←hM,w,w2];rfl)
def xc0 (st:GStmt):Bool:=
 !((!(st.kind==1)&&(!st.items.isEmpty||(!st.order.isEmpty||(st.down|| !(st.limit==0)))))||((!(st.kind==2)&& !st.rows.isEmpty)||(!(st.kind==3)&& !st.sets.isEmpty)))
def xo4 (st:GStmt):Bool:=zi6 st.table&&(if st.filtered=true then mayE 16 st.where_ else zu6 st.where_)
def xn7 (st:GStmt):Bool:=
 if st.kind=1 then yq5 st.items&&(((st.order.isEmpty&& !st.down)||zi6 st.order)&&decide (-1≤st.limit))
 else if st.kind=2 then yq6 st.rows&& !st.filtered
 else if st.kind=3 then yq4 st.sets
 else st.kind==4
def mayS (st:GStmt):Bool:=xo4 st&&(xc0 st&&xn7 st)
theorem zN6 {α:Type} (l:List α):decide (0<l.length)= !l.isEmpty:=by
 cases l with
 |nil=>rfl
 |cons _ _=>exact decide_eq_true (by simp only[List.length_cons];omega)
set_option maxHeartbeats 4000000 in
theorem yN9 (st:GStmt) (hs:SOk st):Pure Tryz.prog 74 [.agg st.row] (.bool (mayS st)):=by
 have hwt:=zE3 st.table (by have:=hs.table;unfold maxLen;omega)
 have hwo:=zE3 st.order (by have:=hs.order;unfold maxLen;omega)
 have hme:=zv7 16 st.where_ (by decide) hs.where_.wide hs.where_.good
 have hbl:=yE1 st.where_ (by have:=hs.where_.wide.len;unfold maxLen;omega)
 have hit:=yy2 st.items hs.items.1 hs.items.2
 have hro:=yN7 st.rows hs.rows.1 hs.rows.2
 have hse:=yN8 st.sets hs.sets.1 hs.sets.2
 simp only[Int.cast_ofNat_Int]at hme
 generalize hM:mayS st=M
 unfold mayS xo4 xc0 xn7 at hM
 obtain⟨k,hk⟩: ∃k,st.kind=k:=⟨_,rfl⟩
 obtain⟨f,hf⟩: ∃f,st.filtered=f:=⟨_,rfl⟩
 obtain⟨d,hd⟩: ∃d,st.down=d:=⟨_,rfl⟩
 rw[hk,hf,hd]at hM
 generalize zi6 st.table=wt at hwt hM
 generalize zi6 st.order=wo at hwo hM
 generalize mayE 16 st.where_=me at hme hM
 generalize zu6 st.where_=bl at hbl hM
 generalize yq5 st.items=mi at hit hM
 generalize yq6 st.rows=mr at hro hM
 generalize yq4 st.sets=ms at hse hM
 have hi0:=zN6 st.items
 have hr0:=zN6 st.rows
 have hs0:=zN6 st.sets
 have ho0:(st.order != [])= !st.order.isEmpty:=by cases st.order<;>rfl
 have ho1:(st.order== [])=st.order.isEmpty:=by cases st.order<;>rfl
 generalize st.items.isEmpty=ie at hi0 hM
 generalize st.rows.isEmpty=re at hr0 hM
 generalize st.sets.isEmpty=se at hs0 hM
 have hz: ∀b:Bool,b=M→ ∀σ:St,wret (some (.bool b)) 0 (fun r s=>r= .bool M∧s= []) σ:=fun b h σ=>bret h
 have step1:((wt&&(if f=true then me else bl))=false→false=M)∧((wt&&(if f=true then me else bl))=true→(!((!(k==1)&&(!ie||(!st.order.isEmpty||(d|| !(st.limit==0)))))||((!(k==2)&& !re)||(!(k==3)&& !se)))&&(if k=1 then mi&&(((st.order.isEmpty&& !d)||wo)&&decide (-1≤st.limit))else if k=2 then mr&& !f else if k=3 then ms else k==4))=M):=by
  constructor
  ·intro h;rw[h]at hM;exact hM
  ·intro h;rw[h,Bool.true_and]at hM;exact hM
 obtain⟨no1,yes1⟩:=step1
 clear hM
 refine VCalls.introV 0 Tryz.func74 Tryz.ntmps74 Tryz.results74 rfl rfl (Nat.le_of_ble_eq_true rfl) fun c hc hb=> ?_
 refine zc1 (zC ?_)
 simp[go_sem]
 refine zq1 (S:=Unit) [1] (fun _=> [.ptr 0 0]) (fun _=> [.box st.row]) (fun _=>(wt&&(if f=true then me else bl))=true) hc hb ?_ ?_
 ·refine zC ?_
  simp[go_sem]
  refine zD hwt Tryz.callB119 (zI (by simp[go_sem]) rfl) rfl ?_
  refine(Bool.eq_false_or_eq_true wt).elim (fun w=> ?_) (fun w=> ?_)
  rotate_left
  ·simp[go_sem,w]
   exact bret (no1 (by rw[w];rfl))
  simp[go_sem,w,hf]
  refine(Bool.eq_false_or_eq_true f).elim (fun w2=> ?_) (fun w2=> ?_)
  ·simp[go_sem,w2]
   refine zD hme Tryz.callB120 (zI (by simp[go_sem]) (by rw[GExpr.row_eq];rfl)) rfl ?_
   refine(Bool.eq_false_or_eq_true me).elim (fun w3=> ?_) (fun w3=> ?_)
   ·simp[go_sem,w3,w2]
    exact zP () ⟨by rw[w,w2,w3];rfl,at_n 1 (by simp[go_sem,hk,hf,hd,w2]) rfl (by simp[ltOb,ltC,ltK]) (Nat.zero_le _) (zE (by simp[go_sem]) rfl)⟩
   ·simp[go_sem,w3]
    exact bret (no1 (by rw[w,w2,w3];rfl))
  ·simp[go_sem,w2]
   refine zD hbl Tryz.callB121 (zI (by simp[go_sem]) (by rw[GExpr.row_eq];rfl)) rfl ?_
   refine(Bool.eq_false_or_eq_true bl).elim (fun w3=> ?_) (fun w3=> ?_)
   ·simp[go_sem,w3]
    exact zP () ⟨by rw[w,w2,w3];rfl,at_n 1 (by simp[go_sem,hk,hf,hd,w2]) rfl (by simp[ltOb,ltC,ltK]) (Nat.zero_le _) (zE (by simp[go_sem]) rfl)⟩
   ·simp[go_sem,w3]
    exact bret (no1 (by rw[w,w2,w3];rfl))
 ·rintro _ h1
  have hM:=yes1 h1
  clear no1 yes1
  generalize hB:(if k=1 then mi&&(((st.order.isEmpty&& !d)||wo)&&decide (-1≤st.limit))else if k=2 then mr&& !f else if k=3 then ms else k==4)=B at hM
  obtain⟨S,hS⟩: ∃S,((!(k==1)&&(!ie||(!st.order.isEmpty||(d|| !(st.limit==0)))))||((!(k==2)&& !re)||(!(k==3)&& !se)))=S:=⟨_,rfl⟩
  rw[hS]at hM
  have no:S=true→false=M:=fun h=>by rw[h]at hM;exact hM
  have yes:S=false→B=M:=fun h=>by rw[h]at hM;exact hM
  clear hM
  have hl0:(st.limit !=0)= !(st.limit==0):=rfl
  have hk2:(st.kind !=2)= !(k==2):=by rw[hk];rfl
  have hk3:(st.kind !=3)= !(k==3):=by rw[hk];rfl
  have hk1:(st.kind==1)=(k==1):=by rw[hk]
  refine zc1 (zC ?_)
  simp[go_sem]
  refine zq1 (S:=Unit) [1] (fun _=> [.ptr 0 0]) (fun _=> [.box st.row]) (fun _=>S=false) hc hb ?_ ?_
  ·generalize (st.limit==0)=l0 at hl0 hS
   generalize (k==1)=k1 at hk1 hS
   generalize (k==2)=k2 at hk2 hS
   generalize (k==3)=k3 at hk3 hS
   clear yes hB
   refine zC ?_
   simp[go_sem,hk1]
   repeat' (first
    |(refine yT (fun w=> ?_) (fun w=> ?_)<;>simp[go_sem,w,hk2,hk3,hl0,hi0,hr0,hs0,hd])
    |(refine zS (fun w=> ?_) (fun w=> ?_)<;>simp[go_sem,w]))
   all_goals first
    |exact bret (no (by rw[←hS];simp_all))
    |exact zP () ⟨by rw[←hS];simp_all,at_n 1 (by simp[go_sem,hd]<;>simp_all) rfl (by simp[ltOb,ltC,ltK]) (Nat.zero_le _) (zE (by simp[go_sem]) rfl)⟩
  ·rintro _ hSf
   have hM:=yes hSf
   rw[←hB]at hM
   clear yes no hS hB
   refine zC ?_
   simp[go_sem,hk]
   by_cases k1:k=1
   ·have k1':(k==1)=true:=by simpa using k1
    rw[if_pos k1]at hM
    have hlm:decide (-1≤st.limit)=decide (-1≤st.limit):=rfl
    simp[go_sem,k1']
    refine zD hit Tryz.callB122 (zI (by simp[go_sem]) rfl) rfl ?_
    simp[go_sem]
    repeat' (first
     |(refine yT (fun w=> ?_) (fun w=> ?_)<;>simp[go_sem,w,ho1,hd])
     |(refine zD hwo Tryz.callB119 (zI (by simp[go_sem]) rfl) rfl ?_;simp[go_sem]))
    all_goals exact bret (by rw[←hM];simp_all)
   have k1':(k==1)=false:=by simpa using k1
   rw[if_neg k1]at hM
   by_cases k2:k=2
   ·have k2':(k==2)=true:=by simpa using k2
    rw[if_pos k2]at hM
    simp[go_sem,k1',k2']
    refine zD hro Tryz.callB123 (zI (by simp[go_sem]) rfl) rfl ?_
    simp[go_sem]
    refine(Bool.eq_false_or_eq_true mr).elim (fun w=> ?_) (fun w=> ?_)
    ·simp[go_sem,w,hf]
     exact bret (by rw[←hM,w];rfl)
    ·simp[go_sem,w]
     exact bret (by rw[←hM,w];rfl)
   have k2':(k==2)=false:=by simpa using k2
   rw[if_neg k2]at hM
   by_cases k3:k=3
   ·have k3':(k==3)=true:=by simpa using k3
    rw[if_pos k3]at hM
    simp[go_sem,k1',k2',k3']
    refine zD hse Tryz.callB124 (zI (by simp[go_sem]) rfl) rfl ?_
    simp[go_sem]
    exact bret hM
   have k3':(k==3)=false:=by simpa using k3
   rw[if_neg k3]at hM
   simp[go_sem,k1',k2',k3']
   exact bret hM
def xo3 (l:GLot):Bool:=(decide (0≤l.mode)&&(decide (l.mode≤2)&&(decide (0≤l.n)&&(!(l.mode==0&& !(l.n==0))))))&&(decide (1≤l.stmts.length)&&decide (l.stmts.length≤8))
def mayL (l:GLot):Bool:=xo3 l&&l.stmts.all mayS
set_option maxHeartbeats 1000000 in
theorem yR3 (l:GLot) (hl:LOk l):Pure Tryz.prog 30 [.agg l.row] (.bool (mayL l)):=by
 obtain⟨L,hL⟩: ∃L,l.stmts=L:=⟨_,rfl⟩
 obtain⟨m,hm⟩: ∃m,l.mode=m:=⟨_,rfl⟩
 obtain⟨n,hn⟩: ∃n,l.n=n:=⟨_,rfl⟩
 obtain⟨hLl,hLs⟩:=hl.stmts
 rw[hL]at hLl hLs
 generalize hM:mayL l=M
 unfold mayL xo3 at hM
 rw[hL,hm,hn]at hM
 have no: ∀h:Bool,(h&&L.all mayS)=M→h=false→false=M:=fun h q w=>by rw[w]at q;exact q
 refine VCalls.introV 0 Tryz.func30 Tryz.ntmps30 Tryz.results30 rfl rfl (Nat.le_of_ble_eq_true rfl) fun c hc hb=> ?_
 refine zc1 (zC ?_)
 simp[go_sem]
 refine zq1 (S:=Unit) [1] (fun _=> [.ptr 0 0]) (fun _=> [.box l.row]) (fun _=>L.all mayS=M) hc hb ?_ ?_
 ·have d1:decide (m<0)= !decide (0≤m):=by
   by_cases h:0≤m
   ·rw[decide_eq_true h,decide_eq_false (by omega)];rfl
   ·rw[decide_eq_false h,decide_eq_true (by omega)];rfl
  have d2:decide (2<m)= !decide (m≤2):=by
   by_cases h:m≤2
   ·rw[decide_eq_true h,decide_eq_false (by omega)];rfl
   ·rw[decide_eq_false h,decide_eq_true (by omega)];rfl
  have d3:decide (n<0)= !decide (0≤n):=by
   by_cases h:0≤n
   ·rw[decide_eq_true h,decide_eq_false (by omega)];rfl
   ·rw[decide_eq_false h,decide_eq_true (by omega)];rfl
  have d4:((L.length:Int)==0)= !decide (1≤L.length):=by
   by_cases h:1≤L.length
   ·rw[decide_eq_true h];simp;intro hh;rw[hh]at h;simp at h
   ·rw[decide_eq_false h]
    have:L= []:=List.eq_nil_of_length_eq_zero (by omega)
    rw[this];rfl
  have d5:decide ((8:Int)<L.length)= !decide (L.length≤8):=by
   by_cases h:L.length≤8
   ·rw[decide_eq_true h,decide_eq_false (by omega)];rfl
   ·rw[decide_eq_false h,decide_eq_true (by omega)];rfl
  have d6:(n !=0)= !(n==0):=rfl
  generalize decide (0≤m)=b1 at d1 hM
  generalize decide (m≤2)=b2 at d2 hM
  generalize decide (0≤n)=b3 at d3 hM
  generalize decide (1≤L.length)=b4 at d4 hM
  generalize decide (L.length≤8)=b5 at d5 hM
  generalize (n==0)=b6 at d6 hM
  have no1:=no _ hM
  have yes1:((b1&&(b2&&(b3&&(!(m==0&& !b6)))))&&(b4&&b5))=true→L.all mayS=M:=fun h=>by rw[h,Bool.true_and]at hM;exact hM
  generalize hm0:(m==0)=b7 at no1 yes1
  clear hM no
  refine zC ?_
  simp[go_sem,hm,hn,hL,d1]
  repeat' (first
   |(refine yT (fun w=> ?_) (fun w=> ?_)<;>simp[go_sem,w,hm0,d2,d3,d4,d5,d6])
   |(refine zS (fun w=> ?_) (fun w=> ?_)<;>simp[go_sem,w]))
  all_goals first
   |exact bret (no1 (by simp_all))
   |exact zP () ⟨yes1 (by simp_all),at_n 1 (by simp[go_sem,hm,hn,hL]) rfl (by simp[ltOb,ltC,ltK]) (Nat.zero_le _) (zE (by simp[go_sem]) rfl)⟩
 ·rintro _ hM
  refine zC ?_
  simp[go_sem,hL]
  refine zN (S:=Nat) [41,42,43] (fun i=> [.sl .ro (L.map GStmt.row),.int .i64 L.length,.int .i64 (i:Int)]) (fun _=> []) (fun i=>L.length - i) (fun i=>i≤L.length∧(L.drop i).all mayS=M) hc hb 0 ⟨Nat.zero_le _,by rw[List.drop_zero];exact hM⟩ ?_ ?_
  ·exact at_0 rfl (zI (by simp[go_sem]) rfl)
  rintro i ⟨hi,hinv⟩
  by_cases q:i<L.length
  rotate_left
  ·rw[List.drop_eq_nil_of_le (by omega)]at hinv
   refine zC ?_
   simp[go_sem,q]
   exact bret hinv
  have ei:=zU q (by omega)
  rw[zz9 _ _ _ q]at hinv
  obtain⟨st,hst⟩: ∃st,L[i]=st:=⟨_,rfl⟩
  have hcall:=yN9 st (hLs st (hst▸List.getElem_mem q))
  rw[hst]at hinv
  generalize mayS st=b at hcall hinv
  refine zC ?_
  simp[go_sem,q,hst]
  refine zD hcall Tryz.callB74 (zI (by simp[go_sem]) rfl) rfl ?_
  refine(Bool.eq_false_or_eq_true b).elim (fun p=> ?_) (fun p=> ?_)
  ·rw[p,Bool.true_and]at hinv
   simp[go_sem,p,ei]
   exact zP (i+1) ⟨by omega,⟨by omega,hinv⟩,at_0 rfl (zI (by simp[go_sem]) rfl)⟩
  ·rw[p,Bool.false_and]at hinv
   simp[go_sem,p]
   exact bret hinv
end Go.Proofs.YtajjjghohakniaaGreat
namespace Go.Proofs.YtajjjghohakniaaGreat
open Go Go.Vx R
set_option maxRecDepth 100000
def zv6 (T:GTable) (e:GExpr) (want:Int):Int:=if(wS T e).2≠0 then(wS T e).2 else if(wS T e).1≠want∧(wS T e).1≠0 then 15 else 0
theorem iret {b M:Int} {σ:St} (h:b=M):wret (some (.int .i64 b)) 0 (fun r s=>r= .int .i64 M∧s= []) σ:=by subst h;exact zQ (zA rfl) ⟨rfl,rfl⟩
theorem zS2 (T:GTable) (hT:T.cols.length≤maxLen) (e:GExpr) (he:EOk e) (want:Int):Pure Tryz.prog 126 [.agg T.row,.agg e.row,.int .i64 want] (.int .i64 (zv6 T e want)):=by
 have h:=yv6 T hT e he
 generalize hM:zv6 T e want=M
 unfold zv6 at hM
 generalize wS T e=k at h hM
 refine VCalls.intro 0 Tryz.func126 Tryz.ntmps126 Tryz.results126 rfl rfl (Nat.le_of_ble_eq_true rfl) fun c hc hb=>zJ ?_
 simp[go_sem]
 refine zD h Tryz.callB125 (zI (by simp[go_sem]) (by rw[GExpr.row_eq];rfl)) rfl ?_
 simp[go_sem,yN]
 by_cases q1:k.2=0
 rotate_left
 ·have q1':(k.2 !=0)=true:=by simpa using q1
  rw[if_pos q1]at hM
  simp[go_sem,q1']
  exact iret hM
 have q1':(k.2 !=0)=false:=by simpa using q1
 rw[if_neg (fun h=>h q1)]at hM
 simp[go_sem,q1']
 by_cases q2:k.1=want
 ·have q2':(k.1 !=want)=false:=by simpa using q2
  rw[if_neg (fun h=>h.1 q2)]at hM
  simp[go_sem,q2']
  exact iret hM
 have q2':(k.1 !=want)=true:=by simpa using q2
 simp[go_sem,q2']
 by_cases q3:k.1=0
 ·have q3':(k.1 !=0)=false:=by simpa using q3
  rw[if_neg (fun h=>h.2 q3)]at hM
  simp[go_sem,q3']
  exact iret hM
 ·have q3':(k.1 !=0)=true:=by simpa using q3
  rw[if_pos ⟨q2,q3⟩]at hM
  simp[go_sem,q3']
  exact iret hM
def zC7 (T:GTable) (st:GStmt):Int:=if st.filtered=true then zv6 T st.where_ 1 else 0
theorem yu5 (T:GTable) (hT:T.cols.length≤maxLen) (st:GStmt) (hs:SOk st):Pure Tryz.prog 78 [.agg T.row,.agg st.row] (.int .i64 (zC7 T st)):=by
 have h:=zS2 T hT st.where_ hs.where_ 1
 generalize hM:zC7 T st=M
 unfold zC7 at hM
 generalize zv6 T st.where_ 1=k at h hM
 refine VCalls.intro 0 Tryz.func78 Tryz.ntmps78 Tryz.results78 rfl rfl (Nat.le_of_ble_eq_true rfl) fun c hc hb=>zJ ?_
 simp[go_sem]
 refine(Bool.eq_false_or_eq_true st.filtered).elim (fun w=> ?_) (fun w=> ?_)
 ·rw[if_pos w]at hM
  simp[go_sem,w]
  refine zD h Tryz.callB126 (zI (by simp[go_sem]) (by rw[GExpr.row_eq];rfl)) rfl ?_
  simp[go_sem]
  exact iret hM
 ·rw[if_neg (by rw[w];decide)]at hM
  simp[go_sem,w]
  exact iret hM
def yc9 (T:GTable) (x:GItem):Int:=if x.kind=2 then(wS T x.e).2 else if x.kind=4 then zv6 T x.e 2 else 0
def zl6 (T:GTable):List GItem→Int
 | []=>0
 |x::l=>if yc9 T x≠0 then yc9 T x else zl6 T l
def zr9 (l:List GItem):Bool:=l.any fun x=>x.kind==2
def zo8 (l:List GItem):Bool:=l.any fun x=>x.kind==3||x.kind==4
def endC (T:GTable) (st:GStmt):Int:=if st.order.isEmpty=true then 0 else if colF T st.order<0 then 14 else if zo8 st.items=true then 9 else 0
def zR8 (T:GTable) (st:GStmt):Int:=
 if zl6 T st.items≠0 then zl6 T st.items else if(zr9 st.items&&zo8 st.items)=true then 9 else if zC7 T st≠0 then zC7 T st else endC T st
set_option maxHeartbeats 4000000 in
theorem yU0 (T:GTable) (hT:T.cols.length≤maxLen) (st:GStmt) (hs:SOk st):Pure Tryz.prog 75 [.agg T.row,.agg st.row] (.int .i64 (zR8 T st)):=by
 obtain⟨L,hL⟩: ∃L,st.items=L:=⟨_,rfl⟩
 obtain⟨hLl,hLx⟩:=hs.items
 rw[hL]at hLl hLx
 have hwh:=yu5 T hT st hs
 have hcol:=yC8 T st.order hT
 rw[show xO (fun c:GCol=>c.name==st.order) T.cols 0=colF T st.order from rfl]at hcol
 generalize hM:zR8 T st=M
 unfold zR8 endC at hM
 rw[hL]at hM
 refine VCalls.introV 0 Tryz.func75 Tryz.ntmps75 Tryz.results75 rfl rfl (Nat.le_of_ble_eq_true rfl) fun c hc hb=> ?_
 refine zc1 (zC ?_)
 simp[go_sem]
 refine zc1 (zC ?_)
 simp[go_sem]
 refine zq1 (S:=Unit) [2,3,5,6] (fun _=> [.ptr 0 0,.ptr 1 0,.bool (zr9 L),.bool (zo8 L)]) (fun _=> [.box T.row,.box st.row]) (fun _=>zl6 T L=0) hc hb ?_ ?_
 ·refine zc1 (zC ?_)
  simp[go_sem,hL]
  refine zm2 ?_
  refine zN (S:=Nat×Bool×Bool) [2,3,5,6,12,13,14] (fun u=> [.ptr 0 0,.ptr 1 0,.bool u.2.1,.bool u.2.2,.sl .ro (L.map GItem.row),.int .i64 L.length,.int .i64 (u.1:Int)]) (fun _=> [.box T.row,.box st.row]) (fun u=>L.length - u.1)
   (fun u=>u.1≤L.length∧(u.2.1||zr9 (L.drop u.1))=zr9 L∧(u.2.2||zo8 (L.drop u.1))=zo8 L∧zl6 T (L.drop u.1)=zl6 T L) hc hb (0,false,false) ⟨Nat.zero_le _,by simp,by simp,by simp⟩ ?_ ?_
  ·exact at_n 2 (by simp[go_sem,hL]) rfl (by simp[ltOb,ltC,ltK,GTable.row,GStmt.row]) (Nat.zero_le _) (zE (by simp[go_sem]) rfl)
  rintro⟨i,pl,wh⟩ ⟨hi,hp,hw,hinv⟩
  simp only at hi hp hw hinv
  by_cases q:i<L.length
  rotate_left
  ·rw[List.drop_eq_nil_of_le (by omega)]at hp hw hinv
   have hp:pl=zr9 L:=by rw[←hp];exact(Bool.or_false _).symm
   have hw:wh=zo8 L:=by rw[←hw];exact(Bool.or_false _).symm
   refine zC ?_
   simp[go_sem,q]
   exact zP () ⟨hinv.symm,at_n 2 (by simp[go_sem]) rfl (by simp[ltOb,ltC,ltK]) (Nat.zero_le _) (zE (by simp[go_sem,hp,hw]) rfl)⟩
  have ei:=zU q (by omega)
  obtain⟨x,hx⟩: ∃x,L[i]=x:=⟨_,rfl⟩
  have hE:=(hLx x (hx▸List.getElem_mem q)).2
  rw[List.drop_eq_getElem_cons q,hx]at hp hw hinv
  unfold zr9 at hp
  unfold zo8 at hw
  rw[List.any_cons]at hp hw
  rw[zl6]at hinv
  have bad:yc9 T x≠0→yc9 T x=M:=fun h=>by
   rw[if_pos h]at hinv
   rw[←hM,←hinv,if_pos h]
  have good:yc9 T x=0→zl6 T (L.drop (i+1))=zl6 T L:=fun h=>by
   rw[if_neg (fun g=>g h)]at hinv
   exact hinv
  clear hinv
  unfold yc9 at bad good
  have hty:=yv6 T hT x.e hE
  have hkc:=zS2 T hT x.e hE 2
  generalize wS T x.e=ty at hty bad good
  generalize zv6 T x.e 2=kc at hkc bad good
  have go: ∀(a b:Bool) (e σ),(a||zr9 (L.drop (i+1)))=zr9 L→(b||zo8 (L.drop (i+1)))=zo8 L→zl6 T (L.drop (i+1))=zl6 T L→At 0 [2,3,5,6,12,13,14] [.ptr 0 0,.ptr 1 0,.bool a,.bool b,.sl .ro (L.map GItem.row),.int .i64 L.length,.int .i64 ((i+1:Nat):Int)] [.box T.row,.box st.row] e σ→
   Vx.Next (fun s':Nat×Bool×Bool=>L.length - s'.1<L.length - i∧(s'.1≤L.length∧(s'.2.1||zr9 (L.drop s'.1))=zr9 L∧(s'.2.2||zo8 (L.drop s'.1))=zo8 L∧zl6 T (L.drop s'.1)=zl6 T L)∧At 0 [2,3,5,6,12,13,14] [.ptr 0 0,.ptr 1 0,.bool s'.2.1,.bool s'.2.2,.sl .ro (L.map GItem.row),.int .i64 L.length,.int .i64 (s'.1:Int)] [.box T.row,.box st.row] e σ) fx:=fun a b e σ h1 h2 h3 h4=>
    zP (i+1,a,b) ⟨by simp only;omega,⟨by simp only;omega,h1,h2,h3⟩,h4⟩
  refine zC ?_
  simp[go_sem,q,hx]
  by_cases k2:x.kind=2
  ·have k2':(x.kind==2)=true:=by simpa using k2
   rw[if_pos k2]at bad good
   have k34:(x.kind==3||x.kind==4)=false:=by rw[k2];rfl
   simp only[k2',Bool.true_or,Bool.or_true]at hp
   simp only[k34,Bool.false_or]at hw
   simp[go_sem,k2']
   refine zD hty Tryz.callB125 (zI (by simp[go_sem]) (by rw[GExpr.row_eq];rfl)) rfl ?_
   by_cases qe:ty.2=0
   ·have qe':(ty.2 !=0)=false:=by simpa using qe
    simp[go_sem,yN,qe',ei]
    exact go true wh _ _ (by rw[Bool.true_or];exact hp) hw (good qe) (at_n 2 (by simp[go_sem]) rfl (by simp[ltOb,ltC,ltK,GTable.row,GStmt.row]) (Nat.zero_le _) (zE (by simp[go_sem]) rfl))
   ·have qe':(ty.2 !=0)=true:=by simpa using qe
    simp[go_sem,yN,qe']
    exact iret (bad qe)
  rw[if_neg k2]at bad good
  have k2':(x.kind==2)=false:=by simpa using k2
  simp only[k2',Bool.false_or]at hp
  by_cases k4:x.kind=4
  ·have k4':(x.kind==4)=true:=by simpa using k4
   rw[if_pos k4]at bad good
   simp only[k4',Bool.true_or,Bool.or_true]at hw
   simp[go_sem,k2',k4']
   refine zD hkc Tryz.callB126 (zI (by simp[go_sem]) (by rw[GExpr.row_eq];rfl)) rfl ?_
   by_cases qe:kc=0
   ·have qe':(kc !=0)=false:=by simpa using qe
    simp[go_sem,qe',ei]
    exact go pl true _ _ hp (by rw[Bool.true_or];exact hw) (good qe) (at_n 2 (by simp[go_sem]) rfl (by simp[ltOb,ltC,ltK,GTable.row,GStmt.row]) (Nat.zero_le _) (zE (by simp[go_sem]) rfl))
   ·have qe':(kc !=0)=true:=by simpa using qe
    simp[go_sem,qe']
    exact iret (bad qe)
  rw[if_neg k4]at bad good
  have k4':(x.kind==4)=false:=by simpa using k4
  by_cases k3:x.kind=3
  ·have k3':(x.kind==3)=true:=by simpa using k3
   simp only[k3',Bool.true_or,Bool.or_true]at hw
   simp[go_sem,k2',k4',k3',ei]
   exact go pl true _ _ hp (by rw[Bool.true_or];exact hw) (good rfl) (at_n 2 (by simp[go_sem]) rfl (by simp[ltOb,ltC,ltK,GTable.row,GStmt.row]) (Nat.zero_le _) (zE (by simp[go_sem]) rfl))
  ·have k3':(x.kind==3)=false:=by simpa using k3
   simp only[k3',k4',Bool.false_or]at hw
   simp[go_sem,k2',k4',k3',ei]
   exact go pl wh _ _ hp hw (good rfl) (at_n 2 (by simp[go_sem]) rfl (by simp[ltOb,ltC,ltK,GTable.row,GStmt.row]) (Nat.zero_le _) (zE (by simp[go_sem]) rfl))
 ·rintro _ hI
  rw[if_neg (fun h=>h hI)]at hM
  generalize zr9 L=pl at hM⊢
  generalize zo8 L=wh at hM⊢
  generalize zC7 T st=wc at hwh hM
  have ho1:(st.order== [])=st.order.isEmpty:=by cases st.order<;>rfl
  refine zC ?_
  simp[go_sem]
  refine(Bool.eq_false_or_eq_true (pl&&wh)).elim (fun w=> ?_) (fun w=> ?_)
  ·rw[if_pos w]at hM
   have w1:pl=true:=by cases pl<;>simp_all
   have w2:wh=true:=by cases wh<;>simp_all
   simp[go_sem,w1,w2]
   exact iret hM
  rw[if_neg (by rw[w];decide)]at hM
  refine yT (fun w1=> ?_) (fun w1=> ?_)
  ·have w2:wh=false:=by cases wh<;>simp_all
   simp[go_sem,w1,w2]
   refine zD hwh Tryz.callB78 (zI (by simp[go_sem]) rfl) rfl ?_
   by_cases qe:wc=0
   rotate_left
   ·have qe':(wc !=0)=true:=by simpa using qe
    rw[if_pos qe]at hM
    simp[go_sem,qe']
    exact iret hM
   have qe':(wc !=0)=false:=by simpa using qe
   rw[if_neg (fun h=>h qe)]at hM
   simp[go_sem,qe',ho1]
   refine(Bool.eq_false_or_eq_true st.order.isEmpty).elim (fun w3=> ?_) (fun w3=> ?_)
   ·rw[if_pos w3]at hM
    simp[go_sem,w3]
    exact iret hM
   rw[if_neg (by rw[w3];decide)]at hM
   simp[go_sem,w3]
   refine zD hcol Tryz.callB127 (zI (by simp[go_sem]) rfl) rfl ?_
   by_cases qc:colF T st.order<0
   ·have qc':decide (colF T st.order<0)=true:=decide_eq_true qc
    rw[if_pos qc]at hM
    simp[go_sem,qc']
    exact iret hM
   have qc':decide (colF T st.order<0)=false:=decide_eq_false qc
   rw[if_neg qc]at hM
   simp[go_sem,qc']
   rw[if_neg (by rw[w2];decide)]at hM
   exact iret hM
  ·have w1:pl=false:=by simpa using w1
   simp[go_sem,w1]
   refine zD hwh Tryz.callB78 (zI (by simp[go_sem]) rfl) rfl ?_
   by_cases qe:wc=0
   rotate_left
   ·have qe':(wc !=0)=true:=by simpa using qe
    rw[if_pos qe]at hM
    simp[go_sem,qe']
    exact iret hM
   have qe':(wc !=0)=false:=by simpa using qe
   rw[if_neg (fun h=>h qe)]at hM
   simp[go_sem,qe',ho1]
   refine(Bool.eq_false_or_eq_true st.order.isEmpty).elim (fun w3=> ?_) (fun w3=> ?_)
   ·rw[if_pos w3]at hM
    simp[go_sem,w3]
    exact iret hM
   rw[if_neg (by rw[w3];decide)]at hM
   simp[go_sem,w3]
   refine zD hcol Tryz.callB127 (zI (by simp[go_sem]) rfl) rfl ?_
   by_cases qc:colF T st.order<0
   ·have qc':decide (colF T st.order<0)=true:=decide_eq_true qc
    rw[if_pos qc]at hM
    simp[go_sem,qc']
    exact iret hM
   have qc':decide (colF T st.order<0)=false:=decide_eq_false qc
   rw[if_neg qc]at hM
   simp[go_sem,qc']
   refine(Bool.eq_false_or_eq_true wh).elim (fun w4=> ?_) (fun w4=> ?_)
   ·rw[if_pos w4]at hM
    simp[go_sem,w4]
    exact iret hM
   ·rw[if_neg (by rw[w4];decide)]at hM
    simp[go_sem,w4]
    exact iret hM
end Go.Proofs.YtajjjghohakniaaGreat
