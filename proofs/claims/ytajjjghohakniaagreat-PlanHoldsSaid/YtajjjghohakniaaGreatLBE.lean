/-
  The kinds of expressions by the document, over trees (the library Vx); used by the theorem at the end of the claim.
  Conditions: as each theorem states them.
-/
import Derived.Test.YtajjjghohakniaaGreatLBD
namespace Go.Proofs.YtajjjghohakniaaGreat
open Go Go.Vx R
set_option maxRecDepth 100000
def badK (s:List UInt8) (x:Int):Bool:=(zk6 s&&(!(x==1)&& !(x==0)))||(ze8 s&&(!(x==2)&& !(x==0)))
def yg0 (l:List Int):Bool:=match l with| [x,y]=> !(x==y)&&(!(x==0)&& !(y==0))|_=>false
def xb3 (s:List UInt8) (l:List Int):Int×Int:=
 if zb9 s=0∨zb9 s≠l.length then(0,9)else if l.any (badK s)=true then(0,15)else if ze8 s=true then(2,0)else if(!zk6 s&&yg0 l)=true then(0,15)else(1,0)
theorem yD5 {s:List UInt8} {l:List Int} {k:Int} (h: ∀x,badK s x= !(x==k||x==0)):l.any (badK s)= !allK l k:=by
 unfold allK
 induction l with
 |nil=>rfl
 |cons x l ih=>rw[List.any_cons,List.all_cons,ih,h];cases (x==k||x==0)<;>simp
theorem yg1 {s:List UInt8} {l:List Int} (h: ∀x,badK s x=false):l.any (badK s)=false:=by
 induction l with
 |nil=>rfl
 |cons x l ih=>rw[List.any_cons,ih,h];rfl
theorem xb4 (s:List UInt8) (l:List Int):xb3 s l=zf2 s l:=by
 have one: ∀k:Int,zb9 s=1→ ∀b,(∀x,badK s x= !(x==k||x==0))→((if zb9 s=0∨zb9 s≠l.length then(0,9)else if l.any (badK s)=true then(0,15)else b:Int×Int)=if((l.length:Int)==1)=false then(0,9)else if allK l k=false then(0,15)else b):=fun k h1 b hb=>by
  rw[yD5 hb,h1]
  by_cases q:(l.length:Int)=1
  ·have q2:((l.length:Int)==1)=true:=by simpa using q
   rw[if_neg (by omega),q2]
   cases allK l k<;>simp
  ·rw[if_pos (by omega),if_pos (by simpa using q)]
 have two: ∀k:Int,zb9 s=2→ ∀b,(∀x,badK s x= !(x==k||x==0))→((if zb9 s=0∨zb9 s≠l.length then(0,9)else if l.any (badK s)=true then(0,15)else b:Int×Int)=if((l.length:Int)==2)=false then(0,9)else if allK l k=false then(0,15)else b):=fun k h1 b hb=>by
  rw[yD5 hb,h1]
  by_cases q:(l.length:Int)=2
  ·have q2:((l.length:Int)==2)=true:=by simpa using q
   rw[if_neg (by omega),q2]
   cases allK l k<;>simp
  ·rw[if_pos (by omega),if_pos (by simpa using q)]
 unfold xb3 zf2 zC3
 by_cases h1:s= [73,83,78,85,76,76]∨s= [78,79,84,78,85,76,76]
 ·rw[if_pos h1]
  have hb: ∀x,badK s x=false:=fun x=>by rcases h1 with rfl|rfl<;>rfl
  have ha:zb9 s=1:=by rcases h1 with rfl|rfl<;>decide
  have hl:zk6 s=false:=by rcases h1 with rfl|rfl<;>decide
  have hr:ze8 s=false:=by rcases h1 with rfl|rfl<;>decide
  rw[yg1 hb,ha,hr,hl]
  by_cases q:(l.length:Int)=1
  ·have hw:yg0 l=false:=by
    match l,q with
    | [x],_=>rfl
   rw[if_neg (by omega),hw]
   simp[q]
  ·rw[if_pos (by omega)]
   simp[q]
 rw[if_neg h1]
 by_cases h2:s= [78,79,84]
 ·subst h2
  have:=one 1 (by decide) (1,0) (fun x=>by unfold badK;rw[show zk6 [78,79,84]=true from rfl,show ze8 [78,79,84]=false from rfl];simp)
  rw[if_pos rfl,←this]
  rfl
 rw[if_neg h2]
 by_cases h3:s= [78,69,71]
 ·subst h3
  have:=one 2 (by decide) (2,0) (fun x=>by unfold badK;rw[show zk6 [78,69,71]=false from rfl,show ze8 [78,69,71]=true from rfl];simp)
  rw[if_pos rfl,←this]
  rfl
 rw[if_neg h3]
 by_cases h4:s= [79,82]∨s= [65,78,68]
 ·have hl:zk6 s=true:=by rcases h4 with rfl|rfl<;>decide
  have hr:ze8 s=false:=by rcases h4 with rfl|rfl<;>decide
  have:=two 1 (by rcases h4 with rfl|rfl<;>decide) (1,0) (fun x=>by unfold badK;rw[hl,hr];simp)
  rw[if_pos h4,←this,hr,hl]
  rfl
 rw[if_neg h4]
 by_cases h5:s= [43]∨s= [45]∨s= [42]∨s= [47]∨s= [37]
 ·have hl:zk6 s=false:=by rcases h5 with rfl|rfl|rfl|rfl|rfl<;>decide
  have hr:ze8 s=true:=by rcases h5 with rfl|rfl|rfl|rfl|rfl<;>decide
  have:=two 2 (by rcases h5 with rfl|rfl|rfl|rfl|rfl<;>decide) (2,0) (fun x=>by unfold badK;rw[hl,hr];simp)
  rw[if_pos h5,←this,hr]
  rfl
 rw[if_neg h5]
 by_cases h6:s= [61]∨s= [60,62]∨s= [60]∨s= [60,61]∨s= [62]∨s= [62,61]
 ·have ha:zb9 s=2:=by rcases h6 with rfl|rfl|rfl|rfl|rfl|rfl<;>decide
  have hl:zk6 s=false:=by rcases h6 with rfl|rfl|rfl|rfl|rfl|rfl<;>decide
  have hr:ze8 s=false:=by rcases h6 with rfl|rfl|rfl|rfl|rfl|rfl<;>decide
  have hb: ∀x,badK s x=false:=fun x=>by unfold badK;rw[hl,hr];rfl
  rw[if_pos h6,yg1 hb,ha,hr,hl]
  by_cases q:l.length=2
  ·match l,q with
   | [x,y],_=>
    by_cases p1:x=y<;>by_cases p2:x=0<;>by_cases p3:y=0<;>simp[yg0,p1,p2,p3]
  ·have q2:((l.length:Int)==2)=false:=by simp;omega
   rw[if_pos (by omega),if_pos q2]
 rw[if_neg h6]
 have ha:zb9 s=0:=by
  unfold zb9 opsTwo opsOne
  simp only[not_or]at h1 h4 h5 h6
  simp[h1,h2,h3,h4,h5,h6]
 rw[if_pos (.inl ha)]
set_option maxHeartbeats 4000000 in
theorem yX2 (T:GTable) (n:Nat) (ih: ∀x,xA x≤n→Wide x→Good x→Pure Tryz.prog 93 [.agg T.row,.agg x.row] (yN (yZ T x))) (e:GExpr) (h:xA e≤n+1) (hw:Wide e) (hg:Good e) (hk:e.kind=3):
  Pure Tryz.prog 143 [.agg T.row,.agg e.row] (yN (yZ T e)):=by
 have hde:=wV e
 have hlen:=hw.len
 have hsub:=hw.sub
 have hgs:=hg.sub
 obtain⟨M,hM⟩: ∃M,yZ T e=M:=⟨_,rfl⟩
 rw[hM]
 rw[zg1,if_neg (by omega),if_neg (by omega),if_pos hk]at hM
 have hz:=zF2 e.v
 obtain⟨args,hargs⟩: ∃args,e.args=args:=⟨_,rfl⟩
 rw[hargs]at hde hlen hsub hgs hM
 obtain⟨K,hK⟩: ∃K,yL T args=K:=⟨_,rfl⟩
 rw[hK]at hM
 have ret: ∀(a b:Int) (σ:St),(a,b)=M→wret (some (.tup [.int .i64 a,.int .i64 b])) 0 (fun r s=>r=yN M∧s= []) σ:=fun a b σ h=>zd7 h
 have hA:=xp6 e.s
 have hlo:=xj0 e.s
 have har:=yg4 e.s
 refine VCalls.introV 0 Tryz.func143 Tryz.ntmps143 Tryz.results143 rfl rfl (Nat.le_of_ble_eq_true rfl) fun c hc hb=> ?_
 refine zc1 (zC ?_)
 simp[go_sem]
 refine zc1 (zC ?_)
 simp[go_sem]
 refine zu4 6 1 (by decide) (by simp[go_sem]) ?_
 refine zq1 (S:=List Int) [2,3,6] (fun l=> [.ptr 0 0,.ptr 1 0,.sl (.app 2) (l.map fun n=> [V.int .i64 n])]) (fun l=> [.box T.row,.box e.row,.app l.length 1]) (fun l=>K.2=0∧l=K.1∧l.length≤1000000) hc hb ?_ ?_
 ·refine zc1 (zC ?_)
  simp[go_sem]
  refine zm2 ?_
  refine zN (S:=Nat×List Int) [2,3,6,7] (fun u=> [.ptr 0 0,.ptr 1 0,.sl (.app 2) (u.2.map fun n=> [V.int .i64 n]),.int .i64 (u.1:Int)]) (fun u=> [.box T.row,.box e.row,.app u.2.length 1]) (fun u=>args.length - u.1)
   (fun u=>u.1≤args.length∧u.2.length=u.1∧(yL T (args.drop u.1)).2=K.2∧(K.2=0→u.2++(yL T (args.drop u.1)).1=K.1)) hc hb (0,[])
   ⟨Nat.zero_le _,rfl,by simp only[List.drop_zero];rw[hK],fun _=>by simp only[List.drop_zero];rw[hK];rfl⟩ ?_ ?_
  ·exact at_n 3 (by simp[go_sem]) rfl (by simp[ltOb,ltC,ltK,GExpr.row_eq,GTable.row]) (Nat.zero_le _) (zE (by simp[go_sem]) rfl)
  rintro⟨i,l⟩ ⟨hi,hl,hinv,hinv2⟩
  simp only at hi hl hinv hinv2
  by_cases q:i<args.length
  rotate_left
  ·rw[List.drop_eq_nil_of_le (by omega),yL]at hinv hinv2
   have hK2:K.2=0:=hinv.symm
   have hK1:l=K.1:=by have:=hinv2 hK2;simpa using this
   refine zC ?_
   simp[go_sem,q,hargs]
   exact zP l ⟨⟨hK2,hK1,by omega⟩,at_n 3 (by simp[go_sem,hargs]) rfl (by simp[ltOb,ltC,ltK,GExpr.row_eq]) (Nat.zero_le _) (zE (by simp[go_sem]) rfl)⟩
  have ei:=zU q (by omega)
  obtain⟨x,hx⟩: ∃x,args[i]=x:=⟨_,rfl⟩
  have hxm:x∈args:=hx▸List.getElem_mem q
  have hdx:=xX args x hxm
  rw[List.drop_eq_getElem_cons q,hx,yL]at hinv hinv2
  have hcall:=ih x (by omega) (hsub x hxm) (hgs x hxm)
  generalize yZ T x=kx at hcall hinv hinv2
  by_cases q4:kx.2=0
  ·rw[if_neg (fun h=>h q4)]at hinv hinv2
   have q4':(kx.2 !=0)=false:=by simpa using q4
   refine zC ?_
   simp[go_sem,q,hargs]
   refine xC [(6,0)] 2 (by simp) (by kernel_rfl) (by kernel_rfl) ?_
   simp[go_sem,q,hx]
   refine zT hcall Tryz.callB93 (fun _=>zI (by simp[go_sem]) (by rw[GExpr.row_eq];rfl)) rfl ?_
   simp[go_sem,yN,q4']
   refine zO ⟨by omega,xD rfl⟩ ?_
   simp[go_sem,ei]
   refine zP (i+1,l++ [kx.1]) ⟨by simp only;omega,⟨by simp only;omega,by simp;omega,hinv,fun h=>by have:=hinv2 h;simpa using this⟩, ?_⟩
   exact at_n 3 (by simp[go_sem,hargs]) rfl (by simp[ltOb,ltC,ltK,GExpr.row_eq]) (Nat.zero_le _) (zE (by simp[go_sem]) rfl)
  ·rw[if_pos q4]at hinv
   have q4':(kx.2 !=0)=true:=by simpa using q4
   have hK2:kx.2=K.2:=hinv
   rw[if_pos (by rw[←hK2];exact q4),←hK2]at hM
   refine zC ?_
   simp[go_sem,q,hargs]
   refine xC [(6,0)] 2 (by simp) (by kernel_rfl) (by kernel_rfl) ?_
   simp[go_sem,q,hx]
   refine zT hcall Tryz.callB93 (fun _=>zI (by simp[go_sem]) (by rw[GExpr.row_eq];rfl)) rfl ?_
   simp[go_sem,yN,q4']
   exact ret _ _ _ hM
 ·rintro l ⟨hK2,hK1,hl⟩
  rw[if_neg (fun h=>h hK2),←hK1,←xb4]at hM
  unfold xb3 at hM
  obtain⟨X,hX⟩: ∃X,(if l.any (badK e.s)=true then(0,15)else if ze8 e.s=true then(2,0)else if(!zk6 e.s&&yg0 l)=true then(0,15)else(1,0):Int×Int)=X:=⟨_,rfl⟩
  rw[hX]at hM
  generalize zb9 e.s=a at hA hM
  generalize zh5 e.v=z at hz hM
  have hM2:(if a=0∨a≠l.length then(0,9)else if z=false then(0,9)else X:Int×Int)=M:=by
   rw[←hM]
   by_cases p1:a=0∨a≠l.length<;>by_cases p2:z=false<;>simp[p1,p2]
  clear hM
  rename _=M=>hM
  refine zc1 (zC ?_)
  simp[go_sem]
  refine zD hA Tryz.callB182 (zI (by simp[go_sem]) rfl) rfl ?_
  by_cases g1:a=0
  ·have g1':(a==0)=true:=by simpa using g1
   rw[if_pos (.inl g1)]at hM
   simp[go_sem,g1']
   exact ret _ _ _ hM
  have g1':(a==0)=false:=by simpa using g1
  simp[go_sem,g1']
  refine zD hA Tryz.callB182 (zI (by simp[go_sem]) rfl) rfl ?_
  by_cases g2:a=l.length
  rotate_left
  ·have g2':(a !=(l.length:Int))=true:=by simpa using g2
   rw[if_pos (.inr g2)]at hM
   simp[go_sem,g2']
   exact ret _ _ _ hM
  have g2':(a !=(l.length:Int))=false:=by simpa using g2
  rw[if_neg (fun h=>h.elim g1 (fun h=>h g2))]at hM
  simp[go_sem,g2',hz]
  refine(Bool.eq_false_or_eq_true z).elim (fun w=> ?_) (fun w=> ?_)
  rotate_left
  ·rw[if_pos w]at hM
   subst w
   simp[go_sem]
   exact ret _ _ _ hM
  rw[if_neg (by rw[w];decide)]at hM
  subst w
  simp[go_sem]
  subst hM
  refine zq1 (S:=Unit) [3,6] (fun _=> [.ptr 0 0,.sl (.app 1) (l.map fun n=> [V.int .i64 n])]) (fun _=> [.box e.row,.app l.length 1]) (fun _=>l.any (badK e.s)=false) hc hb ?_ ?_
  ·refine zc1 (zC ?_)
   simp[go_sem]
   refine zm2 ?_
   refine zN (S:=Nat) [3,6,10] (fun i=> [.ptr 0 0,.sl (.app 1) (l.map fun n=> [V.int .i64 n]),.int .i64 (i:Int)]) (fun _=> [.box e.row,.app l.length 1]) (fun i=>l.length - i)
    (fun i=>i≤l.length∧(l.drop i).any (badK e.s)=l.any (badK e.s)) hc hb 0 ⟨Nat.zero_le _,by rw[List.drop_zero]⟩ ?_ ?_
   ·exact zw7 [1,2] (by decide) rfl ⟨by simp[go_sem,yF,renC,renK,GExpr.row_eq],by simp[go_sem,yF],trivial⟩ ⟨.inl (by simp[go_sem,renS,renA,renC,renK,ren]),.inl (by simp[go_sem,renS,renA,renC,renK,ren]),zA rfl,trivial⟩
   rintro i ⟨hi,hinv⟩
   by_cases q:i<l.length
   rotate_left
   ·rw[List.drop_eq_nil_of_le (by omega)]at hinv
    have hinv:l.any (badK e.s)=false:=hinv.symm
    refine zC ?_
    simp[go_sem,q]
    exact zP () ⟨hinv,at_n 2 (by simp[go_sem]) rfl (by simp[ltOb,ltC,ltK,GExpr.row_eq]) (Nat.zero_le _) (zE (by simp[go_sem]) rfl)⟩
   have ei:=zU q (by omega)
   obtain⟨x,hx⟩: ∃x,l[i]=x:=⟨_,rfl⟩
   obtain⟨bl,hbl⟩: ∃b,zk6 e.s=b:=⟨_,rfl⟩
   obtain⟨ba,hba⟩: ∃b,ze8 e.s=b:=⟨_,rfl⟩
   obtain⟨b1,h1⟩: ∃b,(x==1)=b:=⟨_,rfl⟩
   obtain⟨b2,h2⟩: ∃b,(x==2)=b:=⟨_,rfl⟩
   obtain⟨b0,h0⟩: ∃b,(x==0)=b:=⟨_,rfl⟩
   have hbk:badK e.s x=((bl&&(!b1&& !b0))||(ba&&(!b2&& !b0))):=by unfold badK;rw[hbl,hba,h1,h2,h0]
   rw[List.drop_eq_getElem_cons q,hx,List.any_cons,hbk]at hinv
   have bad:((bl&&(!b1&& !b0))||(ba&&(!b2&& !b0)))=true→X=(0,15):=fun h=>by
    rw[h,Bool.true_or]at hinv
    rw[←hX,if_pos hinv.symm]
   have good:((bl&&(!b1&& !b0))||(ba&&(!b2&& !b0)))=false→(l.drop (i+1)).any (badK e.s)=l.any (badK e.s):=fun h=>by
    rw[h,Bool.false_or]at hinv
    exact hinv
   have ret2:X=(0,15)→ ∀σ:St,wret (some (.tup [.int .i64 0,.int .i64 15])) 0 (fun r s=>r=yN X∧s= []) σ:=fun h σ=>by rw[h];exact zd7 rfl
   have hx1:(x !=1)= !b1:=by rw[←h1];rfl
   have hx2:(x !=2)= !b2:=by rw[←h2];rfl
   have hx0:(x !=0)= !b0:=by rw[←h0];rfl
   rw[hbl]at hlo
   rw[hba]at har
   clear hinv ret hX hbl hba h1 h2 h0 hbk hz
   refine zC ?_
   simp[go_sem,q]
   refine zD hlo Tryz.callB183 (zI (by simp[go_sem]) rfl) rfl ?_
   simp[go_sem]
   repeat' (first
    |(refine yT (fun w=> ?_) (fun w=> ?_)<;>simp[go_sem,q,w,hx,hx1,hx2,hx0,ei])
    |(refine zS (fun w=> ?_) (fun w=> ?_)<;>simp[go_sem,w,ei])
    |(refine zD har Tryz.callB98 (zI (by simp[go_sem]) rfl) rfl ?_;simp[go_sem]))
   all_goals first
    |exact ret2 (bad (by simp_all)) _
    |exact zP (i+1) ⟨by omega,⟨by omega,good (by simp_all)⟩,at_n 2 (by simp[go_sem]) rfl (by simp[ltOb,ltC,ltK,GExpr.row_eq]) (Nat.zero_le _) (zE (by simp[go_sem]) rfl)⟩
  ·rintro _ hany
   rw[hany]at hX
   simp only[Bool.false_eq_true,if_false]at hX
   generalize ze8 e.s=ba at har hX
   generalize zk6 e.s=bl at hlo hX
   have hret: ∀(a b:Int) (σ:St),(a,b)=X→wret (some (.tup [.int .i64 a,.int .i64 b])) 0 (fun r s=>r=yN X∧s= []) σ:=fun a b σ h=>zd7 h
   clear ret
   refine zC ?_
   simp[go_sem]
   refine zD har Tryz.callB98 (zI (by simp[go_sem]) rfl) rfl ?_
   refine(Bool.eq_false_or_eq_true ba).elim (fun w=> ?_) (fun w=> ?_)
   ·rw[if_pos w]at hX
    subst w
    simp[go_sem]
    exact hret _ _ _ hX
   rw[if_neg (by rw[w];decide)]at hX
   subst w
   simp[go_sem]
   by_cases h2:l.length=2
   ·have h2':((l.length:Int)==2)=true:=by simp;omega
    obtain⟨x,y,hxy⟩: ∃x y,l= [x,y]:=by
     match l,h2 with
     | [x,y],_=>exact⟨x,y,rfl⟩
    rw[hxy]at hX
    unfold yg0 at hX
    simp only at hX
    refine xC [(2,0)] 1 (by simp) (by kernel_rfl) (by kernel_rfl) ?_
    simp[go_sem]
    refine zT hlo Tryz.callB183 (fun _=>zI (by simp[go_sem]) rfl) rfl ?_
    simp[go_sem,hxy]
    repeat' (first
     |(refine yT (fun w=> ?_) (fun w=> ?_)<;>simp[go_sem,w])
     |(refine zS (fun w=> ?_) (fun w=> ?_)<;>simp[go_sem,w]))
    all_goals exact hret _ _ _ (by rw[←hX];simp_all)
   ·have h2':((l.length:Int)==2)=false:=by simp;omega
    have hwk:yg0 l=false:=by
     match l,h2 with
     | [],_=>rfl
     | [x],_=>rfl
     |x::y::z::l,_=>rfl
    rw[hwk,Bool.and_false,if_neg (by decide)]at hX
    refine xC [(2,0)] 1 (by simp) (by kernel_rfl) (by kernel_rfl) ?_
    simp[go_sem]
    refine zT hlo Tryz.callB183 (fun _=>zI (by simp[go_sem]) rfl) rfl ?_
    simp[go_sem]
    repeat' (first
     |(refine yT (fun w=> ?_) (fun w=> ?_)<;>simp[go_sem,w,h2'])
     |(refine zS (fun w=> ?_) (fun w=> ?_)<;>simp[go_sem,w,h2']))
    all_goals exact hret _ _ _ hX
theorem yX3 (T:GTable) (hT:T.cols.length≤maxLen): ∀(n:Nat) (e:GExpr),xA e≤n→Wide e→Good e→Pure Tryz.prog 93 [.agg T.row,.agg e.row] (yN (yZ T e))
 |0,e,h,_,_=>by have:=zg8 e;omega
 |n+1,e,h,hw,hg=>by
  have ih:=yX3 T hT n
  have hop:=fun hk=>yX2 T n ih e h hw hg hk
  have hmay:=zK5 e.v
  have hcol:=ys3 T e.s hT
  obtain⟨M,hM⟩: ∃M,yZ T e=M:=⟨_,rfl⟩
  rw[hM]
  rw[hM]at hop
  rw[zg1]at hM
  rw[show xO (fun c:GCol=>c.name==e.s) T.cols 0=colF T e.s from rfl]at hcol
  have hz:=zF2 e.v
  have ha1:=yl9 e.args
  have ha2:=yb0 e.args
  have ret: ∀(a b:Int) (σ:St),(a,b)=M→wret (some (.tup [.int .i64 a,.int .i64 b])) 0 (fun r s=>r=yN M∧s= []) σ:=fun a b σ h=>zd7 h
  refine VCalls.introV 0 Tryz.func93 Tryz.ntmps93 Tryz.results93 rfl rfl (Nat.le_of_ble_eq_true rfl) fun c hc hb=> ?_
  refine zC ?_
  simp[go_sem]
  by_cases q1:e.kind=1
  ·have q1':(e.kind==1)=true:=by simpa using q1
   rw[if_pos q1]at hM
   clear hop
   generalize mayF e.v=b at hmay hM
   generalize e.args.isEmpty=ae at ha1 ha2 hM
   simp[go_sem,q1',ha2]
   repeat' (first
    |(refine yT (fun q=> ?_) (fun q=> ?_)<;>simp[go_sem,q])
    |(refine zS (fun q=> ?_) (fun q=> ?_)<;>simp[go_sem,q])
    |(refine zD hmay Tryz.callB90 (zI (by simp[go_sem]) rfl) rfl ?_;simp[go_sem]))
   all_goals exact ret _ _ _ (by rw[←hM];simp_all)
  rw[if_neg q1]at hM
  have q1':(e.kind==1)=false:=by simpa using q1
  by_cases q2:e.kind=2
  ·have q2':(e.kind==2)=true:=by simpa using q2
   rw[if_pos q2]at hM
   clear hop
   simp[go_sem,q1',q2']
   refine zD hcol Tryz.callB94 (zI (by simp[go_sem]) rfl) rfl ?_
   by_cases qc:colF T e.s<0
   ·have qc':decide (colF T e.s<0)=true:=decide_eq_true qc
    rw[if_pos qc]at hM
    simp[go_sem,qc']
    exact ret _ _ _ hM
   have qc':decide (colF T e.s<0)=false:=decide_eq_false qc
   rw[if_neg qc]at hM
   obtain⟨j,hj,hjl⟩:=zr0 T e.s qc
   obtain⟨C,hC⟩: ∃C,T.cols[j]=C:=⟨_,rfl⟩
   have hck:colK T (colF T e.s)=C.kind:=by
    unfold colK
    rw[hj,Int.toNat_natCast,List.getElem?_eq_getElem hjl,hC];rfl
   rw[hck]at hM
   rw[hj]at qc'⊢
   generalize zh5 e.v=z at hz hM
   generalize e.args.isEmpty=ae at ha1 ha2 hM
   simp[go_sem,qc',ha2]
   repeat' (first
    |(refine yT (fun q=> ?_) (fun q=> ?_)<;>simp[go_sem,q,hz])
    |(refine zS (fun q=> ?_) (fun q=> ?_)<;>simp[go_sem,q,hjl,hC]))
   all_goals exact ret _ _ _ (by rw[←hM];simp_all)
  rw[if_neg q2]at hM
  have q2':(e.kind==2)=false:=by simpa using q2
  by_cases q3:e.kind=3
  rotate_left
  ·rw[if_neg q3]at hM
   have q3':(e.kind==3)=false:=by simpa using q3
   simp[go_sem,q1',q2',q3']
   exact ret _ _ _ hM
  have q3':(e.kind==3)=true:=by simpa using q3
  have hop:=hop q3
  simp[go_sem,q1',q2',q3']
  refine zD hop Tryz.callB143 (zI (by simp[go_sem]) (by rw[GExpr.row_eq];rfl)) rfl ?_
  simp[go_sem,yN]
  exact ret _ _ _ rfl
def wS (T:GTable) (e:GExpr):Int×Int:=if xA e≤64 then yZ T e else(0,3)
theorem zD6: ∀(n:Nat) (e:GExpr),zg4 e≤n→xA e≤n
 |0,e,h=>by have:=zE7 e;omega
 |n+1,e,h=>by
  rw[zs5]at h
  rw[wV]
  have: ∀l:List GExpr,xZ l≤n→xL l≤n:=by
   intro l
   induction l with
   |nil=>intro _;exact Nat.zero_le _
   |cons x l ih=>
    intro hl
    rw[xZ]at hl
    rw[xL]
    have h1:=zD6 n x (by omega)
    have h2:=ih (by omega)
    omega
  have:=this e.args (by omega)
  omega
theorem yv6 (T:GTable) (hT:T.cols.length≤maxLen) (e:GExpr) (he:EOk e):Pure Tryz.prog 125 [.agg T.row,.agg e.row] (yN (wS T e)):=by
 have hs:=he.size
 have hd:=zD6 4000 e hs
 have hsm:=yI9 4000 e 1 0 hd he.wide (Int.le_refl _) (by omega) (by omega) (by omega)
 have hty:=yJ1 T hT 4000 e hd he.wide he.good
 generalize hM:wS T e=M
 unfold wS at hM
 generalize yZ T e=k at hty hM
 have ret: ∀(x:Int×Int) (σ:St),x=M→wret (some (.tup [.int .i64 x.1,.int .i64 x.2])) 0 (fun r s=>r=yN M∧s= []) σ:=fun x σ h=>zd7 h
 refine VCalls.intro 0 Tryz.func125 Tryz.ntmps125 Tryz.results125 rfl rfl (Nat.le_of_ble_eq_true rfl) fun c hc hb=>zJ ?_
 simp[go_sem]
 refine zm1 2 hsm Tryz.callB172 rfl (by rfl) ⟨.inl (by simp[go_sem,renS,renA,renC,renK]),zA rfl,.inl rfl,trivial⟩ (fun r σ h=>by
  obtain⟨_,m2,rfl,_⟩:=h
  exact⟨_,rfl,rfl⟩) ?_
 rintro r o2 ⟨rfl,m2,h1,h2,h3⟩
 obtain rfl:o2= .box [.int .i64 m2]:=by simpa using h1
 by_cases q:xA e≤64
 ·rw[if_pos q]at hM
  rw[decide_eq_true (show(xA e:Int)+1≤65 by omega)]
  simp[go_sem]
  refine zD hty Tryz.callB173 (zI (by simp[go_sem]) (by rw[GExpr.row_eq];rfl)) rfl ?_
  simp[go_sem,yN]
  exact ret _ _ hM
 ·rw[if_neg q]at hM
  rw[decide_eq_false (show ¬(xA e:Int)+1≤65 by omega)]
  simp[go_sem]
  exact ret (0,3) _ hM
theorem yQ3 (T:GTable) (hT:T.cols.length≤maxLen) (e:GExpr) (he:EOk e):Pure Tryz.prog 41 [.agg T.row,.agg e.row] (yN (wS T e)):=by
 have hs:=he.size
 have hd:=zD6 4000 e hs
 have hsm:=yc6 4000 e 1 4096 hd he.wide (by omega) (by omega) (by omega) (by omega)
 have hty:=yX3 T hT 4000 e hd he.wide he.good
 generalize hM:wS T e=M
 unfold wS at hM
 generalize yZ T e=k at hty hM
 unfold tooF at hsm
 have ret: ∀(x:Int×Int) (σ:St),x=M→wret (some (.tup [.int .i64 x.1,.int .i64 x.2])) 0 (fun r s=>r=yN M∧s= []) σ:=fun x σ h=>zd7 h
 refine VCalls.intro 0 Tryz.func41 Tryz.ntmps41 Tryz.results41 rfl rfl (Nat.le_of_ble_eq_true rfl) fun c hc hb=>zJ ?_
 simp[go_sem]
 by_cases q:xA e≤64
 ·rw[if_pos q]at hM
  rw[if_pos (by omega)]at hsm
  refine zD hsm Tryz.callB92 (zI (by simp[go_sem]) (by rw[GExpr.row_eq];rfl)) rfl ?_
  simp[go_sem,tooV]
  refine zD hty Tryz.callB93 (zI (by simp[go_sem]) (by rw[GExpr.row_eq];rfl)) rfl ?_
  simp[go_sem,yN]
  exact ret _ _ hM
 ·rw[if_neg q]at hM
  rw[if_neg (by omega)]at hsm
  refine zD hsm Tryz.callB92 (zI (by simp[go_sem]) (by rw[GExpr.row_eq];rfl)) rfl ?_
  simp[go_sem,tooV]
  exact ret (0,3) _ hM
end Go.Proofs.YtajjjghohakniaaGreat
