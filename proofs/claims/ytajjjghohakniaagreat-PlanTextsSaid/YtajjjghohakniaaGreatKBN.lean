/-
  Contracts of functions that the claimed statement reaches, each proved over trees (the library Vx); used by the theorem at the end of the claim.
  Conditions: as each theorem states them.
-/
import Derived.Test.YtajjjghohakniaaGreatKBI
import Derived.Test.YtajjjghohakniaaGreatKBM
import Derived.Test.YtajjjghohakniaaGreatKBF
namespace Go.Proofs.YtajjjghohakniaaGreat
open Go Go.Vx R
set_option maxRecDepth 100000
def selS (st:GStmt):Bool:=zT8 st.items&&(((st.order.isEmpty&& !st.down)||zb9 st.order)&&decide (-1≤st.limit))
theorem yU4:zb9 []=false:=by decide
set_option maxHeartbeats 4000000 in
theorem zX8 (st:GStmt) (hs:SOk st):Pure Tryz.prog 150 [.agg st.row] (.bool (selS st)):=by
 have hwo:=zn2 st.order (by have:=hs.order;unfold maxLen;omega)
 obtain⟨L,hL⟩: ∃L,st.items=L:=⟨_,rfl⟩
 obtain⟨hLl,hLx⟩:=hs.items
 rw[hL]at hLl hLx
 obtain⟨d,hd⟩: ∃d,st.down=d:=⟨_,rfl⟩
 generalize hM:selS st=M
 unfold selS zT8 at hM
 rw[hL,hd]at hM
 have ho0:(st.order != [])= !st.order.isEmpty:=by cases st.order<;>rfl
 have ho1:(st.order== [])=st.order.isEmpty:=by cases st.order<;>rfl
 have how:st.order.isEmpty=true→zb9 st.order=false:=fun h=>by
  have:st.order= []:=by simpa using h
  rw[this];exact yU4
 have hlm:decide (st.limit< -1)= !decide (-1≤st.limit):=by by_cases h:st.limit< -1<;>simp[h]<;>omega
 have hn1:decide ((L.length:Int)<1)= !decide (1≤L.length):=by
  by_cases h:1≤L.length
  ·rw[decide_eq_true h,decide_eq_false (by omega)];rfl
  ·rw[decide_eq_false h,decide_eq_true (by omega)];rfl
 have hn6:decide (6<(L.length:Int))= !decide (L.length≤6):=by
  by_cases h:L.length≤6
  ·rw[decide_eq_true h,decide_eq_false (by omega)];rfl
  ·rw[decide_eq_false h,decide_eq_true (by omega)];rfl
 generalize st.order.isEmpty=oe at ho0 ho1 how hM
 generalize zb9 st.order=wo at hwo how hM
 generalize decide (-1≤st.limit)=lm at hlm hM
 refine VCalls.introV 0 Tryz.func150 Tryz.ntmps150 Tryz.results150 rfl rfl (Nat.le_of_ble_eq_true rfl) fun c hc hb=> ?_
 refine wM (zC ?_)
 simp[go_sem]
 refine zf4 (S:=Unit) [1] (fun _=> [.ptr 0 0]) (fun _=> [.box st.row]) (fun _=>L.all (mayI L.length)=M) hc hb ?_ ?_
 ·generalize decide (1≤L.length)=n1 at hn1 hM
  generalize decide (L.length≤6)=n6 at hn6 hM
  generalize hA:L.all (mayI L.length)=A at hM
  refine zC ?_
  simp[go_sem,hL,hlm]
  repeat' (first
   |(refine yI (fun q=> ?_) (fun q=> ?_)<;>simp[go_sem,q,hd,ho1,hn1,hn6])
   |(refine zU (fun q=> ?_) (fun q=> ?_)<;>simp[go_sem,q])
   |(refine zE hwo Tryz.callB147 (zH rfl) rfl ?_;simp[go_sem]))
  all_goals first
   |exact bret (by rw[←hM];simp_all)
   |exact zN () ⟨by rw[←hM];simp_all,at_n 1 (by simp[go_sem,hL,hd]<;>simp_all) rfl (by simp[ltOb,ltC,ltK]) (Nat.zero_le _) (zD (by simp[go_sem]) rfl)⟩
   |skip
 ·rintro _ hinv0
  obtain⟨n,hn⟩: ∃n,L.length=n:=⟨_,rfl⟩
  rw[hn]at hinv0 hLl
  clear hM hn1 hn6
  refine zC ?_
  simp[go_sem]
  refine zL (S:=Nat) [1,3] (fun i=> [.ptr 0 0,.int .i64 (i:Int)]) (fun _=> [.box st.row]) (fun i=>n - i) (fun i=>i≤n∧(L.drop i).all (mayI n)=M) hc hb 0 ⟨Nat.zero_le _,hinv0⟩ ?_ ?_
  ·exact at_n 1 (by simp[go_sem]) rfl (by simp[ltOb,ltC,ltK,GStmt.row]) (Nat.zero_le _) (zD (by simp[go_sem]) rfl)
  rintro i ⟨hi,hinv⟩
  by_cases q:i<n
  rotate_left
  ·rw[List.drop_eq_nil_of_le (by omega)]at hinv
   refine zC ?_
   simp[go_sem,hL,hn,q]
   exact bret hinv
  have ei:=zT q (by omega)
  have ql:i<L.length:=by omega
  obtain⟨x,hx⟩: ∃x,L[i]=x:=⟨_,rfl⟩
  have hE:=(hLx x (hx▸List.getElem_mem ql)).2
  have hz:=ye6 x.e
  have hm:=zz3 x.e hE.wide hE.good
  rw[zd9 _ _ _ ql,hx]at hinv
  obtain⟨tl,hTl⟩: ∃tl,(L.drop (i+1)).all (mayI n)=tl:=⟨_,rfl⟩
  rw[hTl]at hinv
  unfold mayI at hinv
  generalize zj2 x.e=bl at hz hinv
  generalize mayE 16 x.e=me at hm hinv
  refine zC ?_
  simp[go_sem,hL,hn,q,hx]
  have yes: ∀e σ,tl=M→At 0 [1,3] [.ptr 0 0,.int .i64 ((i+1:Nat):Int)] [.box st.row] e σ→Vx.Next (fun s':Nat=>n - s'<n - i∧(s'≤n∧(L.drop s').all (mayI n)=M)∧At 0 [1,3] [.ptr 0 0,.int .i64 (s':Int)] [.box st.row] e σ) fx:=fun e σ h1 h2=>zN (i+1) ⟨by omega,⟨by omega,hTl.trans h1⟩,h2⟩
  by_cases k1:x.kind=1
  ·rw[if_pos k1]at hinv
   have k1':(x.kind==1)=true:=by simpa using k1
   simp[go_sem,k1',hn]
   by_cases z:n≤1
   rotate_left
   ·have z':decide (1<(n:Int))=true:=decide_eq_true (by omega)
    rw[decide_eq_false z,Bool.false_and,Bool.false_and]at hinv
    simp[go_sem,z']
    exact bret hinv
   have z':decide (1<(n:Int))=false:=decide_eq_false (by omega)
   rw[decide_eq_true z,Bool.true_and]at hinv
   simp[go_sem,z']
   refine zE hz Tryz.callB149 (zF (by simp[go_sem]) (by rw[GExpr.row_eq];rfl)) rfl ?_
   refine(Bool.eq_false_or_eq_true bl).elim (fun p=> ?_) (fun p=> ?_)
   ·rw[p,Bool.true_and]at hinv
    simp[go_sem,p,ei]
    exact yes _ _ hinv (at_n 1 (by simp[go_sem,hL]) rfl (by simp[ltOb,ltC,ltK,GStmt.row]) (Nat.zero_le _) (zD (by simp[go_sem]) rfl))
   ·rw[p,Bool.false_and]at hinv
    simp[go_sem,p]
    exact bret hinv
  rw[if_neg k1]at hinv
  have k1':(x.kind==1)=false:=by simpa using k1
  by_cases k3:x.kind=3
  ·rw[if_pos k3]at hinv
   have k3':(x.kind==3)=true:=by simpa using k3
   simp[go_sem,k1',k3']
   refine zE hz Tryz.callB149 (zF (by simp[go_sem]) (by rw[GExpr.row_eq];rfl)) rfl ?_
   refine(Bool.eq_false_or_eq_true bl).elim (fun p=> ?_) (fun p=> ?_)
   ·rw[p,Bool.true_and]at hinv
    simp[go_sem,p,ei]
    exact yes _ _ hinv (at_n 1 (by simp[go_sem,hL]) rfl (by simp[ltOb,ltC,ltK,GStmt.row]) (Nat.zero_le _) (zD (by simp[go_sem]) rfl))
   ·rw[p,Bool.false_and]at hinv
    simp[go_sem,p]
    exact bret hinv
  rw[if_neg k3]at hinv
  have k3':(x.kind==3)=false:=by simpa using k3
  by_cases k24:x.kind=2∨x.kind=4
  ·rw[if_pos k24]at hinv
   have key:(x.kind==2)=true∨((x.kind==2)=false∧(x.kind==4)=true):=by
    rcases k24 with h|h
    ·exact .inl (by simpa using h)
    ·exact .inr ⟨by simp[h],by simp[h]⟩
   rcases key with k2|⟨k2,k4⟩
   case' inl=>simp[go_sem,k1',k3',k2]
   case' inr=>simp[go_sem,k1',k3',k2,k4]
   all_goals
    refine zE hm Tryz.callB148 (zF (by simp[go_sem]) (by rw[GExpr.row_eq];rfl)) rfl ?_
    refine(Bool.eq_false_or_eq_true me).elim (fun p=> ?_) (fun p=> ?_)
    ·rw[p,Bool.true_and]at hinv
     simp[go_sem,p,ei]
     exact yes _ _ hinv (at_n 1 (by simp[go_sem,hL]) rfl (by simp[ltOb,ltC,ltK,GStmt.row]) (Nat.zero_le _) (zD (by simp[go_sem]) rfl))
    ·rw[p,Bool.false_and]at hinv
     simp[go_sem,p]
     exact bret hinv
  ·rw[if_neg k24,Bool.false_and]at hinv
   have k2:(x.kind==2)=false:=by simpa using fun h=>k24 (.inl h)
   have k4:(x.kind==4)=false:=by simpa using fun h=>k24 (.inr h)
   simp[go_sem,k1',k3',k2,k4]
   exact bret hinv
theorem xa2 (st:GStmt):yM4 st=if st.kind=1 then selS st else if st.kind=2 then zO1 st.rows&& !st.filtered else if st.kind=3 then zK7 st.sets else st.kind==4:=rfl
set_option maxHeartbeats 4000000 in
theorem yk1 (st:GStmt) (hs:SOk st):Pure Tryz.prog 101 [.agg st.row] (.bool (mayS st)):=by
 have hwt:=zn2 st.table (by have:=hs.table;unfold maxLen;omega)
 have hme:=zz3 st.where_ hs.where_.wide hs.where_.good
 have hbl:=ye6 st.where_
 have hse:=zX8 st hs
 generalize hM:mayS st=M
 unfold mayS yU2 yA4 at hM
 rw[xa2]at hM
 obtain⟨Rs,hR⟩: ∃R,st.rows=R:=⟨_,rfl⟩
 obtain⟨As,hA⟩: ∃A,st.sets=A:=⟨_,rfl⟩
 obtain⟨hRl,hRx⟩:=hs.rows
 obtain⟨hAl,hAx⟩:=hs.sets
 obtain⟨k,hk⟩: ∃k,st.kind=k:=⟨_,rfl⟩
 obtain⟨f,hf⟩: ∃f,st.filtered=f:=⟨_,rfl⟩
 obtain⟨d,hd⟩: ∃d,st.down=d:=⟨_,rfl⟩
 rw[hR]at hRl hRx
 rw[hA]at hAl hAx
 have hr0:=zr9 Rs
 have hs0:=zr9 As
 rw[hk,hf,hd,hR,hA]at hM
 generalize zb9 st.table=wt at hwt hM
 generalize mayE 16 st.where_=me at hme hM
 generalize zj2 st.where_=bl at hbl hM
 generalize selS st=ss at hse hM
 have hi0:=zr9 st.items
 have ho0:(st.order != [])= !st.order.isEmpty:=by cases st.order<;>rfl
 generalize st.items.isEmpty=ie at hi0 hM
 have step1:((wt&&(if f=true then me else bl))=false→false=M)∧((wt&&(if f=true then me else bl))=true→(!((!(k==1)&&(!ie||(!st.order.isEmpty||(d|| !(st.limit==0)))))||((!(k==2)&& !Rs.isEmpty)||(!(k==3)&& !As.isEmpty)))&&(if k=1 then ss else if k=2 then zO1 Rs&& !f else if k=3 then zK7 As else k==4))=M):=by
  constructor
  ·intro h;rw[h]at hM;exact hM
  ·intro h;rw[h,Bool.true_and]at hM;exact hM
 obtain⟨no1,yes1⟩:=step1
 clear hM
 refine VCalls.introV 0 Tryz.func101 Tryz.ntmps101 Tryz.results101 rfl rfl (Nat.le_of_ble_eq_true rfl) fun c hc hb=> ?_
 refine wM (zC ?_)
 simp[go_sem]
 refine zf4 (S:=Unit) [1] (fun _=> [.ptr 0 0]) (fun _=> [.box st.row]) (fun _=>(wt&&(if f=true then me else bl))=true) hc hb ?_ ?_
 ·refine zC ?_
  simp[go_sem]
  refine zE hwt Tryz.callB147 (zF (by simp[go_sem]) rfl) rfl ?_
  refine(Bool.eq_false_or_eq_true wt).elim (fun w=> ?_) (fun w=> ?_)
  rotate_left
  ·simp[go_sem,w]
   exact bret (no1 (by rw[w];rfl))
  simp[go_sem,w,hf]
  refine(Bool.eq_false_or_eq_true f).elim (fun w2=> ?_) (fun w2=> ?_)
  ·simp[go_sem,w2]
   refine zE hme Tryz.callB148 (zF (by simp[go_sem]) (by rw[GExpr.row_eq];rfl)) rfl ?_
   refine(Bool.eq_false_or_eq_true me).elim (fun w3=> ?_) (fun w3=> ?_)
   ·simp[go_sem,w3,w2]
    exact zN () ⟨by rw[w,w2,w3];rfl,at_n 1 (by simp[go_sem,hk,hf,hd,w2]) rfl (by simp[ltOb,ltC,ltK]) (Nat.zero_le _) (zD (by simp[go_sem]) rfl)⟩
   ·simp[go_sem,w3]
    exact bret (no1 (by rw[w,w2,w3];rfl))
  ·simp[go_sem,w2]
   refine zE hbl Tryz.callB149 (zF (by simp[go_sem]) (by rw[GExpr.row_eq];rfl)) rfl ?_
   refine(Bool.eq_false_or_eq_true bl).elim (fun w3=> ?_) (fun w3=> ?_)
   ·simp[go_sem,w3]
    exact zN () ⟨by rw[w,w2,w3];rfl,at_n 1 (by simp[go_sem,hk,hf,hd,w2]) rfl (by simp[ltOb,ltC,ltK]) (Nat.zero_le _) (zD (by simp[go_sem]) rfl)⟩
   ·simp[go_sem,w3]
    exact bret (no1 (by rw[w,w2,w3];rfl))
 ·rintro _ h1
  have hM:=yes1 h1
  clear no1 yes1
  generalize hB:(if k=1 then ss else if k=2 then zO1 Rs&& !f else if k=3 then zK7 As else k==4)=B at hM
  obtain⟨re,hre⟩: ∃re,Rs.isEmpty=re:=⟨_,rfl⟩
  obtain⟨se,hse'⟩: ∃se,As.isEmpty=se:=⟨_,rfl⟩
  rw[hre]at hr0 hM
  rw[hse']at hs0 hM
  obtain⟨S,hS⟩: ∃S,((!(k==1)&&(!ie||(!st.order.isEmpty||(d|| !(st.limit==0)))))||((!(k==2)&& !re)||(!(k==3)&& !se)))=S:=⟨_,rfl⟩
  rw[hS]at hM
  have no:S=true→false=M:=fun h=>by rw[h]at hM;exact hM
  have yes:S=false→B=M:=fun h=>by rw[h]at hM;exact hM
  clear hM
  have hl0:(st.limit !=0)= !(st.limit==0):=rfl
  have hk2:(st.kind !=2)= !(k==2):=by rw[hk];rfl
  have hk3:(st.kind !=3)= !(k==3):=by rw[hk];rfl
  have hk1:(st.kind !=1)= !(k==1):=by rw[hk];rfl
  refine zf4 (S:=Unit) [1] (fun _=> [.ptr 0 0]) (fun _=> [.box st.row]) (fun _=>S=false) hc hb ?_ ?_
  ·generalize (st.limit==0)=l0 at hl0 hS
   generalize (k==1)=k1 at hk1 hS
   generalize (k==2)=k2 at hk2 hS
   generalize (k==3)=k3 at hk3 hS
   clear yes hB
   refine zC ?_
   simp[go_sem,hk1,hR,hA]
   repeat' (first
    |(refine yI (fun w=> ?_) (fun w=> ?_)<;>simp[go_sem,w,hk2,hk3,hl0,hi0,hr0,hs0,hd])
    |(refine zU (fun w=> ?_) (fun w=> ?_)<;>simp[go_sem,w]))
   all_goals first
    |exact bret (no (by rw[←hS];simp_all))
    |exact zN () ⟨by rw[←hS];simp_all,at_n 1 (by simp[go_sem,hd,hR,hA]<;>simp_all) rfl (by simp[ltOb,ltC,ltK]) (Nat.zero_le _) (zD (by simp[go_sem]) rfl)⟩
  ·rintro _ hSf
   have hM:=yes hSf
   rw[←hB]at hM
   clear yes no hS hB
   refine zC ?_
   simp[go_sem,hk]
   by_cases k1:k=1
   ·have k1':(k==1)=true:=by simpa using k1
    rw[if_pos k1]at hM
    simp[go_sem,k1']
    refine zE hse Tryz.callB150 (zF (by rw[←hk];rfl) rfl) rfl ?_
    simp[go_sem]
    exact bret hM
   have k1':(k==1)=false:=by simpa using k1
   rw[if_neg k1]at hM
   by_cases k2:k=2
   ·have k2':(k==2)=true:=by simpa using k2
    rw[if_pos k2]at hM
    simp[go_sem,k1',k2']
    unfold zO1 at hM
    obtain⟨nR,hnR⟩: ∃nR,Rs.length=nR:=⟨_,rfl⟩
    rw[hnR]at hM hRl
    have hn1:decide (1≤(nR:Int))=decide (1≤nR):=by
      by_cases h:1≤nR
      ·rw[decide_eq_true h,decide_eq_true (by omega)]
      ·rw[decide_eq_false h,decide_eq_false (by omega)]
    have hn6:decide ((nR:Int)≤16)=decide (nR≤16):=by
      by_cases h:nR≤16
      ·rw[decide_eq_true h,decide_eq_true (by omega)]
      ·rw[decide_eq_false h,decide_eq_false (by omega)]
    generalize decide (1≤nR)=n1 at hn1 hM
    generalize decide (nR≤16)=n6 at hn6 hM
    refine zL (S:=Nat) [1,3] (fun i=> [.ptr 0 0,.int .i64 (i:Int)]) (fun _=> [.box st.row]) (fun i=>nR - i) (fun i=>i≤nR∧((Rs.drop i).all mayR&&(n1&&n6)&& !f)=M) hc hb 0 ⟨Nat.zero_le _,hM⟩ ?_ ?_
    ·exact at_n 1 (by simp[go_sem,hk,hR]) rfl (by simp[ltOb,ltC,ltK,GStmt.row]) (Nat.zero_le _) (zD (by simp[go_sem]) rfl)
    rintro i ⟨hi,hinv⟩
    by_cases q:i<nR
    rotate_left
    ·rw[List.drop_eq_nil_of_le (by omega),List.all_nil,Bool.true_and]at hinv
     refine zC ?_
     simp[go_sem,hR,hnR,q,hf]
     repeat' (first
      |(refine yI (fun w=> ?_) (fun w=> ?_)<;>simp[go_sem,w,hnR,hn1,hn6])
      |(refine zU (fun w=> ?_) (fun w=> ?_)<;>simp[go_sem,w,hR,hnR,hn1,hn6]))
     all_goals exact bret (by rw[←hinv];simp_all)
    have ei:=zT q (by omega)
    have ql:i<Rs.length:=by omega
    obtain⟨r,hr⟩: ∃r,Rs[i]=r:=⟨_,rfl⟩
    obtain⟨hrl,hrx⟩:=hRx r (hr▸List.getElem_mem ql)
    obtain⟨m,hm⟩: ∃m,r.length=m:=⟨_,rfl⟩
    rw[zd9 _ _ _ ql,hr]at hinv
    obtain⟨tl,hTl⟩: ∃tl,(Rs.drop (i+1)).all mayR=tl:=⟨_,rfl⟩
    rw[hTl]at hinv
    unfold mayR at hinv
    rw[hm]at hinv hrl
    refine zC ?_
    simp[go_sem,hR,hnR,q,hr,hm]
    by_cases z1:m<1
    ·have z1':decide ((m:Int)<1)=true:=decide_eq_true (by omega)
     rw[show decide (1≤m)=false from decide_eq_false (by omega)]at hinv
     simp[go_sem,z1']
     exact bret (by rw[←hinv];simp)
    have z1':decide ((m:Int)<1)=false:=decide_eq_false (by omega)
    by_cases z2:6<m
    ·have z2':decide (6<(m:Int))=true:=decide_eq_true (by omega)
     rw[show decide (m≤6)=false from decide_eq_false (by omega)]at hinv
     simp[go_sem,z1',ql,hr,hm,z2']
     exact bret (by rw[←hinv];simp)
    have z2':decide (6<(m:Int))=false:=decide_eq_false (by omega)
    rw[show decide (1≤m)=true from decide_eq_true (by omega),show decide (m≤6)=true from decide_eq_true (by omega),Bool.true_and,Bool.true_and]at hinv
    simp[go_sem,z1',ql,hr,hm,z2']
    refine zL (S:=Nat) [1,3,4] (fun j=> [.ptr 0 0,.int .i64 (i:Int),.int .i64 (j:Int)]) (fun _=> [.box st.row]) (fun j=>m - j) (fun j=>j≤m∧((r.drop j).all (mayE 16)&&tl&&(n1&&n6)&& !f)=M) hc hb 0 ⟨Nat.zero_le _,hinv⟩ ?_ ?_
    ·exact at_n 1 (by simp[go_sem,hk,hR]) rfl (by simp[ltOb,ltC,ltK,GStmt.row]) (Nat.zero_le _) (zD (by simp[go_sem]) rfl)
    rintro j ⟨hj,hjv⟩
    by_cases qj:j<m
    rotate_left
    ·rw[List.drop_eq_nil_of_le (by omega),List.all_nil,Bool.true_and,←hTl]at hjv
     refine zC ?_
     simp[go_sem,hR,hnR,q,hr,hm,qj,ei]
     exact zN (i+1) ⟨by omega,⟨by omega,hjv⟩,at_n 1 (by simp[go_sem,hR]) rfl (by simp[ltOb,ltC,ltK]) (Nat.zero_le _) (zD (by simp[go_sem]) rfl)⟩
    have ej:=zT qj (by omega)
    have qjl:j<r.length:=by omega
    obtain⟨x,hx⟩: ∃x,r[j]=x:=⟨_,rfl⟩
    have hE:=hrx x (hx▸List.getElem_mem qjl)
    have hmy:=zz3 x hE.wide hE.good
    rw[zd9 _ _ _ qjl,hx]at hjv
    generalize mayE 16 x=me at hmy hjv
    refine zC ?_
    simp[go_sem,hR,hnR,q,hr,hm,qj,hx]
    refine zE hmy Tryz.callB148 (zF (by simp[go_sem]) (by rw[GExpr.row_eq];rfl)) rfl ?_
    refine(Bool.eq_false_or_eq_true me).elim (fun p=> ?_) (fun p=> ?_)
    ·rw[p,Bool.true_and]at hjv
     simp[go_sem,p,ej]
     exact zN (j+1) ⟨by omega,⟨by omega,hjv⟩,at_n 1 (by simp[go_sem,hR]) rfl (by simp[ltOb,ltC,ltK]) (Nat.zero_le _) (zD (by simp[go_sem]) rfl)⟩
    ·simp[go_sem,p]
     exact bret (by rw[←hjv,p];simp)
   have k2':(k==2)=false:=by simpa using k2
   rw[if_neg k2]at hM
   by_cases k3:k=3
   ·have k3':(k==3)=true:=by simpa using k3
    rw[if_pos k3]at hM
    simp[go_sem,k1',k2',k3']
    unfold zK7 at hM
    obtain⟨nR,hnR⟩: ∃nR,As.length=nR:=⟨_,rfl⟩
    rw[hnR]at hM hAl
    have hn1:decide (1≤(nR:Int))=decide (1≤nR):=by
      by_cases h:1≤nR
      ·rw[decide_eq_true h,decide_eq_true (by omega)]
      ·rw[decide_eq_false h,decide_eq_false (by omega)]
    have hn6:decide ((nR:Int)≤6)=decide (nR≤6):=by
      by_cases h:nR≤6
      ·rw[decide_eq_true h,decide_eq_true (by omega)]
      ·rw[decide_eq_false h,decide_eq_false (by omega)]
    generalize decide (1≤nR)=n1 at hn1 hM
    generalize decide (nR≤6)=n6 at hn6 hM
    refine zL (S:=Nat) [1,5] (fun i=> [.ptr 0 0,.int .i64 (i:Int)]) (fun _=> [.box st.row]) (fun i=>nR - i) (fun i=>i≤nR∧((n1&&n6)&&(As.drop i).all mayA)=M) hc hb 0 ⟨Nat.zero_le _,hM⟩ ?_ ?_
    ·exact at_n 1 (by simp[go_sem,hk,hA]) rfl (by simp[ltOb,ltC,ltK,GStmt.row]) (Nat.zero_le _) (zD (by simp[go_sem]) rfl)
    rintro i ⟨hi,hinv⟩
    by_cases q:i<nR
    rotate_left
    ·rw[List.drop_eq_nil_of_le (by omega),List.all_nil,Bool.and_true]at hinv
     refine zC ?_
     simp[go_sem,hA,hnR,q]
     repeat' (first
      |(refine yI (fun w=> ?_) (fun w=> ?_)<;>simp[go_sem,w,hnR,hn6])
      |(refine zU (fun w=> ?_) (fun w=> ?_)<;>simp[go_sem,w,hA,hnR,hn1,hn6]))
     all_goals exact bret (by rw[←hinv];simp_all)
    have ei:=zT q (by omega)
    have ql:i<As.length:=by omega
    obtain⟨x,hx⟩: ∃x,As[i]=x:=⟨_,rfl⟩
    obtain⟨hxn,hE⟩:=hAx x (hx▸List.getElem_mem ql)
    have hmy:=zz3 x.e hE.wide hE.good
    have hxw:=zn2 x.name (by unfold maxLen;omega)
    rw[zd9 _ _ _ ql,hx]at hinv
    unfold mayA at hinv
    obtain⟨tl,hTl⟩: ∃tl,(As.drop (i+1)).all (fun x=>zb9 x.name&&mayE 16 x.e)=tl:=⟨_,rfl⟩
    rw[hTl]at hinv
    generalize mayE 16 x.e=me at hmy hinv
    generalize zb9 x.name=wx at hxw hinv
    refine zC ?_
    simp[go_sem,hA,hnR,q,hx]
    refine zE hxw Tryz.callB147 (zF (by simp[go_sem]) rfl) rfl ?_
    refine(Bool.eq_false_or_eq_true wx).elim (fun p=> ?_) (fun p=> ?_)
    rotate_left
    ·simp[go_sem,p]
     exact bret (by rw[←hinv,p];simp)
    rw[p,Bool.true_and]at hinv
    simp[go_sem,p,hnR,q,hx]
    refine zE hmy Tryz.callB148 (zF (by simp[go_sem]) (by rw[GExpr.row_eq];rfl)) rfl ?_
    refine(Bool.eq_false_or_eq_true me).elim (fun p=> ?_) (fun p=> ?_)
    ·rw[p,Bool.true_and,←hTl]at hinv
     simp[go_sem,p,ei]
     exact zN (i+1) ⟨by omega,⟨by omega,hinv⟩,at_n 1 (by simp[go_sem,hA]) rfl (by simp[ltOb,ltC,ltK]) (Nat.zero_le _) (zD (by simp[go_sem]) rfl)⟩
    ·simp[go_sem,p]
     exact bret (by rw[←hinv,p];simp)
   have k3':(k==3)=false:=by simpa using k3
   rw[if_neg k3]at hM
   simp[go_sem,k1',k2',k3']
   exact bret hM
end Go.Proofs.YtajjjghohakniaaGreat
namespace Go.Proofs.YtajjjghohakniaaGreat
open Go Go.Vx R
set_option maxRecDepth 100000
set_option maxHeartbeats 1000000 in
theorem yv1 (l:GLot) (hl:LOk l):Pure Tryz.prog 44 [.agg l.row] (.bool (mayL l)):=by
 obtain⟨L,hL⟩: ∃L,l.stmts=L:=⟨_,rfl⟩
 obtain⟨m,hm⟩: ∃m,l.mode=m:=⟨_,rfl⟩
 obtain⟨n,hn⟩: ∃n,l.n=n:=⟨_,rfl⟩
 obtain⟨hLl,hLs⟩:=hl.stmts
 rw[hL]at hLl hLs
 generalize hM:mayL l=M
 unfold mayL yW9 at hM
 rw[hL,hm,hn]at hM
 have no: ∀h:Bool,(h&&L.all mayS)=M→h=false→false=M:=fun h q w=>by rw[w]at q;exact q
 refine VCalls.introV 0 Tryz.func44 Tryz.ntmps44 Tryz.results44 rfl rfl (Nat.le_of_ble_eq_true rfl) fun c hc hb=> ?_
 refine wM (zC ?_)
 simp[go_sem]
 refine zf4 (S:=Unit) [1] (fun _=> [.ptr 0 0]) (fun _=> [.box l.row]) (fun _=>L.all mayS=M) hc hb ?_ ?_
 ·have d1:decide (m<0)= !decide (0≤m):=by
   by_cases h:0≤m
   ·rw[decide_eq_true h,decide_eq_false (by omega)];rfl
   ·rw[decide_eq_false h,decide_eq_true (by omega)];rfl
  have d2:decide (2<m)= !decide (m≤2):=by
   by_cases h:m≤2
   ·rw[decide_eq_true h,decide_eq_false (by omega)];rfl
   ·rw[decide_eq_false h,decide_eq_true (by omega)];rfl
  have d3:decide (n<0)= !decide (0≤n):=by
   by_cases h:0≤n
   ·rw[decide_eq_true h,decide_eq_false (by omega)];rfl
   ·rw[decide_eq_false h,decide_eq_true (by omega)];rfl
  have d4:decide ((L.length:Int)<1)= !decide (1≤L.length):=by
   by_cases h:1≤L.length
   ·rw[decide_eq_true h,decide_eq_false (by omega)];rfl
   ·rw[decide_eq_false h,decide_eq_true (by omega)];rfl
  have d5:decide ((8:Int)<L.length)= !decide (L.length≤8):=by
   by_cases h:L.length≤8
   ·rw[decide_eq_true h,decide_eq_false (by omega)];rfl
   ·rw[decide_eq_false h,decide_eq_true (by omega)];rfl
  have d6:(n !=0)= !(n==0):=rfl
  generalize decide (0≤m)=b1 at d1 hM
  generalize decide (m≤2)=b2 at d2 hM
  generalize decide (0≤n)=b3 at d3 hM
  generalize decide (1≤L.length)=b4 at d4 hM
  generalize decide (L.length≤8)=b5 at d5 hM
  generalize (n==0)=b6 at d6 hM
  have no1:=no _ hM
  have yes1:((b1&&(b2&&(b3&&(!(m==0&& !b6)))))&&(b4&&b5))=true→L.all mayS=M:=fun h=>by rw[h,Bool.true_and]at hM;exact hM
  generalize hm0:(m==0)=b7 at no1 yes1
  clear hM no
  refine zC ?_
  simp[go_sem,hm,hn,hL,d1]
  repeat' (first
   |(refine yI (fun w=> ?_) (fun w=> ?_)<;>simp[go_sem,w,hm0,d2,d3,d4,d5,d6])
   |(refine zU (fun w=> ?_) (fun w=> ?_)<;>simp[go_sem,w]))
  all_goals first
   |exact bret (no1 (by simp_all))
   |exact zN () ⟨yes1 (by simp_all),at_n 1 (by simp[go_sem,hm,hn,hL]) rfl (by simp[ltOb,ltC,ltK]) (Nat.zero_le _) (zD (by simp[go_sem]) rfl)⟩
 ·rintro _ hM
  refine zC ?_
  simp[go_sem,hL]
  refine zL (S:=Nat) [1,3] (fun i=> [.ptr 0 0,.int .i64 (i:Int)]) (fun _=> [.box l.row]) (fun i=>L.length - i) (fun i=>i≤L.length∧(L.drop i).all mayS=M) hc hb 0 ⟨Nat.zero_le _,by rw[List.drop_zero];exact hM⟩ ?_ ?_
  ·exact at_n 1 (by simp[go_sem,hm,hn,hL]) rfl (by simp[ltOb,ltC,ltK,GLot.row]) (Nat.zero_le _) (zD (by simp[go_sem]) rfl)
  rintro i ⟨hi,hinv⟩
  by_cases q:i<L.length
  rotate_left
  ·rw[List.drop_eq_nil_of_le (by omega)]at hinv
   refine zC ?_
   simp[go_sem,hL,q]
   exact bret hinv
  have ei:=zT q (by omega)
  rw[zd9 _ _ _ q]at hinv
  obtain⟨st,hst⟩: ∃st,L[i]=st:=⟨_,rfl⟩
  have hcall:=yk1 st (hLs st (hst▸List.getElem_mem q))
  rw[hst]at hinv
  generalize mayS st=b at hcall hinv
  refine zC ?_
  simp[go_sem,hL,q,hst]
  refine zE hcall Tryz.callB101 (zF (by simp[go_sem]) rfl) rfl ?_
  refine(Bool.eq_false_or_eq_true b).elim (fun p=> ?_) (fun p=> ?_)
  ·rw[p,Bool.true_and]at hinv
   simp[go_sem,p,ei]
   exact zN (i+1) ⟨by omega,⟨by omega,hinv⟩,at_n 1 (by simp[go_sem,hL]) rfl (by simp[ltOb,ltC,ltK]) (Nat.zero_le _) (zD (by simp[go_sem]) rfl)⟩
  ·rw[p,Bool.false_and]at hinv
   simp[go_sem,p]
   exact bret hinv
theorem xd5 {st:GStmt} (h:mayS st=true) (k:st.kind=1): ∀x∈st.items,x.kind=1∨x.kind=2∨x.kind=3∨x.kind=4:=fun x hx=>by
 unfold mayS yM4 at h
 rw[if_pos k]at h
 simp only[Bool.and_eq_true]at h
 have h1:=h.2.2.1
 unfold zT8 at h1
 rw[Bool.and_eq_true]at h1
 have h2:=List.all_eq_true.1 h1.1 x hx
 unfold mayI at h2
 split at h2
 ·exact .inl (by assumption)
 split at h2
 ·exact .inr (.inr (.inl (by assumption)))
 split at h2
 ·rename_i h3;exact h3.elim (fun h=> .inr (.inl h)) (fun h=> .inr (.inr (.inr h)))
 ·cases h2
set_option maxHeartbeats 4000000 in
theorem yb2 (l:GLot) (hl:LOk l):Pure Tryz.prog 21 [schR tabsS,.agg l.row] (yK (zu6 l)):=by
 have hmay:=yv1 l hl
 obtain⟨L,hL⟩: ∃L,l.stmts=L:=⟨_,rfl⟩
 obtain⟨hLl,hLs⟩:=hl.stmts
 rw[hL]at hLl hLs
 obtain⟨m,hm⟩: ∃m,l.mode=m:=⟨_,rfl⟩
 have hmk:mayL l=true→ ∀st∈L,mayS st=true:=fun h st hst=>by
  unfold mayL at h
  rw[hL,Bool.and_eq_true]at h
  exact List.all_eq_true.1 h.2 st hst
 generalize hM:zu6 l=M
 unfold zu6 at hM
 rw[hL,hm]at hM
 generalize mayL l=b at hmay hM hmk
 refine VCalls.introV 0 Tryz.func21 Tryz.ntmps21 Tryz.results21 rfl rfl (Nat.le_of_ble_eq_true rfl) fun c hc hb=> ?_
 refine zC ?_
 simp[go_sem,schR]
 refine zE hmay Tryz.callB44 (zF (by simp[go_sem]) rfl) rfl ?_
 refine(Bool.eq_false_or_eq_true b).elim (fun p=> ?_) (fun p=> ?_)
 rotate_left
 ·rw[if_neg (by rw[p];decide)]at hM
  simp[go_sem,p]
  exact xT hM
 rw[if_pos p]at hM
 have hmk:=hmk p
 simp[go_sem,p,hL]
 refine zL (S:=Nat) [2,3,6] (fun i=> [.ptr 0 0,.ptr 1 0,.int .i64 (i:Int)]) (fun _=> [.box [.sl .ro wN,.sl .ro (tabsS.map GTable.row)],.box l.row]) (fun i=>L.length - i)
  (fun i=>i≤L.length∧zt4 m (L.drop i) i=M) hc hb 0 ⟨Nat.zero_le _,hM⟩ ?_ ?_
 ·exact at_n 2 (by simp[go_sem,hL]) rfl (by simp[ltOb,ltC,ltK,GLot.row]) (Nat.zero_le _) (zD (by simp[go_sem]) rfl)
 rintro i ⟨hi,hinv⟩
 by_cases q:i<L.length
 rotate_left
 ·rw[List.drop_eq_nil_of_le (by omega),zt4]at hinv
  refine zC ?_
  simp[go_sem,hL,q]
  exact xT hinv
 have ei:=zT q (by omega)
 obtain⟨st,hst⟩: ∃st,L[i]=st:=⟨_,rfl⟩
 have hsm:st∈L:=hst▸List.getElem_mem q
 have hs:=hLs st hsm
 have hmy:=hmk st hsm
 rw[List.drop_eq_getElem_cons q,hst,zt4]at hinv
 obtain⟨ce,hce⟩: ∃ce,zs7 st=ce:=⟨_,rfl⟩
 rw[hce]at hinv
 unfold zs7 at hce
 have hfi:=yg2 tabsS st.table (by decide)
 rw[show xD (fun t:GTable=>t.name==st.table) tabsS 0=xP st.table from rfl]at hfi
 have htc:=zp3 st.table
 generalize xP st.table=t at hfi htc hce
 have go: ∀(e σ),ce=0→At 0 [2,3,6] [.ptr 0 0,.ptr 1 0,.int .i64 ((i+1:Nat):Int)] [.box [.sl .ro wN,.sl .ro (tabsS.map GTable.row)],.box l.row] e σ→
  ¬(m≠0∧st.kind≠1)→Vx.Next (fun s':Nat=>L.length - s'<L.length - i∧(s'≤L.length∧zt4 m (L.drop s') s'=M)∧At 0 [2,3,6] [.ptr 0 0,.ptr 1 0,.int .i64 (s':Int)] [.box [.sl .ro wN,.sl .ro (tabsS.map GTable.row)],.box l.row] e σ) fx:=fun e σ h1 h2 h3=>by
   rw[if_neg h3,if_neg (fun g=>g h1)]at hinv
   exact zN (i+1) ⟨by omega,⟨by omega,hinv⟩,h2⟩
 have bad:ce≠0→ ¬(m≠0∧st.kind≠1)→((i:Int),ce)=M:=fun h1 h3=>by
  rw[if_neg h3,if_pos h1]at hinv
  exact hinv
 refine zC ?_
 simp[go_sem,hL,q,hst,hm]
 by_cases q1:m≠0∧st.kind≠1
 ·rw[if_pos q1]at hinv
  have q1a:(m !=0)=true:=by simpa using q1.1
  have q1b:(st.kind !=1)=true:=by simpa using q1.2
  simp[go_sem,q1a,q1b]
  exact xT hinv
 have key:(m !=0)=false∨((m !=0)=true∧(st.kind !=1)=false):=by
  by_cases h:m=0
  ·exact .inl (by simpa using h)
  ·refine .inr ⟨by simpa using h, ?_⟩
   simp only[bne_eq_false_iff_eq]
   exact Classical.byContradiction fun g=>q1 ⟨h,g⟩
 clear hinv
 have calls: ¬t= -1→ ∃(j:Nat) (T:GTable),t=j∧j<3∧tabsS[j]? =some T∧(st.kind=1→Pure Tryz.prog 45 [.agg T.row,.agg st.row] (.int .i64 ce))∧(st.kind=2→Pure Tryz.prog 46 [.agg T.row,.agg st.row] (.int .i64 ce))∧
   (st.kind=3→Pure Tryz.prog 47 [.agg T.row,.agg st.row] (.int .i64 ce))∧(¬st.kind=1→ ¬st.kind=2→ ¬st.kind=3→Pure Tryz.prog 48 [.agg T.row,.agg st.row] (.int .i64 ce)):=fun htn=>by
  have ht0: ¬t<0:=by omega
  obtain⟨j,hj⟩: ∃j:Nat,t=j:=⟨t.toNat,by omega⟩
  have hj3:j<tabsS.length:=by show j<3;omega
  obtain⟨T,hT⟩: ∃T,tabsS[j]=T:=⟨_,rfl⟩
  have hTc:T.cols.length≤1000:=by
   rw[←hT]
   match j,hj3 with
   |0,_=>exact(by decide:tabT.cols.length≤1000)
   |1,_=>exact(by decide:tabG.cols.length≤1000)
   |2,_=>exact(by decide:tabH.cols.length≤1000)
  rw[hj,Int.toNat_natCast,List.getElem?_eq_getElem hj3,hT]at hce
  simp only at hce
  rw[if_neg (by omega)]at hce
  refine⟨j,T,hj,hj3,by rw[List.getElem?_eq_getElem hj3,hT],fun k=> ?_,fun k=> ?_,fun k=> ?_,fun k1 k2 k3=> ?_⟩
  ·rw[if_pos k]at hce
   rw[←hce]
   exact yl4 T (by unfold maxLen;omega) st hs (xd5 hmy k)
  ·rw[if_neg (by omega),if_pos k]at hce
   rw[←hce]
   exact yl0 T hTc st hs
  ·rw[if_neg (by omega),if_neg (by omega),if_pos k]at hce
   rw[←hce]
   exact yn8 T hTc st hs
  ·rw[if_neg k1,if_neg k2,if_neg k3]at hce
   rw[←hce]
   exact zJ9 T (by unfold maxLen;omega) st hs
 rcases key with a1|⟨a1,a2⟩
 case' inl=>simp[go_sem,a1]
 case' inr=>simp[go_sem,a1,a2]
 all_goals
  refine zE hfi Tryz.callB16 (zF (by simp[go_sem,schR]) rfl) rfl ?_
  by_cases htn:t= -1
  ·have hce:14=ce:=by rw[←hce,htn];rfl
   simp[go_sem,htn]
   exact xT (by rw[hce];exact bad (by omega) q1)
  obtain⟨j,T,hj,hj3,hjT,c1,c2,c3,c4⟩:=calls htn
  obtain⟨hjl,hjT⟩:=List.getElem?_eq_some_iff.1 hjT
  have ht0':decide (t<0)=false:=decide_eq_false (by omega)
  rw[hj]at ht0'
  simp[go_sem,hj,ht0',hjl,hjT]
  by_cases k1:st.kind=1
  ·have k1':(st.kind==1)=true:=by simpa using k1
   simp[go_sem,k1']
   refine zE (c1 k1) Tryz.callB45 (zF (by simp[go_sem]) rfl) rfl ?_
   by_cases qe:ce=0
   ·have qe':(ce !=0)=false:=by simpa using qe
    simp[go_sem,qe',ei]
    exact go _ _ qe (at_n 2 (by simp[go_sem,hL,hm]) rfl (by simp[ltOb,ltC,ltK,GLot.row]) (Nat.zero_le _) (zD (by simp[go_sem]) rfl)) q1
   ·have qe':(ce !=0)=true:=by simpa using qe
    simp[go_sem,qe']
    exact xT (bad qe q1)
  have k1':(st.kind==1)=false:=by simpa using k1
  by_cases k2:st.kind=2
  ·have k2':(st.kind==2)=true:=by simpa using k2
   simp[go_sem,k1',k2']
   refine zE (c2 k2) Tryz.callB46 (zF (by simp[go_sem]) rfl) rfl ?_
   by_cases qe:ce=0
   ·have qe':(ce !=0)=false:=by simpa using qe
    simp[go_sem,qe',ei]
    exact go _ _ qe (at_n 2 (by simp[go_sem,hL,hm]) rfl (by simp[ltOb,ltC,ltK,GLot.row]) (Nat.zero_le _) (zD (by simp[go_sem]) rfl)) q1
   ·have qe':(ce !=0)=true:=by simpa using qe
    simp[go_sem,qe']
    exact xT (bad qe q1)
  have k2':(st.kind==2)=false:=by simpa using k2
  by_cases k3:st.kind=3
  ·have k3':(st.kind==3)=true:=by simpa using k3
   simp[go_sem,k1',k2',k3']
   refine zE (c3 k3) Tryz.callB47 (zF (by simp[go_sem]) rfl) rfl ?_
   by_cases qe:ce=0
   ·have qe':(ce !=0)=false:=by simpa using qe
    simp[go_sem,qe',ei]
    exact go _ _ qe (at_n 2 (by simp[go_sem,hL,hm]) rfl (by simp[ltOb,ltC,ltK,GLot.row]) (Nat.zero_le _) (zD (by simp[go_sem]) rfl)) q1
   ·have qe':(ce !=0)=true:=by simpa using qe
    simp[go_sem,qe']
    exact xT (bad qe q1)
  have k3':(st.kind==3)=false:=by simpa using k3
  simp[go_sem,k1',k2',k3']
  refine zE (c4 k1 k2 k3) Tryz.callB48 (zF (by simp[go_sem]) rfl) rfl ?_
  by_cases qe:ce=0
  ·have qe':(ce !=0)=false:=by simpa using qe
   simp[go_sem,qe',ei]
   exact go _ _ qe (at_n 2 (by simp[go_sem,hL,hm]) rfl (by simp[ltOb,ltC,ltK,GLot.row]) (Nat.zero_le _) (zD (by simp[go_sem]) rfl)) q1
  ·have qe':(ce !=0)=true:=by simpa using qe
   simp[go_sem,qe']
   exact xT (bad qe q1)
end Go.Proofs.YtajjjghohakniaaGreat
namespace Go.Proofs.YtajjjghohakniaaGreat
open Go Go.Vx R
set_option maxRecDepth 100000
abbrev okI (n:Int):Prop:= -9223372036854775808≤n∧n≤9223372036854775807
def rngF (n:Int):Int×Int:=if okI n then(n,0)else(0,5)
theorem zh4 {n:Int} (h:okI n):IntKind.i64.wrap n=n:=Vx.i64_id h.1 h.2
theorem yf0 (a b:Int) (ha:okI a) (hb':okI b):Pure Tryz.prog 221 [.int .i64 a,.int .i64 b] (yK (rngF (a+b))):=by
 generalize hM:rngF (a+b)=M
 unfold rngF at hM
 have q:(0<b∧decide (0<b)=true∧decide (b<0)=false)∨(b<0∧decide (0<b)=false∧decide (b<0)=true)∨(b=0∧decide (0<b)=false∧decide (b<0)=false):=by
  simp only[decide_eq_true_eq,decide_eq_false_iff_not];omega
 unfold okI at ha hb' hM
 refine VCalls.intro 0 Tryz.func221 Tryz.ntmps221 Tryz.results221 rfl rfl (Nat.le_of_ble_eq_true rfl) fun c hc hb=>zJ ?_
 rcases q with ⟨q,q1,q2⟩|⟨q,q1,q2⟩|⟨q,q1,q2⟩
 ·have w1:IntKind.i64.wrap (9223372036854775807 - b)=9223372036854775807 - b:=zh4 ⟨by omega,by omega⟩
  by_cases r:9223372036854775807 - b<a
  ·have r':decide (9223372036854775807 - b<a)=true:=decide_eq_true r
   simp[go_sem,q1,w1,r']
   exact yS (by rw[←hM,if_neg (by omega)])
  ·have r':decide (9223372036854775807 - b<a)=false:=decide_eq_false r
   have w2:IntKind.i64.wrap (a+b)=a+b:=zh4 ⟨by omega,by omega⟩
   simp[go_sem,q1,q2,w1,r',w2]
   exact yS (by rw[←hM,if_pos (by omega)])
 ·have w1:IntKind.i64.wrap (-9223372036854775808 - b)= -9223372036854775808 - b:=zh4 ⟨by omega,by omega⟩
  by_cases r:a< -9223372036854775808 - b
  ·have r':decide (a< -9223372036854775808 - b)=true:=decide_eq_true r
   simp[go_sem,q1,q2,w1,r']
   exact yS (by rw[←hM,if_neg (by omega)])
  ·have r':decide (a< -9223372036854775808 - b)=false:=decide_eq_false r
   have w2:IntKind.i64.wrap (a+b)=a+b:=zh4 ⟨by omega,by omega⟩
   simp[go_sem,q1,q2,w1,r',w2]
   exact yS (by rw[←hM,if_pos (by omega)])
 ·have w2:IntKind.i64.wrap (a+b)=a+b:=zh4 ⟨by omega,by omega⟩
  simp[go_sem,q1,q2,w2]
  exact yS (by rw[←hM,if_pos (by omega)])
theorem yx2 (a b:Int) (ha:okI a) (hb':okI b):Pure Tryz.prog 144 [.int .i64 a,.int .i64 b] (yK (rngF (a+b))):=by
 generalize hM:rngF (a+b)=M
 unfold rngF at hM
 have q:(0<a∧decide (0<a)=true∧decide (a<0)=false)∨(a<0∧decide (0<a)=false∧decide (a<0)=true)∨(a=0∧decide (0<a)=false∧decide (a<0)=false):=by
  simp only[decide_eq_true_eq,decide_eq_false_iff_not];omega
 unfold okI at ha hb' hM
 refine VCalls.intro 0 Tryz.func144 Tryz.ntmps144 Tryz.results144 rfl rfl (Nat.le_of_ble_eq_true rfl) fun c hc hb=>zJ ?_
 rcases q with ⟨q,q1,q2⟩|⟨q,q1,q2⟩|⟨q,q1,q2⟩
 ·have w1:IntKind.i64.wrap (9223372036854775807 - a)=9223372036854775807 - a:=zh4 ⟨by omega,by omega⟩
  by_cases r:9223372036854775807 - a<b
  ·have r':decide (9223372036854775807 - a<b)=true:=decide_eq_true r
   simp[go_sem,q1,w1,r']
   exact yS (by rw[←hM,if_neg (by omega)])
  ·have r':decide (9223372036854775807 - a<b)=false:=decide_eq_false r
   have w2:IntKind.i64.wrap (a+b)=a+b:=zh4 ⟨by omega,by omega⟩
   simp[go_sem,q1,q2,w1,r',w2]
   exact yS (by rw[←hM,if_pos (by omega)])
 ·have w1:IntKind.i64.wrap (-9223372036854775808 - a)= -9223372036854775808 - a:=zh4 ⟨by omega,by omega⟩
  by_cases r:b< -9223372036854775808 - a
  ·have r':decide (b< -9223372036854775808 - a)=true:=decide_eq_true r
   simp[go_sem,q1,q2,w1,r']
   exact yS (by rw[←hM,if_neg (by omega)])
  ·have r':decide (b< -9223372036854775808 - a)=false:=decide_eq_false r
   have w2:IntKind.i64.wrap (a+b)=a+b:=zh4 ⟨by omega,by omega⟩
   simp[go_sem,q1,q2,w1,r',w2]
   exact yS (by rw[←hM,if_pos (by omega)])
 ·have w2:IntKind.i64.wrap (a+b)=a+b:=zh4 ⟨by omega,by omega⟩
  simp[go_sem,q1,q2,w2]
  exact yS (by rw[←hM,if_pos (by omega)])
end Go.Proofs.YtajjjghohakniaaGreat
