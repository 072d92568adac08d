/-
  What a lot needs, of every lot that is not too great; used by the theorem at the end of the claim.
  Conditions: as each theorem states them.
-/
import Derived.Test.YtajjjghohakniaaGreatSBK
import Derived.Test.YtajjjghohakniaaGreatSBG
import Derived.Test.YtajjjghohakniaaGreatSBH
namespace Go.Proofs.YtajjjghohakniaaGreat
open Go Go.Vx R
set_option maxRecDepth 100000
def kindC (T:GTable) (e:GExpr) (want:Int):Int:=if(typeF T e).2≠0 then(typeF T e).2 else if(typeF T e).1≠want∧(typeF T e).1≠0 then 15 else 0
theorem iret {b M:Int} {σ:St} (h:b=M):wret (some (.int .i64 b)) 0 (fun r s=>r= .int .i64 M∧s= []) σ:=by subst h;exact wret_0 (argS_no rfl) ⟨rfl,rfl⟩
theorem kindC_w (T:GTable) (hT:T.cols.length≤maxLen) (e:GExpr) (he:EOk e) (want:Int):Pure Tryz.prog 126 [.agg T.row,.agg e.row,.int .i64 want] (.int .i64 (kindC T e want)):=by
 have h:=Type_w T hT e he
 generalize hM:kindC T e want=M
 unfold kindC at hM
 generalize typeF T e=k at h hM
 refine VCalls.intro 0 Tryz.func126 Tryz.ntmps126 Tryz.results126 rfl rfl (Nat.le_of_ble_eq_true rfl) fun c hc hb=>wcode_of ?_
 simp[go_sem]
 refine wVC_pure h Tryz.callB125 (args_eq (by simp[go_sem]) (by rw[GExpr.row_eq];rfl)) rfl ?_
 simp[go_sem,pairV]
 by_cases q1:k.2=0
 rotate_left
 ·have q1':(k.2 !=0)=true:=by simpa using q1
  rw[if_pos q1]at hM
  simp[go_sem,q1']
  exact iret hM
 have q1':(k.2 !=0)=false:=by simpa using q1
 rw[if_neg (fun h=>h q1)]at hM
 simp[go_sem,q1']
 by_cases q2:k.1=want
 ·have q2':(k.1 !=want)=false:=by simpa using q2
  rw[if_neg (fun h=>h.1 q2)]at hM
  simp[go_sem,q2']
  exact iret hM
 have q2':(k.1 !=want)=true:=by simpa using q2
 simp[go_sem,q2']
 by_cases q3:k.1=0
 ·have q3':(k.1 !=0)=false:=by simpa using q3
  rw[if_neg (fun h=>h.2 q3)]at hM
  simp[go_sem,q3']
  exact iret hM
 ·have q3':(k.1 !=0)=true:=by simpa using q3
  rw[if_pos ⟨q2,q3⟩]at hM
  simp[go_sem,q3']
  exact iret hM
def whereC (T:GTable) (st:GStmt):Int:=if st.filtered=true then kindC T st.where_ 1 else 0
theorem whereC_w (T:GTable) (hT:T.cols.length≤maxLen) (st:GStmt) (hs:SOk st):Pure Tryz.prog 78 [.agg T.row,.agg st.row] (.int .i64 (whereC T st)):=by
 have h:=kindC_w T hT st.where_ hs.where_ 1
 generalize hM:whereC T st=M
 unfold whereC at hM
 generalize kindC T st.where_ 1=k at h hM
 refine VCalls.intro 0 Tryz.func78 Tryz.ntmps78 Tryz.results78 rfl rfl (Nat.le_of_ble_eq_true rfl) fun c hc hb=>wcode_of ?_
 simp[go_sem]
 refine(Bool.eq_false_or_eq_true st.filtered).elim (fun w=> ?_) (fun w=> ?_)
 ·rw[if_pos w]at hM
  simp[go_sem,w]
  refine wVC_pure h Tryz.callB126 (args_eq (by simp[go_sem]) (by rw[GExpr.row_eq];rfl)) rfl ?_
  simp[go_sem]
  exact iret hM
 ·rw[if_neg (by rw[w];decide)]at hM
  simp[go_sem,w]
  exact iret hM
def itemC (T:GTable) (x:GItem):Int:=if x.kind=2 then(typeF T x.e).2 else if x.kind=4 then kindC T x.e 2 else 0
def itemsC (T:GTable):List GItem→Int
 | []=>0
 |x::l=>if itemC T x≠0 then itemC T x else itemsC T l
def plainI (l:List GItem):Bool:=l.any fun x=>x.kind==2
def wholeI (l:List GItem):Bool:=l.any fun x=>x.kind==3||x.kind==4
def endC (T:GTable) (st:GStmt):Int:=if st.order.isEmpty=true then 0 else if colF T st.order<0 then 14 else if wholeI st.items=true then 9 else 0
def chooseC (T:GTable) (st:GStmt):Int:=
 if itemsC T st.items≠0 then itemsC T st.items else if(plainI st.items&&wholeI st.items)=true then 9 else if whereC T st≠0 then whereC T st else endC T st
set_option maxHeartbeats 4000000 in
theorem choose_w (T:GTable) (hT:T.cols.length≤maxLen) (st:GStmt) (hs:SOk st):Pure Tryz.prog 75 [.agg T.row,.agg st.row] (.int .i64 (chooseC T st)):=by
 obtain⟨L,hL⟩: ∃L,st.items=L:=⟨_,rfl⟩
 obtain⟨hLl,hLx⟩:=hs.items
 rw[hL]at hLl hLx
 have hwh:=whereC_w T hT st hs
 have hcol:=Col_w T st.order hT
 rw[show findF (fun c:GCol=>c.name==st.order) T.cols 0=colF T st.order from rfl]at hcol
 generalize hM:chooseC T st=M
 unfold chooseC endC at hM
 rw[hL]at hM
 refine VCalls.introV 0 Tryz.func75 Tryz.ntmps75 Tryz.results75 rfl rfl (Nat.le_of_ble_eq_true rfl) fun c hc hb=> ?_
 refine wVW_seq (wVW_code ?_)
 simp[go_sem]
 refine wVW_seq (wVW_code ?_)
 simp[go_sem]
 refine wVW_cut (S:=Unit) [2,3,5,6] (fun _=> [.ptr 0 0,.ptr 1 0,.bool (plainI L),.bool (wholeI L)]) (fun _=> [.box T.row,.box st.row]) (fun _=>itemsC T L=0) hc hb ?_ ?_
 ·refine wVW_seq (wVW_code ?_)
  simp[go_sem,hL]
  refine wVW_block ?_
  refine wVW_while (S:=Nat×Bool×Bool) [2,3,5,6,12,13,14] (fun u=> [.ptr 0 0,.ptr 1 0,.bool u.2.1,.bool u.2.2,.sl .ro (L.map GItem.row),.int .i64 L.length,.int .i64 (u.1:Int)]) (fun _=> [.box T.row,.box st.row]) (fun u=>L.length - u.1)
   (fun u=>u.1≤L.length∧(u.2.1||plainI (L.drop u.1))=plainI L∧(u.2.2||wholeI (L.drop u.1))=wholeI L∧itemsC T (L.drop u.1)=itemsC T L) hc hb (0,false,false) ⟨Nat.zero_le _,by simp,by simp,by simp⟩ ?_ ?_
  ·exact at_n 2 (by simp[go_sem,hL]) rfl (by simp[ltOb,ltC,ltK,GTable.row,GStmt.row]) (Nat.zero_le _) (args_lt_eq (by simp[go_sem]) rfl)
  rintro⟨i,pl,wh⟩ ⟨hi,hp,hw,hinv⟩
  simp only at hi hp hw hinv
  by_cases q:i<L.length
  rotate_left
  ·rw[List.drop_eq_nil_of_le (by omega)]at hp hw hinv
   have hp:pl=plainI L:=by rw[←hp];exact(Bool.or_false _).symm
   have hw:wh=wholeI L:=by rw[←hw];exact(Bool.or_false _).symm
   refine wVW_code ?_
   simp[go_sem,q]
   exact next_i () ⟨hinv.symm,at_n 2 (by simp[go_sem]) rfl (by simp[ltOb,ltC,ltK,GTable.row,GStmt.row]) (Nat.zero_le _) (args_lt_eq (by simp[go_sem,hp,hw]) rfl)⟩
  have ei:=i64_inc q (by omega)
  obtain⟨x,hx⟩: ∃x,L[i]=x:=⟨_,rfl⟩
  have hE:=(hLx x (hx▸List.getElem_mem q)).2
  rw[List.drop_eq_getElem_cons q,hx]at hp hw hinv
  unfold plainI at hp
  unfold wholeI at hw
  rw[List.any_cons]at hp hw
  rw[itemsC]at hinv
  have bad:itemC T x≠0→itemC T x=M:=fun h=>by
   rw[if_pos h]at hinv
   rw[←hM,←hinv,if_pos h]
  have good:itemC T x=0→itemsC T (L.drop (i+1))=itemsC T L:=fun h=>by
   rw[if_neg (fun g=>g h)]at hinv
   exact hinv
  clear hinv
  unfold itemC at bad good
  have hty:=Type_w T hT x.e hE
  have hkc:=kindC_w T hT x.e hE 2
  generalize typeF T x.e=ty at hty bad good
  generalize kindC T x.e 2=kc at hkc bad good
  have go: ∀(a b:Bool) (e σ),(a||plainI (L.drop (i+1)))=plainI L→(b||wholeI (L.drop (i+1)))=wholeI L→itemsC T (L.drop (i+1))=itemsC T L→At 0 [2,3,5,6,12,13,14] [.ptr 0 0,.ptr 1 0,.bool a,.bool b,.sl .ro (L.map GItem.row),.int .i64 L.length,.int .i64 ((i+1:Nat):Int)] [.box T.row,.box st.row] e σ→
   Vx.Next (fun s':Nat×Bool×Bool=>L.length - s'.1<L.length - i∧(s'.1≤L.length∧(s'.2.1||plainI (L.drop s'.1))=plainI L∧(s'.2.2||wholeI (L.drop s'.1))=wholeI L∧itemsC T (L.drop s'.1)=itemsC T L)∧At 0 [2,3,5,6,12,13,14] [.ptr 0 0,.ptr 1 0,.bool s'.2.1,.bool s'.2.2,.sl .ro (L.map GItem.row),.int .i64 L.length,.int .i64 (s'.1:Int)] [.box T.row,.box st.row] e σ) fx:=fun a b e σ h1 h2 h3 h4=>
    next_i (i+1,a,b) ⟨by simp only;omega,⟨by simp only;omega,h1,h2,h3⟩,h4⟩
  refine wVW_code ?_
  simp[go_sem,q,hx]
  by_cases k2:x.kind=2
  ·have k2':(x.kind==2)=true:=by simpa using k2
   rw[if_pos k2]at bad good
   have k34:(x.kind==3||x.kind==4)=false:=by rw[k2];rfl
   simp only[k2',Bool.true_or,Bool.or_true]at hp
   simp only[k34,Bool.false_or]at hw
   simp[go_sem,k2']
   refine wVC_pure hty Tryz.callB125 (args_eq (by simp[go_sem]) (by rw[GExpr.row_eq];rfl)) rfl ?_
   by_cases qe:ty.2=0
   ·have qe':(ty.2 !=0)=false:=by simpa using qe
    simp[go_sem,pairV,qe',ei]
    exact go true wh _ _ (by rw[Bool.true_or];exact hp) hw (good qe) (at_n 2 (by simp[go_sem]) rfl (by simp[ltOb,ltC,ltK,GTable.row,GStmt.row]) (Nat.zero_le _) (args_lt_eq (by simp[go_sem]) rfl))
   ·have qe':(ty.2 !=0)=true:=by simpa using qe
    simp[go_sem,pairV,qe']
    exact iret (bad qe)
  rw[if_neg k2]at bad good
  have k2':(x.kind==2)=false:=by simpa using k2
  simp only[k2',Bool.false_or]at hp
  by_cases k4:x.kind=4
  ·have k4':(x.kind==4)=true:=by simpa using k4
   rw[if_pos k4]at bad good
   simp only[k4',Bool.true_or,Bool.or_true]at hw
   simp[go_sem,k2',k4']
   refine wVC_pure hkc Tryz.callB126 (args_eq (by simp[go_sem]) (by rw[GExpr.row_eq];rfl)) rfl ?_
   by_cases qe:kc=0
   ·have qe':(kc !=0)=false:=by simpa using qe
    simp[go_sem,qe',ei]
    exact go pl true _ _ hp (by rw[Bool.true_or];exact hw) (good qe) (at_n 2 (by simp[go_sem]) rfl (by simp[ltOb,ltC,ltK,GTable.row,GStmt.row]) (Nat.zero_le _) (args_lt_eq (by simp[go_sem]) rfl))
   ·have qe':(kc !=0)=true:=by simpa using qe
    simp[go_sem,qe']
    exact iret (bad qe)
  rw[if_neg k4]at bad good
  have k4':(x.kind==4)=false:=by simpa using k4
  by_cases k3:x.kind=3
  ·have k3':(x.kind==3)=true:=by simpa using k3
   simp only[k3',Bool.true_or,Bool.or_true]at hw
   simp[go_sem,k2',k4',k3',ei]
   exact go pl true _ _ hp (by rw[Bool.true_or];exact hw) (good rfl) (at_n 2 (by simp[go_sem]) rfl (by simp[ltOb,ltC,ltK,GTable.row,GStmt.row]) (Nat.zero_le _) (args_lt_eq (by simp[go_sem]) rfl))
  ·have k3':(x.kind==3)=false:=by simpa using k3
   simp only[k3',k4',Bool.false_or]at hw
   simp[go_sem,k2',k4',k3',ei]
   exact go pl wh _ _ hp hw (good rfl) (at_n 2 (by simp[go_sem]) rfl (by simp[ltOb,ltC,ltK,GTable.row,GStmt.row]) (Nat.zero_le _) (args_lt_eq (by simp[go_sem]) rfl))
 ·rintro _ hI
  rw[if_neg (fun h=>h hI)]at hM
  generalize plainI L=pl at hM⊢
  generalize wholeI L=wh at hM⊢
  generalize whereC T st=wc at hwh hM
  have ho1:(st.order== [])=st.order.isEmpty:=by cases st.order<;>rfl
  refine wVW_code ?_
  simp[go_sem]
  refine(Bool.eq_false_or_eq_true (pl&&wh)).elim (fun w=> ?_) (fun w=> ?_)
  ·rw[if_pos w]at hM
   have w1:pl=true:=by cases pl<;>simp_all
   have w2:wh=true:=by cases wh<;>simp_all
   simp[go_sem,w1,w2]
   exact iret hM
  rw[if_neg (by rw[w];decide)]at hM
  refine wgrd_i (fun w1=> ?_) (fun w1=> ?_)
  ·have w2:wh=false:=by cases wh<;>simp_all
   simp[go_sem,w1,w2]
   refine wVC_pure hwh Tryz.callB78 (args_eq (by simp[go_sem]) rfl) rfl ?_
   by_cases qe:wc=0
   rotate_left
   ·have qe':(wc !=0)=true:=by simpa using qe
    rw[if_pos qe]at hM
    simp[go_sem,qe']
    exact iret hM
   have qe':(wc !=0)=false:=by simpa using qe
   rw[if_neg (fun h=>h qe)]at hM
   simp[go_sem,qe',ho1]
   refine(Bool.eq_false_or_eq_true st.order.isEmpty).elim (fun w3=> ?_) (fun w3=> ?_)
   ·rw[if_pos w3]at hM
    simp[go_sem,w3]
    exact iret hM
   rw[if_neg (by rw[w3];decide)]at hM
   simp[go_sem,w3]
   refine wVC_pure hcol Tryz.callB127 (args_eq (by simp[go_sem]) rfl) rfl ?_
   by_cases qc:colF T st.order<0
   ·have qc':decide (colF T st.order<0)=true:=decide_eq_true qc
    rw[if_pos qc]at hM
    simp[go_sem,qc']
    exact iret hM
   have qc':decide (colF T st.order<0)=false:=decide_eq_false qc
   rw[if_neg qc]at hM
   simp[go_sem,qc']
   rw[if_neg (by rw[w2];decide)]at hM
   exact iret hM
  ·have w1:pl=false:=by simpa using w1
   simp[go_sem,w1]
   refine wVC_pure hwh Tryz.callB78 (args_eq (by simp[go_sem]) rfl) rfl ?_
   by_cases qe:wc=0
   rotate_left
   ·have qe':(wc !=0)=true:=by simpa using qe
    rw[if_pos qe]at hM
    simp[go_sem,qe']
    exact iret hM
   have qe':(wc !=0)=false:=by simpa using qe
   rw[if_neg (fun h=>h qe)]at hM
   simp[go_sem,qe',ho1]
   refine(Bool.eq_false_or_eq_true st.order.isEmpty).elim (fun w3=> ?_) (fun w3=> ?_)
   ·rw[if_pos w3]at hM
    simp[go_sem,w3]
    exact iret hM
   rw[if_neg (by rw[w3];decide)]at hM
   simp[go_sem,w3]
   refine wVC_pure hcol Tryz.callB127 (args_eq (by simp[go_sem]) rfl) rfl ?_
   by_cases qc:colF T st.order<0
   ·have qc':decide (colF T st.order<0)=true:=decide_eq_true qc
    rw[if_pos qc]at hM
    simp[go_sem,qc']
    exact iret hM
   have qc':decide (colF T st.order<0)=false:=decide_eq_false qc
   rw[if_neg qc]at hM
   simp[go_sem,qc']
   refine(Bool.eq_false_or_eq_true wh).elim (fun w4=> ?_) (fun w4=> ?_)
   ·rw[if_pos w4]at hM
    simp[go_sem,w4]
    exact iret hM
   ·rw[if_neg (by rw[w4];decide)]at hM
    simp[go_sem,w4]
    exact iret hM
end Go.Proofs.YtajjjghohakniaaGreat
namespace Go.Proofs.YtajjjghohakniaaGreat
open Go Go.Vx R
set_option maxRecDepth 100000
def tab00:GTable:=⟨[],[],0,0,0,⟨[],[],[],0,0,0⟩⟩
def cellsC:List GCol→List GExpr→Int
 |c::cs,e::es=>if kindC tab00 e c.kind≠0 then kindC tab00 e c.kind else cellsC cs es
 |_,_=>0
def rowC20 (T:GTable) (r:List GExpr):Int:=if r.length≠T.cols.length then 9 else cellsC T.cols r
def rowsC (T:GTable):List (List GExpr)→Int
 | []=>0
 |r::l=>if rowC20 T r≠0 then rowC20 T r else rowsC T l
theorem arg_t0 {ρ:Nat→Nat} {g1 g2 g3 g4:Tag}:argS ρ (.agg tab00.row) (.agg [.str [],.sl g1 [],.int .i64 0,.int .i64 0,.int .i64 0,.sl g2 [],.sl g3 [],.sl g4 [],.int .i64 0,.int .i64 0,.int .i64 0]):=
 argS_agg ⟨argC_no rfl,argC_ro,argC_no rfl,argC_no rfl,argC_no rfl,argC_ro,argC_ro,argC_ro,argC_no rfl,argC_no rfl,argC_no rfl,trivial⟩
theorem arg_e {ρ:Nat→Nat} (e:GExpr):argS ρ (.agg e.row) (.agg [.int .i64 e.kind,.str e.s,.int .i64 e.v.kind,.int .i64 e.v.n,.str e.v.s,.sl .ro (e.args.map GExpr.row)]):=by rw[GExpr.row_eq];exact argS_no rfl
theorem st_T (T:GTable) (st:GStmt) (n:Nat):([.box T.row,.box st.row]:St).all (ltOb n)=true:=by simp[ltOb,ltC,ltK,GTable.row,GStmt.row]
set_option maxHeartbeats 2000000 in
theorem insertC_w (T:GTable) (hT:T.cols.length≤1000) (st:GStmt) (hs:SOk st):Pure Tryz.prog 76 [.agg T.row,.agg st.row] (.int .i64 (rowsC T st.rows)):=by
 obtain⟨R,hR⟩: ∃R,st.rows=R:=⟨_,rfl⟩
 obtain⟨hRl,hRx⟩:=hs.rows
 rw[hR]at hRl hRx
 rw[hR]
 generalize hM:rowsC T R=M
 refine VCalls.introV 0 Tryz.func76 Tryz.ntmps76 Tryz.results76 rfl rfl (Nat.le_of_ble_eq_true rfl) fun c hc hb=> ?_
 refine wVW_code ?_
 simp[go_sem,hR]
 refine wVW_while (S:=Nat) [2,3,11,12,13] (fun i=> [.ptr 0 0,.ptr 1 0,.sl .ro (R.map fun r=> [V.sl .ro (r.map GExpr.row)]),.int .i64 R.length,.int .i64 (i:Int)]) (fun _=> [.box T.row,.box st.row]) (fun i=>R.length - i)
  (fun i=>i≤R.length∧rowsC T (R.drop i)=M) hc hb 0 ⟨Nat.zero_le _,hM⟩ ?_ ?_
 ·exact at_n 2 (by simp[go_sem,hR]) rfl (st_T T st 2) (Nat.zero_le _) (args_lt_eq (by simp[go_sem]) rfl)
 rintro i ⟨hi,hinv⟩
 by_cases q:i<R.length
 rotate_left
 ·rw[List.drop_eq_nil_of_le (by omega)]at hinv
  refine wVW_code ?_
  simp[go_sem,q]
  exact iret hinv
 have ei:=i64_inc q (by omega)
 obtain⟨r,hr⟩: ∃r,R[i]=r:=⟨_,rfl⟩
 obtain⟨hrl,hrx⟩:=hRx r (hr▸List.getElem_mem q)
 rw[List.drop_eq_getElem_cons q,hr,rowsC]at hinv
 by_cases q2:r.length=T.cols.length
 rotate_left
 ·have q2':((r.length:Int) !=T.cols.length)=true:=by simp;omega
  have hrc:rowC20 T r=9:=by unfold rowC20;rw[if_pos q2]
  rw[hrc,if_pos (by decide)]at hinv
  refine wVW_code ?_
  simp[go_sem,q,hr,q2']
  exact iret hinv
 have q2':((r.length:Int) !=T.cols.length)=false:=by simp;omega
 have hrc:rowC20 T r=cellsC T.cols r:=by unfold rowC20;rw[if_neg (fun h=>h q2)]
 rw[hrc]at hinv
 obtain⟨C,hC⟩: ∃C,cellsC T.cols r=C:=⟨_,rfl⟩
 rw[hC]at hinv
 refine wVW_code ?_
 simp[go_sem,q,hr,q2']
 refine wVW_while (S:=Nat) [2,3,11,12,13,23,24,25] (fun k=> [.ptr 0 0,.ptr 1 0,.sl .ro (R.map fun r=> [V.sl .ro (r.map GExpr.row)]),.int .i64 R.length,.int .i64 (i:Int),.sl .ro (r.map GExpr.row),.int .i64 r.length,.int .i64 (k:Int)]) (fun _=> [.box T.row,.box st.row]) (fun k=>r.length - k)
  (fun k=>k≤r.length∧cellsC (T.cols.drop k) (r.drop k)=C) hc hb 0 ⟨Nat.zero_le _,hC⟩ ?_ ?_
 ·exact at_n 2 (by simp[go_sem,hR]) rfl (st_T T st 2) (Nat.zero_le _) (args_lt_eq (by simp[go_sem]) rfl)
 rintro k ⟨hk,hcv⟩
 by_cases qk:k<r.length
 rotate_left
 ·rw[List.drop_eq_nil_of_le (by omega),List.drop_eq_nil_of_le (by omega)]at hcv
  have hcv:C=0:=hcv.symm
  rw[if_neg (fun h=>h hcv)]at hinv
  refine wVW_code ?_
  simp[go_sem,qk,ei]
  exact next_i (i+1) ⟨by omega,⟨by omega,hinv⟩,at_n 2 (by simp[go_sem]) rfl (st_T T st 2) (Nat.zero_le _) (args_lt_eq (by simp[go_sem]) rfl)⟩
 have ek:=i64_inc qk (by omega)
 have qc:k<T.cols.length:=by omega
 obtain⟨e,he⟩: ∃e,r[k]=e:=⟨_,rfl⟩
 obtain⟨c1,hc1⟩: ∃c1,T.cols[k]=c1:=⟨_,rfl⟩
 have hE:=hrx e (he▸List.getElem_mem qk)
 rw[List.drop_eq_getElem_cons qk,List.drop_eq_getElem_cons qc,he,hc1,cellsC]at hcv
 have hcall:=kindC_w tab00 (by decide) e hE c1.kind
 generalize kindC tab00 e c1.kind=kc at hcall hcv
 refine wVW_code ?_
 simp[go_sem,qk,he]
 refine wdraw_le [(8,0)] 3 (by simp) (by kernel_rfl) (by kernel_rfl) ?_
 simp[go_sem,qc,hc1]
 refine wVD_pure hcall Tryz.callB126 (fun _=>⟨arg_t0,arg_e e,argS_no rfl,trivial⟩) rfl ?_
 simp[go_sem]
 by_cases qe:kc=0
 ·have qe':(kc !=0)=false:=by simpa using qe
  rw[if_neg (fun h=>h qe)]at hcv
  simp[go_sem,qe',ek]
  exact next_i (k+1) ⟨by omega,⟨by omega,hcv⟩,at_n 2 (by simp[go_sem]) rfl (st_T T st 2) (Nat.zero_le _) (args_lt_eq (by simp[go_sem]) rfl)⟩
 ·have qe':(kc !=0)=true:=by simpa using qe
  rw[if_pos qe]at hcv
  rw[if_pos (by rw[←hcv];exact qe)]at hinv
  simp[go_sem,qe']
  exact iret (hcv.trans hinv)
def setsC (T:GTable):List GAssign→List GAssign→Int
 |_,[]=>0
 |p,x::l=>
  if colF T x.name<0 then 14
  else if colF T x.name=T.key∨(colF T x.name=0∧T.place=0)then 18
  else if(p.any fun y=>y.name==x.name)=true then 9
  else if kindC T x.e (colK T (colF T x.name))≠0 then kindC T x.e (colK T (colF T x.name))
  else setsC T (p++ [x]) l
theorem st_x (x:GAssign):ltOb 0 (.box x.row)=true:=by simp[ltOb,ltC,ltK,GAssign.row]
theorem sameName_w (x y:GAssign):VCalls Tryz.prog 129 [.agg y.row,.ptr 0 0] [.box x.row] (fun r σ=>r= .bool (y.name==x.name)∧σ= [.box x.row]):=by
 refine VCalls.intro 1 Tryz.func129 Tryz.ntmps129 Tryz.results129 rfl rfl (Nat.le_of_ble_eq_true rfl) fun c hc hb=>wcode_of ?_
 simp[go_sem]
 exact wret_s 1 rfl rfl (by simp[ltOb,ltC,ltK,GAssign.row]) (Nat.le_refl _) (argS_no rfl) ⟨rfl,rfl⟩
theorem idxN_w (x:GAssign) (l:List GAssign) (hl:l.length≤12):VCalls Tryz.prog 176 [.sl .ro (l.map GAssign.row),.fn 129 [.ptr 0 0]] [.box x.row] (fun r σ=>r= .int .i64 (firstF (fun y=>y.name==x.name) l 0)∧σ= [.box x.row]):=by
 generalize hM:firstF (fun y:GAssign=>y.name==x.name) l 0=M
 have ret: ∀(r:Int) (σ:St),r=M→wret (some (.int .i64 r)) 1 (fun r s=>r= .int .i64 M∧s= [.box x.row]) (.box x.row::σ):=fun r σ h=>by subst h;exact wret_s 1 rfl rfl (by simp[ltOb,ltC,ltK,GAssign.row]) (Nat.le_refl _) (argS_no rfl) ⟨rfl,rfl⟩
 refine VCalls.introV 1 Tryz.func176 Tryz.ntmps176 Tryz.results176 rfl rfl (Nat.le_of_ble_eq_true rfl) fun c hc hb=> ?_
 refine wVW_code ?_
 simp[go_sem]
 refine wVW_while (S:=Nat) [0,1,6,7,8] (fun i=> [.sl .ro (l.map GAssign.row),.fn 129 [.ptr 0 0],.sl .ro (l.map GAssign.row),.int .i64 l.length,.int .i64 (i:Int)]) (fun _=> [.box x.row]) (fun i=>l.length - i)
  (fun i=>i≤l.length∧firstF (fun y=>y.name==x.name) (l.drop i) i=M) hc hb 0 ⟨Nat.zero_le _,hM⟩ ?_ ?_
 ·exact at_n 1 (by simp[go_sem]) rfl (by simp[ltOb,ltC,ltK,GAssign.row]) (Nat.le_refl _) (args_lt_eq (by simp[go_sem]) rfl)
 rintro i ⟨hi,hinv⟩
 by_cases q:i<l.length
 rotate_left
 ·rw[List.drop_eq_nil_of_le (by omega)]at hinv
  refine wVW_code ?_
  simp[go_sem,q]
  exact ret _ _ hinv
 have ei:=i64_inc q (by omega)
 obtain⟨y,hy⟩: ∃y,l[i]=y:=⟨_,rfl⟩
 rw[List.drop_eq_getElem_cons q,hy,firstF]at hinv
 have hcall:=sameName_w x y
 generalize (y.name==x.name)=b at hcall hinv
 refine wVW_code ?_
 simp[go_sem,q,hy]
 refine wVC_at 0 hcall Tryz.callB129 rfl (st_x x) ⟨argS_no rfl,.inl rfl,trivial⟩ (fun r σ h=>⟨_,h.2,st_x x⟩) ?_
 rintro r o2 ⟨rfl,h2⟩
 obtain rfl:o2= .box x.row:=by simpa using h2
 refine(Bool.eq_false_or_eq_true b).elim (fun p=> ?_) (fun p=> ?_)
 ·rw[if_pos p]at hinv
  simp[go_sem,p]
  exact ret _ _ hinv
 ·rw[if_neg (by rw[p];decide)]at hinv
  simp[go_sem,p,ei]
  exact next_i (i+1) ⟨by omega,⟨by omega,hinv⟩,at_n 1 (by simp[go_sem]) rfl (by simp[ltOb,ltC,ltK,GAssign.row]) (Nat.le_refl _) (args_lt_eq (by simp[go_sem]) rfl)⟩
theorem hasN_w (x:GAssign) (l:List GAssign) (hl:l.length≤12):VCalls Tryz.prog 128 [.sl .ro (l.map GAssign.row),.fn 129 [.ptr 0 0]] [.box x.row] (fun r σ=>r= .bool (l.any fun y=>y.name==x.name)∧σ= [.box x.row]):=by
 have h:=idxN_w x l hl
 have hg:=firstF_ge (fun y:GAssign=>y.name==x.name) l 0
 rw[←hg]
 generalize firstF (fun y:GAssign=>y.name==x.name) l 0=n at h⊢
 refine VCalls.intro 1 Tryz.func128 Tryz.ntmps128 Tryz.results128 rfl rfl (Nat.le_of_ble_eq_true rfl) fun c hc hb=>wcode_of ?_
 simp[go_sem]
 refine wVC_at 0 h Tryz.callB176 rfl (st_x x) ⟨argS_no rfl,.inl (by simp[renS,renA,renC,renK,ren]),trivial⟩ (fun r σ h=>⟨_,h.2,st_x x⟩) ?_
 rintro r o2 ⟨rfl,h2⟩
 obtain rfl:o2= .box x.row:=by simpa using h2
 simp[go_sem]
 exact wret_s 1 rfl rfl (by simp[ltOb,ltC,ltK,GAssign.row]) (Nat.le_refl _) (argS_no rfl) ⟨rfl,rfl⟩
end Go.Proofs.YtajjjghohakniaaGreat
namespace Go.Proofs.YtajjjghohakniaaGreat
open Go Go.Vx R
set_option maxRecDepth 100000
set_option maxHeartbeats 4000000 in
theorem setsC_w (T:GTable) (hT:T.cols.length≤1000) (st:GStmt) (hs:SOk st):Pure Tryz.prog 77 [.agg T.row,.agg st.row] (.int .i64 (setsC T [] st.sets)):=by
 obtain⟨L,hL⟩: ∃L,st.sets=L:=⟨_,rfl⟩
 obtain⟨hLl,hLx⟩:=hs.sets
 rw[hL]at hLl hLx
 rw[hL]
 generalize hM:setsC T [] L=M
 refine VCalls.introV 0 Tryz.func77 Tryz.ntmps77 Tryz.results77 rfl rfl (Nat.le_of_ble_eq_true rfl) fun c hc hb=> ?_
 refine wVW_code ?_
 simp[go_sem,hL]
 refine wVW_while (S:=Nat) [2,3,10,11,12] (fun i=> [.ptr 0 0,.ptr 1 0,.sl .ro (L.map GAssign.row),.int .i64 L.length,.int .i64 (i:Int)]) (fun _=> [.box T.row,.box st.row]) (fun i=>L.length - i)
  (fun i=>i≤L.length∧setsC T (L.take i) (L.drop i)=M) hc hb 0 ⟨Nat.zero_le _,hM⟩ ?_ ?_
 ·exact at_n 2 (by simp[go_sem,hL]) rfl (st_T T st 2) (Nat.zero_le _) (args_lt_eq (by simp[go_sem]) rfl)
 rintro i ⟨hi,hinv⟩
 by_cases q:i<L.length
 rotate_left
 ·rw[List.drop_eq_nil_of_le (by omega),setsC]at hinv
  refine wVW_code ?_
  simp[go_sem,q]
  exact iret hinv
 have ei:=i64_inc q (by omega)
 obtain⟨x,hx⟩: ∃x,L[i]=x:=⟨_,rfl⟩
 obtain⟨hxn,hE⟩:=hLx x (hx▸List.getElem_mem q)
 have hcol:=Col_w T x.name (by unfold maxLen;omega)
 rw[show findF (fun c:GCol=>c.name==x.name) T.cols 0=colF T x.name from rfl]at hcol
 have hhas:=hasN_w x (L.take i) (by simp;omega)
 have htk:L.take (i+1)=L.take i++ [x]:=by rw[List.take_add_one,List.getElem?_eq_getElem q,hx];rfl
 rw[List.drop_eq_getElem_cons q,hx,setsC,←htk]at hinv
 generalize ((L.take i).any fun y=>y.name==x.name)=b at hhas hinv
 by_cases qc:colF T x.name<0
 ·have qc':decide (colF T x.name<0)=true:=decide_eq_true qc
  rw[if_pos qc]at hinv
  refine wVW_code ?_
  simp[go_sem,q,hx]
  refine wVC_pure hcol Tryz.callB127 (args_eq (by simp[go_sem]) rfl) rfl ?_
  simp[go_sem,qc']
  exact iret hinv
 have qc':decide (colF T x.name<0)=false:=decide_eq_false qc
 rw[if_neg qc]at hinv
 obtain⟨j,hj,hjl⟩:=colF_rng T x.name qc
 obtain⟨C,hC⟩: ∃C,T.cols[j]=C:=⟨_,rfl⟩
 have hck:colK T (colF T x.name)=C.kind:=by
  unfold colK
  rw[hj,Int.toNat_natCast,List.getElem?_eq_getElem hjl,hC];rfl
 rw[hck]at hinv
 have hcall:=kindC_w T (by unfold maxLen;omega) x.e hE C.kind
 generalize kindC T x.e C.kind=kc at hcall hinv
 rw[hj]at hcol hinv qc'
 by_cases qk:(j:Int)=T.key∨((j:Int)=0∧T.place=0)
 ·rw[if_pos qk]at hinv
  refine wVW_code ?_
  simp[go_sem,q,hx]
  refine wVC_pure hcol Tryz.callB127 (args_eq (by simp[go_sem]) rfl) rfl ?_
  simp[go_sem,qc']
  by_cases k1:(j:Int)=T.key
  ·have k1':((j:Int)==T.key)=true:=by simpa using k1
   simp[go_sem,k1']
   exact iret hinv
  ·have k1':((j:Int)==T.key)=false:=by simpa using k1
   obtain⟨k2,k3⟩:=qk.resolve_left k1
   have k2':((j:Int)==0)=true:=by simpa using k2
   have k3':(T.place==0)=true:=by simpa using k3
   simp[go_sem,k1',k2',k3']
   exact iret hinv
 rw[if_neg qk]at hinv
 have k1':((j:Int)==T.key)=false:=by simpa using fun h=>qk (.inl h)
 have key:((j:Int)==0)=false∨(((j:Int)==0)=true∧(T.place==0)=false):=by
  by_cases k2:(j:Int)=0
  ·exact .inr ⟨by simpa using k2,by simpa using fun h=>qk (.inr ⟨k2,h⟩)⟩
  ·exact .inl (by simpa using k2)
 refine key.elim (fun k2'=> ?_) (fun⟨k2',k3'⟩=> ?_)
 ·refine wVW_code ?_
  simp[go_sem,q,hx]
  refine wVC_pure hcol Tryz.callB127 (args_eq (by simp[go_sem]) rfl) rfl ?_
  simp[go_sem,qc',k1',k2',hL]
  refine wneed_i ⟨hi,uni_map fun _=>rfl⟩ ?_
  simp[go_sem,←List.map_take]
  refine wVC_at 2 hhas Tryz.callB128 rfl (st_x x) ⟨argS_ro,.inl (by simp[renS,renA,renC,renK,ren]),trivial⟩ (fun r σ h=>⟨_,h.2,st_x x⟩) ?_
  rintro r o2 ⟨rfl,h2⟩
  obtain rfl:o2= .box x.row:=by simpa using h2
  refine(Bool.eq_false_or_eq_true b).elim (fun p=> ?_) (fun p=> ?_)
  ·rw[if_pos p]at hinv
   simp[go_sem,p]
   exact iret hinv
  rw[if_neg (by rw[p];decide)]at hinv
  simp[go_sem,p]
  refine wdraw_le [(9,0)] 3 (by simp) (by kernel_rfl) (by kernel_rfl) ?_
  simp[go_sem,hjl,hC]
  refine wVD_pure hcall Tryz.callB126 (fun _=>⟨argS_no rfl,arg_e x.e,argS_no rfl,trivial⟩) rfl ?_
  simp[go_sem]
  by_cases qe:kc=0
  ·have qe':(kc !=0)=false:=by simpa using qe
   rw[if_neg (fun h=>h qe)]at hinv
   simp[go_sem,qe',ei]
   exact next_i (i+1) ⟨by omega,⟨by omega,hinv⟩,at_n 2 (by simp[go_sem,hL]) rfl (st_T T st 2) (Nat.zero_le _) (args_lt_eq (by simp[go_sem]) rfl)⟩
  ·have qe':(kc !=0)=true:=by simpa using qe
   rw[if_pos qe]at hinv
   simp[go_sem,qe']
   exact iret hinv
 ·refine wVW_code ?_
  simp[go_sem,q,hx]
  refine wVC_pure hcol Tryz.callB127 (args_eq (by simp[go_sem]) rfl) rfl ?_
  simp[go_sem,qc',k1',k2',k3',hL]
  refine wneed_i ⟨hi,uni_map fun _=>rfl⟩ ?_
  simp[go_sem,←List.map_take]
  refine wVC_at 2 hhas Tryz.callB128 rfl (st_x x) ⟨argS_ro,.inl (by simp[renS,renA,renC,renK,ren]),trivial⟩ (fun r σ h=>⟨_,h.2,st_x x⟩) ?_
  rintro r o2 ⟨rfl,h2⟩
  obtain rfl:o2= .box x.row:=by simpa using h2
  refine(Bool.eq_false_or_eq_true b).elim (fun p=> ?_) (fun p=> ?_)
  ·rw[if_pos p]at hinv
   simp[go_sem,p]
   exact iret hinv
  rw[if_neg (by rw[p];decide)]at hinv
  simp[go_sem,p]
  refine wdraw_le [(9,0)] 3 (by simp) (by kernel_rfl) (by kernel_rfl) ?_
  simp[go_sem,hjl,hC]
  refine wVD_pure hcall Tryz.callB126 (fun _=>⟨argS_no rfl,arg_e x.e,argS_no rfl,trivial⟩) rfl ?_
  simp[go_sem]
  by_cases qe:kc=0
  ·have qe':(kc !=0)=false:=by simpa using qe
   rw[if_neg (fun h=>h qe)]at hinv
   simp[go_sem,qe',ei]
   exact next_i (i+1) ⟨by omega,⟨by omega,hinv⟩,at_n 2 (by simp[go_sem,hL]) rfl (st_T T st 2) (Nat.zero_le _) (args_lt_eq (by simp[go_sem]) rfl)⟩
  ·have qe':(kc !=0)=true:=by simpa using qe
   rw[if_pos qe]at hinv
   simp[go_sem,qe']
   exact iret hinv
def checkC (st:GStmt):Int:=
 match tabsS[(tabOf st.table).toNat]? with
 |none=>14
 |some T=>if tabOf st.table<0 then 14 else if st.kind=1 then chooseC T st else if st.kind=2 then rowsC T st.rows else if st.kind=3 then(if setsC T [] st.sets≠0 then setsC T [] st.sets else whereC T st)else whereC T st
set_option maxHeartbeats 1000000 in
theorem checkC_w (st:GStmt) (hs:SOk st):Pure Tryz.prog 31 [schR tabsS,.agg st.row] (.int .i64 (checkC st)):=by
 have hfi:=Find_w tabsS st.table (by decide)
 rw[show findF (fun t:GTable=>t.name==st.table) tabsS 0=tabOf st.table from rfl]at hfi
 generalize hM:checkC st=M
 unfold checkC at hM
 have htc:=tabOf_cases st.table
 generalize tabOf st.table=t at hfi htc hM
 refine VCalls.intro 0 Tryz.func31 Tryz.ntmps31 Tryz.results31 rfl rfl (Nat.le_of_ble_eq_true rfl) fun c hc hb=>wcode_of ?_
 simp[go_sem,schR]
 refine wVC_pure hfi Tryz.callB32 (args_eq (by simp[go_sem,schR]) rfl) rfl ?_
 simp[go_sem]
 by_cases htn:t= -1
 ·have hM:14=M:=by rw[←hM,htn];rfl
  subst htn
  simp[go_sem]
  exact iret hM
 have ht0: ¬t<0:=by omega
 have ht0':decide (t<0)=false:=decide_eq_false ht0
 obtain⟨j,rfl⟩: ∃j:Nat,t=j:=⟨t.toNat,by omega⟩
 have hj3:j<tabsS.length:=by show j<3;omega
 obtain⟨T,hT⟩: ∃T,tabsS[j]=T:=⟨_,rfl⟩
 have hTc:T.cols.length≤1000:=by
  rw[←hT]
  match j,hj3 with
  |0,_=>exact(by decide:tabT.cols.length≤1000)
  |1,_=>exact(by decide:tabG.cols.length≤1000)
  |2,_=>exact(by decide:tabH.cols.length≤1000)
 simp only[Int.toNat_natCast,List.getElem?_eq_getElem hj3,hT]at hM
 rw[if_neg ht0]at hM
 have h1:=choose_w T (by unfold maxLen;omega) st hs
 have h2:=insertC_w T hTc st hs
 have h3:=setsC_w T hTc st hs
 have h4:=whereC_w T (by unfold maxLen;omega) st hs
 simp[go_sem,ht0',hj3,hT]
 by_cases k1:st.kind=1
 ·have k1':(st.kind==1)=true:=by simpa using k1
  rw[if_pos k1]at hM
  simp[go_sem,k1']
  refine wVC_pure h1 Tryz.callB75 (args_eq (by simp[go_sem]) rfl) rfl ?_
  simp[go_sem]
  exact iret hM
 have k1':(st.kind==1)=false:=by simpa using k1
 rw[if_neg k1]at hM
 by_cases k2:st.kind=2
 ·have k2':(st.kind==2)=true:=by simpa using k2
  rw[if_pos k2]at hM
  simp[go_sem,k1',k2']
  refine wVC_pure h2 Tryz.callB76 (args_eq (by simp[go_sem]) rfl) rfl ?_
  simp[go_sem]
  exact iret hM
 have k2':(st.kind==2)=false:=by simpa using k2
 rw[if_neg k2]at hM
 by_cases k3:st.kind=3
 ·have k3':(st.kind==3)=true:=by simpa using k3
  rw[if_pos k3]at hM
  generalize setsC T [] st.sets=sc at h3 hM
  simp[go_sem,k1',k2',k3']
  refine wVC_pure h3 Tryz.callB77 (args_eq (by simp[go_sem]) rfl) rfl ?_
  by_cases qe:sc=0
  ·have qe':(sc !=0)=false:=by simpa using qe
   rw[if_neg (fun h=>h qe)]at hM
   simp[go_sem,qe']
   refine wVC_pure h4 Tryz.callB78 (args_eq (by simp[go_sem]) rfl) rfl ?_
   simp[go_sem]
   exact iret hM
  ·have qe':(sc !=0)=true:=by simpa using qe
   rw[if_pos qe]at hM
   simp[go_sem,qe']
   exact iret hM
 have k3':(st.kind==3)=false:=by simpa using k3
 rw[if_neg k3]at hM
 simp[go_sem,k1',k2',k3']
 refine wVC_pure h4 Tryz.callB78 (args_eq (by simp[go_sem]) rfl) rfl ?_
 simp[go_sem]
 exact iret hM
def checkL (mode:Int):List GStmt→Nat→Int×Int
 | [],_=>(0,0)
 |x::l,i=>if mode≠0∧x.kind≠1 then((i:Int),1)else if checkC x≠0 then((i:Int),checkC x)else checkL mode l (i+1)
def planC (l:GLot):Int×Int:=if mayL l=true then checkL l.mode l.stmts 0 else(0,9)
set_option maxHeartbeats 1000000 in
theorem planCheck_w (l:GLot) (hl:LOk l):Pure Tryz.prog 13 [schR tabsS,.agg l.row] (pairV (planC l)):=by
 have hmay:=treeMay_w l hl
 obtain⟨L,hL⟩: ∃L,l.stmts=L:=⟨_,rfl⟩
 obtain⟨hLl,hLs⟩:=hl.stmts
 rw[hL]at hLl hLs
 obtain⟨m,hm⟩: ∃m,l.mode=m:=⟨_,rfl⟩
 generalize hM:planC l=M
 unfold planC at hM
 rw[hL,hm]at hM
 generalize mayL l=b at hmay hM
 refine VCalls.introV 0 Tryz.func13 Tryz.ntmps13 Tryz.results13 rfl rfl (Nat.le_of_ble_eq_true rfl) fun c hc hb=> ?_
 refine wVW_code ?_
 simp[go_sem,schR]
 refine wVC_pure hmay Tryz.callB30 (args_eq (by simp[go_sem]) rfl) rfl ?_
 refine(Bool.eq_false_or_eq_true b).elim (fun p=> ?_) (fun p=> ?_)
 rotate_left
 ·rw[if_neg (by rw[p];decide)]at hM
  simp[go_sem,p]
  exact kind_ret hM
 rw[if_pos p]at hM
 simp[go_sem,p,hL]
 refine wVW_while (S:=Nat) [2,3,13,14,15] (fun i=> [.ptr 0 0,.ptr 1 0,.sl .ro (L.map GStmt.row),.int .i64 L.length,.int .i64 (i:Int)]) (fun _=> [.box [.sl .ro regsS,.sl .ro (tabsS.map GTable.row)],.box l.row]) (fun i=>L.length - i)
  (fun i=>i≤L.length∧checkL m (L.drop i) i=M) hc hb 0 ⟨Nat.zero_le _,hM⟩ ?_ ?_
 ·exact at_n 2 (by simp[go_sem,hL]) rfl (by simp[ltOb,ltC,ltK,GLot.row]) (Nat.zero_le _) (args_lt_eq (by simp[go_sem]) rfl)
 rintro i ⟨hi,hinv⟩
 by_cases q:i<L.length
 rotate_left
 ·rw[List.drop_eq_nil_of_le (by omega),checkL]at hinv
  refine wVW_code ?_
  simp[go_sem,q]
  exact kind_ret hinv
 have ei:=i64_inc q (by omega)
 obtain⟨st,hst⟩: ∃st,L[i]=st:=⟨_,rfl⟩
 have hcall:=checkC_w st (hLs st (hst▸List.getElem_mem q))
 rw[List.drop_eq_getElem_cons q,hst,checkL]at hinv
 generalize checkC st=ce at hcall hinv
 refine wVW_code ?_
 simp[go_sem,q,hst,hm]
 by_cases q1:m≠0∧st.kind≠1
 ·rw[if_pos q1]at hinv
  have q1a:(m !=0)=true:=by simpa using q1.1
  have q1b:(st.kind !=1)=true:=by simpa using q1.2
  simp[go_sem,q1a,q1b]
  exact kind_ret hinv
 rw[if_neg q1]at hinv
 have key:(m !=0)=false∨((m !=0)=true∧(st.kind !=1)=false):=by
  by_cases h:m=0
  ·exact .inl (by simpa using h)
  ·refine .inr ⟨by simpa using h, ?_⟩
   simp only[bne_eq_false_iff_eq]
   exact Classical.byContradiction fun g=>q1 ⟨h,g⟩
 refine key.elim (fun a1=> ?_) (fun⟨a1,a2⟩=> ?_)
 ·simp[go_sem,a1]
  refine wVC_pure hcall Tryz.callB31 (args_eq (by simp[go_sem,schR]) rfl) rfl ?_
  by_cases qe:ce=0
  ·have qe':(ce !=0)=false:=by simpa using qe
   rw[if_neg (fun h=>h qe)]at hinv
   simp[go_sem,qe',ei]
   exact next_i (i+1) ⟨by omega,⟨by omega,hinv⟩,at_n 2 (by simp[go_sem,hL,hm]) rfl (by simp[ltOb,ltC,ltK,GLot.row]) (Nat.zero_le _) (args_lt_eq (by simp[go_sem]) rfl)⟩
  ·have qe':(ce !=0)=true:=by simpa using qe
   rw[if_pos qe]at hinv
   simp[go_sem,qe']
   exact kind_ret hinv
 ·simp[go_sem,a1,a2]
  refine wVC_pure hcall Tryz.callB31 (args_eq (by simp[go_sem,schR]) rfl) rfl ?_
  by_cases qe:ce=0
  ·have qe':(ce !=0)=false:=by simpa using qe
   rw[if_neg (fun h=>h qe)]at hinv
   simp[go_sem,qe',ei]
   exact next_i (i+1) ⟨by omega,⟨by omega,hinv⟩,at_n 2 (by simp[go_sem,hL,hm]) rfl (by simp[ltOb,ltC,ltK,GLot.row]) (Nat.zero_le _) (args_lt_eq (by simp[go_sem]) rfl)⟩
  ·have qe':(ce !=0)=true:=by simpa using qe
   rw[if_pos qe]at hinv
   simp[go_sem,qe']
   exact kind_ret hinv
end Go.Proofs.YtajjjghohakniaaGreat
namespace Go.Proofs.YtajjjghohakniaaGreat
open Go Go.Vx R
set_option maxRecDepth 100000
def txA:List UInt8:= [83,69,76,69,67,84,32,42,32,70,82,79,77,32,84,32,87,72,69,82,69,32,75,32,62,61,32,51,32,65,78,68,32,75,32,60,32,53,32,65,78,68,32,82,32,61,32,49]
def txB:List UInt8:= [83,69,76,69,67,84,32,88,32,70,82,79,77,32,84]
def cutE (w:List UInt8) (name:List UInt8) (n:Int):GExpr:=opE w [namE name,valE ⟨2,n,[]⟩]
def whA:GExpr:=opE wAND [opE wAND [cutE [62,61] [75] 3,cutE [60] [75] 5],cutE [61] [82] 1]
def stA:GStmt:=⟨1,[84],[⟨1,zeroE⟩],[],[],true,whA,[],false,-1⟩
def stB:GStmt:=⟨1,[84],[⟨2,namE [88]⟩],[],[],false,zeroE,[],false,-1⟩
theorem readA:parseF txA=(⟨0,0,[stA]⟩,0,0):=by kernel_rfl
theorem readB:parseF txB=(⟨0,0,[stB]⟩,0,0):=by kernel_rfl
def needsF (l:GLot):US:=l.stmts.foldl (stepF fun _ _ U=>U) []
theorem planA:planC ⟨0,0,[stA]⟩=(0,0):=by kernel_rfl
theorem planB:planC ⟨0,0,[stB]⟩=(0,14):=by kernel_rfl
theorem needsA: ∃x:GSpan,needsF ⟨0,0,[stA]⟩= [(1,[x])]:=⟨_,rfl⟩
theorem Bd.more {n:Nat} {U:US} (h:Bd n U):Bd (n+1) U:=⟨by have:=h.1;omega,fun y hy=>by have:=h.2 y hy;omega⟩
theorem needsSel_w (l:GLot) (hl:l.stmts.length≤12) (hk: ∀st∈l.stmts,st.kind≠2∧st.rows.length≤20) (hv: ∀st∈l.stmts,VOk st):Pure Tryz.prog 15 [schR tabsS,.agg l.row] (.sl .ro ((needsF l).map uRow)):=by
 refine Needs_w (fun _ _ U=>U) (fun _ _ _ _ h=>h.more) l (by unfold maxLen;omega) hv ?_ (fun st hst=>by have:=(hk st hst).2;unfold maxLen;omega) (fun st hst h2=>absurd h2 (hk st hst).1)
 have: ∀L:List GStmt,(∀st∈L,st.kind≠2)→(L.map cntF).sum=2*L.length:=by
  intro L
  induction L with
  |nil=>intro _;rfl
  |cons x L ih=>
   intro h
   rw[List.map_cons,List.sum_cons,ih (fun st hst=>h st (List.mem_cons_of_mem _ hst)),List.length_cons]
   have:cntF x=2:=by unfold cntF;rw[if_neg (h x (List.mem_cons_self ..))]
   omega
 rw[this _ (fun st hst=>(hk st hst).1)]
 omega
theorem vok_all {st:GStmt} (h:(conjF st).all (fun e=>(e.args.all fun a=>decide (-9223372036854775808≤a.v.kind∧a.v.kind≤9223372036854775807∧ -9223372036854775808≤a.v.n∧a.v.n≤9223372036854775807∧a.v.s.length≤500)))=true):VOk st:=fun e he name s v ha=>by
 have h1:=List.all_eq_true.1 h e he
 have hin: ∃a∈e.args,a.v=v:=by
  unfold against at ha
  split at ha
  ·rename_i a b heq hab
   rw[hab]
   split at ha
   ·split at ha
    ·cases ha;exact⟨a,by simp,rfl⟩
    ·cases ha
   ·split at ha
    ·cases ha;exact⟨b,by simp,rfl⟩
    ·cases ha
  ·cases ha
 obtain⟨a,ham,rfl⟩:=hin
 have h2:=List.all_eq_true.1 h1 a ham
 simp only[decide_eq_true_eq]at h2
 exact⟨⟨h2.1,h2.2.1⟩,⟨h2.2.2.1,h2.2.2.2.1⟩,by unfold maxLen;omega⟩
theorem parse_lok {s:List UInt8} {l:GLot} {a b:Int} (h:parseF s=(l,a,b)):LOk l:=by
 have:=parse_ok s
 rw[h]at this
 exact this
set_option maxHeartbeats 1000000 in
theorem begun_w:Pure Tryz.prog 8 [] (.bool true):=by
 have hla:=Lot_w txA (by decide)
 have hlb:=Lot_w txB (by decide)
 rw[readA]at hla
 rw[readB]at hlb
 have hca:=planCheck_w ⟨0,0,[stA]⟩ (parse_lok readA)
 have hcb:=planCheck_w ⟨0,0,[stB]⟩ (parse_lok readB)
 rw[planA]at hca
 rw[planB]at hcb
 have hn:=needsSel_w ⟨0,0,[stA]⟩ (by decide) (fun st hst=>by simp at hst;subst hst;exact⟨by decide,by decide⟩) (fun st hst=>by simp at hst;subst hst;exact vok_all (by kernel_rfl))
 obtain⟨x,hx⟩:=needsA
 rw[hx]at hn
 obtain⟨lA,hlA⟩: ∃l:GLot,l=⟨0,0,[stA]⟩:=⟨_,rfl⟩
 obtain⟨lB,hlB⟩: ∃l:GLot,l=⟨0,0,[stB]⟩:=⟨_,rfl⟩
 rw[←hlA]at hla hca hn
 rw[←hlB]at hlb hcb
 have hsc:=Schema_w
 refine VCalls.intro 0 Tryz.func8 Tryz.ntmps8 Tryz.results8 rfl rfl (Nat.le_of_ble_eq_true rfl) fun c hc hb=>wcode_of ?_
 simp[go_sem]
 refine wVC_pure hsc Tryz.callB10 (args_no rfl) rfl ?_
 simp[go_sem,schS]
 refine wVC_pure hla Tryz.callB11 (args_no rfl) rfl ?_
 simp[go_sem]
 refine wVC_pure hca Tryz.callB13 ⟨schS_arg,argS_no rfl,trivial⟩ rfl ?_
 simp[go_sem,pairV]
 refine wVC_pure hn Tryz.callB15 ⟨schS_arg,argS_no rfl,trivial⟩ rfl ?_
 simp[go_sem]
 refine wdraw_le [(1,0),(2,0)] 2 (by simp) (by kernel_rfl) (by kernel_rfl) ?_
 simp[go_sem]
 refine wVD_pure hlb Tryz.callB11 (fun _=>args_no rfl) rfl ?_
 simp[go_sem]
 refine wVD_pure hcb Tryz.callB13 (fun _=>⟨schS_arg,argS_no rfl,trivial⟩) rfl ?_
 simp[go_sem,pairV]
 exact wret_0 (argS_no rfl) ⟨rfl,rfl⟩
end Go.Proofs.YtajjjghohakniaaGreat
namespace Go.Proofs.YtajjjghohakniaaGreat
open Go Go.Vx R
set_option maxRecDepth 100000
def needsG (l:GLot):US:=l.stmts.foldl (stepF rowS) []
theorem bfs_good: ∀(n:Nat) (q l:List GExpr),(∀e∈q,Good e)→(∀e∈l,Good e)→ ∀e∈bfs n q l,Good e
 |0,_,_,_,hl=>hl
 |n+1,[],_,_,hl=>by rw[bfs];exact hl
 |n+1,x::q,l,hq,hl=>by
  have hx:=hq x (List.mem_cons_self ..)
  have hq': ∀e∈q,Good e:=fun e he=>hq e (List.mem_cons_of_mem _ he)
  rw[bfs]
  split
  ·exact bfs_good n _ _ (fun e he=>by
    rcases List.mem_append.1 he with he|he
    ·exact hq' e he
    ·exact hx.sub e he) hl
  ·exact bfs_good n _ _ hq' (fun e he=>by
    rcases List.mem_append.1 he with he|he
    ·exact hl e he
    ·rw[List.mem_singleton]at he;subst he;exact hx)
theorem vok_good {st:GStmt} (h:Good st.where_):VOk st:=fun e he name s v ha=>by
 have hg:Good e:=by
  unfold conjF at he
  split at he
  ·exact bfs_good 4096 [st.where_] [] (fun e he=>by rw[List.mem_singleton]at he;subst he;exact h) (fun e he=>by cases he) e he
  ·cases he
 have hin: ∃a∈e.args,a.v=v:=by
  unfold against at ha
  split at ha
  ·rename_i a b heq hab
   rw[hab]
   split at ha
   ·split at ha
    ·cases ha;exact⟨a,by simp,rfl⟩
    ·cases ha
   ·split at ha
    ·cases ha;exact⟨b,by simp,rfl⟩
    ·cases ha
  ·cases ha
 obtain⟨a,ham,rfl⟩:=hin
 exact(hg.sub a ham).v
theorem needsG_w (l:GLot) (hl:l.stmts.length≤24) (hs: ∀st∈l.stmts,SOk st):Pure Tryz.prog 15 [schR tabsS,.agg l.row] (.sl .ro ((needsG l).map uRow)):=by
 refine Needs_w rowS (fun t r n U h=>rowS_bd t r n U h) l (by unfold maxLen;omega) (fun st hst=>vok_good (hs st hst).where_.good) ?_ (fun st hst=>by have:=(hs st hst).rows.1;unfold maxLen;omega) (fun st hst hk ht=> ?_)
 ·have: ∀L:List GStmt,(∀st∈L,SOk st)→(L.map cntF).sum≤20*L.length:=by
   intro L
   induction L with
   |nil=>intro _;exact Nat.le_refl _
   |cons x L ih=>
    intro h
    have h1:=ih (fun st hst=>h st (List.mem_cons_of_mem _ hst))
    have h2:=(h x (List.mem_cons_self ..)).rows.1
    rw[List.map_cons,List.sum_cons,List.length_cons]
    have:cntF x≤20:=by unfold cntF;split<;>omega
    omega
  have:=this _ hs
  omega
 ·intro r hr N A hN hB
  obtain⟨hr1,hr2⟩:=(hs st hst).rows.2 r hr
  have htc:=tabOf_cases st.table
  obtain⟨tn,htn⟩: ∃tn:Nat,tabOf st.table=(tn:Int):=⟨(tabOf st.table).toNat,by omega⟩
  rw[htn]at htc⊢
  have htl:tn<tabsS.length:=by show tn<3;omega
  exact row_w tn _ (List.getElem?_eq_getElem htl) r (by omega) hr2 N A hN hB
end Go.Proofs.YtajjjghohakniaaGreat
