/-
  The document's reader of lots, whole, over trees (the library Vx); used by the theorem at the end of the claim.
  Conditions: as each theorem states them.
-/
import Derived.Test.YtajjjghohakniaaGreatLAY
namespace Go.Proofs.YtajjjghohakniaaGreat
open Go Go.Vx
set_option maxRecDepth 100000
def yf3 (i:Nat) (w:List UInt8):TR:=if 64<w.length then(zj9,0,3)else(⟨3,0,w,0⟩,i+1,0)
def zg5:Nat→List UInt8→List UInt8→TR
 |_,_,[]=>(zj9,0,13)
 |i,w,[c]=>if c.toNat=39 then yf3 i w else(zj9,0,13)
 |i,w,c::c2::l=>if c.toNat=39 then(if c2.toNat=39 then zg5 (i+2) (w++ [c2]) l else yf3 i w)else zg5 (i+1) (w++ [c]) (c2::l)
theorem yB6 (i:Nat) (w:List UInt8) (c:UInt8) (l:List UInt8) (h: ¬c.toNat=39):zg5 i w (c::l)=zg5 (i+1) (w++ [c]) l:=by
 cases l with
 |nil=>rw[zg5,zg5,if_neg h]
 |cons c2 l=>rw[zg5,if_neg h]
set_option maxHeartbeats 1000000 in
theorem yN4 (s:List UInt8) (hl:s.length≤maxLen) (a:Nat) (ha:a<s.length):Pure Tryz.prog 158 [.str s,.int .i64 a] (trV (zg5 (a+1) [] (s.drop (a+1)))):=by
 generalize hM:zg5 (a+1) [] (s.drop (a+1))=M
 unfold maxLen at hl
 have ea:IntKind.i64.wrap ((a:Int)+1)=((a+1:Nat):Int):=zU ha (by omega)
 refine VCalls.introV 0 Tryz.func158 Tryz.ntmps158 Tryz.results158 rfl rfl (Nat.le_of_ble_eq_true rfl) fun c hc hb=> ?_
 refine zC ?_
 simp[go_sem,ea]
 refine zN (S:=Nat×List UInt8) [0,4,7,8] (fun u=> [.str s,.ptr 0 0,.str u.2,.int .i64 u.1]) (fun _=> [.box [.int .i64 0,.int .i64 0,.str [],.int .i64 0]]) (fun u=>s.length - u.1)
  (fun u=>u.1≤s.length∧u.2.length≤u.1∧zg5 u.1 u.2 (s.drop u.1)=M) hc hb (a+1,[]) ⟨ha,Nat.zero_le _,hM⟩ ?_ ?_
 ·exact at_n 1 (by simp[go_sem]) rfl (by rfl) (Nat.zero_le _) (zE (by simp[go_sem]) rfl)
 rintro⟨i,w⟩ ⟨hi,hw,hinv⟩
 simp only at hi hw hinv
 by_cases q:i<s.length
 rotate_left
 ·obtain rfl:i=s.length:=by omega
  rw[List.drop_length]at hinv
  refine zC ?_
  simp[go_sem]
  exact zb3 (t:=zj9) hinv
 have ei:=zU q (by omega)
 obtain⟨x,hx⟩: ∃x,s[i]=x:=⟨_,rfl⟩
 have hx39:=zY9 x 39
 simp only[Int.cast_ofNat_Int]at hx39
 rw[List.drop_eq_getElem_cons q,hx]at hinv
 by_cases q39:x.toNat=39
 rotate_left
 ·rw[decide_eq_false q39]at hx39
  rw[yB6 _ _ _ _ q39]at hinv
  have hsl:(s.take (i+1)).drop i= [x]:=by
   rw[List.take_add_one,List.getElem?_eq_getElem q,hx,List.drop_append,List.drop_eq_nil_of_le (by simp;omega),List.length_take,Nat.min_eq_left (by omega)]
   simp
  refine zC ?_
  simp[go_sem,q,hx,hx39,ei]
  refine zO (by omega) ?_
  simp[go_sem,hsl]
  refine zO (by omega) ?_
  simp[go_sem,ei]
  refine zP (i+1,w++ [x]) ⟨by simp only;omega,⟨by simp only;omega,by simp;omega,hinv⟩, ?_⟩
  exact at_n 1 (by simp[go_sem]) rfl (by rfl) (Nat.zero_le _) (zE (by simp[go_sem]) rfl)
 rw[decide_eq_true q39]at hx39
 by_cases q2:i+1<s.length
 rotate_left
 ·have hdn:s.drop (i+1)= []:=List.drop_eq_nil_of_le (by omega)
  rw[hdn,zg5,if_pos q39]at hinv
  unfold yf3 at hinv
  have e1:((i:Int)+1==(s.length:Int))=true:=by simp;omega
  refine zC ?_
  simp[go_sem,q,hx,hx39,ei,e1]
  by_cases q64:64<w.length
  ·have q64':decide ((64:Int)<w.length)=true:=decide_eq_true (by omega)
   rw[if_pos q64]at hinv
   simp[go_sem,q64']
   exact zb3 (t:=zj9) hinv
  ·have q64':decide ((64:Int)<w.length)=false:=decide_eq_false (by omega)
   rw[if_neg q64]at hinv
   simp[go_sem,q64',ei]
   exact zb3 (t:=⟨3,0,w,0⟩) hinv
 have e1:((i:Int)+1==(s.length:Int))=false:=by simp;omega
 have ei2:=zU q2 (by omega)
 obtain⟨y,hy⟩: ∃y,s[i+1]=y:=⟨_,rfl⟩
 have hy39:=zY9 y 39
 simp only[Int.cast_ofNat_Int]at hy39
 have hy2:s[i+1]?.getD 0=y:=by rw[List.getElem?_eq_getElem q2,hy];rfl
 have ei3:IntKind.i64.wrap ((i:Int)+1+1)=(i:Int)+2:=by rw[i64_id (by omega) (by omega)];omega
 rw[List.drop_eq_getElem_cons q2,hy,zg5,if_pos q39]at hinv
 by_cases qy:y.toNat=39
 rotate_left
 ·rw[if_neg qy]at hinv
  unfold yf3 at hinv
  rw[decide_eq_false qy]at hy39
  have hy39':((y.toNat:Int) !=39)=true:=by simp;omega
  refine zC ?_
  simp[go_sem,q,hx,hx39,ei,e1]
  refine zO (by omega) ?_
  simp[go_sem,hy2,hy39']
  by_cases q64:64<w.length
  ·have q64':decide ((64:Int)<w.length)=true:=decide_eq_true (by omega)
   rw[if_pos q64]at hinv
   simp[go_sem,q64']
   exact zb3 (t:=zj9) hinv
  ·have q64':decide ((64:Int)<w.length)=false:=decide_eq_false (by omega)
   rw[if_neg q64]at hinv
   simp[go_sem,q64',ei]
   exact zb3 (t:=⟨3,0,w,0⟩) hinv
 rw[if_pos qy]at hinv
 rw[decide_eq_true qy]at hy39
 have hy39':((y.toNat:Int) !=39)=false:=by simp;omega
 have hsl:(s.take (i+2)).drop (i+1)= [y]:=by
  rw[List.take_add_one,List.getElem?_eq_getElem q2,hy,List.drop_append,List.drop_eq_nil_of_le (by simp;omega),List.length_take,Nat.min_eq_left (by omega)]
  simp
 refine zC ?_
 simp[go_sem,q,hx,hx39,ei,e1]
 have et:((i:Int)+2).toNat=i+2:=by omega
 have ei4:IntKind.i64.wrap ((i:Int)+1+1)=((i+2:Nat):Int):=by rw[ei3];omega
 refine zO (by omega) ?_
 simp[go_sem,hy2,hy39',ei,ei3,et]
 refine zO (by omega) ?_
 simp[go_sem,hsl]
 refine zO (by omega) ?_
 simp[go_sem,ei3]
 refine zP (i+2,w++ [y]) ⟨by simp only;omega,⟨by simp only;omega,by simp;omega,hinv⟩, ?_⟩
 exact at_n 1 (by simp[go_sem]) rfl (by rfl) (Nat.zero_le _) (zE (by simp[go_sem]) rfl)
def wrdF (c:UInt8):Bool:=wR c||wB c
def signsL:List UInt8:= [40,41,44,59,42,61,60,62,43,45,47,37]
def oneF (s:List UInt8) (a:Nat):TR:=
 if wR (s.getD a 0)=true then(⟨1,0,((s.drop a).takeWhile wrdF).map yI,0⟩,a+((s.drop a).takeWhile wrdF).length,0)
 else if wB (s.getD a 0)=true then numT a (s.drop a)
 else if(s.getD a 0).toNat=39 then zg5 (a+1) [] (s.drop (a+1))
 else if a+1<s.length∧((s.drop a).take 2= [60,61]∨(s.drop a).take 2= [62,61]∨(s.drop a).take 2= [60,62])then(⟨4,0,(s.drop a).take 2,0⟩,a+2,0)
 else if signsL.contains (s.getD a 0)=true then(⟨4,0,[s.getD a 0],0⟩,a+1,0)
 else(zj9,0,13)
set_option maxHeartbeats 2000000 in
theorem xb2 (s:List UInt8) (hl:s.length≤maxLen) (a:Nat) (ha:a<s.length):Pure Tryz.prog 113 [.str s,.int .i64 a] (trV (oneF s a)):=by
 generalize hM:oneF s a=M
 have hnum:=ys5 s hl a (by omega)
 have htxt:=yN4 s hl a ha
 unfold oneF at hM
 unfold maxLen at hl
 have hga:s.getD a 0=s[a]:=by rw[List.getD_eq_getElem?_getD,List.getElem?_eq_getElem ha];rfl
 rw[hga]at hM
 obtain⟨x,hx⟩: ∃x,s[a]=x:=⟨_,rfl⟩
 rw[hx]at hM
 have hlt:=zt9 x
 have hdg:=zs1 x
 generalize numT a (s.drop a)=n at hnum hM
 generalize zg5 (a+1) [] (s.drop (a+1))=t at htxt hM
 have ret: ∀(y:TR) (τ:St),y=M→wret (some (.tup [.agg [.int .i64 y.1.kind,.int .i64 y.1.place,.str y.1.s,.int .i64 y.1.n],.int .i64 y.2.1,.int .i64 y.2.2])) 0 (fun r σ=>r=trV M∧σ= []) τ:=fun y τ h=>zb3 (t:=y.1) h
 refine VCalls.introV 0 Tryz.func113 Tryz.ntmps113 Tryz.results113 rfl rfl (Nat.le_of_ble_eq_true rfl) fun c hc hb=> ?_
 refine zC ?_
 simp[go_sem,ha,hx]
 by_cases q1:wR x=true
 ·rw[if_pos q1]at hM
  rw[q1]at hlt
  refine zD hlt Tryz.callB154 (zG rfl) rfl ?_
  simp[go_sem]
  refine zN (S:=Nat×List UInt8) [0,1,4,7] (fun u=> [.str s,.int .i64 u.1,.ptr 0 0,.str u.2]) (fun _=> [.box [.int .i64 0,.int .i64 0,.str [],.int .i64 0]]) (fun u=>s.length - u.1)
   (fun u=>u.1≤s.length∧u.2.length≤u.1∧((⟨1,0,u.2++((s.drop u.1).takeWhile wrdF).map yI,0⟩,u.1+((s.drop u.1).takeWhile wrdF).length,0):TR)=M) hc hb (a,[]) ⟨by simp only;omega,Nat.zero_le _,hM⟩ ?_ ?_
  ·exact at_n 1 (by simp[go_sem]) rfl (by rfl) (Nat.zero_le _) (zE (by simp[go_sem]) rfl)
  rintro⟨i,w⟩ ⟨hi,hw,hinv⟩
  simp only at hi hw hinv
  by_cases q:i<s.length
  rotate_left
  ·obtain rfl:i=s.length:=by omega
   rw[List.drop_length]at hinv
   simp only[List.takeWhile_nil,List.map_nil,List.append_nil,List.length_nil,Nat.add_zero]at hinv
   refine zC ?_
   simp[go_sem]
   exact zb3 (t:=⟨1,0,w,0⟩) hinv
  have ei:=zU q (by omega)
  obtain⟨y,hy⟩: ∃y,s[i]=y:=⟨_,rfl⟩
  rw[List.drop_eq_getElem_cons q,hy]at hinv
  have hl2:=zt9 y
  have hd2:=zs1 y
  have hg2:=yh4 y
  have yes:wrdF y=true→((⟨1,0,(w++ [yI y])++((s.drop (i+1)).takeWhile wrdF).map yI,0⟩,i+1+((s.drop (i+1)).takeWhile wrdF).length,0):TR)=M:=fun h=>by
   rw[List.takeWhile_cons_of_pos h]at hinv
   rw[←hinv,List.map_cons,List.append_assoc,List.length_cons,Nat.add_assoc i 1,Nat.add_comm 1]
   rfl
  have no:wrdF y=false→((⟨1,0,w,0⟩,i,0):TR)=M:=fun h=>by
   rw[List.takeWhile_cons_of_neg (by rw[h];decide)]at hinv
   rw[←hinv]
   simp
  have hib:zJ8 [[V.int .u8 ((yI y).toNat:Int)]]:=wX [yI y]
  have hrb:zp9 [V.int .u8 ((yI y).toNat:Int)]=yI y:=(List.cons.inj (zm6 [yI y])).1
  refine zC ?_
  simp[go_sem,q,hy]
  refine zD hl2 Tryz.callB154 (zG rfl) rfl ?_
  refine(Bool.eq_false_or_eq_true (wR y)).elim (fun p1=> ?_) (fun p1=> ?_)
  ·have hyes:=yes (by unfold wrdF;rw[p1];rfl)
   simp[go_sem,p1,q,hy]
   refine zD hg2 Tryz.callB156 (zG rfl) rfl ?_
   simp[go_sem]
   refine zO hib ?_
   simp[go_sem,hrb]
   refine zO (by omega) ?_
   simp[go_sem,ei]
   refine zP (i+1,w++ [yI y]) ⟨by simp only;omega,⟨by simp only;omega,by simp;omega,hyes⟩, ?_⟩
   exact at_n 1 (by simp[go_sem]) rfl (by rfl) (Nat.zero_le _) (zE (by simp[go_sem]) rfl)
  refine(Bool.eq_false_or_eq_true (wB y)).elim (fun p2=> ?_) (fun p2=> ?_)
  ·have hyes:=yes (by unfold wrdF;rw[p1,p2];rfl)
   simp[go_sem,p1,q,hy]
   refine zD hd2 Tryz.callB155 (zG rfl) rfl ?_
   simp[go_sem,p2,q,hy]
   refine zD hg2 Tryz.callB156 (zG rfl) rfl ?_
   simp[go_sem]
   refine zO hib ?_
   simp[go_sem,hrb]
   refine zO (by omega) ?_
   simp[go_sem,ei]
   refine zP (i+1,w++ [yI y]) ⟨by simp only;omega,⟨by simp only;omega,by simp;omega,hyes⟩, ?_⟩
   exact at_n 1 (by simp[go_sem]) rfl (by rfl) (Nat.zero_le _) (zE (by simp[go_sem]) rfl)
  ·have hno:=no (by unfold wrdF;rw[p1,p2];rfl)
   simp[go_sem,p1,q,hy]
   refine zD hd2 Tryz.callB155 (zG rfl) rfl ?_
   simp[go_sem,p2]
   exact zb3 (t:=⟨1,0,w,0⟩) hno
 have q1:wR x=false:=by simpa using q1
 rw[if_neg (by rw[q1];decide)]at hM
 rw[q1]at hlt
 refine zD hlt Tryz.callB154 (zG rfl) rfl ?_
 simp[go_sem,ha,hx]
 by_cases q2:wB x=true
 ·rw[if_pos q2]at hM
  rw[q2]at hdg
  refine zD hdg Tryz.callB155 (zG rfl) rfl ?_
  simp[go_sem]
  refine zD hnum Tryz.callB157 (zG rfl) (yk5 _) ?_
  simp[go_sem,trV]
  exact ret _ _ hM
 have q2:wB x=false:=by simpa using q2
 rw[if_neg (by rw[q2];decide)]at hM
 rw[q2]at hdg
 refine zD hdg Tryz.callB155 (zG rfl) rfl ?_
 simp[go_sem,ha,hx]
 have hx39:=zY9 x 39
 simp only[Int.cast_ofNat_Int]at hx39
 by_cases q3:x.toNat=39
 ·rw[if_pos q3]at hM
  rw[decide_eq_true q3]at hx39
  simp[go_sem,hx39]
  refine zD htxt Tryz.callB158 (zG rfl) (yk5 _) ?_
  simp[go_sem,trV]
  exact ret _ _ hM
 rw[if_neg q3]at hM
 rw[decide_eq_false q3]at hx39
 simp[go_sem,hx39]
 have hey: ∀(y:UInt8),((y.toNat:Int)==(x.toNat:Int))=(y==x):=fun y=>by
  rw[Bool.eq_iff_iff]
  simp only[beq_iff_eq]
  exact⟨fun h=>UInt8.toNat_inj.1 (by omega),fun h=>by rw[h]⟩
 have ea:IntKind.i64.wrap ((a:Int)+1)=((a+1:Nat):Int):=zU ha (by omega)
 have hsl1:(s.take (a+1)).drop a= [x]:=by
  rw[List.take_add_one,List.getElem?_eq_getElem ha,hx,List.drop_append,List.drop_eq_nil_of_le (by simp;omega),List.length_take,Nat.min_eq_left (by omega)]
  simp
 by_cases qa:a+1<s.length
 rotate_left
 ·have qa':decide ((a:Int)+1<s.length)=false:=decide_eq_false (by omega)
  rw[if_neg (fun h=>qa h.1)]at hM
  simp[go_sem,ea,qa']
  refine zN (S:=Nat) [0,1,4,9] (fun k=> [.str s,.int .i64 a,.ptr 0 0,.int .i64 (k:Int)]) (fun _=> [.box [.int .i64 0,.int .i64 0,.str [],.int .i64 0]]) (fun k=>12 - k)
   (fun k=>k≤12∧(if(signsL.drop k).contains x=true then(⟨4,0,[x],0⟩,a+1,0)else(zj9,0,13):TR)=M) hc hb 0 ⟨Nat.zero_le _,hM⟩ ?_ ?_
  ·exact at_n 1 (by simp[go_sem]) rfl (by rfl) (Nat.zero_le _) (zE (by simp[go_sem]) rfl)
  rintro k ⟨hk,hinv⟩
  by_cases qk:k<12
  rotate_left
  ·obtain rfl:k=12:=by omega
   refine zC ?_
   simp[go_sem]
   exact zb3 (t:=zj9) hinv
  have hkl:k<signsL.length:=qk
  have ek:=zU qk (by decide)
  have qk':decide ((k:Int)<12)=true:=decide_eq_true (by omega)
  obtain⟨y,hy⟩: ∃y,signsL[k]=y:=⟨_,rfl⟩
  rw[List.drop_eq_getElem_cons hkl,hy]at hinv
  have hy2: [40,41,44,59,42,61,60,62,43,45,47,37][k]?.getD (0:UInt8)=y:=by
   have:signsL[k]?.getD 0=y:=by rw[List.getElem?_eq_getElem hkl,hy];rfl
   exact this
  refine zC ?_
  simp[go_sem,qk']
  refine zi5 [] 1 (by simp) (by kernel_rfl) (by kernel_rfl) ?_
  simp[go_sem]
  refine zO (by omega) ?_
  simp[go_sem,ha,hx,hy2,hey]
  by_cases qe:(y==x)=true
  ·have hyx:y=x:=by simpa using qe
   rw[if_pos (by simp[hyx])]at hinv
   simp[go_sem,qe,ea]
   refine zO (by omega) ?_
   simp[go_sem,hsl1,ea]
   exact zb3 (t:=⟨4,0,[x],0⟩) hinv
  ·have qe:(y==x)=false:=by simpa using qe
   have hc2:(y::signsL.drop (k+1)).contains x=(signsL.drop (k+1)).contains x:=by
    rw[List.contains_cons,show(x==y)=false by rw[←qe];exact Bool.eq_iff_iff.2 ⟨fun h=>by simp_all,fun h=>by simp_all⟩]
    rfl
   rw[hc2]at hinv
   simp[go_sem,qe,ek]
   exact zP (k+1) ⟨by omega,⟨by omega,hinv⟩,at_n 1 (by simp[go_sem]) rfl (by rfl) (Nat.zero_le _) (zE (by simp[go_sem]) rfl)⟩
 have qa':decide ((a:Int)+1<s.length)=true:=decide_eq_true (by omega)
 have ea2:IntKind.i64.wrap ((a:Int)+2)=(a:Int)+2:=by rw[i64_id (by omega) (by omega)]
 have et:((a:Int)+2).toNat=a+2:=by omega
 have hd2:(s.drop a).take 2=(s.take (a+2)).drop a:=by rw[List.drop_take];congr 1;omega
 rw[hd2]at hM
 simp[go_sem,ea,ea2,et,qa']
 refine zO (by omega) ?_
 simp[go_sem]
 generalize (s.take (a+2)).drop a=two at hM
 have yes:(two= [60,61]∨two= [62,61]∨two= [60,62])→((⟨4,0,two,0⟩,a+2,0):TR)=M:=fun h=>by rw[if_pos ⟨qa,h⟩]at hM;exact hM
 have no: ¬(two= [60,61]∨two= [62,61]∨two= [60,62])→(if signsL.contains x=true then(⟨4,0,[x],0⟩,a+1,0)else(zj9,0,13):TR)=M:=fun h=>by rw[if_neg (fun hh=>h hh.2)]at hM;exact hM
 clear hM
 by_cases qt:two= [60,61]∨two= [62,61]∨two= [60,62]
 ·have hM:=yes qt
  rcases qt with rfl|rfl|rfl
  all_goals simp[go_sem,ea2]
  all_goals exact zb3 (t:=⟨4,0,_,0⟩) hM
 ·have hM:=no qt
  have p1:(two== [60,61])=false:=by simpa using fun h=>qt (.inl h)
  have p2:(two== [62,61])=false:=by simpa using fun h=>qt (.inr (.inl h))
  have p3:(two== [60,62])=false:=by simpa using fun h=>qt (.inr (.inr h))
  clear yes no qt
  simp[go_sem,p1,p2,p3]
  refine zN (S:=Nat) [0,1,4,9] (fun k=> [.str s,.int .i64 a,.ptr 0 0,.int .i64 (k:Int)]) (fun _=> [.box [.int .i64 0,.int .i64 0,.str [],.int .i64 0]]) (fun k=>12 - k)
   (fun k=>k≤12∧(if(signsL.drop k).contains x=true then(⟨4,0,[x],0⟩,a+1,0)else(zj9,0,13):TR)=M) hc hb 0 ⟨Nat.zero_le _,hM⟩ ?_ ?_
  ·exact at_n 1 (by simp[go_sem]) rfl (by rfl) (Nat.zero_le _) (zE (by simp[go_sem]) rfl)
  rintro k ⟨hk,hinv⟩
  by_cases qk:k<12
  rotate_left
  ·obtain rfl:k=12:=by omega
   refine zC ?_
   simp[go_sem]
   exact zb3 (t:=zj9) hinv
  have hkl:k<signsL.length:=qk
  have ek:=zU qk (by decide)
  have qk':decide ((k:Int)<12)=true:=decide_eq_true (by omega)
  obtain⟨y,hy⟩: ∃y,signsL[k]=y:=⟨_,rfl⟩
  rw[List.drop_eq_getElem_cons hkl,hy]at hinv
  have hy2: [40,41,44,59,42,61,60,62,43,45,47,37][k]?.getD (0:UInt8)=y:=by
   have:signsL[k]?.getD 0=y:=by rw[List.getElem?_eq_getElem hkl,hy];rfl
   exact this
  refine zC ?_
  simp[go_sem,qk']
  refine zi5 [] 1 (by simp) (by kernel_rfl) (by kernel_rfl) ?_
  simp[go_sem]
  refine zO (by omega) ?_
  simp[go_sem,ha,hx,hy2,hey]
  by_cases qe:(y==x)=true
  ·have hyx:y=x:=by simpa using qe
   rw[if_pos (by simp[hyx])]at hinv
   simp[go_sem,qe,ea]
   refine zO (by omega) ?_
   simp[go_sem,hsl1,ea]
   exact zb3 (t:=⟨4,0,[x],0⟩) hinv
  ·have qe:(y==x)=false:=by simpa using qe
   have hc2:(y::signsL.drop (k+1)).contains x=(signsL.drop (k+1)).contains x:=by
    rw[List.contains_cons,show(x==y)=false by rw[←qe];exact Bool.eq_iff_iff.2 ⟨fun h=>by simp_all,fun h=>by simp_all⟩]
    rfl
   rw[hc2]at hinv
   simp[go_sem,qe,ek]
   exact zP (k+1) ⟨by omega,⟨by omega,hinv⟩,at_n 1 (by simp[go_sem]) rfl (by rfl) (Nat.zero_le _) (zE (by simp[go_sem]) rfl)⟩
end Go.Proofs.YtajjjghohakniaaGreat
namespace Go.Proofs.YtajjjghohakniaaGreat
open Go Go.Vx
set_option maxRecDepth 100000
def lexL (s:List UInt8):Nat→Nat→List GToken→List GToken×Int
 |0,_,_=>([],0)
 |n+1,a,l=>
  if a<s.length then
   (if zH1 (s.getD a 0)=true then lexL s n (a+1) l
   else if(oneF s a).2.2=0 then lexL s n (oneF s a).2.1 (l++ [{(oneF s a).1 with place:=a}])else([],(oneF s a).2.2))
  else(l++ [⟨0,s.length,[],0⟩],0)
def lexF (s:List UInt8):List GToken×Int:=if 2000<s.length then([],3)else lexL s (s.length+1) 0 []
theorem yr4: ∀(l:List UInt8) (v r:Int),0≤v→v≤9223372036854775807→numL v l=some r→0≤r∧r≤9223372036854775807
 | [],v,r,h0,h1,h=>by rw[numL]at h;cases h;exact⟨h0,h1⟩
 |c::l,v,r,h0,h1,h=>by
  rw[numL]at h
  split at h
  ·rename_i hd
   have hr:=zU5 hd
   split at h
   ·cases h
   ·exact yr4 l _ r (by omega) (by omega) h
  ·cases h;exact⟨h0,h1⟩
theorem zY8: ∀(k:Nat) (l:List UInt8),l.length≤k→ ∀(i:Nat) (w:List UInt8),(zg5 i w l).2.2=0→i<(zg5 i w l).2.1∧(zg5 i w l).2.1≤i+l.length∧(zg5 i w l).1.s.length≤64∧(zg5 i w l).1.n=0
 |0,l,hk,i,w,h=>by
  have:l= []:=List.eq_nil_of_length_eq_zero (by omega)
  subst this
  simp[zg5]at h
 |k+1,l,hk,i,w,h=>by
  match l,hk with
  | [],_=>simp[zg5]at h
  | [c],_=>
   rw[zg5]at h⊢
   split at h
   ·rename_i hc
    rw[if_pos hc]
    unfold yf3 at h⊢
    split at h
    ·simp at h
    ·rename_i h64
     rw[if_neg h64]
     exact⟨by simp,by simp,by simp only;omega,rfl⟩
   ·simp at h
  |c::c2::l,hk=>
   rw[zg5]at h⊢
   split at h
   ·rename_i hc
    rw[if_pos hc]
    split at h
    ·rename_i hc2
     rw[if_pos hc2]
     have:=zY8 k l (by simp at hk;omega) _ _ h
     simp only[List.length_cons]
     omega
    ·rename_i hc2
     rw[if_neg hc2]
     unfold yf3 at h⊢
     split at h
     ·simp at h
     ·rename_i h64
      rw[if_neg h64]
      exact⟨by simp,by simp,by simp only;omega,rfl⟩
   ·rename_i hc
    rw[if_neg hc]
    have:=zY8 k (c2::l) (by simp at hk⊢;omega) _ _ h
    simp only[List.length_cons]at this⊢
    omega
theorem yB9 {p:UInt8→Bool}: ∀l:List UInt8,(l.takeWhile p).length≤l.length
 | []=>Nat.le_refl _
 |c::l=>by
  rw[List.takeWhile_cons]
  have:=yB9 (p:=p) l
  split<;>simp only[List.length_cons,List.length_nil]<;>omega
theorem yH6 {s:List UInt8} {a:Nat} (ha:a<s.length) (h:(oneF s a).2.2=0):a<(oneF s a).2.1∧(oneF s a).2.1≤s.length∧(oneF s a).1.s.length≤s.length+64∧0≤(oneF s a).1.n∧(oneF s a).1.n≤9223372036854775807:=by
 have hga:s.getD a 0=s[a]:=by rw[List.getD_eq_getElem?_getD,List.getElem?_eq_getElem ha];rfl
 have hdr:=List.drop_eq_getElem_cons ha
 unfold oneF at h⊢
 rw[hga,hdr]at h⊢
 obtain⟨x,hx⟩: ∃x,s[a]=x:=⟨_,rfl⟩
 rw[hx]at h⊢
 have hl:(s.drop (a+1)).length=s.length - (a+1):=List.length_drop
 generalize s.drop (a+1)=l at h hl⊢
 split at h
 ·rename_i q1
  rw[if_pos q1]
  have hw:wrdF x=true:=by unfold wrdF;rw[q1];rfl
  have:=yB9 (p:=wrdF) l
  rw[List.takeWhile_cons_of_pos hw]
  simp only[List.length_cons,List.length_map]
  omega
 rename_i q1
 rw[if_neg q1]
 split at h
 ·rename_i q2
  rw[if_pos q2]
  unfold numT at h⊢
  split at h
  ·simp at h
  rename_i r hr
  have hrr:=yr4 _ 0 r (Int.le_refl _) (by decide) hr
  split at h
  ·simp at h
  rename_i hle
  rw[if_neg hle,List.takeWhile_cons_of_pos q2]
  have:=yB9 (p:=wB) l
  simp only[List.length_cons,List.length_nil]
  omega
 rename_i q2
 rw[if_neg q2]
 split at h
 ·rename_i q3
  rw[if_pos q3]
  have:=zY8 l.length l (Nat.le_refl _) _ _ h
  omega
 rename_i q3
 rw[if_neg q3]
 split at h
 ·rename_i q4
  rw[if_pos q4]
  simp only[List.length_take]
  omega
 rename_i q4
 rw[if_neg q4]
 split at h
 ·rename_i q5
  rw[if_pos q5]
  simp only[List.length_singleton]
  omega
 ·simp at h
def yD1 (t:GToken):Prop:=t.s.length≤3000∧0≤t.n∧t.n≤9223372036854775807
theorem yi3 {s:List UInt8} (hs:s.length≤2000): ∀(n a:Nat) (l:List GToken),s.length<n+a→a≤s.length→l.length≤a→(∀t∈l,yD1 t)→(lexL s n a l).2=0→
  ∃l',(lexL s n a l).1=l'++ [⟨0,s.length,[],0⟩]∧l'.length≤s.length∧ ∀t∈l',yD1 t
 |0,a,l,hf,ha,_,_,_=>by omega
 |n+1,a,l,hf,ha,hl,ht,h=>by
  unfold lexL at h⊢
  by_cases q:a<s.length
  rotate_left
  ·rw[if_neg q]
   exact⟨l,rfl,by omega,ht⟩
  rw[if_pos q]at h⊢
  by_cases q2:zH1 (s.getD a 0)=true
  ·rw[if_pos q2]at h⊢
   exact yi3 hs n (a+1) l (by omega) (by omega) (by omega) ht h
  rw[if_neg q2]at h⊢
  by_cases q3:(oneF s a).2.2=0
  ·rw[if_pos q3]at h⊢
   have ho:=yH6 q q3
   refine yi3 hs n _ _ (by omega) (by omega) (by simp;omega) (fun t htm=> ?_) h
   rw[List.mem_append]at htm
   rcases htm with htm|htm
   ·exact ht t htm
   ·simp only[List.mem_cons,List.not_mem_nil,or_false]at htm
    subst htm
    unfold yD1
    simp only
    omega
  ·rw[if_neg q3]at h
   exact absurd h q3
theorem yF9 {s:List UInt8} (h:(lexF s).2=0):s.length≤2000∧LIn (lexF s).1∧LGood (lexF s).1∧1≤(lexF s).1.length∧(lexF s).1.length≤2001:=by
 unfold lexF at h⊢
 split at h
 ·simp at h
 rename_i hl
 rw[if_neg hl]
 obtain⟨l',h1,h2,h3⟩:=yi3 (by omega) _ _ _ (by omega) (Nat.zero_le _) (Nat.le_refl _) (fun t ht=>by cases ht) h
 have h4: ∀t∈l'++ [⟨0,s.length,[],0⟩],yD1 t:=fun t ht=>by
  rw[List.mem_append]at ht
  rcases ht with ht|ht
  ·exact h3 t ht
  ·simp only[List.mem_cons,List.not_mem_nil,or_false]at ht
   subst ht
   exact⟨Nat.zero_le _,Int.le_refl _,by simp⟩
 rw[h1]
 refine⟨by omega,⟨by simp;omega,fun i hi=> ?_,fun t ht=> ?_⟩,⟨fun t ht=> ?_,fun t ht=>(h4 t ht).2⟩,by simp,by simp;omega⟩
 ·have:i=l'.length:=by simp at hi;omega
  subst this
  rw[List.getD_eq_getElem?_getD,List.getElem?_append_right (Nat.le_refl _),Nat.sub_self]
  rfl
 ·have:=(h4 t ht).1;unfold maxLen;omega
 ·have:=(h4 t ht).1;omega
def lexV (x:List GToken×Int):V:= .tup [.sl .ro (x.1.map GToken.row),.int .i64 x.2]
theorem yl0 {g:Tag} {τ:St} {l:List GToken} {e:Int} {M:List GToken×Int} (h:(l,e)=M):wret (some (.tup [.sl g (l.map GToken.row),.int .i64 e])) 0 (fun r σ=>r=lexV M∧σ= []) τ:=by
 subst h
 exact zQ (r:= .tup [.sl .ro (l.map GToken.row),.int .i64 e]) (zI9 ⟨yg3,zI8 rfl,trivial⟩) ⟨rfl,rfl⟩
set_option maxHeartbeats 1000000 in
theorem xu7 (s:List UInt8) (hl:s.length≤maxLen):Pure Tryz.prog 64 [.str s] (lexV (lexF s)):=by
 generalize hM:lexF s=M
 unfold lexF at hM
 unfold maxLen at hl
 refine VCalls.introV 0 Tryz.func64 Tryz.ntmps64 Tryz.results64 rfl rfl (Nat.le_of_ble_eq_true rfl) fun c hc hb=> ?_
 refine zC ?_
 simp[go_sem]
 by_cases q0:2000<s.length
 ·rw[if_pos q0]at hM
  have q0':decide ((2000:Int)<s.length)=true:=decide_eq_true (by omega)
  simp[go_sem,q0']
  exact yl0 (l:= []) hM
 rw[if_neg q0]at hM
 have q0':decide ((2000:Int)<s.length)=false:=decide_eq_false (by omega)
 simp[go_sem,q0']
 refine zu4 4 4 (by decide) (by simp[go_sem]) ?_
 refine zN (S:=Nat×List GToken) [0,4,5] (fun u=> [.str s,.sl (.app 0) (u.2.map GToken.row),.int .i64 u.1]) (fun u=> [.app u.2.length 4]) (fun u=>s.length - u.1)
  (fun u=>u.1≤s.length∧u.2.length≤u.1∧ ∃n,s.length<n+u.1∧lexL s n u.1 u.2=M) hc hb (0,[]) ⟨Nat.zero_le _,Nat.le_refl _,s.length+1,by simp only;omega,hM⟩ ?_ ?_
 ·exact at_n 1 (by simp[go_sem]) rfl (by rfl) (Nat.zero_le _) (zE (by simp[go_sem]) rfl)
 rintro⟨a,l⟩ ⟨ha,hla,n,hn,hinv⟩
 simp only at ha hla hn hinv
 obtain⟨n,rfl⟩: ∃m,n=m+1:=⟨n - 1,by omega⟩
 rw[lexL]at hinv
 by_cases q:a<s.length
 rotate_left
 ·rw[if_neg q]at hinv
  refine zC ?_
  simp[go_sem,q]
  refine zO ⟨by omega,xD rfl⟩ ?_
  simp[go_sem]
  have hr:=fun g τ=>yl0 (g:=g) (τ:=τ) hinv
  simp at hr
  exact hr _ _
 rw[if_pos q]at hinv
 have ea:=zU q (by omega)
 obtain⟨x,hx⟩: ∃x,s[a]=x:=⟨_,rfl⟩
 have hga:s.getD a 0=x:=by rw[List.getD_eq_getElem?_getD,List.getElem?_eq_getElem q,hx];rfl
 rw[hga]at hinv
 have hbl:=yz9 x
 by_cases q2:zH1 x=true
 ·rw[if_pos q2]at hinv
  rw[q2]at hbl
  refine zC ?_
  simp[go_sem,q,hx]
  refine zD hbl Tryz.callB112 (zG rfl) rfl ?_
  simp[go_sem,ea]
  exact zP (a+1,l) ⟨by simp only;omega,⟨by simp only;omega,by simp only;omega,n,by simp only;omega,hinv⟩,at_n 1 (by simp[go_sem]) rfl (by rfl) (Nat.zero_le _) (zE (by simp[go_sem]) rfl)⟩
 have q2:zH1 x=false:=by simpa using q2
 rw[if_neg (by rw[q2];decide)]at hinv
 rw[q2]at hbl
 have hone:=xb2 s (by unfold maxLen;omega) a q
 have hok:=yH6 q
 generalize oneF s a=o at hone hok hinv
 by_cases q3:o.2.2=0
 ·rw[if_pos q3]at hinv
  have hok:=hok q3
  have q3':(o.2.2 !=0)=false:=by simpa using q3
  refine zC ?_
  simp[go_sem,q,hx]
  refine zD hbl Tryz.callB112 (zG rfl) rfl ?_
  simp[go_sem]
  refine zD hone Tryz.callB113 (zG rfl) (yk5 _) ?_
  simp[go_sem,trV,q3']
  refine zO ⟨by omega,xD rfl⟩ ?_
  simp[go_sem]
  refine zP (o.2.1,l++ [{o.1 with place:=a}]) ⟨by simp only;omega,⟨by simp only;omega,by simp;omega,n,by simp only;omega,hinv⟩, ?_⟩
  exact at_n 1 (by simp[go_sem]) rfl (by rfl) (Nat.zero_le _) (zE (by simp[go_sem]) rfl)
 ·rw[if_neg q3]at hinv
  have q3':(o.2.2 !=0)=true:=by simpa using q3
  refine zC ?_
  simp[go_sem,q,hx]
  refine zD hbl Tryz.callB112 (zG rfl) rfl ?_
  simp[go_sem]
  refine zD hone Tryz.callB113 (zG rfl) (yk5 _) ?_
  simp[go_sem,trV,q3']
  exact yl0 (l:= []) hinv
end Go.Proofs.YtajjjghohakniaaGreat
namespace Go.Proofs.YtajjjghohakniaaGreat
open Go Go.Vx
set_option maxRecDepth 100000
variable {L:List GToken}
def zT2:List UInt8:= [83,69,76,69,67,84]
def zT0:List UInt8:= [73,78,83,69,82,84]
def zT3:List UInt8:= [85,80,68,65,84,69]
def zz1:List UInt8:= [68,69,76,69,84,69]
def zi2 (L:List GToken) (s:RS):GStmt×RS:=
 if isT L zT2 s=true then zi1 L (zM s)
 else if isT L zT0 s=true then zh8 L (zM s)
 else if isT L zT3 s=true then zi3 L (zM s)
 else
  let n:=yX L (yB L zw1 (yB L zz1 s))
  (⟨4,n.1,[],[],[],(whE L n.2).1,(whE L n.2).2,[],false,0⟩,whS L n.2)
theorem yA8 (hL:LIn L) {s:RS} (h:RIn L s) (ho:s.opn=0):UI L s (zi1 L s).2:=by
 unfold zi1
 have h1:=zV6 hL h ho
 have h2:=h1.trans (yG hL zw1 h1.rin)
 have h3:=h2.trans (zb1 hL h2.rin)
 have h4:=h3.trans (yf9 hL h3.rin (h3.opn.trans ho))
 have h5:=h4.trans (zX1 hL h4.rin)
 exact h5.trans (yp9 hL h5.rin)
theorem yk0 (hL:LIn L) {s:RS} (h:RIn L s) (ho:s.opn=0):UI L s (zi2 L s).2:=by
 unfold zi2
 split
 ·have h1:=yW hL h ‹_›
  exact h1.trans (yA8 hL h1.rin (h1.opn.trans ho))
 split
 ·have h1:=yW hL h ‹_›
  exact h1.trans (yx2 hL h1.rin (h1.opn.trans ho))
 split
 ·have h1:=yW hL h ‹_›
  exact h1.trans (yC1 hL h1.rin (h1.opn.trans ho))
 ·have h1:=yG hL zz1 h
  have h2:=h1.trans (yG hL zw1 h1.rin)
  have h3:=h2.trans (zb1 hL h2.rin)
  exact h3.trans (yf9 hL h3.rin (h3.opn.trans ho))
set_option maxHeartbeats 1000000 in
theorem xt6 (L:List GToken) (hL:LIn L) (s:RS) (hs:RIn L s) (ho:s.opn=0):VCalls Tryz.prog 67 [.ptr 0 0] [rB L s] (RT L (zi2 L s)):=by
 generalize hM:zi2 L s=M
 unfold zi2 at hM
 have ret: ∀(x:GStmt×RS) (τ:St),x=M→wret (some (.agg x.1.row)) 1 (RT L M) (rB L x.2::τ):=fun x τ h=>zf4 (g1:= .ro) (g2:= .ro) (g3:= .ro) (g4:= .ro) (st:=x.1) h
 refine VCalls.intro 1 Tryz.func67 Tryz.ntmps67 Tryz.results67 rfl rfl (Nat.le_of_ble_eq_true rfl) fun c hc hb=>zJ ?_
 simp[go_sem]
 by_cases q1:isT L zT2 s=true
 ·rw[if_pos q1]at hM
  have hc1:=yQ7 L hL (zM s) (hs.next hL q1) ho
  generalize zi1 L (zM s)=x at hc1 hM
  refine zH (xM L hL s hs _ q1) Tryz.callB68 (zL ⟨zA rfl,trivial⟩) rfl ?_
  simp[go_sem]
  refine zH hc1 Tryz.callB114 rd_1 (zW6 _) ?_
  simp[go_sem]
  exact ret x _ hM
 have q1:isT L zT2 s=false:=by simpa using q1
 rw[if_neg (by rw[q1];decide)]at hM
 refine zH (wC L hL s hs _ q1) Tryz.callB68 (zL ⟨zA rfl,trivial⟩) rfl ?_
 simp[go_sem]
 by_cases q2:isT L zT0 s=true
 ·rw[if_pos q2]at hM
  have hc1:=yM7 L hL (zM s) (hs.next hL q2) ho
  generalize zh8 L (zM s)=x at hc1 hM
  refine zH (xM L hL s hs _ q2) Tryz.callB68 (zL ⟨zA rfl,trivial⟩) rfl ?_
  simp[go_sem]
  refine zH hc1 Tryz.callB115 rd_1 (zW6 _) ?_
  simp[go_sem]
  exact ret x _ hM
 have q2:isT L zT0 s=false:=by simpa using q2
 rw[if_neg (by rw[q2];decide)]at hM
 refine zH (wC L hL s hs _ q2) Tryz.callB68 (zL ⟨zA rfl,trivial⟩) rfl ?_
 simp[go_sem]
 by_cases q3:isT L zT3 s=true
 ·rw[if_pos q3]at hM
  have hc1:=yR4 L hL (zM s) (hs.next hL q3) ho
  generalize zi3 L (zM s)=x at hc1 hM
  refine zH (xM L hL s hs _ q3) Tryz.callB68 (zL ⟨zA rfl,trivial⟩) rfl ?_
  simp[go_sem]
  refine zH hc1 Tryz.callB116 rd_1 (zW6 _) ?_
  simp[go_sem]
  exact ret x _ hM
 have q3:isT L zT3 s=false:=by simpa using q3
 rw[if_neg (by rw[q3];decide)]at hM
 refine zH (wC L hL s hs _ q3) Tryz.callB68 (zL ⟨zA rfl,trivial⟩) rfl ?_
 simp[go_sem]
 have hm1:=zb7 L hL s hs zz1
 have hu1:=yG hL zz1 hs
 generalize yB L zz1 s=s1 at hm1 hu1 hM
 have hm2:=zb7 L hL s1 hu1.rin zw1
 have hu2:=hu1.trans (yG hL zw1 hu1.rin)
 generalize yB L zw1 s1=s2 at hm2 hu2 hM
 have hn:=zH9 L hL s2 hu2.rin
 have hu3:=hu2.trans (zb1 hL hu2.rin)
 generalize yX L s2=n at hn hu3 hM
 obtain⟨nm,s3⟩:=n
 simp only at hn hu3 hM
 obtain⟨gw,hw⟩:=zZ4 L hL s3 hu3.rin (hu3.opn.trans ho) [zSt,.box [.int .i64 4,.str nm,.sl .full [],.sl .full [],.sl .full [],.bool false,.int .i64 0,.str [],.int .i64 0,.int .i64 0,.str [],.sl .full [],.str [],.bool false,.int .i64 0]] 1 _ _ _ _ _ _ _ _ rfl
 generalize whS L s3=s4 at hw hM
 generalize whE L s3=w at hw hM
 refine zH hm1 Tryz.callB71 (zL ⟨zA rfl,trivial⟩) rfl ?_
 simp[go_sem]
 refine zH hm2 Tryz.callB71 (zL ⟨zA rfl,trivial⟩) rfl ?_
 simp[go_sem]
 refine zH hn Tryz.callB117 rd_1 rfl ?_
 simp[go_sem]
 refine zw2 hw Tryz.callB118 ?_
 rintro r σ ⟨rfl,rfl⟩ _
 simp[go_sem]
 exact zf4 (st:=⟨4,nm,[],[],[],w.1,w.2,[],false,0⟩) hM
theorem wF {P:Program} {c:Ctx} {f:FuncId} {caps args args':List V} {o:Ob} {τ:St} {L:List GToken} {s s':RS} {v:V} {KV:V→St→Prop} (hc:VCalls P f args' [rB L s] (fun r σ=>r=v∧σ= [rB L s'])) (hb:zK P f=true)
  (hargs:All2 (argS (ren [1] (τ.length+2))) args' (args++caps)) (hn:noS v=true) (hk:KV v (o::rB L s'::τ)):wVC P c (.fn f caps) args (o::rB L s::τ) KV fx:=by
 refine zm1 1 hc hb rfl (zG7 _ _ _) hargs (fun r σ h=>⟨_,h.2,zG7 _ _ _⟩) ?_
 rintro r o2 ⟨rfl,h2⟩
 obtain rfl:o2=rB L s':=by simpa using h2
 rw[zu0 hn]
 exact hk
theorem yK1 {P:Program} {c:Ctx} {n:Nat} {f:FuncId} {caps args args':List V} {o:Ob} {τ:St} {L:List GToken} {s s':RS} {v:V} {KV:V→St→Prop} (hc:VCalls P f args' [rB L s] (fun r σ=>r=v∧σ= [rB L s'])) (hb:zK P f=true)
  (hargs:All2 (argS (ren [1] (τ.length+2))) args' (args++caps)) (hn:noS v=true) (hk:KV v (o::rB L s'::τ)):wVD P c ⟨2,n⟩ 3 (.fn f caps) args (o::rB L s::τ) KV fx:=by
 have hno: ∀(N:Nat) (s:RS),yF (ren [1] N) (rB L s)=rB L s:=fun N s=>zg3 (n:=0) (fun _ h=>absurd h (Nat.not_lt_zero _)) (zG7 _ _ _)
 have e:xV [1] (o::rB L s::τ) [rB L s']=o::rB L s'::τ:=by
  simp only[xV,List.length_singleton,List.take_succ_cons,List.take_zero,List.drop_succ_cons,List.drop_zero,List.map_cons,List.map_nil,mset,List.append_nil,hno]
  rfl
 refine yu3 hc hb [1] (by simp) rfl (fun i j q h1 h2=> ?_) hargs (.inr ?_) ?_
 ·match i with
  |0=>simp at h1 h2;subst h1;subst h2;rw[hno];rfl
  |i+1=>simp at h1
 ·rw[e];exact Kp.of_set (σ:=o::rB L s::τ) (id:=1) (o:=rB L s') (.inl (by simp))
 ·rw[e,zu0 hn];exact hk
theorem za4 {N:Nat} {l l':List V} (h:All2 (argS (ren [1] N)) l l'):All2 (argS (ren [1] N)) (.ptr 0 0::l) (.ptr 1 0::l'):=⟨.inl rfl,h⟩
theorem zX4 {N:Nat}:All2 (argS (ren [1] N)) [.ptr 0 0] [.ptr 1 0]:=za4 trivial
end Go.Proofs.YtajjjghohakniaaGreat
