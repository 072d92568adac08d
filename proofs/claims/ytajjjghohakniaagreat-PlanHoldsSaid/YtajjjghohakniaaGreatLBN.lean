/-
  Contracts of functions that the claimed statement reaches, each proved over trees (the library Vx); used by the theorem at the end of the claim.
  Conditions: as each theorem states them.
-/
import Derived.Test.YtajjjghohakniaaGreatLBM
import Derived.Test.YtajjjghohakniaaGreatLBK
import Derived.Test.YtajjjghohakniaaGreatLBB
import Derived.Test.YtajjjghohakniaaGreatLBD
namespace Go.Proofs.YtajjjghohakniaaGreat
open Go Go.Vx R
set_option maxRecDepth 100000
def zm0 (v:GValue):Int:=if v.kind=0 then 2 else v.n
theorem zI5 {x:GValue} (h:VK x 1):x=yV∨x=xF true∨x=xF false:=by
 obtain⟨k,n,s⟩:=x
 have hm:=h.may
 unfold mayF at hm
 simp only at hm
 rcases h.kind with q|q
 ·simp only at q
  subst q
  simp at hm
  obtain⟨h1,h2⟩:=hm
  subst h2
  rcases h1 with h1|h1
  ·subst h1;exact .inr (.inr rfl)
  ·subst h1;exact .inr (.inl rfl)
 ·simp only at q
  subst q
  simp at hm
  obtain⟨h1,h2⟩:=hm
  subst h2 h1
  exact .inl rfl
theorem yT3 {x y:GValue} (hx:VK x 1) (hy:VK y 1):zU2 [65,78,68] (zm0 x) (zm0 y)=zq8 0 [x,y] false:=by
 rcases zI5 hx with rfl|rfl|rfl<;>rcases zI5 hy with rfl|rfl|rfl<;>rfl
theorem xg5 {x y:GValue} (hx:VK x 1) (hy:VK y 1):zU2 [79,82] (zm0 x) (zm0 y)=zq8 1 [x,y] false:=by
 rcases zI5 hx with rfl|rfl|rfl<;>rcases zI5 hy with rfl|rfl|rfl<;>rfl
theorem xs4 {x:GValue} (hx:VK x 1) (h:(x.kind==0)=false):xF (x.n==0)=xF (!zn9 x):=by
 rcases zI5 hx with rfl|rfl|rfl
 ·cases h
 ·rfl
 ·rfl
theorem yn3 (a b:GValue):zP7 a b=cmpV a b:=by
 unfold zP7 cmpV orL orL orL orL cmpI cmpS
 by_cases h1:a.kind=b.kind
 ·rw[if_neg (fun h=>h h1),h1]
  by_cases h2:a.n=b.n
  ·rw[if_neg (fun h=>h h2),h2]
   by_cases h3:a.s=b.s
   ·rw[if_neg (fun h=>h h3),h3]
    simp[zg6]
   ·rw[if_pos h3]
    rcases zn1 a.s b.s with h|h|h
    ·simp[h]
    ·exact absurd h h3
    ·have h':Op.bytesLess a.s b.s=false:=by
      cases hh:Op.bytesLess a.s b.s with
      |false=>rfl
      |true=>exact absurd (zh6 _ _ _ h hh) (by rw[zg6];decide)
     simp[h,h']
  ·rw[if_pos h2]
   by_cases h3:a.n<b.n<;>simp[h3]<;>omega
 ·rw[if_pos h1]
  by_cases h3:a.kind<b.kind<;>simp[h3]<;>omega
theorem yQ2 (v:GValue):Pure Tryz.prog 19 [.agg v.row] (.bool (zn9 v)):=by
 refine VCalls.intro 0 Tryz.func19 Tryz.ntmps19 Tryz.results19 rfl rfl (Nat.le_of_ble_eq_true rfl) fun c hc hb=>zJ ?_
 simp[go_sem]
 exact zQ (zA rfl) ⟨rfl,rfl⟩
theorem xb0 (a b:GValue):Pure Tryz.prog 100 [.agg a.row,.agg b.row] (.int .i64 (cmpV a b)):=by rw[←yn3];exact yK3 a b
theorem zy4 (v:GValue):Pure Tryz.prog 97 [.agg v.row] (.int .i64 (zm0 v)):=xm1 v
structure NoSp (s:List UInt8):Prop where
 n1:(s== [73,83,78,85,76,76])=false
 n2:(s== [78,79,84,78,85,76,76])=false
 n3:(s== [65,78,68])=false
 n4:(s== [79,82])=false
def zc5 (l:List GValue):Bool:=l.any fun v=>v.kind==0
theorem yF8 {α:Type} {l:List α} (h:l.length=1): ∃x,l= [x]:=by
 match l,h with
 | [x],_=>exact⟨x,rfl⟩
theorem yi2 {α:Type} {l:List α} (h:l.length=2): ∃x y,l= [x,y]:=by
 match l,h with
 | [x,y],_=>exact⟨x,y,rfl⟩
theorem yw3 {s:List UInt8} {l:List GValue} {ks:List Int} {k:Int} (ho:zf2 s ks=(k,0)) (ha:All2 VK l ks):
  (s= [73,83,78,85,76,76]∧zd4 s l=(xF (zc5 l),0))∨
  (s= [78,79,84,78,85,76,76]∧zd4 s l=(xF (!zc5 l),0))∨
  (s= [65,78,68]∧ ∃x y,l= [x,y]∧zd4 s l=(zU2 [65,78,68] (zm0 x) (zm0 y),0))∨
  (s= [79,82]∧ ∃x y,l= [x,y]∧zd4 s l=(zU2 [79,82] (zm0 x) (zm0 y),0))∨
  (NoSp s∧zc5 l=true∧zd4 s l=(yV,0))∨
  (NoSp s∧zc5 l=false∧s= [78,79,84]∧ ∃x,l= [x]∧zd4 s l=(xF (x.n==0),0))∨
  (NoSp s∧zc5 l=false∧(s== [78,79,84])=false∧ze8 s=true∧(s= [78,69,71]∨(2≤l.length∧(s= [43]∨s= [45]∨s= [42]∨s= [47]∨s= [37])))∧zd4 s l=numR s (l.getD 0 yV) (l.getD 1 yV))∨
  (NoSp s∧zc5 l=false∧(s== [78,79,84])=false∧ze8 s=false∧ ∃x y,l= [x,y]∧(s= [61]∨s= [60,62]∨s= [60]∨s= [60,61]∨s= [62]∨s= [62,61])∧zd4 s l=(xF (zb5 s (cmpV x y)),0)):=by
 have hlen:=zT8 ha
 cases zW9 ho with
 |null hs hl hk=>
  obtain⟨x,rfl⟩:=yF8 (hlen.trans hl)
  rcases hs with rfl|rfl
  ·exact .inl ⟨rfl,by simp[zd4,zc5]⟩
  ·exact .inr (.inl ⟨rfl,by simp[zd4,zc5]⟩)
 |not hs hl hk' hk=>
  obtain⟨x,rfl⟩:=yF8 (hlen.trans hl)
  have hx:=zD3 ha hk' x (List.mem_cons_self ..)
  subst hs
  have hsp:NoSp [78,79,84]:=⟨by decide,by decide,by decide,by decide⟩
  by_cases q:zc5 [x]=true
  ·exact .inr (.inr (.inr (.inr (.inl ⟨hsp,q,by rw[zM6];exact if_pos q⟩))))
  ·have q2:zc5 [x]=false:=by simpa using q
   refine .inr (.inr (.inr (.inr (.inr (.inl ⟨hsp,q2,rfl,x,rfl, ?_⟩)))))
   rw[zM6]
   refine(if_neg q).trans ?_
   have:(x.kind==0)=false:=by simpa[zc5]using q2
   rw[xs4 hx this];rfl
 |neg hs hl hk' hk=>
  subst hs
  have hsp:NoSp [78,69,71]:=⟨by decide,by decide,by decide,by decide⟩
  by_cases q:zc5 l=true
  ·exact .inr (.inr (.inr (.inr (.inl ⟨hsp,q,by rw[zM5];exact if_pos q⟩))))
  ·have q2:zc5 l=false:=by simpa using q
   refine .inr (.inr (.inr (.inr (.inr (.inr (.inl ⟨hsp,q2,by decide,by decide,.inl rfl, ?_⟩))))))
   rw[zM5]
   exact if_neg q
 |both hs hl hk' hk=>
  obtain⟨x,y,rfl⟩:=yi2 (hlen.trans hl)
  have hv:=zD3 ha hk'
  have hx:=hv x (by simp)
  have hy:=hv y (by simp)
  rcases hs with rfl|rfl
  ·exact .inr (.inr (.inr (.inl ⟨rfl,x,y,rfl,by rw[xg5 hx hy];rfl⟩)))
  ·exact .inr (.inr (.inl ⟨rfl,x,y,rfl,by rw[yT3 hx hy];rfl⟩))
 |sum hs hl hk' hk=>
  have hsp:NoSp s:=by rcases hs with rfl|rfl|rfl|rfl|rfl<;>exact⟨by decide,by decide,by decide,by decide⟩
  have h1:(s== [78,79,84])=false:=by rcases hs with rfl|rfl|rfl|rfl|rfl<;>decide
  have h2:ze8 s=true:=by rcases hs with rfl|rfl|rfl|rfl|rfl<;>decide
  have h3: ¬s= [78,69,71]:=by rcases hs with rfl|rfl|rfl|rfl|rfl<;>decide
  by_cases q:zc5 l=true
  ·exact .inr (.inr (.inr (.inr (.inl ⟨hsp,q,by rw[zM7 hs];exact if_pos q⟩))))
  ·have q2:zc5 l=false:=by simpa using q
   refine .inr (.inr (.inr (.inr (.inr (.inr (.inl ⟨hsp,q2,h1,h2,.inr ⟨by omega,hs⟩, ?_⟩))))))
   rw[zM7 hs]
   refine(if_neg q).trans ?_
   unfold numR
   rw[if_neg h3]
 |cmp hs hl hk=>
  obtain⟨x,y,rfl⟩:=yi2 (hlen.trans hl)
  have hsp:NoSp s:=by rcases hs with rfl|rfl|rfl|rfl|rfl|rfl<;>exact⟨by decide,by decide,by decide,by decide⟩
  have h1:(s== [78,79,84])=false:=by rcases hs with rfl|rfl|rfl|rfl|rfl|rfl<;>decide
  have h2:ze8 s=false:=by rcases hs with rfl|rfl|rfl|rfl|rfl|rfl<;>decide
  by_cases q:zc5 [x,y]=true
  ·exact .inr (.inr (.inr (.inr (.inl ⟨hsp,q,by rw[zD7 hs];exact if_pos q⟩))))
  ·have q2:zc5 [x,y]=false:=by simpa using q
   refine .inr (.inr (.inr (.inr (.inr (.inr (.inr ⟨hsp,q2,h1,h2,x,y,rfl,hs, ?_⟩))))))
   rw[zD7 hs]
   exact if_neg q
set_option maxHeartbeats 8000000 in
theorem zX8 {T:GTable} {row:List GValue} (hr:RowOk T row) (hT:T.cols.length≤maxLen): ∀(n:Nat) (e:GExpr),xA e≤n→Wide e→Good e→(yZ T e).2=0→Pure Tryz.prog 43 [.agg T.row,.sl .ro (row.map GValue.row),.agg e.row] (valP (evF T row e))
 |0,e,h,_,_,_=>by have:=zg8 e;omega
 |n+1,e,h,hw,hg,hk=>by
  have ih:=zX8 hr hT n
  have hok:= @yw7 _ _ hr n
  have hde:=wV e
  have hlen:=hw.len
  have hsub:=hw.sub
  have hgs:=hg.sub
  have hcol:=ys3 T e.s hT
  rw[show xO (fun c:GCol=>c.name==e.s) T.cols 0=colF T e.s from rfl]at hcol
  obtain⟨M,hM⟩: ∃M,evF T row e=M:=⟨_,rfl⟩
  rw[hM]
  rw[zM9]at hM
  rw[zg1]at hk
  have ret: ∀(v:GValue) (e:Int) (σ:St),(v,e)=M→wret (some (.tup [.agg v.row,.int .i64 e])) 0 (fun r s=>r=valP M∧s= []) σ:=fun v e σ h=>zi4 h
  refine VCalls.introV 0 Tryz.func43 Tryz.ntmps43 Tryz.results43 rfl rfl (Nat.le_of_ble_eq_true rfl) fun c hc hb=> ?_
  refine zC ?_
  simp[go_sem]
  by_cases q1:e.kind=1
  ·have q1':(e.kind==1)=true:=by simpa using q1
   rw[if_pos q1]at hM
   simp[go_sem,q1']
   exact ret _ _ _ hM
  rw[if_neg q1]at hM hk
  have q1':(e.kind==1)=false:=by simpa using q1
  by_cases q2:e.kind=2
  ·have q2':(e.kind==2)=true:=by simpa using q2
   rw[if_pos q2]at hM hk
   by_cases w:colF T e.s<0
   ·rw[if_pos w]at hk;cases hk
   obtain⟨j,hj,hjl⟩:=zr0 T e.s w
   have hjr:j<row.length:=by rw[hr.len];exact hjl
   obtain⟨v,hv⟩: ∃v,row[j]=v:=⟨_,rfl⟩
   rw[hj,Int.toNat_natCast,List.getD_eq_getElem?_getD,List.getElem?_eq_getElem hjr,hv]at hM
   rw[hj]at hcol
   simp[go_sem,q1',q2']
   refine zD hcol Tryz.callB94 (zI (by simp[go_sem]) rfl) rfl ?_
   simp[go_sem,hjr,hv]
   exact ret _ _ _ hM
  rw[if_neg q2]at hM hk
  have q2':(e.kind==2)=false:=by simpa using q2
  by_cases q3:e.kind=3
  rotate_left
  ·rw[if_neg q3]at hk;cases hk
  rw[if_pos q3]at hk
  obtain⟨args,hargs⟩: ∃args,e.args=args:=⟨_,rfl⟩
  rw[hargs]at hde hlen hsub hgs hM hk
  by_cases w1:(yL T args).2=0
  rotate_left
  ·rw[if_pos w1]at hk;exact absurd hk w1
  have n1: ¬(yL T args).2≠0:=fun h=>h w1
  rw[if_neg n1]at hk
  by_cases w3:zh5 e.v=false
  ·rw[if_pos w3]at hk;cases hk
  rw[if_neg w3]at hk
  have hop:zf2 e.s (yL T args).1=((zf2 e.s (yL T args).1).1,0):=Prod.ext rfl hk
  have hmem:=zH7 w1
  have hevs:(evsF T row args).2=0→All2 VK (evsF T row args).1 (yL T args).1:=fun h=>
   hok (fun x hx=>⟨by have:=xX args x hx;omega,hgs x hx⟩) w1 h
  obtain⟨K,hK⟩: ∃K,evsF T row args=K:=⟨_,rfl⟩
  rw[hK]at hM hevs
  simp[go_sem,q1',q2',hargs]
  refine zu4 8 3 (by decide) (by simp[go_sem]) ?_
  refine zN (S:=Nat×List GValue) [1,3,5,6,8,9,10] (fun u=> [.sl .ro (row.map GValue.row),.ptr 0 0,.ptr 1 0,.ptr 2 0,.sl (.app 3) (u.2.map GValue.row),.bool (zc5 u.2),.int .i64 (u.1:Int)])
   (fun u=> [.box T.row,.box e.row,.box [.int .i64 0,.int .i64 0,.str []],.app u.2.length 3]) (fun u=>args.length - u.1)
   (fun u=>u.1≤args.length∧u.2.length=u.1∧(evsF T row (args.drop u.1)).2=K.2∧(K.2=0→u.2++(evsF T row (args.drop u.1)).1=K.1)) hc hb (0,[])
   ⟨Nat.zero_le _,rfl,by simp only[List.drop_zero];rw[hK],fun _=>by simp only[List.drop_zero];rw[hK];rfl⟩ ?_ ?_
  ·exact at_n 4 (by simp[go_sem,hargs]) rfl (by simp[ltOb,ltC,ltK,GExpr.row_eq,GTable.row]) (Nat.zero_le _) (zE (by simp[go_sem,zc5]) rfl)
  rintro⟨i,l⟩ ⟨hi,hl,hinv,hinv2⟩
  simp only at hi hl hinv hinv2
  by_cases q:i<args.length
  rotate_left
  ·rw[List.drop_eq_nil_of_le (by omega),evsF]at hinv hinv2
   have hK2:K.2=0:=hinv.symm
   have hK1:l=K.1:=by have:=hinv2 hK2;simpa using this
   have n2: ¬K.2≠0:=fun h=>h hK2
   rw[if_neg n2,←hK1]at hM
   have hA:=hevs hK2
   rw[←hK1]at hA
   obtain⟨_,d1,d2,d3,d4⟩:=yg9 hop hA
   have hcs:=yw3 hop hA
   have hlp:0<l.length:=d1
   obtain⟨o,ho⟩: ∃o,zd4 e.s l=o:=⟨_,rfl⟩
   rw[ho]at hM hcs
   subst hM
   clear ho
   rcases hcs with ⟨h1,h2⟩|⟨h1,h2⟩|⟨h1,x,y,hxy,h2⟩|⟨h1,x,y,hxy,h2⟩|⟨h1,h3,h2⟩|⟨h1,h3,h4,x,hx,h2⟩|⟨h1,h3,h4,h5,h6,h2⟩|⟨h1,h3,h4,h5,x,y,hxy,h6,h2⟩
   ·have hc:=za0 (zc5 l)
    refine zC ?_
    simp[go_sem,hargs,q,h1]
    refine zD hc Tryz.callB95 (zG rfl) rfl ?_
    simp[go_sem]
    exact ret _ _ _ h2.symm
   ·have hc:=za0 (!zc5 l)
    refine zC ?_
    simp[go_sem,hargs,q,h1]
    refine zD hc Tryz.callB95 (zG rfl) rfl ?_
    simp[go_sem]
    exact ret _ _ _ h2.symm
   ·have hc:=ye2 [65,78,68] (zm0 x) (zm0 y)
    have hx:=zy4 x
    have hy:=zy4 y
    refine zC ?_
    simp[go_sem,hargs,q,h1,hxy]
    refine xC [(5,0),(9,0),(10,0)] 2 (by simp) (by kernel_rfl) (by kernel_rfl) ?_
    simp[go_sem]
    refine zT hx Tryz.callB97 (fun _=>zG rfl) rfl ?_
    simp[go_sem]
    refine zT hy Tryz.callB97 (fun _=>zG rfl) rfl ?_
    simp[go_sem]
    refine zT hc Tryz.callB96 (fun _=>zG rfl) rfl ?_
    simp[go_sem]
    exact ret _ _ _ h2.symm
   ·have hc:=ye2 [79,82] (zm0 x) (zm0 y)
    have hx:=zy4 x
    have hy:=zy4 y
    refine zC ?_
    simp[go_sem,hargs,q,h1,hxy]
    refine xC [(5,0),(9,0),(10,0)] 2 (by simp) (by kernel_rfl) (by kernel_rfl) ?_
    simp[go_sem]
    refine zT hx Tryz.callB97 (fun _=>zG rfl) rfl ?_
    simp[go_sem]
    refine zT hy Tryz.callB97 (fun _=>zG rfl) rfl ?_
    simp[go_sem]
    refine zT hc Tryz.callB96 (fun _=>zG rfl) rfl ?_
    simp[go_sem]
    exact ret _ _ _ h2.symm
   ·refine zC ?_
    simp[go_sem,hargs,q,h1.n1,h1.n2,h1.n3,h1.n4,h3]
    exact ret yV 0 _ h2.symm
   ·subst hx
    have hc:=za0 (x.n==0)
    refine zC ?_
    simp[go_sem,hargs,q,h3,h4]
    refine zD hc Tryz.callB95 (zG rfl) rfl ?_
    simp[go_sem]
    exact ret _ _ _ h2.symm
   ·have hc:=yw5 e.s l d1 h6 d3
    have ha:=yg4 e.s
    rw[h5]at ha
    rw[←h2]at hc
    refine zC ?_
    simp[go_sem,hargs,q,h1.n1,h1.n2,h1.n3,h1.n4,h3,h4]
    refine zD ha Tryz.callB98 (zG rfl) rfl ?_
    simp[go_sem]
    refine zD hc Tryz.callB99 ⟨zA rfl,zW,trivial⟩ rfl ?_
    simp[go_sem,valP]
    exact ret _ _ _ rfl
   ·have ha:=yg4 e.s
    rw[h5]at ha
    have hc:=xb0 x y
    generalize cmpV x y=cv at hc h2
    have e1:e.s= [61]→xF (zb5 e.s cv)=xF (cv==0):=fun h=>by rw[h];rfl
    have e2:e.s= [60,62]→xF (zb5 e.s cv)=xF (cv !=0):=fun h=>by rw[h];rfl
    have e3:e.s= [60]→xF (zb5 e.s cv)=xF (decide (cv<0)):=fun h=>by rw[h];rfl
    have e4:e.s= [60,61]→xF (zb5 e.s cv)=xF (decide (cv≤0)):=fun h=>by rw[h];rfl
    have e5:e.s= [62]→xF (zb5 e.s cv)=xF (decide (0<cv)):=fun h=>by rw[h];rfl
    have e6:e.s= [62,61]→xF (zb5 e.s cv)=xF (decide (0≤cv)):=fun h=>by rw[h];rfl
    refine zC ?_
    simp[go_sem,hargs,q,h1.n1,h1.n2,h1.n3,h1.n4,h3,h4]
    refine zD ha Tryz.callB98 (zG rfl) rfl ?_
    simp[go_sem,hxy]
    refine xC [(6,0)] 2 (by simp) (by kernel_rfl) (by kernel_rfl) ?_
    simp[go_sem]
    refine zT hc Tryz.callB100 (fun _=>zG rfl) rfl ?_
    rcases h6 with h6|h6|h6|h6|h6|h6
    ·rw[e1 h6]at h2
     simp[go_sem,h6]
     refine zD (za0 (cv==0)) Tryz.callB95 (zG rfl) rfl ?_
     simp[go_sem]
     exact ret _ _ _ h2.symm
    ·rw[e2 h6]at h2
     simp[go_sem,h6]
     refine zD (za0 (cv !=0)) Tryz.callB95 (zG rfl) rfl ?_
     simp[go_sem]
     exact ret _ _ _ h2.symm
    ·rw[e3 h6]at h2
     simp[go_sem,h6]
     refine zD (za0 (decide (cv<0))) Tryz.callB95 (zG rfl) rfl ?_
     simp[go_sem]
     exact ret _ _ _ h2.symm
    ·rw[e4 h6]at h2
     simp[go_sem,h6]
     refine zD (za0 (decide (cv≤0))) Tryz.callB95 (zG rfl) rfl ?_
     simp[go_sem]
     exact ret _ _ _ h2.symm
    ·rw[e5 h6]at h2
     simp[go_sem,h6]
     refine zD (za0 (decide (0<cv))) Tryz.callB95 (zG rfl) rfl ?_
     simp[go_sem]
     exact ret _ _ _ h2.symm
    ·rw[e6 h6]at h2
     simp[go_sem,h6]
     refine zD (za0 (decide (0≤cv))) Tryz.callB95 (zG rfl) rfl ?_
     simp[go_sem]
     exact ret _ _ _ h2.symm
  have ei:=zU q (by omega)
  obtain⟨x,hx⟩: ∃x,args[i]=x:=⟨_,rfl⟩
  have hxm:x∈args:=hx▸List.getElem_mem q
  have hdx:=xX args x hxm
  rw[List.drop_eq_getElem_cons q,hx,evsF]at hinv hinv2
  have hcall:=ih x (by omega) (hsub x hxm) (hgs x hxm) (hmem x hxm)
  generalize evF T row x=kx at hcall hinv hinv2
  by_cases q4:kx.2=0
  ·have n3: ¬kx.2≠0:=fun h=>h q4
   rw[if_neg n3]at hinv hinv2
   have q4':(kx.2 !=0)=false:=by simpa using q4
   have fin: ∀e' σ',At 0 [1,3,5,6,8,9,10] [.sl .ro (row.map GValue.row),.ptr 0 0,.ptr 1 0,.ptr 2 0,.sl (.app 3) ((l++ [kx.1]).map GValue.row),.bool (zc5 (l++ [kx.1])),.int .i64 ((i+1:Nat):Int)] [.box T.row,.box e.row,.box [.int .i64 0,.int .i64 0,.str []],.app (l++ [kx.1]).length 3] e' σ'→
    Vx.Next (fun s':Nat×List GValue=>args.length - s'.1<args.length - i∧(s'.1≤args.length∧s'.2.length=s'.1∧(evsF T row (args.drop s'.1)).2=K.2∧(K.2=0→s'.2++(evsF T row (args.drop s'.1)).1=K.1))∧At 0 [1,3,5,6,8,9,10] [.sl .ro (row.map GValue.row),.ptr 0 0,.ptr 1 0,.ptr 2 0,.sl (.app 3) (s'.2.map GValue.row),.bool (zc5 s'.2),.int .i64 (s'.1:Int)] [.box T.row,.box e.row,.box [.int .i64 0,.int .i64 0,.str []],.app s'.2.length 3] e' σ') fx:=fun e' σ' h=>
     zP (i+1,l++ [kx.1]) ⟨by simp only;omega,⟨by simp only;omega,by simp;omega,hinv,fun h=>by have:=hinv2 h;simpa using this⟩,h⟩
   have any1:(zc5 (l++ [kx.1]))=(zc5 l||(kx.1.kind==0)):=by unfold zc5;rw[List.any_append,List.any_cons,List.any_nil,Bool.or_false]
   rw[any1]at fin
   obtain⟨b0,hb0⟩: ∃b0,zc5 l=b0:=⟨_,rfl⟩
   rw[hb0]at fin
   refine zC ?_
   simp[go_sem,hargs,q]
   refine xC [(7,0)] 2 (by simp) (by kernel_rfl) (by kernel_rfl) ?_
   simp[go_sem,q,hx]
   refine zT hcall Tryz.callB43 (fun _=>zI (by simp[go_sem]) (by rw[GExpr.row_eq];rfl)) rfl ?_
   simp[go_sem,valP,q4']
   refine zO ⟨by omega,xD rfl⟩ ?_
   refine(Bool.eq_false_or_eq_true b0).elim (fun p=> ?_) (fun p=> ?_)
   ·rw[p,Bool.true_or]at fin
    rw[p]at hb0
    simp[go_sem,hb0,ei]
    exact fin _ _ (at_n 4 (by simp[go_sem,hargs]) rfl (by simp[ltOb,ltC,ltK,GExpr.row_eq,GTable.row]) (Nat.zero_le _) (zE (by simp[go_sem]) rfl))
   ·rw[p,Bool.false_or]at fin
    rw[p]at hb0
    simp[go_sem,hb0,ei]
    exact fin _ _ (at_n 4 (by simp[go_sem,hargs]) rfl (by simp[ltOb,ltC,ltK,GExpr.row_eq,GTable.row]) (Nat.zero_le _) (zE (by simp[go_sem]) rfl))
  ·rw[if_pos q4]at hinv
   have q4':(kx.2 !=0)=true:=by simpa using q4
   have hK2:kx.2=K.2:=hinv
   rw[if_pos (by rw[←hK2];exact q4),←hK2]at hM
   refine zC ?_
   simp[go_sem,hargs,q]
   refine xC [(7,0)] 2 (by simp) (by kernel_rfl) (by kernel_rfl) ?_
   simp[go_sem,q,hx]
   refine zT hcall Tryz.callB43 (fun _=>zI (by simp[go_sem]) (by rw[GExpr.row_eq];rfl)) rfl ?_
   simp[go_sem,valP,q4']
   exact ret yV _ _ hM
end Go.Proofs.YtajjjghohakniaaGreat
namespace Go.Vx
open Go
end Go.Vx
namespace Go.Proofs.YtajjjghohakniaaGreat
open Go Go.Vx R
set_option maxRecDepth 100000
structure GCut where
 name:List UInt8
 sign:List UInt8
 v:GValue
def GCut.row (c:GCut):List V:= [.str c.name,.str c.sign,.int .i64 c.v.kind,.int .i64 c.v.n,.str c.v.s]
def cutOps:List (List UInt8):= [[61],[60],[60,61],[62],[62,61]]
def zo9 (e:GExpr):List GCut:=
 match e.args with
 | [a,b]=>if ¬e.kind=3∨cutOps.contains e.s=false then []else if a.kind=2∧b.kind=1∧ ¬b.v.kind=0 then [⟨a.s,e.s,b.v⟩]else if b.kind=2∧a.kind=1∧ ¬a.v.kind=0 then [⟨b.s,zR2 e.s,a.v⟩]else []
 |_=> []
def zb0:Nat→GExpr→List GExpr
 |0,e=> [e]
 |n+1,e=>if zv5 e=true then e.args.flatMap (zb0 n)else [e]
def xn9 (n:Nat) (e:GExpr):List GCut:=(zb0 n e).flatMap zo9
theorem yb7 (e:GExpr):(zo9 e).length≤1:=by
 unfold zo9
 repeat' split
 all_goals simp
theorem yS3 {e:GExpr} (h:zv5 e=true): ∃a b,e.args= [a,b]:=by
 unfold zv5 at h
 rw[Bool.and_eq_true]at h
 exact yi2 (by simpa using h.2)
def ofF (n:Nat) (st:GStmt):List GCut:=if st.filtered=true then xn9 n st.where_ else []
end Go.Proofs.YtajjjghohakniaaGreat
namespace Go.Proofs.YtajjjghohakniaaGreat
open Go Go.Vx R
set_option maxRecDepth 100000
attribute [go_sem] GCut.row
def zF5 (n:Nat) (t:Int) (name:List UInt8) (l:List GCut) (b:List UInt8×List UInt8):List UInt8×List UInt8:=
 l.foldl (fun b c=>if c.name=name then cutF (yY n t c.v) c.sign b else b) b
def zJ0 (ts:List GTable) (t:Int) (L:List GCut):List UInt8×List UInt8:=
 if isF ts.length t=true then
  match (ts[t.toNat]?).bind zp6 with
  |none=>allF ts.length t
  |some name=>let b:=zF5 ts.length t name L (allF ts.length t);(b.1,maxS b.1 b.2)
 else allF ts.length t
def yX6 (name:List UInt8) (l:List GCut) (r:Int):Bool:=l.all fun c=> !(c.name==name&&(c.sign== [61]&&(c.v.kind==2&& !(c.v.n==r))))
def zX9 (t:Int) (l:List GCut):List Int:=if t=0 then [0,1].filter (yX6 [82] l)else if t=1 then [-1]else if t=2 then [1]else []
end Go.Proofs.YtajjjghohakniaaGreat
namespace Go.Proofs.YtajjjghohakniaaGreat
open Go Go.Vx R
set_option maxRecDepth 100000
def yb2 (v:GValue) (C:GCol):Bool:=mayF v&&(v.kind==0||v.kind==C.kind)
def zt7 (cs:List GCol) (row:List GValue):Bool:=decide (row.length=cs.length)&&(row.zip cs).all fun p=>yb2 p.1 p.2
set_option maxHeartbeats 1000000 in
theorem ys4 (T:GTable) (row:List GValue) (hT:T.cols.length≤maxLen):Pure Tryz.prog 42 [.agg T.row,.sl .ro (row.map GValue.row)] (.bool (zt7 T.cols row)):=by
 generalize hM:zt7 T.cols row=M
 unfold zt7 at hM
 by_cases hlen:row.length=T.cols.length
 rotate_left
 ·have h1:((row.length:Int) !=T.cols.length)=true:=by simp;omega
  rw[decide_eq_false hlen,Bool.false_and]at hM
  refine VCalls.intro 0 Tryz.func42 Tryz.ntmps42 Tryz.results42 rfl rfl (Nat.le_of_ble_eq_true rfl) fun c hc hb=>zJ ?_
  simp[go_sem,h1]
  exact bret hM
 have h1:((row.length:Int) !=T.cols.length)=false:=by simp;omega
 rw[decide_eq_true hlen,Bool.true_and]at hM
 refine VCalls.introV 0 Tryz.func42 Tryz.ntmps42 Tryz.results42 rfl rfl (Nat.le_of_ble_eq_true rfl) fun c hc hb=> ?_
 refine zC ?_
 simp[go_sem,h1]
 refine zN (S:=Nat) [1,2,5] (fun i=> [.sl .ro (row.map GValue.row),.ptr 0 0,.int .i64 (i:Int)]) (fun _=> [.box T.row]) (fun i=>row.length - i)
  (fun i=>i≤row.length∧(((row.zip T.cols).drop i).all fun p=>yb2 p.1 p.2)=M) hc hb 0 ⟨Nat.zero_le _,hM⟩ ?_ ?_
 ·exact at_n 1 (by simp[go_sem]) rfl (by simp[ltOb,ltC,ltK,GTable.row]) (Nat.zero_le _) (zE (by simp[go_sem]) rfl)
 rintro i ⟨hi,hinv⟩
 by_cases q:i<row.length
 rotate_left
 ·rw[List.drop_eq_nil_of_le (by rw[List.length_zip];omega)]at hinv
  refine zC ?_
  simp[go_sem,q]
  exact bret hinv
 have qc:i<T.cols.length:=by omega
 have ei:=zU q (by unfold maxLen at hT;omega)
 obtain⟨v,hv⟩: ∃v,row[i]=v:=⟨_,rfl⟩
 obtain⟨C,hC⟩: ∃C,T.cols[i]=C:=⟨_,rfl⟩
 have qz:i<(row.zip T.cols).length:=by rw[List.length_zip];omega
 rw[zz9 _ _ _ qz,List.getElem_zip,hv,hC]at hinv
 obtain⟨tl,hTl⟩: ∃tl,(((row.zip T.cols).drop (i+1)).all fun p=>yb2 p.1 p.2)=tl:=⟨_,rfl⟩
 rw[hTl]at hinv
 unfold yb2 at hinv
 have hmy:=zK5 v
 simp only at hinv
 generalize mayF v=mv at hmy hinv
 have go: ∀e σ,tl=M→At 0 [1,2,5] [.sl .ro (row.map GValue.row),.ptr 0 0,.int .i64 ((i+1:Nat):Int)] [.box T.row] e σ→
  Vx.Next (fun s':Nat=>row.length - s'<row.length - i∧(s'≤row.length∧(((row.zip T.cols).drop s').all fun p=>yb2 p.1 p.2)=M)∧At 0 [1,2,5] [.sl .ro (row.map GValue.row),.ptr 0 0,.int .i64 (s':Int)] [.box T.row] e σ) fx:=fun e σ h1 h2=>zP (i+1) ⟨by omega,⟨by omega,hTl.trans h1⟩,h2⟩
 refine zC ?_
 simp[go_sem,q]
 refine xC [(4,0)] 1 (by simp) (by kernel_rfl) (by kernel_rfl) ?_
 simp[go_sem,q,hv]
 refine zT hmy Tryz.callB90 (fun _=>zG rfl) rfl ?_
 refine(Bool.eq_false_or_eq_true mv).elim (fun p=> ?_) (fun p=> ?_)
 rotate_left
 ·rw[p]at hinv
  simp[go_sem,p]
  exact bret hinv
 rw[p,Bool.true_and]at hinv
 simp[go_sem,p,q,hv]
 by_cases k0:v.kind=0
 ·have k0':(v.kind !=0)=false:=by simpa using k0
  have k0'':(v.kind==0)=true:=by simpa using k0
  rw[k0'',Bool.true_or,Bool.true_and]at hinv
  simp[go_sem,k0',ei]
  exact go _ _ hinv (at_n 1 (by simp[go_sem]) rfl (by simp[ltOb,ltC,ltK,GTable.row]) (Nat.zero_le _) (zE (by simp[go_sem]) rfl))
 have k0':(v.kind !=0)=true:=by simpa using k0
 have k0'':(v.kind==0)=false:=by simpa using k0
 rw[k0'',Bool.false_or]at hinv
 simp[go_sem,k0',q,hv,qc,hC]
 by_cases k1:v.kind=C.kind
 ·have k1':(v.kind !=C.kind)=false:=by simpa using k1
  have k1'':(v.kind==C.kind)=true:=by simpa using k1
  rw[k1'',Bool.true_and]at hinv
  simp[go_sem,k1',ei]
  exact go _ _ hinv (at_n 1 (by simp[go_sem]) rfl (by simp[ltOb,ltC,ltK,GTable.row]) (Nat.zero_le _) (zE (by simp[go_sem]) rfl))
 ·have k1':(v.kind !=C.kind)=true:=by simpa using k1
  have k1'':(v.kind==C.kind)=false:=by simpa using k1
  rw[k1'',Bool.false_and]at hinv
  simp[go_sem,k1']
  exact bret hinv
theorem yd4 {T:GTable} {row:List GValue} (h:zt7 T.cols row=true) (hv: ∀v∈row,v.ok):RowOk T row:=by
 unfold zt7 at h
 rw[Bool.and_eq_true,decide_eq_true_eq]at h
 refine⟨h.1,fun j C v hC hV=> ?_⟩
 have hz:(row.zip T.cols)[j]? =some (v,C):=by rw[List.getElem?_zip_eq_some];exact⟨hV,hC⟩
 have h2:=List.all_eq_true.1 h.2 _ (List.mem_of_getElem? hz)
 unfold yb2 at h2
 simp only[Bool.and_eq_true,Bool.or_eq_true,beq_iff_eq]at h2
 have hvo:=hv v (List.mem_of_getElem? hV)
 exact⟨h2.1,⟨hvo.n.1,hvo.n.2⟩,h2.2.elim .inr .inl⟩
def evR (T:GTable) (row:List GValue) (e:GExpr):GValue×Int:=if(wS T e).2≠0 then(yV,(wS T e).2)else if zt7 T.cols row=false then(yV,9)else evF T row e
theorem yP7 (T:GTable) (hT:T.cols.length≤maxLen) (row:List GValue) (hv: ∀v∈row,v.ok) (e:GExpr) (he:EOk e):Pure Tryz.prog 18 [.agg T.row,.sl .ro (row.map GValue.row),.agg e.row] (valP (evR T row e)):=by
 have hty:=yQ3 T hT e he
 have hmr:=ys4 T row hT
 have hok:= @yd4 T row
 generalize hM:evR T row e=M
 unfold evR at hM
 have ret: ∀(v:GValue) (e:Int) (σ:St),(v,e)=M→wret (some (.tup [.agg v.row,.int .i64 e])) 0 (fun r s=>r=valP M∧s= []) σ:=fun v e σ h=>zi4 h
 generalize zt7 T.cols row=mr at hmr hok hM
 refine VCalls.intro 0 Tryz.func18 Tryz.ntmps18 Tryz.results18 rfl rfl (Nat.le_of_ble_eq_true rfl) fun c hc hb=>zJ ?_
 simp[go_sem]
 refine zD hty Tryz.callB41 (zI (by simp[go_sem]) (by rw[GExpr.row_eq];rfl)) rfl ?_
 simp[go_sem,yN]
 by_cases q:(wS T e).2=0
 rotate_left
 ·have q':((wS T e).2 !=0)=true:=by simpa using q
  rw[if_pos q]at hM
  simp[go_sem,q']
  exact ret yV _ _ hM
 have q':((wS T e).2 !=0)=false:=by simpa using q
 have n1: ¬(wS T e).2≠0:=fun h=>h q
 rw[if_neg n1]at hM
 simp[go_sem,q']
 refine zD hmr Tryz.callB42 ⟨zA rfl,zW,trivial⟩ rfl ?_
 refine(Bool.eq_false_or_eq_true mr).elim (fun p=> ?_) (fun p=> ?_)
 rotate_left
 ·rw[if_pos p]at hM
  simp[go_sem,p]
  exact ret yV 9 _ hM
 rw[if_neg (by rw[p];decide)]at hM
 have hrow:=hok p hv
 have hcall:Pure Tryz.prog 43 [.agg T.row,.sl .ro (row.map GValue.row),.agg e.row] (valP (evF T row e)):=by
  unfold wS at q
  by_cases d:xA e≤64
  ·rw[if_pos d]at q;exact zX8 hrow hT 64 e d he.wide he.good q
  ·rw[if_neg d]at q;cases q
 rw[hM]at hcall
 simp[go_sem,p]
 refine zD hcall Tryz.callB43 ⟨zA rfl,zW,yl8 e,trivial⟩ rfl ?_
 simp[go_sem,valP]
 exact zi4 rfl
end Go.Proofs.YtajjjghohakniaaGreat
namespace Go.Proofs.YtajjjghohakniaaGreat
open Go Go.Vx R
set_option maxRecDepth 100000
def regC (n:Int):Int:=if 4<(if n< -1 then -1 else n)then 4 else if n< -1 then -1 else n
theorem xk6 (n:Int):regC n= -1∨regC n=0∨regC n=1∨regC n=2∨regC n=3∨regC n=4:=by
 unfold regC
 repeat' split
 all_goals omega
def regN (T:GTable) (r:List GExpr):Option Int:=
 if T.place=0 then(if(evN (r.getD 0 zeroE)).2≠0∨(evN (r.getD 0 zeroE)).1.kind≠2 then none else some (regC (evN (r.getD 0 zeroE)).1.n))else some 0
def rowS (t:Int) (r:List GExpr) (U:US):US:=
 match tabsS[t.toNat]? with
 |none=>U
 |some T=>
  if r.length≤T.key.toNat then U else
  if(evN (r.getD T.key.toNat zeroE)).2≠0∨(evN (r.getD T.key.toNat zeroE)).1.kind=0 then U else
  match regN T r with
  |none=>U
  |some g=>if(zb8 t g).2≠0 then U else zt8 (zb8 t g).1 ⟨yY 3 t (evN (r.getD T.key.toNat zeroE)).1,yY 3 t (evN (r.getD T.key.toNat zeroE)).1++ [0]⟩ U
theorem xl1 (t:Int) (r:List GExpr) (n:Nat) (U:US) (h:Bd n U):Bd (n+1) (rowS t r U):=by
 unfold rowS
 split
 ·exact⟨by have:=h.1;omega,fun y hy=>by have:=h.2 y hy;omega⟩
 ·split
  ·exact⟨by have:=h.1;omega,fun y hy=>by have:=h.2 y hy;omega⟩
  ·split
   ·exact⟨by have:=h.1;omega,fun y hy=>by have:=h.2 y hy;omega⟩
   ·split
    ·exact⟨by have:=h.1;omega,fun y hy=>by have:=h.2 y hy;omega⟩
    ·split
     ·exact⟨by have:=h.1;omega,fun y hy=>by have:=h.2 y hy;omega⟩
     ·exact Bd.need h _ _
section
variable {b:List V} {rows:List (List V)} {A:List Nat} {τ:St}
theorem yV8:(gS b rows A++τ).take (A.length+2)=gS b rows A:=by rw[←yC (b:=b) (rows:=rows),List.take_left]
end
theorem xu1 {v:GValue} {k:Int} (h:VK v k):v.ok∧v.s.length≤500:=by
 have hm:=h.may
 have hn:=h.n
 unfold mayF at hm
 have:i64R v.kind∧v.s.length≤64:=by
  unfold i64R
  split at hm
  ·rename_i q;rw[q];simp at hm;exact⟨by decide,by rw[hm.2];decide⟩
  split at hm
  ·rename_i q;rw[q];simp at hm;exact⟨by decide,by rw[hm.2];decide⟩
  split at hm
  ·rename_i q;rw[q];simp at hm;exact⟨by decide,by rw[hm];decide⟩
  split at hm
  ·rename_i q;rw[q];simp at hm;exact⟨by decide,hm.2⟩
  ·cases hm
 exact⟨⟨this.1,hn,by unfold maxLen;omega⟩,by omega⟩
set_option maxHeartbeats 2000000 in
theorem xw3 (tn:Nat) (T:GTable) (hT:tabsS[tn]? =some T) (r:List GExpr) (hr:r.length≤1000) (he: ∀e∈r,EOk e) (N:List (Int×List GSpan×Nat)) (A:List Nat) (h:NOk N A) (hB:Bd 1000 (uOf N)):
  VCalls Tryz.prog 33 [.ptr 0 0,schR tabsS,.int .i64 tn,.sl .ro (r.map GExpr.row)] (nSt N A) (fun x s=>x= .tup []∧ ∃N' A',s=nSt N' A'∧NOk N' A'∧uOf N'=rowS tn r (uOf N)):=by
 have hkey: ∃kk:Nat,T.key=(kk:Int):=by
  match tn,hT with
  |0,h=>simp[tabsS]at h;subst h;exact⟨1,rfl⟩
  |1,h=>simp[tabsS]at h;subst h;exact⟨0,rfl⟩
  |2,h=>simp[tabsS]at h;subst h;exact⟨0,rfl⟩
  |n+3,h=>simp[tabsS]at h
 obtain⟨kk,hkk⟩:=hkey
 generalize hM:rowS tn r (uOf N)=M
 unfold rowS at hM
 rw[Int.toNat_natCast,hT]at hM
 simp only at hM
 rw[hkk,Int.toNat_natCast]at hM
 have done: ∀(τ:St),uOf N=M→wret (some (.tup [])) (A.length+2) (fun x s=>x= .tup []∧ ∃N' A',s=nSt N' A'∧NOk N' A'∧uOf N'=M) (gS [.lsv 1 2 N.length 0 N.length] (N.map nRow) A++τ):=fun τ hM=>
  zm3 (A.length+2) (s:=gS [.lsv 1 2 N.length 0 N.length] (N.map nRow) A) yV8 yC (yc5 _ _ h) (Nat.le_refl _) (zA rfl) ⟨rfl,N,A,rfl,h,hM⟩
 have htl:tn<tabsS.length:=(List.getElem?_eq_some_iff.1 hT).1
 have ht3:(tn:Int)=0∨(tn:Int)=1∨(tn:Int)=2:=by have:tn<3:=htl;omega
 have hTg:tabsS[tn]'htl=T:=(List.getElem?_eq_some_iff.1 hT).2
 have hk0:decide ((kk:Int)<0)=false:=decide_eq_false (by omega)
 refine VCalls.introV (A.length+2) Tryz.func33 Tryz.ntmps33 Tryz.results33 rfl (by simp[nSt,gS]) (Nat.le_of_ble_eq_true rfl) fun c hc hb=> ?_
 refine zC ?_
 unfold nSt
 rw[←List.append_nil (gS _ _ _)]
 simp[go_sem,yC,schR,htl,hTg,hkk,hk0]
 have ret: ∀(τ:St),uOf N=M→wret (some (.tup [])) (A.length+2) (fun x s=>x= .tup []∧ ∃N' A',s=gS [.lsv 1 2 N'.length 0 N'.length] (N'.map nRow) A'∧NOk N' A'∧uOf N'=M) (gS [.lsv 1 2 N.length 0 N.length] (N.map nRow) A++τ):=done
 by_cases q1:r.length≤kk
 ·rw[if_pos q1]at hM
  have q1':decide (r.length≤kk)=true:=decide_eq_true q1
  simp[go_sem,q1']
  exact ret _ hM
 rw[if_neg q1]at hM
 have q1':decide (r.length≤kk)=false:=decide_eq_false q1
 have qk:kk<r.length:=by omega
 obtain⟨x,hx⟩: ∃x,r[kk]=x:=⟨_,rfl⟩
 have hxd:r.getD kk zeroE=x:=by rw[List.getD_eq_getElem?_getD,List.getElem?_eq_getElem qk,hx];rfl
 have hxo:=he x (hx▸List.getElem_mem qk)
 have hev:=yC9 x hxo
 rw[hxd]at hM
 simp[go_sem,q1',yC,qk,hx]
 refine zD hev Tryz.callB81 ⟨zn0 ⟨zZ rfl,wD,zZ rfl,zZ rfl,zZ rfl,wD,wD,wD,zZ rfl,zZ rfl,zZ rfl,trivial⟩,zW,zI (by simp[go_sem]) (by rw[GExpr.row_eq];rfl)⟩ rfl ?_
 have hvo:(evN x).2=0→VK (evN x).1 (wS noT x).1:=xq8 hxo
 generalize evN x=kv at hM hvo⊢
 simp[go_sem,valP,yC]
 by_cases q2:kv.2=0
 rotate_left
 ·rw[if_pos (.inl q2)]at hM
  have q2':(kv.2 !=0)=true:=by simpa using q2
  simp[go_sem,q2']
  exact ret _ hM
 have q2':(kv.2 !=0)=false:=by simpa using q2
 by_cases q3:kv.1.kind=0
 ·rw[if_pos (.inr q3)]at hM
  have q3':(kv.1.kind==0)=true:=by simpa using q3
  simp[go_sem,q2',q3',yC]
  exact ret _ hM
 have q3':(kv.1.kind==0)=false:=by simpa using q3
 rw[if_neg (fun h=>h.elim (fun h=>h q2) q3)]at hM
 obtain⟨hvk,hvs⟩:=xu1 (hvo q2)
 have hbo:=xf3 zf3 (tabsS.map GTable.row) tn kv.1 (by decide) hvk hvs
 rw[show(tabsS.map GTable.row).length=3 from rfl]at hbo
 obtain⟨bd,hbd⟩: ∃bd,yY 3 (tn:Int) kv.1=bd:=⟨_,rfl⟩
 have hbl:bd.length≤9223372036854775806:=by
  have:=yp3 (v:=kv.1)
  rw[←hbd];unfold yY;split
  ·simp only[List.length_cons];omega
  ·simp
 rw[hbd]at hbo hM
 simp[go_sem,q2',q3',yC]
 have hbd1':=xd2 hB
 by_cases q4:T.place=0
 ·have q4':(T.place==0)=true:=by simpa using q4
  have q5:0<r.length:=by omega
  obtain⟨y,hy⟩: ∃y,r[0]=y:=⟨_,rfl⟩
  have hyd:r.getD 0 zeroE=y:=by rw[List.getD_eq_getElem?_getD,List.getElem?_eq_getElem q5,hy];rfl
  have hyo:=he y (hy▸List.getElem_mem q5)
  have hev2:=yC9 y hyo
  unfold regN at hM
  rw[if_pos q4,hyd]at hM
  simp[go_sem,q4',q5,hy]
  refine zD hev2 Tryz.callB81 ⟨zn0 ⟨zZ rfl,wD,zZ rfl,zZ rfl,zZ rfl,wD,wD,wD,zZ rfl,zZ rfl,zZ rfl,trivial⟩,zW,zI (by simp[go_sem]) (by rw[GExpr.row_eq];rfl)⟩ rfl ?_
  generalize evN y=rv at hM⊢
  simp[go_sem,valP,yC]
  by_cases q6:rv.2=0
  rotate_left
  ·rw[if_pos (.inl q6)]at hM
   have q6':(rv.2 !=0)=true:=by simpa using q6
   simp[go_sem,q6']
   exact ret _ hM
  have q6':(rv.2 !=0)=false:=by simpa using q6
  by_cases q7:rv.1.kind=2
  rotate_left
  ·rw[if_pos (.inr q7)]at hM
   have q7':(rv.1.kind !=2)=true:=by simpa using q7
   simp[go_sem,q6',q7',yC]
   exact ret _ hM
  have q7':(rv.1.kind !=2)=false:=by simpa using q7
  rw[if_neg (fun h=>h.elim (fun h=>h q6) (fun h=>h q7))]at hM
  simp only at hM
  have hrg:=zT6 tn (regC rv.1.n) ht3 (xk6 _)
  obtain⟨⟨g,ge⟩,hg⟩: ∃g,zb8 tn (regC rv.1.n)=g:=⟨_,rfl⟩
  rw[hg]at hrg hM
  simp only at hM
  unfold regC at hrg
  simp[go_sem,q6',q7',yC]
  refine zD hrg Tryz.callB34 (zI (by simp[go_sem,schR]) rfl) rfl ?_
  simp[go_sem,zy2]
  by_cases q8:ge=0
  rotate_left
  ·rw[if_pos q8]at hM
   have q8':(ge !=0)=true:=by simpa using q8
   simp[go_sem,q8']
   exact ret _ hM
  have q8':(ge !=0)=false:=by simpa using q8
  rw[if_neg (fun h=>h q8)]at hM
  have hcall:=yy5 N A h g ⟨bd,bd++ [0]⟩ (by omega) (fun y hy=>by have:=hbd1'.2 y hy;omega)
  simp[go_sem,q8',yC]
  refine zD hbo Tryz.callB55 (zI (by simp[go_sem]) rfl) rfl ?_
  simp[go_sem]
  refine zO hbl ?_
  simp[go_sem]
  refine zF1 hcall Tryz.callB35 (zu8 h) (by simp[ltOb,ltC,ltK]) ⟨zm4 (n:=(nSt N A).length) (by simp[ltS,ltA,ltC,ltK,zk8]),zA rfl,zA rfl,trivial⟩ (fun r s h=>by
   obtain⟨rfl,N2,A2,rfl,h2,_⟩:=h
   exact⟨rfl,zu8 h2⟩) ?_
  rintro r' s ⟨rfl,N2,A2,rfl,hok2,hu2⟩ hle σ' pick hF2
  simp[go_sem]
  exact zZ5 hF2 (by rw[yC];exact Nat.le_refl _) (zu8 hok2) hle rfl ⟨rfl,N2,A2,rfl,hok2,hu2.trans hM⟩
 have q4':(T.place==0)=false:=by simpa using q4
 unfold regN at hM
 rw[if_neg q4]at hM
 simp only at hM
 have hrg:=zT6 tn 0 ht3 (by omega)
 obtain⟨⟨g,ge⟩,hg⟩: ∃g,zb8 tn 0=g:=⟨_,rfl⟩
 rw[hg]at hrg hM
 simp only at hM
 simp[go_sem,q4',yC]
 refine zD hrg Tryz.callB34 (zI (by simp[go_sem,schR]) rfl) rfl ?_
 simp[go_sem,zy2]
 by_cases q8:ge=0
 rotate_left
 ·rw[if_pos q8]at hM
  have q8':(ge !=0)=true:=by simpa using q8
  simp[go_sem,q8']
  exact ret _ hM
 have q8':(ge !=0)=false:=by simpa using q8
 rw[if_neg (fun h=>h q8)]at hM
 have hcall:=yy5 N A h g ⟨bd,bd++ [0]⟩ (by omega) (fun y hy=>by have:=hbd1'.2 y hy;omega)
 simp[go_sem,q8',yC]
 refine zD hbo Tryz.callB55 (zI (by simp[go_sem]) rfl) rfl ?_
 simp[go_sem]
 refine zO hbl ?_
 simp[go_sem]
 refine zF1 hcall Tryz.callB35 (zu8 h) (by simp[ltOb,ltC,ltK]) ⟨zm4 (n:=(nSt N A).length) (by simp[ltS,ltA,ltC,ltK,zk8]),zA rfl,zA rfl,trivial⟩ (fun r s h=>by
  obtain⟨rfl,N2,A2,rfl,h2,_⟩:=h
  exact⟨rfl,zu8 h2⟩) ?_
 rintro r' s ⟨rfl,N2,A2,rfl,hok2,hu2⟩ hle σ' pick hF2
 simp[go_sem]
 exact zZ5 hF2 (by rw[yC];exact Nat.le_refl _) (zu8 hok2) hle rfl ⟨rfl,N2,A2,rfl,hok2,hu2.trans hM⟩
end Go.Proofs.YtajjjghohakniaaGreat
