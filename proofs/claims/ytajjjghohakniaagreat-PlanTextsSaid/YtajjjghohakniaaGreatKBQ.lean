/-
  The document's cuts of a statement: its conjuncts that hold a column against a value, over trees (the library Vx); used by the theorem at the end of the claim.
  Conditions: as each theorem states them.
-/
import Derived.Test.YtajjjghohakniaaGreatKBP
import Derived.Test.YtajjjghohakniaaGreatKBN
import Derived.Test.YtajjjghohakniaaGreatKBC
namespace Go.Proofs.YtajjjghohakniaaGreat
open Go Go.Vx R
set_option maxRecDepth 100000
def zn0 (v:GValue):Int:=if v.kind=0 then 2 else v.n
theorem zZ4 {x:GValue} (h:VK x 1):x=xN∨x=xG true∨x=xG false:=by
 obtain⟨k,n,s⟩:=x
 have hm:=h.may
 unfold mayF at hm
 simp only at hm
 rcases h.kind with q|q
 ·simp only at q
  subst q
  simp at hm
  obtain⟨h1,h2⟩:=hm
  subst h2
  rcases h1 with h1|h1
  ·subst h1;exact .inr (.inr rfl)
  ·subst h1;exact .inr (.inl rfl)
 ·simp only at q
  subst q
  simp at hm
  obtain⟨h1,h2⟩:=hm
  subst h2 h1
  exact .inl rfl
theorem yX0 {x y:GValue} (hx:VK x 1) (hy:VK y 1):zY9 [65,78,68] (zn0 x) (zn0 y)=zv3 0 [x,y] false:=by
 rcases zZ4 hx with rfl|rfl|rfl<;>rcases zZ4 hy with rfl|rfl|rfl<;>rfl
theorem xp9 {x y:GValue} (hx:VK x 1) (hy:VK y 1):zY9 [79,82] (zn0 x) (zn0 y)=zv3 1 [x,y] false:=by
 rcases zZ4 hx with rfl|rfl|rfl<;>rcases zZ4 hy with rfl|rfl|rfl<;>rfl
theorem xt4 {x:GValue} (hx:VK x 1) (h:(x.kind==0)=false):xG (x.n==0)=xG (!ys3 x):=by
 rcases zZ4 hx with rfl|rfl|rfl
 ·cases h
 ·rfl
 ·rfl
theorem yX6 (a b:GValue):ye8 a b=cmpV a b:=by
 unfold ye8 cmpV orL orL orL orL cmpI cmpS
 by_cases h1:a.kind=b.kind
 ·rw[if_neg (fun h=>h h1),h1]
  by_cases h2:a.n=b.n
  ·rw[if_neg (fun h=>h h2),h2]
   by_cases h3:a.s=b.s
   ·rw[if_neg (fun h=>h h3),h3]
    simp[zn5]
   ·rw[if_pos h3]
    rcases zx7 a.s b.s with h|h|h
    ·simp[h]
    ·exact absurd h h3
    ·have h':Op.bytesLess a.s b.s=false:=by
      cases hh:Op.bytesLess a.s b.s with
      |false=>rfl
      |true=>exact absurd (zu5 _ _ _ h hh) (by rw[zn5];decide)
     simp[h,h']
  ·rw[if_pos h2]
   by_cases h3:a.n<b.n<;>simp[h3]<;>omega
 ·rw[if_pos h1]
  by_cases h3:a.kind<b.kind<;>simp[h3]<;>omega
theorem xc1 (a b:GValue):Pure Tryz.prog 100 [.agg a.row,.agg b.row] (.int .i64 (cmpV a b)):=by rw[←yX6];exact yR3 a b
theorem zB7 (v:GValue):Pure Tryz.prog 97 [.agg v.row] (.int .i64 (zn0 v)):=xn9 v
structure NoSp (s:List UInt8):Prop where
 n1:(s== [73,83,78,85,76,76])=false
 n2:(s== [78,79,84,78,85,76,76])=false
 n3:(s== [65,78,68])=false
 n4:(s== [79,82])=false
def zd4 (l:List GValue):Bool:=l.any fun v=>v.kind==0
theorem yI9 {α:Type} {l:List α} (h:l.length=1): ∃x,l= [x]:=by
 match l,h with
 | [x],_=>exact⟨x,rfl⟩
theorem yl9 {α:Type} {l:List α} (h:l.length=2): ∃x y,l= [x,y]:=by
 match l,h with
 | [x,y],_=>exact⟨x,y,rfl⟩
theorem yB4 {s:List UInt8} {l:List GValue} {ks:List Int} {k:Int} (ho:zj7 s ks=(k,0)) (ha:All2 VK l ks):
  (s= [73,83,78,85,76,76]∧zh6 s l=(xG (zd4 l),0))∨
  (s= [78,79,84,78,85,76,76]∧zh6 s l=(xG (!zd4 l),0))∨
  (s= [65,78,68]∧ ∃x y,l= [x,y]∧zh6 s l=(zY9 [65,78,68] (zn0 x) (zn0 y),0))∨
  (s= [79,82]∧ ∃x y,l= [x,y]∧zh6 s l=(zY9 [79,82] (zn0 x) (zn0 y),0))∨
  (NoSp s∧zd4 l=true∧zh6 s l=(xN,0))∨
  (NoSp s∧zd4 l=false∧s= [78,79,84]∧ ∃x,l= [x]∧zh6 s l=(xG (x.n==0),0))∨
  (NoSp s∧zd4 l=false∧(s== [78,79,84])=false∧zf2 s=true∧(s= [78,69,71]∨(2≤l.length∧(s= [43]∨s= [45]∨s= [42]∨s= [47]∨s= [37])))∧zh6 s l=numR s (l.getD 0 xN) (l.getD 1 xN))∨
  (NoSp s∧zd4 l=false∧(s== [78,79,84])=false∧zf2 s=false∧ ∃x y,l= [x,y]∧(s= [61]∨s= [60,62]∨s= [60]∨s= [60,61]∨s= [62]∨s= [62,61])∧zh6 s l=(xG (zn1 s (cmpV x y)),0)):=by
 have hlen:=zX4 ha
 cases yr3 ho with
 |null hs hl hk=>
  obtain⟨x,rfl⟩:=yI9 (hlen.trans hl)
  rcases hs with rfl|rfl
  ·exact .inl ⟨rfl,by simp[zh6,zd4]⟩
  ·exact .inr (.inl ⟨rfl,by simp[zh6,zd4]⟩)
 |not hs hl hk' hk=>
  obtain⟨x,rfl⟩:=yI9 (hlen.trans hl)
  have hx:=zM2 ha hk' x (List.mem_cons_self ..)
  subst hs
  have hsp:NoSp [78,79,84]:=⟨by decide,by decide,by decide,by decide⟩
  by_cases q:zd4 [x]=true
  ·exact .inr (.inr (.inr (.inr (.inl ⟨hsp,q,by rw[zR4];exact if_pos q⟩))))
  ·have q2:zd4 [x]=false:=by simpa using q
   refine .inr (.inr (.inr (.inr (.inr (.inl ⟨hsp,q2,rfl,x,rfl, ?_⟩)))))
   rw[zR4]
   refine(if_neg q).trans ?_
   have:(x.kind==0)=false:=by simpa[zd4]using q2
   rw[xt4 hx this];rfl
 |neg hs hl hk' hk=>
  subst hs
  have hsp:NoSp [78,69,71]:=⟨by decide,by decide,by decide,by decide⟩
  by_cases q:zd4 l=true
  ·exact .inr (.inr (.inr (.inr (.inl ⟨hsp,q,by rw[zP0];exact if_pos q⟩))))
  ·have q2:zd4 l=false:=by simpa using q
   refine .inr (.inr (.inr (.inr (.inr (.inr (.inl ⟨hsp,q2,by decide,by decide,.inl rfl, ?_⟩))))))
   rw[zP0]
   exact if_neg q
 |both hs hl hk' hk=>
  obtain⟨x,y,rfl⟩:=yl9 (hlen.trans hl)
  have hv:=zM2 ha hk'
  have hx:=hv x (by simp)
  have hy:=hv y (by simp)
  rcases hs with rfl|rfl
  ·exact .inr (.inr (.inr (.inl ⟨rfl,x,y,rfl,by rw[xp9 hx hy];rfl⟩)))
  ·exact .inr (.inr (.inl ⟨rfl,x,y,rfl,by rw[yX0 hx hy];rfl⟩))
 |sum hs hl hk' hk=>
  have hsp:NoSp s:=by rcases hs with rfl|rfl|rfl|rfl|rfl<;>exact⟨by decide,by decide,by decide,by decide⟩
  have h1:(s== [78,79,84])=false:=by rcases hs with rfl|rfl|rfl|rfl|rfl<;>decide
  have h2:zf2 s=true:=by rcases hs with rfl|rfl|rfl|rfl|rfl<;>decide
  have h3: ¬s= [78,69,71]:=by rcases hs with rfl|rfl|rfl|rfl|rfl<;>decide
  by_cases q:zd4 l=true
  ·exact .inr (.inr (.inr (.inr (.inl ⟨hsp,q,by rw[zR0 hs];exact if_pos q⟩))))
  ·have q2:zd4 l=false:=by simpa using q
   refine .inr (.inr (.inr (.inr (.inr (.inr (.inl ⟨hsp,q2,h1,h2,.inr ⟨by omega,hs⟩, ?_⟩))))))
   rw[zR0 hs]
   refine(if_neg q).trans ?_
   unfold numR
   rw[if_neg h3]
 |cmp hs hl hk=>
  obtain⟨x,y,rfl⟩:=yl9 (hlen.trans hl)
  have hsp:NoSp s:=by rcases hs with rfl|rfl|rfl|rfl|rfl|rfl<;>exact⟨by decide,by decide,by decide,by decide⟩
  have h1:(s== [78,79,84])=false:=by rcases hs with rfl|rfl|rfl|rfl|rfl|rfl<;>decide
  have h2:zf2 s=false:=by rcases hs with rfl|rfl|rfl|rfl|rfl|rfl<;>decide
  by_cases q:zd4 [x,y]=true
  ·exact .inr (.inr (.inr (.inr (.inl ⟨hsp,q,by rw[zQ7 hs];exact if_pos q⟩))))
  ·have q2:zd4 [x,y]=false:=by simpa using q
   refine .inr (.inr (.inr (.inr (.inr (.inr (.inr ⟨hsp,q2,h1,h2,x,y,rfl,hs, ?_⟩))))))
   rw[zQ7 hs]
   exact if_neg q
set_option maxHeartbeats 8000000 in
theorem zW4 {T:GTable} {row:List GValue} (hr:RowOk T row) (hT:T.cols.length≤maxLen): ∀(n:Nat) (e:GExpr),yX e≤n→Wide e→Good e→(zc1 T e).2=0→Pure Tryz.prog 43 [.agg T.row,.sl .ro (row.map GValue.row),.agg e.row] (valP (evF T row e))
 |0,e,h,_,_,_=>by have:=ze8 e;omega
 |n+1,e,h,hw,hg,hk=>by
  have ih:=zW4 hr hT n
  have hok:= @yF1 _ _ hr n
  have hde:=wX e
  have hlen:=hw.len
  have hsub:=hw.sub
  have hgs:=hg.sub
  have hcol:=zL6 T e.s hT
  rw[show xD (fun c:GCol=>c.name==e.s) T.cols 0=colF T e.s from rfl]at hcol
  obtain⟨M,hM⟩: ∃M,evF T row e=M:=⟨_,rfl⟩
  rw[hM]
  rw[yB6]at hM
  rw[zy4]at hk
  have ret: ∀(v:GValue) (e:Int) (σ:St),(v,e)=M→wret (some (.tup [.agg v.row,.int .i64 e])) 0 (fun r s=>r=valP M∧s= []) σ:=fun v e σ h=>zh7 h
  refine VCalls.introV 0 Tryz.func43 Tryz.ntmps43 Tryz.results43 rfl rfl (Nat.le_of_ble_eq_true rfl) fun c hc hb=> ?_
  refine zC ?_
  simp[go_sem]
  by_cases q1:e.kind=1
  ·have q1':(e.kind==1)=true:=by simpa using q1
   rw[if_pos q1]at hM
   simp[go_sem,q1']
   exact ret _ _ _ hM
  rw[if_neg q1]at hM hk
  have q1':(e.kind==1)=false:=by simpa using q1
  by_cases q2:e.kind=2
  ·have q2':(e.kind==2)=true:=by simpa using q2
   rw[if_pos q2]at hM hk
   by_cases w:colF T e.s<0
   ·rw[if_pos w]at hk;cases hk
   obtain⟨j,hj,hjl⟩:=zt8 T e.s w
   have hjr:j<row.length:=by rw[hr.len];exact hjl
   obtain⟨v,hv⟩: ∃v,row[j]=v:=⟨_,rfl⟩
   rw[hj,Int.toNat_natCast,List.getD_eq_getElem?_getD,List.getElem?_eq_getElem hjr,hv]at hM
   rw[hj]at hcol
   simp[go_sem,q1',q2']
   refine zE hcol Tryz.callB94 (zF (by simp[go_sem]) rfl) rfl ?_
   simp[go_sem,hjr,hv]
   exact ret _ _ _ hM
  rw[if_neg q2]at hM hk
  have q2':(e.kind==2)=false:=by simpa using q2
  by_cases q3:e.kind=3
  rotate_left
  ·rw[if_neg q3]at hk;cases hk
  rw[if_pos q3]at hk
  obtain⟨args,hargs⟩: ∃args,e.args=args:=⟨_,rfl⟩
  rw[hargs]at hde hlen hsub hgs hM hk
  by_cases w1:(xB T args).2=0
  rotate_left
  ·rw[if_pos w1]at hk;exact absurd hk w1
  have n1: ¬(xB T args).2≠0:=fun h=>h w1
  rw[if_neg n1]at hk
  by_cases w3:zg4 e.v=false
  ·rw[if_pos w3]at hk;cases hk
  rw[if_neg w3]at hk
  have hop:zj7 e.s (xB T args).1=((zj7 e.s (xB T args).1).1,0):=Prod.ext rfl hk
  have hmem:=zK3 w1
  have hevs:(evsF T row args).2=0→All2 VK (evsF T row args).1 (xB T args).1:=fun h=>
   hok (fun x hx=>⟨by have:=xQ args x hx;omega,hgs x hx⟩) w1 h
  obtain⟨K,hK⟩: ∃K,evsF T row args=K:=⟨_,rfl⟩
  rw[hK]at hM hevs
  simp[go_sem,q1',q2',hargs]
  refine zj1 8 3 (by decide) (by simp[go_sem]) ?_
  refine zL (S:=Nat×List GValue) [1,3,5,6,8,9,10] (fun u=> [.sl .ro (row.map GValue.row),.ptr 0 0,.ptr 1 0,.ptr 2 0,.sl (.app 3) (u.2.map GValue.row),.bool (zd4 u.2),.int .i64 (u.1:Int)])
   (fun u=> [.box T.row,.box e.row,.box [.int .i64 0,.int .i64 0,.str []],.app u.2.length 3]) (fun u=>args.length - u.1)
   (fun u=>u.1≤args.length∧u.2.length=u.1∧(evsF T row (args.drop u.1)).2=K.2∧(K.2=0→u.2++(evsF T row (args.drop u.1)).1=K.1)) hc hb (0,[])
   ⟨Nat.zero_le _,rfl,by simp only[List.drop_zero];rw[hK],fun _=>by simp only[List.drop_zero];rw[hK];rfl⟩ ?_ ?_
  ·exact at_n 4 (by simp[go_sem,hargs]) rfl (by simp[ltOb,ltC,ltK,GExpr.row_eq,GTable.row]) (Nat.zero_le _) (zD (by simp[go_sem,zd4]) rfl)
  rintro⟨i,l⟩ ⟨hi,hl,hinv,hinv2⟩
  simp only at hi hl hinv hinv2
  by_cases q:i<args.length
  rotate_left
  ·rw[List.drop_eq_nil_of_le (by omega),evsF]at hinv hinv2
   have hK2:K.2=0:=hinv.symm
   have hK1:l=K.1:=by have:=hinv2 hK2;simpa using this
   have n2: ¬K.2≠0:=fun h=>h hK2
   rw[if_neg n2,←hK1]at hM
   have hA:=hevs hK2
   rw[←hK1]at hA
   obtain⟨_,d1,d2,d3,d4⟩:=yn4 hop hA
   have hcs:=yB4 hop hA
   have hlp:0<l.length:=d1
   obtain⟨o,ho⟩: ∃o,zh6 e.s l=o:=⟨_,rfl⟩
   rw[ho]at hM hcs
   subst hM
   clear ho
   rcases hcs with ⟨h1,h2⟩|⟨h1,h2⟩|⟨h1,x,y,hxy,h2⟩|⟨h1,x,y,hxy,h2⟩|⟨h1,h3,h2⟩|⟨h1,h3,h4,x,hx,h2⟩|⟨h1,h3,h4,h5,h6,h2⟩|⟨h1,h3,h4,h5,x,y,hxy,h6,h2⟩
   ·have hc:=za9 (zd4 l)
    refine zC ?_
    simp[go_sem,hargs,q,h1]
    refine zE hc Tryz.callB95 (zH rfl) rfl ?_
    simp[go_sem]
    exact ret _ _ _ h2.symm
   ·have hc:=za9 (!zd4 l)
    refine zC ?_
    simp[go_sem,hargs,q,h1]
    refine zE hc Tryz.callB95 (zH rfl) rfl ?_
    simp[go_sem]
    exact ret _ _ _ h2.symm
   ·have hc:=yi5 [65,78,68] (zn0 x) (zn0 y)
    have hx:=zB7 x
    have hy:=zB7 y
    refine zC ?_
    simp[go_sem,hargs,q,h1,hxy]
    refine zX [(5,0),(9,0),(10,0)] 2 (by simp) (by kernel_rfl) (by kernel_rfl) ?_
    simp[go_sem]
    refine zS hx Tryz.callB97 (fun _=>zH rfl) rfl ?_
    simp[go_sem]
    refine zS hy Tryz.callB97 (fun _=>zH rfl) rfl ?_
    simp[go_sem]
    refine zS hc Tryz.callB96 (fun _=>zH rfl) rfl ?_
    simp[go_sem]
    exact ret _ _ _ h2.symm
   ·have hc:=yi5 [79,82] (zn0 x) (zn0 y)
    have hx:=zB7 x
    have hy:=zB7 y
    refine zC ?_
    simp[go_sem,hargs,q,h1,hxy]
    refine zX [(5,0),(9,0),(10,0)] 2 (by simp) (by kernel_rfl) (by kernel_rfl) ?_
    simp[go_sem]
    refine zS hx Tryz.callB97 (fun _=>zH rfl) rfl ?_
    simp[go_sem]
    refine zS hy Tryz.callB97 (fun _=>zH rfl) rfl ?_
    simp[go_sem]
    refine zS hc Tryz.callB96 (fun _=>zH rfl) rfl ?_
    simp[go_sem]
    exact ret _ _ _ h2.symm
   ·refine zC ?_
    simp[go_sem,hargs,q,h1.n1,h1.n2,h1.n3,h1.n4,h3]
    exact ret xN 0 _ h2.symm
   ·subst hx
    have hc:=za9 (x.n==0)
    refine zC ?_
    simp[go_sem,hargs,q,h3,h4]
    refine zE hc Tryz.callB95 (zH rfl) rfl ?_
    simp[go_sem]
    exact ret _ _ _ h2.symm
   ·have hc:=yG1 e.s l d1 h6 d3
    have ha:=yn0 e.s
    rw[h5]at ha
    rw[←h2]at hc
    refine zC ?_
    simp[go_sem,hargs,q,h1.n1,h1.n2,h1.n3,h1.n4,h3,h4]
    refine zE ha Tryz.callB98 (zH rfl) rfl ?_
    simp[go_sem]
    refine zE hc Tryz.callB99 ⟨zA rfl,zV,trivial⟩ rfl ?_
    simp[go_sem,valP]
    exact ret _ _ _ rfl
   ·have ha:=yn0 e.s
    rw[h5]at ha
    have hc:=xc1 x y
    generalize cmpV x y=cv at hc h2
    have e1:e.s= [61]→xG (zn1 e.s cv)=xG (cv==0):=fun h=>by rw[h];rfl
    have e2:e.s= [60,62]→xG (zn1 e.s cv)=xG (cv !=0):=fun h=>by rw[h];rfl
    have e3:e.s= [60]→xG (zn1 e.s cv)=xG (decide (cv<0)):=fun h=>by rw[h];rfl
    have e4:e.s= [60,61]→xG (zn1 e.s cv)=xG (decide (cv≤0)):=fun h=>by rw[h];rfl
    have e5:e.s= [62]→xG (zn1 e.s cv)=xG (decide (0<cv)):=fun h=>by rw[h];rfl
    have e6:e.s= [62,61]→xG (zn1 e.s cv)=xG (decide (0≤cv)):=fun h=>by rw[h];rfl
    refine zC ?_
    simp[go_sem,hargs,q,h1.n1,h1.n2,h1.n3,h1.n4,h3,h4]
    refine zE ha Tryz.callB98 (zH rfl) rfl ?_
    simp[go_sem,hxy]
    refine zX [(6,0)] 2 (by simp) (by kernel_rfl) (by kernel_rfl) ?_
    simp[go_sem]
    refine zS hc Tryz.callB100 (fun _=>zH rfl) rfl ?_
    rcases h6 with h6|h6|h6|h6|h6|h6
    ·rw[e1 h6]at h2
     simp[go_sem,h6]
     refine zE (za9 (cv==0)) Tryz.callB95 (zH rfl) rfl ?_
     simp[go_sem]
     exact ret _ _ _ h2.symm
    ·rw[e2 h6]at h2
     simp[go_sem,h6]
     refine zE (za9 (cv !=0)) Tryz.callB95 (zH rfl) rfl ?_
     simp[go_sem]
     exact ret _ _ _ h2.symm
    ·rw[e3 h6]at h2
     simp[go_sem,h6]
     refine zE (za9 (decide (cv<0))) Tryz.callB95 (zH rfl) rfl ?_
     simp[go_sem]
     exact ret _ _ _ h2.symm
    ·rw[e4 h6]at h2
     simp[go_sem,h6]
     refine zE (za9 (decide (cv≤0))) Tryz.callB95 (zH rfl) rfl ?_
     simp[go_sem]
     exact ret _ _ _ h2.symm
    ·rw[e5 h6]at h2
     simp[go_sem,h6]
     refine zE (za9 (decide (0<cv))) Tryz.callB95 (zH rfl) rfl ?_
     simp[go_sem]
     exact ret _ _ _ h2.symm
    ·rw[e6 h6]at h2
     simp[go_sem,h6]
     refine zE (za9 (decide (0≤cv))) Tryz.callB95 (zH rfl) rfl ?_
     simp[go_sem]
     exact ret _ _ _ h2.symm
  have ei:=zT q (by omega)
  obtain⟨x,hx⟩: ∃x,args[i]=x:=⟨_,rfl⟩
  have hxm:x∈args:=hx▸List.getElem_mem q
  have hdx:=xQ args x hxm
  rw[List.drop_eq_getElem_cons q,hx,evsF]at hinv hinv2
  have hcall:=ih x (by omega) (hsub x hxm) (hgs x hxm) (hmem x hxm)
  generalize evF T row x=kx at hcall hinv hinv2
  by_cases q4:kx.2=0
  ·have n3: ¬kx.2≠0:=fun h=>h q4
   rw[if_neg n3]at hinv hinv2
   have q4':(kx.2 !=0)=false:=by simpa using q4
   have fin: ∀e' σ',At 0 [1,3,5,6,8,9,10] [.sl .ro (row.map GValue.row),.ptr 0 0,.ptr 1 0,.ptr 2 0,.sl (.app 3) ((l++ [kx.1]).map GValue.row),.bool (zd4 (l++ [kx.1])),.int .i64 ((i+1:Nat):Int)] [.box T.row,.box e.row,.box [.int .i64 0,.int .i64 0,.str []],.app (l++ [kx.1]).length 3] e' σ'→
    Vx.Next (fun s':Nat×List GValue=>args.length - s'.1<args.length - i∧(s'.1≤args.length∧s'.2.length=s'.1∧(evsF T row (args.drop s'.1)).2=K.2∧(K.2=0→s'.2++(evsF T row (args.drop s'.1)).1=K.1))∧At 0 [1,3,5,6,8,9,10] [.sl .ro (row.map GValue.row),.ptr 0 0,.ptr 1 0,.ptr 2 0,.sl (.app 3) (s'.2.map GValue.row),.bool (zd4 s'.2),.int .i64 (s'.1:Int)] [.box T.row,.box e.row,.box [.int .i64 0,.int .i64 0,.str []],.app s'.2.length 3] e' σ') fx:=fun e' σ' h=>
     zN (i+1,l++ [kx.1]) ⟨by simp only;omega,⟨by simp only;omega,by simp;omega,hinv,fun h=>by have:=hinv2 h;simpa using this⟩,h⟩
   have any1:(zd4 (l++ [kx.1]))=(zd4 l||(kx.1.kind==0)):=by unfold zd4;rw[List.any_append,List.any_cons,List.any_nil,Bool.or_false]
   rw[any1]at fin
   obtain⟨b0,hb0⟩: ∃b0,zd4 l=b0:=⟨_,rfl⟩
   rw[hb0]at fin
   refine zC ?_
   simp[go_sem,hargs,q]
   refine zX [(7,0)] 2 (by simp) (by kernel_rfl) (by kernel_rfl) ?_
   simp[go_sem,q,hx]
   refine zS hcall Tryz.callB43 (fun _=>zF (by simp[go_sem]) (by rw[GExpr.row_eq];rfl)) rfl ?_
   simp[go_sem,valP,q4']
   refine zP ⟨by omega,yT rfl⟩ ?_
   refine(Bool.eq_false_or_eq_true b0).elim (fun p=> ?_) (fun p=> ?_)
   ·rw[p,Bool.true_or]at fin
    rw[p]at hb0
    simp[go_sem,hb0,ei]
    exact fin _ _ (at_n 4 (by simp[go_sem,hargs]) rfl (by simp[ltOb,ltC,ltK,GExpr.row_eq,GTable.row]) (Nat.zero_le _) (zD (by simp[go_sem]) rfl))
   ·rw[p,Bool.false_or]at fin
    rw[p]at hb0
    simp[go_sem,hb0,ei]
    exact fin _ _ (at_n 4 (by simp[go_sem,hargs]) rfl (by simp[ltOb,ltC,ltK,GExpr.row_eq,GTable.row]) (Nat.zero_le _) (zD (by simp[go_sem]) rfl))
  ·rw[if_pos q4]at hinv
   have q4':(kx.2 !=0)=true:=by simpa using q4
   have hK2:kx.2=K.2:=hinv
   rw[if_pos (by rw[←hK2];exact q4),←hK2]at hM
   refine zC ?_
   simp[go_sem,hargs,q]
   refine zX [(7,0)] 2 (by simp) (by kernel_rfl) (by kernel_rfl) ?_
   simp[go_sem,q,hx]
   refine zS hcall Tryz.callB43 (fun _=>zF (by simp[go_sem]) (by rw[GExpr.row_eq];rfl)) rfl ?_
   simp[go_sem,valP,q4']
   exact ret xN _ _ hM
end Go.Proofs.YtajjjghohakniaaGreat
namespace Go.Vx
open Go
theorem yO4 (s:Nat) {n0:Nat} {R:V→St→Prop} {σ:St} (hs:0<s) (h:wret (some (.lsv σ.length s 0 0 0)) n0 R (σ++ [.lst [] s])):wret (some (.sl .full [])) n0 R σ:=by
 obtain⟨x,e,v1,σ1,pick,σ',r,hf,hp,ha,hr⟩:=h
 cases e
 exact⟨_,rfl,v1,σ1,pick,σ',r,.nilv 0 s hs rfl hf,hp,ha,hr⟩
end Go.Vx
namespace Go.Proofs.YtajjjghohakniaaGreat
open Go Go.Vx R
set_option maxRecDepth 100000
structure GCut where
 name:List UInt8
 sign:List UInt8
 v:GValue
def GCut.row (c:GCut):List V:= [.str c.name,.str c.sign,.int .i64 c.v.kind,.int .i64 c.v.n,.str c.v.s]
def cutOps:List (List UInt8):= [[61],[60],[60,61],[62],[62,61]]
def zj9 (e:GExpr):List GCut:=
 match e.args with
 | [a,b]=>if ¬e.kind=3∨cutOps.contains e.s=false then []else if a.kind=2∧b.kind=1∧ ¬b.v.kind=0 then [⟨a.s,e.s,b.v⟩]else if b.kind=2∧a.kind=1∧ ¬a.v.kind=0 then [⟨b.s,zI4 e.s,a.v⟩]else []
 |_=> []
def wJ:Nat→GExpr→List GExpr
 |0,e=> [e]
 |n+1,e=>if zm4 e=true then e.args.flatMap (wJ n)else [e]
def zk7 (n:Nat) (e:GExpr):List GCut:=(wJ n e).flatMap zj9
theorem zG1 (e:GExpr):(zj9 e).length≤1:=by
 unfold zj9
 repeat' split
 all_goals simp
theorem yh0 {n:Nat} {e a b:GExpr} (h:zm4 e=true) (hab:e.args= [a,b]):zk7 (n+1) e=zk7 n a++zk7 n b:=by
 unfold zk7
 rw[wJ,if_pos h,hab]
 simp
theorem yY8 {e:GExpr} (h:zm4 e=true): ∃a b,e.args= [a,b]:=by
 unfold zm4 at h
 rw[Bool.and_eq_true]at h
 exact yl9 (by simpa using h.2)
theorem zx3: ∀(n:Nat) (e:GExpr),(zk7 n e).length≤zc2 e
 |0,e=>by
  have:=zG1 e
  have:=zr6 e
  simp[zk7,wJ];omega
 |n+1,e=>by
  by_cases h:zm4 e=true
  ·obtain⟨a,b,hab⟩:=yY8 h
   have h1:=zx3 n a
   have h2:=zx3 n b
   rw[yh0 h hab,List.length_append,zl4 e,hab,yl5]
   omega
  ·have:=zG1 e
   have:=zr6 e
   unfold zk7
   rw[wJ,if_neg h]
   simp;omega
theorem xd0 (l:List GCut):uni 5 (l.map GCut.row):=zN5 fun _=>rfl
theorem yg8 (l:List GCut):xO (l.map GCut.row)=true:=by simp[xO,GCut.row,zi6]
theorem zY0 (l:List GCut):za4 (l.map GCut.row) 0 l.length=l.map GCut.row:=by
 unfold za4
 rw[List.drop_zero,List.take_of_length_le (by simp),List.map_map]
 exact List.map_congr_left fun c _=>rfl
theorem yb9 (ρ:Nat→Nat) (l:List GCut):List.map ((fun r=>List.map (renC ρ) r)∘GCut.row) l=l.map GCut.row:=List.map_congr_left fun _c _=>rfl
set_option maxHeartbeats 4000000 in
theorem yX4: ∀(n:Nat) (e:GExpr),yX e≤n→zc2 e≤4000→VCalls Tryz.prog 108 [.agg e.row] [] (fun r σ=>r= .lsv 0 5 (zk7 n e).length 0 (zk7 n e).length∧σ= [.lst ((zk7 n e).map GCut.row) 5])
 |0,e,h,_=>by have:=ze8 e;omega
 |n+1,e,h,hz=>by
  have ih:=yX4 n
  have hde:=wX e
  have hse:=zl4 e
  obtain⟨L,hL⟩: ∃L,zk7 (n+1) e=L:=⟨_,rfl⟩
  rw[hL]
  unfold zk7 at hL
  rw[wJ]at hL
  have nil: ∀(τ:St),L= []→wret (some (.sl .full [])) 0 (fun r σ=>r= .lsv 0 5 L.length 0 L.length∧σ= [.lst (L.map GCut.row) 5]) τ:=fun τ h=>by
   refine yO4 5 (by decide) (zt1 [τ.length] (s:= [.lst [] 5]) (r:= .lsv 0 5 0 0 0) (by simp) (fun i hi=>by omega) rfl ?_ (.inl (by simp[renS,renA,renC,renK,ren])) ?_)
   ·intro i j o h1 h2
    cases i with
    |zero=>
     simp at h1 h2
     subst h1 h2
     simp[yF]
    |succ i=>simp at h1
   ·rw[h];exact⟨rfl,rfl⟩
  refine VCalls.introV 0 Tryz.func108 Tryz.ntmps108 Tryz.results108 rfl rfl (Nat.le_of_ble_eq_true rfl) fun c hc hb=> ?_
  refine zo6 74 (by decide) ?_
  refine zo6 97 (by decide) ?_
  refine zC ?_
  simp[go_sem]
  by_cases q1:e.kind=3
  rotate_left
  ·have q1':(e.kind !=3)=true:=by simpa using q1
   simp[go_sem,q1']
   refine nil _ ?_
   rw[←hL,if_neg (by unfold zm4;simp[q1])]
   simp[zj9,q1]
   split<;>rfl
  have q1':(e.kind !=3)=false:=by simpa using q1
  simp[go_sem,q1']
  by_cases q2:e.args.length=2
  rotate_left
  ·have q2':((e.args.length:Int) !=2)=true:=by simpa using (show ¬(e.args.length:Int)=2 by omega)
   simp[go_sem,q2']
   refine nil _ ?_
   rw[←hL,if_neg (by unfold zm4;simp[q2])]
   simp[zj9]
   split
   ·rename_i h;rw[h]at q2;exact absurd rfl q2
   ·rfl
  have q2':((e.args.length:Int) !=2)=false:=by simpa using (show(e.args.length:Int)=2 by omega)
  simp[go_sem,q2']
  obtain⟨a,b,hab⟩: ∃a b,e.args= [a,b]:=by
   match e.args,q2 with
   | [a,b],_=>exact⟨a,b,rfl⟩
  refine yW8 [(10,3),(11,3)] 1 8 (by simp) (by kernel_rfl) (by rw[hc];exact Nat.zero_le _) hb (by kernel_rfl) rfl (by repeat' (first|exact LtE.env0|refine LtE.upd ?_ (by simp[ltS,ltA,ltC,ltK]))) (by simp only[List.take_succ_cons,List.take_zero];exact rfl) (by simp only[List.drop_succ_cons,List.drop_zero];exact rfl) ?_
  simp[go_sem,hab]
  refine⟨by repeat' (first|exact LtE.env0|refine LtE.upd ?_ (by simp[ltS,ltA,ltC,ltK])), ?_⟩
  rw[hab]at hse hde
  rw[yl5]at hse
  by_cases q3:e.s= [65,78,68]
  ·have hand:zm4 e=true:=by unfold zm4;simp[q1,q2,q3]
   have hL2:zk7 n a++zk7 n b=L:=by rw[←yh0 hand hab];unfold zk7;rw[wJ];exact hL
   have ia:=ih a (by have:=xQ [a,b] a (by simp);omega) (by omega)
   have ib:=ih b (by have:=xQ [a,b] b (by simp);omega) (by omega)
   have la:=zx3 n a
   have lb:=zx3 n b
   generalize zk7 n a=ca at ia la hL2
   generalize zk7 n b=cb at ib lb hL2
   have q3':(e.s== [65,78,68])=true:=by simpa using q3
   simp[go_sem,q3']
   refine zX [(1,3),(3,3)] 3 (by simp) (by kernel_rfl) (by kernel_rfl) ?_
   simp[go_sem]
   refine yH4 ia Tryz.callB108 (zF (by simp[go_sem]) (by rw[GExpr.row_eq];rfl)) ?_
   simp[go_sem,renS,renA,renC,renK,ren,yF]
   refine yH4 ib Tryz.callB108 (zF (by simp[go_sem]) (by rw[GExpr.row_eq];rfl)) ?_
   simp[go_sem,renS,renA,renC,renK,ren,yF,yb9,zY0]
   have hp:xO (List.take cb.length (List.map GCut.row cb))=true:=by rw[←List.map_take];exact yg8 _
   have fin: ∀(τ:St),τ[3]? =some (.lst (L.map GCut.row) 5)→wret (some (.lsv 3 5 L.length 0 L.length)) 0 (fun r σ=>r= .lsv 0 5 L.length 0 L.length∧σ= [.lst (L.map GCut.row) 5]) τ:=fun τ h=>by
    refine zt1 [3] (s:= [.lst (L.map GCut.row) 5]) (r:= .lsv 0 5 L.length 0 L.length) (by simp) (fun i hi=>by omega) rfl ?_ (.inl (by simp[renS,renA,renC,renK,ren])) ⟨rfl,rfl⟩
    intro i j o h1 h2
    cases i with
    |zero=>
     simp at h1 h2
     subst h1 h2
     rw[h]
     simp[yF,yb9]
    |succ i=>simp at h1
   have key:cb= []∨0<cb.length:=by cases cb<;>simp
   rcases key with h0|h0
   ·rw[h0,List.append_nil]at hL2
    subst hL2
    simp[go_sem,h0]
    refine zP ⟨rfl,by unfold uni;simp⟩ ?_
    simp[go_sem]
    exact fin _ (by simp)
   ·have hLl:ca.length+cb.length=L.length:=by rw[←hL2,List.length_append]
    have hLm:List.map GCut.row ca++List.map GCut.row cb=L.map GCut.row:=by rw[←hL2,List.map_append]
    rw[if_neg (by omega),hLl,hLm]
    simp[go_sem]
    refine zP ⟨hp,xd0 _,by omega⟩ ?_
    simp[go_sem]
    exact fin _ rfl
  have q3':(e.s== [65,78,68])=false:=by simpa using q3
  simp[go_sem,q3']
  have hL2:zj9 e=L:=by
   rw[←hL,if_neg (by unfold zm4;simp[q3])]
   simp
  unfold zj9 at hL2
  rw[hab]at hL2
  simp only[q1,not_true,false_or]at hL2
  have fin: ∀(x:GCut) (τ:St),[x]=L→τ[3]? =some (.lst [x.row] 5)→wret (some (.lsv 3 5 1 0 1)) 0 (fun r σ=>r= .lsv 0 5 L.length 0 L.length∧σ= [.lst (L.map GCut.row) 5]) τ:=fun x τ hx h=>by
   subst hx
   refine zt1 [3] (s:= [.lst [x.row] 5]) (r:= .lsv 0 5 1 0 1) (by simp) (fun i hi=>by omega) rfl ?_ (.inl (by simp[renS,renA,renC,renK,ren])) ⟨rfl,rfl⟩
   intro i j o h1 h2
   cases i with
   |zero=>
    simp at h1 h2
    subst h1 h2
    rw[h]
    rfl
   |succ i=>simp at h1
  by_cases hin:cutOps.contains e.s=true
  rotate_left
  ·have hin:cutOps.contains e.s=false:=by simpa using hin
   rw[if_pos hin]at hL2
   have hin:(e.s== [61])=false∧(e.s== [60])=false∧(e.s== [60,61])=false∧(e.s== [62])=false∧(e.s== [62,61])=false:=by
    simpa[cutOps]using hin
   simp[go_sem,hin.1,hin.2.1,hin.2.2.1,hin.2.2.2.1,hin.2.2.2.2]
   exact nil _ hL2.symm
  rw[if_neg (by rw[hin];decide)]at hL2
  have hs:e.s= [61]∨e.s= [60]∨e.s= [60,61]∨e.s= [62]∨e.s= [62,61]:=by simpa[cutOps]using hin
  clear hin
  have htu:=yq7 e.s
  have cases1:(a.kind=2∧b.kind=1∧ ¬b.v.kind=0)∨((a.kind==2)=false)∨((a.kind==2)=true∧(b.kind==1)=false)∨((a.kind==2)=true∧(b.kind==1)=true∧(b.v.kind !=0)=false):=by
   by_cases k1:a.kind=2<;>by_cases k2:b.kind=1<;>by_cases k3:b.v.kind=0<;>simp[k1,k2,k3]
  have cases2:(b.kind=2∧a.kind=1∧ ¬a.v.kind=0)∨((b.kind==2)=false)∨((b.kind==2)=true∧(a.kind==1)=false)∨((b.kind==2)=true∧(a.kind==1)=true∧(a.v.kind !=0)=false):=by
   by_cases k1:b.kind=2<;>by_cases k2:a.kind=1<;>by_cases k3:a.v.kind=0<;>simp[k1,k2,k3]
  rcases hs with hs|hs|hs|hs|hs
  all_goals
   rw[hs]at htu hL2
   simp[go_sem,hs]
   by_cases c1:a.kind=2∧b.kind=1∧ ¬b.v.kind=0
   ·rw[if_pos c1]at hL2
    have k1:(a.kind==2)=true:=by simpa using c1.1
    have k2:(b.kind==1)=true:=by simpa using c1.2.1
    have k3:(b.v.kind !=0)=true:=by simpa using c1.2.2
    simp[go_sem,k1,k2,k3]
    exact fin _ _ hL2 rfl
   rw[if_neg c1]at hL2
   rcases cases1.resolve_left c1 with k1|⟨k1,k2⟩|⟨k1,k2,k3⟩
   all_goals
    first
     |simp[go_sem,k1,k2,k3]
     |simp[go_sem,k1,k2]
     |simp[go_sem,k1]
    by_cases c2:b.kind=2∧a.kind=1∧ ¬a.v.kind=0
    ·rw[if_pos c2]at hL2
     have j1:(b.kind==2)=true:=by simpa using c2.1
     have j2:(a.kind==1)=true:=by simpa using c2.2.1
     have j3:(a.v.kind !=0)=true:=by simpa using c2.2.2
     simp[go_sem,j1,j2,j3]
     refine zX [(4,0),(8,3)] 3 (by simp) (by kernel_rfl) (by kernel_rfl) ?_
     simp[go_sem]
     refine zS htu Tryz.callB153 (fun _=>zH rfl) rfl ?_
     simp[go_sem]
     exact fin _ _ hL2 rfl
    rw[if_neg c2]at hL2
    rcases cases2.resolve_left c2 with j1|⟨j1,j2⟩|⟨j1,j2,j3⟩
    ·simp[go_sem,j1]
     exact nil _ hL2.symm
    ·simp[go_sem,j1,j2]
     exact nil _ hL2.symm
    ·simp[go_sem,j1,j2,j3]
     exact nil _ hL2.symm
def ofF (n:Nat) (st:GStmt):List GCut:=if st.filtered=true then zk7 n st.where_ else []
theorem of_w (n:Nat) (st:GStmt) (hd:yX st.where_≤n) (hz:zc2 st.where_≤4000):Pure Tryz.prog 57 [.agg st.row] (.sl .ro ((ofF n st).map GCut.row)):=by
 have h:=yX4 n st.where_ hd hz
 obtain⟨L,hL⟩: ∃L,ofF n st=L:=⟨_,rfl⟩
 rw[hL]
 unfold ofF at hL
 generalize zk7 n st.where_=C at h hL
 have hch:=zY0 L
 have hpu:=yg8 L
 refine VCalls.intro 0 Tryz.func57 Tryz.ntmps57 Tryz.results57 rfl rfl (Nat.le_of_ble_eq_true rfl) fun c hc hb=>zJ ?_
 simp[go_sem]
 refine(Bool.eq_false_or_eq_true st.filtered).elim (fun w=> ?_) (fun w=> ?_)
 ·rw[if_pos w]at hL
  subst hL
  simp[go_sem,w]
  refine xt5 h Tryz.callB108 [] List.nodup_nil rfl (fun i j o h=>by simp at h) (zF (by simp[go_sem]) (by rw[GExpr.row_eq];rfl)) ?_
  rintro r s ⟨rfl,rfl⟩ _
  simp[go_sem,renS,renA,renC,renK,ren,yF,yb9,xR,mset]
  refine zW7 1 5 (C.map GCut.row) rfl hpu ?_
  simp[frzS,frzA,frzC,frzK]
  rw[hch]
  exact zQ zV ⟨rfl,rfl⟩
 ·rw[if_neg (by rw[w];decide)]at hL
  subst hL
  simp[go_sem,w]
  exact zQ (zV) ⟨rfl,rfl⟩
end Go.Proofs.YtajjjghohakniaaGreat
