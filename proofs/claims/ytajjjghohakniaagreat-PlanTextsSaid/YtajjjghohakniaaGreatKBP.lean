/-
  Plain laws: what is written is read again; keys stand as their values do.
  Conditions: as each theorem states them.
-/
import Derived.Test.YtajjjghohakniaaGreatKBO
import Derived.Test.YtajjjghohakniaaGreatKBF
import Derived.Test.YtajjjghohakniaaGreatKBB
import Derived.Test.YtajjjghohakniaaGreatKBD
namespace Go.Proofs.YtajjjghohakniaaGreat
open Go Go.Vx R
set_option maxRecDepth 100000
mutual
def evF (T:GTable) (row:List GValue):GExpr→GValue×Int
 | .mk k s v args=>
  if k=1 then(v,0)else if k=2 then(row.getD (colF T s).toNat xN,0)
  else if(evsF T row args).2≠0 then(xN,(evsF T row args).2)else zh6 s (evsF T row args).1
def evsF (T:GTable) (row:List GValue):List GExpr→List GValue×Int
 | []=>([],0)
 |e::l=>if(evF T row e).2≠0 then([],(evF T row e).2)else((evF T row e).1::(evsF T row l).1,(evsF T row l).2)
end
theorem yB6 (T:GTable) (row:List GValue) (e:GExpr):evF T row e=
  if e.kind=1 then(e.v,0)else if e.kind=2 then(row.getD (colF T e.s).toNat xN,0)
  else if(evsF T row e.args).2≠0 then(xN,(evsF T row e.args).2)else zh6 e.s (evsF T row e.args).1:=by cases e;rw[evF];rfl
structure VK (v:GValue) (k:Int):Prop where
 may:mayF v=true
 n:okI v.n
 kind:v.kind=k∨v.kind=0
theorem zG2 (k:Int):VK xN k:=⟨by decide,by decide,.inr rfl⟩
theorem zM6 (b:Bool):VK (xG b) 1:=by cases b<;>exact⟨by decide,by decide,.inl rfl⟩
theorem yL2 (n:Int):okI (rngF n).1:=by
 unfold rngF
 split
 ·assumption
 ·decide
theorem yE7 {s:List UInt8} {a b:Int} (ha:okI a) (hb:okI b):okI (zq4 s a b).1:=by
 unfold zq4
 repeat' split
 all_goals first|exact yL2 _|exact xl0 ha hb|decide
theorem yg3 {r:Int×Int} (h:okI r.1):VK (wE r).1 2:=by
 unfold wE
 split
 ·exact⟨rfl,h,.inl rfl⟩
 ·exact zG2 2
theorem zU3 (w:Int): ∀(l:List GValue) (b:Bool),(∀v∈l,VK v 1)→VK (zv3 w l b) 1
 | [],b,_=>by
  rw[zv3]
  split
  ·exact zG2 1
  ·exact zM6 _
 |v::l,b,h=>by
  rw[zv3]
  split
  ·exact zU3 w l true fun x hx=>h x (List.mem_cons_of_mem _ hx)
  ·split
   ·exact h v (List.mem_cons_self ..)
   ·exact zU3 w l b fun x hx=>h x (List.mem_cons_of_mem _ hx)
theorem zx6 {m s:Bool} {k k':Int} (h:zI2 m s k=(k',0)):m=true∧s=true∧k'=k:=by
 unfold zI2 at h
 cases m<;>cases s<;>simp at h
 exact⟨rfl,rfl,h.symm⟩
inductive OpK (s:List UInt8) (ks:List Int) (k:Int):Prop
 |null (hs:s= [73,83,78,85,76,76]∨s= [78,79,84,78,85,76,76]) (hl:ks.length=1) (hk:k=1)
 |not (hs:s= [78,79,84]) (hl:ks.length=1) (ha:allK ks 1=true) (hk:k=1)
 |neg (hs:s= [78,69,71]) (hl:ks.length=1) (ha:allK ks 2=true) (hk:k=2)
 |both (hs:s= [79,82]∨s= [65,78,68]) (hl:ks.length=2) (ha:allK ks 1=true) (hk:k=1)
 |sum (hs:s= [43]∨s= [45]∨s= [42]∨s= [47]∨s= [37]) (hl:ks.length=2) (ha:allK ks 2=true) (hk:k=2)
 |cmp (hs:s= [61]∨s= [60,62]∨s= [60]∨s= [60,61]∨s= [62]∨s= [62,61]) (hl:ks.length=2) (hk:k=1)
theorem yr3 {s:List UInt8} {ks:List Int} {k:Int} (h:zj7 s ks=(k,0)):OpK s ks k:=by
 have one:((ks.length:Int)==1)=true→ks.length=1:=fun h=>by
   have:(ks.length:Int)=1:=by simpa using h
   omega
 have two:((ks.length:Int)==2)=true→ks.length=2:=fun h=>by
   have:(ks.length:Int)=2:=by simpa using h
   omega
 unfold zj7 at h
 split at h
 ·obtain⟨h1,_,h3⟩:=zx6 h;exact .null (by assumption) (one h1) h3
 split at h
 ·obtain⟨h1,h2,h3⟩:=zx6 h;exact .not (by assumption) (one h1) h2 h3
 split at h
 ·obtain⟨h1,h2,h3⟩:=zx6 h;exact .neg (by assumption) (one h1) h2 h3
 split at h
 ·obtain⟨h1,h2,h3⟩:=zx6 h;exact .both (by assumption) (two h1) h2 h3
 split at h
 ·obtain⟨h1,h2,h3⟩:=zx6 h;exact .sum (by assumption) (two h1) h2 h3
 split at h
 ·obtain⟨h1,_,h3⟩:=zx6 h;exact .cmp (by assumption) (two h1) h3
 ·cases h
theorem zX4 {R:GValue→Int→Prop}: ∀{l:List GValue} {ks:List Int},All2 R l ks→l.length=ks.length
 | [],[],_=>rfl
 |_::_,_::_,⟨_,h⟩=>by rw[List.length_cons,List.length_cons,zX4 h]
theorem zM2 {k:Int}: ∀{l:List GValue} {ks:List Int},All2 VK l ks→allK ks k=true→ ∀v∈l,VK v k
 | [],[],_,_,v,hv=>by cases hv
 |x::l,y::ks,⟨h1,h2⟩,ha,v,hv=>by
  unfold allK at ha
  rw[List.all_cons,Bool.and_eq_true,Bool.or_eq_true,beq_iff_eq,beq_iff_eq]at ha
  rcases List.mem_cons.1 hv with rfl|hv
  ·exact⟨h1.may,h1.n,by
    rcases h1.kind with q|q
    ·rcases ha.1 with r|r
     ·exact .inl (q.trans r)
     ·exact .inr (q.trans r)
    ·exact .inr q⟩
  ·exact zM2 h2 ha.2 v hv
theorem yY3 {R:GValue→Int→Prop} (hR: ∀v k,R v k→okI v.n): ∀{l:List GValue} {ks:List Int},All2 R l ks→ ∀v∈l,okI v.n
 | [],[],_,v,hv=>by cases hv
 |x::l,y::ks,⟨h1,h2⟩,v,hv=>by
  rcases List.mem_cons.1 hv with rfl|hv
  ·exact hR _ _ h1
  ·exact yY3 hR h2 v hv
theorem zR4 (l:List GValue):zh6 [78,79,84] l=if(l.any fun v=>v.kind==0)=true then(xN,0)else(xG (!ys3 (l.getD 0 xN)),0):=rfl
theorem zP0 (l:List GValue):zh6 [78,69,71] l=if(l.any fun v=>v.kind==0)=true then(xN,0)else wE (rngF (-(l.getD 0 xN).n)):=rfl
theorem zQ7 {s:List UInt8} (hs:s= [61]∨s= [60,62]∨s= [60]∨s= [60,61]∨s= [62]∨s= [62,61]) (l:List GValue):
  zh6 s l=if(l.any fun v=>v.kind==0)=true then(xN,0)else(xG (zn1 s (cmpV (l.getD 0 xN) (l.getD 1 xN))),0):=by
 rcases hs with rfl|rfl|rfl|rfl|rfl|rfl<;>rfl
theorem zR0 {s:List UInt8} (hs:s= [43]∨s= [45]∨s= [42]∨s= [47]∨s= [37]) (l:List GValue):
  zh6 s l=if(l.any fun v=>v.kind==0)=true then(xN,0)else wE (zq4 s (l.getD 0 xN).n (l.getD 1 xN).n):=by
 rcases hs with rfl|rfl|rfl|rfl|rfl<;>rfl
theorem yn4 {s:List UInt8} {l:List GValue} {ks:List Int} {k:Int} (ho:zj7 s ks=(k,0)) (ha:All2 VK l ks):
  VK (zh6 s l).1 k∧1≤l.length∧l.length≤2∧(∀v∈l,okI v.n)∧(l.length=1→s= [73,83,78,85,76,76]∨s= [78,79,84,78,85,76,76]∨s= [78,79,84]∨s= [78,69,71]):=by
 have hlen:=zX4 ha
 have hn:=yY3 (fun _ _ h=>VK.n h) ha
 have hx: ∀j,okI (l.getD j xN).n:=fun j=>by
  rw[List.getD_eq_getElem?_getD]
  cases hj:l[j]? with
  |none=>decide
  |some v=>exact hn v (List.mem_of_getElem? hj)
 have hng: ∀n:Int,okI (rngF n).1:=yL2
 cases yr3 ho with
 |null hs hl hk=>
  subst hk
  refine⟨?_,by omega,by omega,hn,fun _=>by rcases hs with h|h<;>simp[h]⟩
  rcases hs with rfl|rfl<;>exact zM6 _
 |not hs hl hk' hk=>
  subst hs hk
  refine⟨?_,by omega,by omega,hn,fun _=>by simp⟩
  rw[zR4]
  split
  ·exact zG2 1
  ·exact zM6 _
 |neg hs hl hk' hk=>
  subst hs hk
  refine⟨?_,by omega,by omega,hn,fun _=>by simp⟩
  rw[zP0]
  split
  ·exact zG2 2
  ·exact yg3 (hng _)
 |both hs hl hk' hk=>
  subst hk
  refine⟨?_,by omega,by omega,hn,fun h=>by omega⟩
  rcases hs with rfl|rfl
  ·exact zU3 1 l false (zM2 ha hk')
  ·exact zU3 0 l false (zM2 ha hk')
 |sum hs hl hk' hk=>
  subst hk
  refine⟨?_,by omega,by omega,hn,fun h=>by omega⟩
  rw[zR0 hs]
  split
  ·exact zG2 2
  ·exact yg3 (yE7 (hx 0) (hx 1))
 |cmp hs hl hk=>
  subst hk
  refine⟨?_,by omega,by omega,hn,fun h=>by omega⟩
  rw[zQ7 hs]
  split
  ·exact zG2 1
  ·exact zM6 _
structure RowOk (T:GTable) (row:List GValue):Prop where
 len:row.length=T.cols.length
 cell: ∀(j:Nat) (C:GCol) (v:GValue),T.cols[j]? =some C→row[j]? =some v→VK v C.kind
theorem xh0 {T:GTable} {row:List GValue} (hr:RowOk T row): ∀(n:Nat) (e:GExpr),yX e≤n→Good e→(zc1 T e).2=0→(evF T row e).2=0→VK (evF T row e).1 (zc1 T e).1
 |0,e,h,_,_,_=>by have:=ze8 e;omega
 |n+1,e,h,hg,hk,he=>by
  have ih:=xh0 hr n
  have hde:=wX e
  rw[yB6]at he⊢
  rw[zy4]at hk⊢
  by_cases q1:e.kind=1
  ·rw[if_pos q1]at hk⊢
   rw[if_pos q1]
   by_cases w:e.s.isEmpty=false∨e.args.isEmpty=false∨mayF e.v=false
   ·rw[if_pos w]at hk;cases hk
   ·rw[if_neg w]
    refine⟨by
      cases hm:mayF e.v with
      |true=>rfl
      |false=>exact absurd (.inr (.inr hm)) w,⟨hg.v.n.1,hg.v.n.2⟩,.inl rfl⟩
  rw[if_neg q1]at hk he⊢
  rw[if_neg q1]
  by_cases q2:e.kind=2
  ·rw[if_pos q2]at hk⊢
   rw[if_pos q2]
   by_cases w:colF T e.s<0
   ·rw[if_pos w]at hk;cases hk
   rw[if_neg w]at hk⊢
   by_cases w2:e.args.isEmpty=false∨zg4 e.v=false
   ·rw[if_pos w2]at hk;cases hk
   rw[if_neg w2]
   obtain⟨j,hj,hjl⟩:=zt8 T e.s w
   have hjr:j<row.length:=by rw[hr.len];exact hjl
   simp only
   rw[hj,Int.toNat_natCast,List.getD_eq_getElem?_getD,List.getElem?_eq_getElem hjr]
   unfold colK
   rw[Int.toNat_natCast,List.getElem?_eq_getElem hjl]
   exact hr.cell j _ _ (List.getElem?_eq_getElem hjl) (List.getElem?_eq_getElem hjr)
  rw[if_neg q2]at hk he⊢
  rw[if_neg q2]
  by_cases q3:e.kind=3
  rotate_left
  ·rw[if_neg q3]at hk;cases hk
  rw[if_pos q3]at hk⊢
  have hgs:=hg.sub
  have list: ∀args:List GExpr,(∀x∈args,x∈e.args)→(xB T args).2=0→(evsF T row args).2=0→All2 VK (evsF T row args).1 (xB T args).1:=by
   intro args
   induction args with
   |nil=>intro _ _ _;exact trivial
   |cons x l ihl=>
    intro hm hk he
    rw[xB]at hk⊢
    rw[evsF]at he⊢
    by_cases w1:(zc1 T x).2=0
    rotate_left
    ·rw[if_pos w1]at hk;exact absurd hk w1
    by_cases w2:(evF T row x).2=0
    rotate_left
    ·rw[if_pos w2]at he;exact absurd he w2
    have n1: ¬(zc1 T x).2≠0:=fun h=>h w1
    have n2: ¬(evF T row x).2≠0:=fun h=>h w2
    rw[if_neg n1]at hk⊢
    rw[if_neg n2]at he⊢
    have hx:=hm x (List.mem_cons_self ..)
    have hdx:=xQ e.args x hx
    exact⟨ih x (by omega) (hgs x hx) w1 w2,ihl (fun y hy=>hm y (List.mem_cons_of_mem _ hy)) hk he⟩
  by_cases w1:(xB T e.args).2=0
  rotate_left
  ·rw[if_pos w1]at hk;exact absurd hk w1
  by_cases w2:(evsF T row e.args).2=0
  rotate_left
  ·rw[if_pos w2]at he;exact absurd he w2
  have n1: ¬(xB T e.args).2≠0:=fun h=>h w1
  have n2: ¬(evsF T row e.args).2≠0:=fun h=>h w2
  rw[if_neg n1]at hk⊢
  rw[if_neg n2]at he⊢
  by_cases w3:zg4 e.v=false
  ·rw[if_pos w3]at hk;cases hk
  rw[if_neg w3]at hk⊢
  exact(yn4 (Prod.ext rfl hk) (list e.args (fun _ h=>h) w1 w2)).1
end Go.Proofs.YtajjjghohakniaaGreat
namespace Go.Proofs.YtajjjghohakniaaGreat
open Go Go.Vx R
set_option maxRecDepth 100000
theorem zK3 {T:GTable}: ∀{args:List GExpr},(xB T args).2=0→ ∀x∈args,(zc1 T x).2=0
 | [],_,x,hx=>by cases hx
 |y::l,h,x,hx=>by
  rw[xB]at h
  by_cases w:(zc1 T y).2=0
  ·have n1: ¬(zc1 T y).2≠0:=fun h=>h w
   rw[if_neg n1]at h
   rcases List.mem_cons.1 hx with rfl|hx
   ·exact w
   ·exact zK3 h x hx
  ·rw[if_pos w]at h;exact absurd h w
theorem yF1 {T:GTable} {row:List GValue} (hr:RowOk T row) (n:Nat): ∀{args:List GExpr},(∀x∈args,yX x≤n∧Good x)→(xB T args).2=0→(evsF T row args).2=0→All2 VK (evsF T row args).1 (xB T args).1
 | [],_,_,_=>trivial
 |x::l,hm,hk,he=>by
  rw[xB]at hk⊢
  rw[evsF]at he⊢
  by_cases w1:(zc1 T x).2=0
  rotate_left
  ·rw[if_pos w1]at hk;exact absurd hk w1
  by_cases w2:(evF T row x).2=0
  rotate_left
  ·rw[if_pos w2]at he;exact absurd he w2
  have n1: ¬(zc1 T x).2≠0:=fun h=>h w1
  have n2: ¬(evF T row x).2≠0:=fun h=>h w2
  rw[if_neg n1]at hk⊢
  rw[if_neg n2]at he⊢
  have hx:=hm x (List.mem_cons_self ..)
  exact⟨xh0 hr n x hx.1 hx.2 w1 w2,yF1 hr n (fun y hy=>hm y (List.mem_cons_of_mem _ hy)) hk he⟩
set_option maxHeartbeats 2000000 in
theorem xg0 {T:GTable} {row:List GValue} (hr:RowOk T row) (hT:T.cols.length≤maxLen): ∀(n:Nat) (e:GExpr),yX e≤n→Wide e→Good e→(zc1 T e).2=0→Pure Tryz.prog 131 [.agg T.row,.sl .ro (row.map GValue.row),.agg e.row] (valP (evF T row e))
 |0,e,h,_,_,_=>by have:=ze8 e;omega
 |n+1,e,h,hw,hg,hk=>by
  have ih:=xg0 hr hT n
  have hok:= @yF1 _ _ hr n
  have hde:=wX e
  have hlen:=hw.len
  have hsub:=hw.sub
  have hgs:=hg.sub
  have hcol:=yI2 T e.s hT
  rw[show xD (fun c:GCol=>c.name==e.s) T.cols 0=colF T e.s from rfl]at hcol
  obtain⟨M,hM⟩: ∃M,evF T row e=M:=⟨_,rfl⟩
  rw[hM]
  rw[yB6]at hM
  rw[zy4]at hk
  have ret: ∀(v:GValue) (e:Int) (σ:St),(v,e)=M→wret (some (.tup [.agg v.row,.int .i64 e])) 0 (fun r s=>r=valP M∧s= []) σ:=fun v e σ h=>zh7 h
  refine VCalls.introV 0 Tryz.func131 Tryz.ntmps131 Tryz.results131 rfl rfl (Nat.le_of_ble_eq_true rfl) fun c hc hb=> ?_
  refine zC ?_
  simp[go_sem]
  by_cases q1:e.kind=1
  ·have q1':(e.kind==1)=true:=by simpa using q1
   rw[if_pos q1]at hM
   simp[go_sem,q1']
   exact ret _ _ _ hM
  rw[if_neg q1]at hM hk
  have q1':(e.kind==1)=false:=by simpa using q1
  by_cases q2:e.kind=2
  ·have q2':(e.kind==2)=true:=by simpa using q2
   rw[if_pos q2]at hM hk
   by_cases w:colF T e.s<0
   ·rw[if_pos w]at hk;cases hk
   obtain⟨j,hj,hjl⟩:=zt8 T e.s w
   have hjr:j<row.length:=by rw[hr.len];exact hjl
   obtain⟨v,hv⟩: ∃v,row[j]=v:=⟨_,rfl⟩
   rw[hj,Int.toNat_natCast,List.getD_eq_getElem?_getD,List.getElem?_eq_getElem hjr,hv]at hM
   rw[hj]at hcol
   simp[go_sem,q1',q2']
   refine zE hcol Tryz.callB127 (zF (by simp[go_sem]) rfl) rfl ?_
   simp[go_sem,hjr,hv]
   exact ret _ _ _ hM
  rw[if_neg q2]at hM hk
  have q2':(e.kind==2)=false:=by simpa using q2
  by_cases q3:e.kind=3
  rotate_left
  ·rw[if_neg q3]at hk;cases hk
  rw[if_pos q3]at hk
  obtain⟨args,hargs⟩: ∃args,e.args=args:=⟨_,rfl⟩
  rw[hargs]at hde hlen hsub hgs hM hk
  by_cases w1:(xB T args).2=0
  rotate_left
  ·rw[if_pos w1]at hk;exact absurd hk w1
  have n1: ¬(xB T args).2≠0:=fun h=>h w1
  rw[if_neg n1]at hk
  by_cases w3:zg4 e.v=false
  ·rw[if_pos w3]at hk;cases hk
  rw[if_neg w3]at hk
  have hop:zj7 e.s (xB T args).1=((zj7 e.s (xB T args).1).1,0):=Prod.ext rfl hk
  have hmem:=zK3 w1
  have hevs:(evsF T row args).2=0→All2 VK (evsF T row args).1 (xB T args).1:=fun h=>
   hok (fun x hx=>⟨by have:=xQ args x hx;omega,hgs x hx⟩) w1 h
  obtain⟨K,hK⟩: ∃K,evsF T row args=K:=⟨_,rfl⟩
  rw[hK]at hM hevs
  simp[go_sem,q1',q2',hargs]
  refine zj1 8 3 (by decide) (by simp[go_sem]) ?_
  refine zL (S:=Nat×List GValue) [1,3,5,6,8,29,30,31] (fun u=> [.sl .ro (row.map GValue.row),.ptr 0 0,.ptr 1 0,.ptr 2 0,.sl (.app 3) (u.2.map GValue.row),.sl .ro (args.map GExpr.row),.int .i64 args.length,.int .i64 (u.1:Int)])
   (fun u=> [.box T.row,.box e.row,.box [.int .i64 0,.int .i64 0,.str []],.app u.2.length 3]) (fun u=>args.length - u.1)
   (fun u=>u.1≤args.length∧u.2.length=u.1∧(evsF T row (args.drop u.1)).2=K.2∧(K.2=0→u.2++(evsF T row (args.drop u.1)).1=K.1)) hc hb (0,[])
   ⟨Nat.zero_le _,rfl,by simp only[List.drop_zero];rw[hK],fun _=>by simp only[List.drop_zero];rw[hK];rfl⟩ ?_ ?_
  ·exact at_n 4 (by simp[go_sem,hargs]) rfl (by simp[ltOb,ltC,ltK,GExpr.row_eq,GTable.row]) (Nat.zero_le _) (zD (by simp[go_sem]) rfl)
  rintro⟨i,l⟩ ⟨hi,hl,hinv,hinv2⟩
  simp only at hi hl hinv hinv2
  by_cases q:i<args.length
  rotate_left
  ·rw[List.drop_eq_nil_of_le (by omega),evsF]at hinv hinv2
   have hK2:K.2=0:=hinv.symm
   have hK1:l=K.1:=by have:=hinv2 hK2;simpa using this
   have n2: ¬K.2≠0:=fun h=>h hK2
   rw[if_neg n2,←hK1]at hM
   have hA:=hevs hK2
   rw[←hK1]at hA
   obtain⟨_,d1,d2,d3,d4⟩:=yn4 hop hA
   have hdo:=xs9 e.s l d1 d2 d3 d4
   generalize zh6 e.s l=o at hdo hM
   refine zC ?_
   simp[go_sem,q]
   refine zE hdo Tryz.callB177 ⟨zA rfl,zV,trivial⟩ rfl ?_
   simp[go_sem,valP]
   exact zh7 hM
  have ei:=zT q (by omega)
  obtain⟨x,hx⟩: ∃x,args[i]=x:=⟨_,rfl⟩
  have hxm:x∈args:=hx▸List.getElem_mem q
  have hdx:=xQ args x hxm
  rw[List.drop_eq_getElem_cons q,hx,evsF]at hinv hinv2
  have hcall:=ih x (by omega) (hsub x hxm) (hgs x hxm) (hmem x hxm)
  generalize evF T row x=kx at hcall hinv hinv2
  by_cases q4:kx.2=0
  ·have n3: ¬kx.2≠0:=fun h=>h q4
   rw[if_neg n3]at hinv hinv2
   have q4':(kx.2 !=0)=false:=by simpa using q4
   refine zC ?_
   simp[go_sem,q,hx]
   refine zE hcall Tryz.callB131 (zF (by simp[go_sem]) (by rw[GExpr.row_eq];rfl)) rfl ?_
   simp[go_sem,valP,q4']
   refine zP ⟨by omega,by unfold uni;simp⟩ ?_
   simp[go_sem,ei]
   refine zN (i+1,l++ [kx.1]) ⟨by simp only;omega,⟨by simp only;omega,by simp;omega,hinv,fun h=>by have:=hinv2 h;simpa using this⟩, ?_⟩
   exact at_n 4 (by simp[go_sem]) rfl (by simp[ltOb,ltC,ltK,GExpr.row_eq]) (Nat.zero_le _) (zD (by simp[go_sem]) rfl)
  ·rw[if_pos q4]at hinv
   have q4':(kx.2 !=0)=true:=by simpa using q4
   have hK2:kx.2=K.2:=hinv
   rw[if_pos (by rw[←hK2];exact q4),←hK2]at hM
   refine zC ?_
   simp[go_sem,q,hx]
   refine zE hcall Tryz.callB131 (zF (by simp[go_sem]) (by rw[GExpr.row_eq];rfl)) rfl ?_
   simp[go_sem,valP,q4']
   exact ret xN _ _ hM
end Go.Proofs.YtajjjghohakniaaGreat
namespace Go.Proofs.YtajjjghohakniaaGreat
open Go Go.Vx R
set_option maxRecDepth 100000
theorem xf7 (a b:Int) (ha:okI a) (hb':okI b):Pure Tryz.prog 145 [.int .i64 a,.int .i64 b] (yK (rngF (a*b))):=by
 have hs1:=yi4 a ha
 have hs2:=yi4 b hb'
 have hok:=xb4 a b
 have hmo:zH3 a b≤9223372036854775808:=by unfold zH3;split<;>omega
 have hmv:=xf3 a b
 have hab:a.natAbs<18446744073709551616∧b.natAbs<18446744073709551616:=by unfold okI at ha hb';omega
 generalize hM:rngF (a*b)=M
 unfold rngF at hM
 refine VCalls.intro 0 Tryz.func145 Tryz.ntmps145 Tryz.results145 rfl rfl (Nat.le_of_ble_eq_true rfl) fun c hc hb=>zJ ?_
 simp[go_sem]
 by_cases a0:a=0
 ·have a0':(a==0)=true:=by simpa using a0
  simp[go_sem,a0']
  exact yS (by rw[←hM,a0,Int.zero_mul];rfl)
 have a0':(a==0)=false:=by simpa using a0
 by_cases b0:b=0
 ·have b0':(b==0)=true:=by simpa using b0
  simp[go_sem,a0',b0']
  exact yS (by rw[←hM,b0,Int.mul_zero];rfl)
 have b0':(b==0)=false:=by simpa using b0
 simp[go_sem,a0',b0']
 refine zE hs1 Tryz.callB184 (zH rfl) rfl ?_
 simp[go_sem]
 refine zE hs2 Tryz.callB184 (zH rfl) rfl ?_
 simp[go_sem]
 have hyp:0<b.natAbs:=by omega
 have hnz:((b.natAbs:Int))≠0:=by omega
 have fits: ∀m:Nat,(a.natAbs*b.natAbs≤m↔ ¬m/b.natAbs<a.natAbs):=fun m=>by rw[Nat.not_lt,Nat.le_div_iff_mul_le hyp]
 have u1:IntKind.u64.wrap 9223372036854775808=9223372036854775808:=by decide
 have fin: ∀m:Nat,zH3 a b=m→m≤9223372036854775808→(okI (a*b)∧decide ((m:Int).tdiv (b.natAbs:Int)<(a.natAbs:Int))=false∧IntKind.u64.wrap ((m:Int).tdiv (b.natAbs:Int))=(m:Int).tdiv (b.natAbs:Int))∨(¬okI (a*b)∧decide ((m:Int).tdiv (b.natAbs:Int)<(a.natAbs:Int))=true∧IntKind.u64.wrap ((m:Int).tdiv (b.natAbs:Int))=(m:Int).tdiv (b.natAbs:Int)):=fun m hm hm2=>by
  have e:(m:Int).tdiv (b.natAbs:Int)=((m/b.natAbs:Nat):Int):=rfl
  have hle:m/b.natAbs≤m:=Nat.div_le_self _ _
  rw[e,hok,hm,fits]
  generalize m/b.natAbs=d at hle
  have hw:IntKind.u64.wrap (d:Int)=(d:Int):=Vx.u64_id (by omega) (by omega)
  by_cases q:d<a.natAbs
  ·exact .inr ⟨fun h=>h q,decide_eq_true (by omega),hw⟩
  ·exact .inl ⟨q,decide_eq_false (by omega),hw⟩
 refine zU (fun v2=> ?_) (fun v2=> ?_)
 ·have hf:=fin 9223372036854775808 (hmv.1 v2) (Nat.le_refl _)
  simp only[Int.cast_ofNat_Int]at hf
  simp[go_sem,u1]
  refine zP (by omega) ?_
  rcases hf with ⟨f1,f2,f3⟩|⟨f1,f2,f3⟩
  ·have w:=zh4 f1
   simp[go_sem,f2,f3,w]
   exact yS (by rw[←hM,if_pos f1])
  ·simp[go_sem,f2,f3]
   exact yS (by rw[←hM,if_neg f1])
 ·have hf:=fin 9223372036854775807 (hmv.2 v2) (by decide)
  simp only[Int.cast_ofNat_Int]at hf
  simp[go_sem]
  refine zP (by omega) ?_
  rcases hf with ⟨f1,f2,f3⟩|⟨f1,f2,f3⟩
  ·have w:=zh4 f1
   simp[go_sem,f2,f3,w]
   exact yS (by rw[←hM,if_pos f1])
  ·simp[go_sem,f2,f3]
   exact yS (by rw[←hM,if_neg f1])
def zY9 (s:List UInt8) (a b:Int):GValue:=
 let w:Int:=if s= [79,82]then 1 else 0
 if a=w∨b=w then xG (w==1)else if a=2∨b=2 then xN else xG (w==0)
theorem yi5 (s:List UInt8) (a b:Int):Pure Tryz.prog 96 [.str s,.int .i64 a,.int .i64 b] (.agg (zY9 s a b).row):=by
 generalize hM:zY9 s a b=M
 have ret: ∀(v:GValue) (σ:St),v=M→wret (some (.agg v.row)) 0 (fun r s=>r= .agg M.row∧s= []) σ:=fun v σ h=>by subst h;exact zQ (zA rfl) ⟨rfl,rfl⟩
 unfold zY9 at hM
 refine VCalls.intro 0 Tryz.func96 Tryz.ntmps96 Tryz.results96 rfl rfl (Nat.le_of_ble_eq_true rfl) fun c hc hb=>zJ ?_
 simp[go_sem]
 repeat' (first
  |(refine yI (fun q=> ?_) (fun q=> ?_)<;>simp[go_sem,q])
  |(refine zU (fun q=> ?_) (fun q=> ?_)<;>simp[go_sem,q])
  |(refine zE (za9 true) Tryz.callB95 (zH rfl) rfl ?_;simp[go_sem])
  |(refine zE (za9 false) Tryz.callB95 (zH rfl) rfl ?_;simp[go_sem]))
 all_goals first
  |exact ret xN _ (by rw[←hM];simp_all)
  |exact ret (xG true) _ (by rw[←hM];simp_all)
  |exact ret (xG false) _ (by rw[←hM];simp_all)
def numR (s:List UInt8) (x y:GValue):GValue×Int:=if s= [78,69,71]then wE (rngF (-x.n))else wE (zq4 s x.n y.n)
set_option maxHeartbeats 1000000 in
theorem yG1 (s:List UInt8) (l:List GValue) (h1:1≤l.length) (hs:s= [78,69,71]∨(2≤l.length∧(s= [43]∨s= [45]∨s= [42]∨s= [47]∨s= [37]))) (hn: ∀v∈l,okI v.n):
  Pure Tryz.prog 99 [.str s,.sl .ro (l.map GValue.row)] (valP (numR s (l.getD 0 xN) (l.getD 1 xN))):=by
 obtain⟨x,hx⟩: ∃x,l[0]'h1=x:=⟨_,rfl⟩
 have hxd:l.getD 0 xN=x:=by rw[List.getD_eq_getElem?_getD,List.getElem?_eq_getElem h1,hx];rfl
 have hpos:0<l.length:=h1
 have hxn:okI x.n:=hn x (hx▸List.getElem_mem h1)
 rw[hxd]
 generalize hM:numR s x (l.getD 1 xN)=M
 unfold numR at hM
 have ok: ∀{n:Int} (σ:St),wE (n,0)=M→wret (some (.tup [.agg [.int .i64 2,.int .i64 n,.str []],.int .i64 0])) 0 (fun v s=>v=valP M∧s= []) σ:=fun{n} σ h=>by
  refine zV6 ?_
  rw[←h];rfl
 have no: ∀{e:Int} (σ:St),e≠0→wE (0,e)=M→wret (some (.tup [.agg [.int .i64 0,.int .i64 0,.str []],.int .i64 e])) 0 (fun v s=>v=valP M∧s= []) σ:=fun{e} σ he h=>by
  refine zV6 ?_
  rw[←h];unfold wE;rw[if_neg he];rfl
 have ends: ∀(r:Int×Int),wE r=M→((r.2 !=0)=false∧wE (r.1,0)=M)∨((r.2 !=0)=true∧r.2≠0∧wE (0,r.2)=M):=fun r h=>by
  by_cases q:r.2=0
  ·refine .inl ⟨by simpa using q, ?_⟩
   rw[←h,←q]
  ·refine .inr ⟨by simpa using q,q, ?_⟩
   rw[←h];unfold wE;rw[if_neg q,if_neg q]
 refine VCalls.intro 0 Tryz.func99 Tryz.ntmps99 Tryz.results99 rfl rfl (Nat.le_of_ble_eq_true rfl) fun c hc hb=>zJ ?_
 simp[go_sem,hpos,hx]
 by_cases q:s= [78,69,71]
 ·rw[if_pos q]at hM
  simp[go_sem,q]
  unfold okI at hxn
  by_cases w:x.n= -9223372036854775808
  ·have w':(x.n== -9223372036854775808)=true:=by simpa using w
   simp[go_sem,w']
   exact no _ (by decide) (by rw[←hM,w];rfl)
  ·have w':(x.n== -9223372036854775808)=false:=by simpa using w
   have e1:IntKind.i64.wrap (-x.n)= -x.n:=zh4 ⟨by omega,by omega⟩
   simp[go_sem,w',e1]
   exact ok _ (by rw[←hM,rngF,if_pos ⟨by omega,by omega⟩])
 rw[if_neg q]at hM
 obtain⟨h2,h3⟩:=hs.resolve_left q
 obtain⟨y,hy⟩: ∃y,l[1]'h2=y:=⟨_,rfl⟩
 have hyd:l.getD 1 xN=y:=by rw[List.getD_eq_getElem?_getD,List.getElem?_eq_getElem h2,hy];rfl
 have hyn:okI y.n:=hn y (hy▸List.getElem_mem h2)
 have h2':1<l.length:=h2
 rw[hyd]at hM
 have q':(s== [78,69,71])=false:=by simpa using q
 simp[go_sem,q',h2',hy]
 refine zP (by omega) ?_
 have ha:=yx2 x.n y.n hxn hyn
 have hm:=xf7 x.n y.n hxn hyn
 have hyn2:=hyn
 have hxn2:=hxn
 unfold okI at hyn2 hxn2
 rcases h3 with h3|h3|h3|h3|h3
 ·have hM:wE (rngF (x.n+y.n))=M:=by rw[←hM,h3];rfl
  simp[go_sem,h3]
  refine zE ha Tryz.callB144 (zH rfl) rfl ?_
  simp[go_sem,yK]
  rcases ends _ hM with ⟨e1,e2⟩|⟨e1,e2,e3⟩
  ·simp[go_sem,e1]
   exact ok _ e2
  ·simp[go_sem,e1]
   exact no _ e2 e3
 ·have hM:wE (rngF (x.n - y.n))=M:=by rw[←hM,h3];rfl
  simp[go_sem,h3]
  by_cases w:y.n= -9223372036854775808
  ·have w':(y.n== -9223372036854775808)=true:=by simpa using w
   by_cases p:0≤x.n
   ·have p':decide (0≤x.n)=true:=decide_eq_true p
    simp[go_sem,w',p']
    exact no _ (by decide) (by rw[←hM,rngF,if_neg (by unfold okI;omega)])
   ·have p':decide (0≤x.n)=false:=decide_eq_false p
    have e1:IntKind.i64.wrap (x.n - y.n)=x.n - y.n:=zh4 ⟨by omega,by omega⟩
    simp[go_sem,w',p',e1]
    exact ok _ (by rw[←hM,rngF,if_pos ⟨by omega,by omega⟩])
  ·have w':(y.n== -9223372036854775808)=false:=by simpa using w
   have e1:IntKind.i64.wrap (-y.n)= -y.n:=zh4 ⟨by omega,by omega⟩
   have ha:=yx2 x.n (-y.n) hxn ⟨by omega,by omega⟩
   rw[←Int.sub_eq_add_neg]at ha
   simp[go_sem,w',e1]
   refine zE ha Tryz.callB144 (zH rfl) rfl ?_
   simp[go_sem,yK]
   rcases ends _ hM with ⟨e1,e2⟩|⟨e1,e2,e3⟩
   ·simp[go_sem,e1]
    exact ok _ e2
   ·simp[go_sem,e1]
    exact no _ e2 e3
 ·have hM:wE (rngF (x.n*y.n))=M:=by rw[←hM,h3];rfl
  simp[go_sem,h3]
  refine zE hm Tryz.callB145 (zH rfl) rfl ?_
  simp[go_sem,yK]
  rcases ends _ hM with ⟨e1,e2⟩|⟨e1,e2,e3⟩
  ·simp[go_sem,e1]
   exact ok _ e2
  ·simp[go_sem,e1]
   exact no _ e2 e3
 ·have hM:wE (if y.n=0 then(0,17)else rngF (x.n.tdiv y.n))=M:=by rw[←hM,h3];rfl
  by_cases z:y.n=0
  ·have z':(y.n==0)=true:=by simpa using z
   rw[if_pos z]at hM
   simp[go_sem,h3,z']
   exact no _ (by decide) hM
  have z':(y.n==0)=false:=by simpa using z
  rw[if_neg z]at hM
  simp[go_sem,h3,z']
  by_cases w:x.n= -9223372036854775808
  ·have w':(x.n== -9223372036854775808)=true:=by simpa using w
   by_cases p:y.n= -1
   ·have p':(y.n== -1)=true:=by simpa using p
    simp[go_sem,w',p']
    exact no _ (by decide) (by rw[←hM,w,p];rfl)
   ·have p':(y.n== -1)=false:=by simpa using p
    have e0:=ym9 hxn hyn p
    have e1:=zh4 e0
    simp[go_sem,w',p',e1]
    refine zP z ?_
    simp[go_sem]
    exact ok _ (by rw[←hM,rngF,if_pos e0])
  ·have w':(x.n== -9223372036854775808)=false:=by simpa using w
   have e0:okI (x.n.tdiv y.n):=by
    by_cases p:y.n= -1
    ·rw[p,Int.tdiv_neg,Int.tdiv_one];exact⟨by omega,by omega⟩
    ·exact ym9 hxn hyn p
   have e1:=zh4 e0
   simp[go_sem,w',e1]
   refine zP z ?_
   simp[go_sem]
   exact ok _ (by rw[←hM,rngF,if_pos e0])
 ·have hM:wE (if y.n=0 then(0,17)else(x.n.tmod y.n,0))=M:=by rw[←hM,h3];rfl
  by_cases z:y.n=0
  ·have z':(y.n==0)=true:=by simpa using z
   rw[if_pos z]at hM
   simp[go_sem,h3,z']
   exact no _ (by decide) hM
  have z':(y.n==0)=false:=by simpa using z
  rw[if_neg z]at hM
  simp[go_sem,h3,z']
  by_cases p:y.n= -1
  ·have p':(y.n != -1)=false:=by simpa using p
   simp[go_sem,p']
   exact ok _ (by rw[←hM,p,Int.tmod_neg,Int.tmod_one])
  ·have p':(y.n != -1)=true:=by simpa using p
   simp[go_sem,p']
   refine zP z ?_
   simp[go_sem]
   exact ok _ hM
end Go.Proofs.YtajjjghohakniaaGreat
namespace Go.Proofs.YtajjjghohakniaaGreat
open Go Go.Vx R
set_option maxRecDepth 100000
def noT:GTable:=⟨[],[],0,0,0,⟨[],[],[],0,0,0⟩⟩
theorem yH3:RowOk noT []:=⟨rfl,fun j C v h=>by simp[noT]at h⟩
theorem xf6:noT.cols= []:=rfl
def evN (e:GExpr):GValue×Int:=if(xV noT e).2≠0 then(xN,(xV noT e).2)else evF noT [] e
theorem xe9 {e:GExpr} (he:EOk e) (h:(evN e).2=0):VK (evN e).1 (xV noT e).1:=by
 unfold evN at h⊢
 by_cases q:(xV noT e).2=0
 rotate_left
 ·rw[if_pos q]at h;exact absurd h q
 have n1: ¬(xV noT e).2≠0:=fun h=>h q
 rw[if_neg n1]at h⊢
 have hs:=he.size
 unfold xV at q⊢
 by_cases d:yX e≤64
 ·rw[if_pos d]at q⊢
  exact xh0 yH3 64 e d he.good q h
 ·rw[if_neg d]at q;cases q
theorem yK0 (e:GExpr) (he:EOk e):Pure Tryz.prog 81 [.agg noT.row,.sl .ro [],.agg e.row] (valP (evN e)):=by
 have hty:=yD2 noT (by simp[noT,maxLen]) e he
 have hev:=fun(d:yX e≤64) (k:(zc1 noT e).2=0)=>xg0 yH3 (by simp[noT,maxLen]) 64 e d he.wide he.good k
 generalize hM:evN e=M
 unfold evN at hM
 have ret: ∀(v:GValue) (e:Int) (σ:St),(v,e)=M→wret (some (.tup [.agg v.row,.int .i64 e])) 0 (fun r s=>r=valP M∧s= []) σ:=fun v e σ h=>zh7 h
 refine VCalls.introV 0 Tryz.func81 Tryz.ntmps81 Tryz.results81 rfl rfl (Nat.le_of_ble_eq_true rfl) fun c hc hb=> ?_
 refine zC ?_
 simp[go_sem]
 refine zE hty Tryz.callB125 (zF (by simp[go_sem]) (by rw[GExpr.row_eq];rfl)) rfl ?_
 simp[go_sem,yK]
 by_cases q:(xV noT e).2=0
 rotate_left
 ·have q':((xV noT e).2 !=0)=true:=by simpa using q
  rw[if_pos q]at hM
  simp[go_sem,q']
  exact ret xN _ _ hM
 have q':((xV noT e).2 !=0)=false:=by simpa using q
 have n1: ¬(xV noT e).2≠0:=fun h=>h q
 rw[if_neg n1]at hM
 have hcall:Pure Tryz.prog 131 [.agg noT.row,.sl .ro [],.agg e.row] (valP (evF noT [] e)):=by
  unfold xV at q
  by_cases d:yX e≤64
  ·rw[if_pos d]at q;exact hev d q
  ·rw[if_neg d]at q;cases q
 rw[hM]at hcall
 simp[go_sem,q',xf6]
 refine zL (S:=Unit) [1,3,5,6,29,30,31] (fun _=> [.sl .ro [],.ptr 0 0,.ptr 1 0,.ptr 2 0,.sl .ro [],.int .i64 0,.int .i64 0])
   (fun _=> [.box noT.row,.box e.row,.box [.int .i64 0,.int .i64 0,.str []]]) (fun _=>0) (fun _=>True) hc hb () trivial ?_ ?_
 ·exact at_n 3 (by simp[go_sem,noT]) rfl (by simp[ltOb,ltC,ltK,GExpr.row_eq,GTable.row]) (Nat.zero_le _) (zD (by simp[go_sem]) rfl)
 rintro u _
 refine zC ?_
 simp[go_sem]
 refine zE hcall Tryz.callB131 (zF (by simp[go_sem]) (by rw[GExpr.row_eq];rfl)) rfl ?_
 simp[go_sem,valP]
 exact zh7 rfl
end Go.Proofs.YtajjjghohakniaaGreat
namespace Go.Proofs.YtajjjghohakniaaGreat.R
open Go Go.Vx
set_option maxRecDepth 100000
end Go.Proofs.YtajjjghohakniaaGreat.R
namespace Go.Proofs.YtajjjghohakniaaGreat.R
open Go Go.Vx
set_option maxRecDepth 100000
end Go.Proofs.YtajjjghohakniaaGreat.R
namespace Go.Proofs.YtajjjghohakniaaGreat.R
open Go Go.Vx
set_option maxRecDepth 100000
theorem zn5: ∀a:List UInt8,Op.bytesLess a a=false
 | []=>rfl
 |a::l=>by simp[Op.bytesLess,zn5 l]
theorem zu5: ∀a b c:List UInt8,Op.bytesLess a b=true→Op.bytesLess b c=true→Op.bytesLess a c=true
 |_,[],_,h,_=>by simp[Op.bytesLess]at h
 |_,_::_,[],_,h=>by simp[Op.bytesLess]at h
 | [],_::_,_::_,_,_=>rfl
 |a::l,b::m,d::n,h1,h2=>by
  simp only[Op.bytesLess,Bool.or_eq_true,decide_eq_true_eq,Bool.and_eq_true,beq_iff_eq]at*
  rcases h1 with h1|⟨rfl,h1⟩
  ·rcases h2 with h2|⟨rfl,h2⟩
   ·exact .inl (UInt8.lt_trans h1 h2)
   ·exact .inl h1
  ·rcases h2 with h2|⟨rfl,h2⟩
   ·exact .inl h2
   ·exact .inr ⟨rfl,zu5 l m n h1 h2⟩
theorem zx7: ∀a b:List UInt8,Op.bytesLess a b=true∨a=b∨Op.bytesLess b a=true
 | [],[]=> .inr (.inl rfl)
 | [],_::_=> .inl rfl
 |_::_,[]=> .inr (.inr rfl)
 |a::l,b::m=>by
  simp only[Op.bytesLess,Bool.or_eq_true,decide_eq_true_eq,Bool.and_eq_true,beq_iff_eq,List.cons.injEq]
  by_cases h:a<b
  ·exact .inl (.inl h)
  ·by_cases h2:b<a
   ·exact .inr (.inr (.inl h2))
   ·have he:a=b:=UInt8.le_antisymm (UInt8.not_lt.1 h2) (UInt8.not_lt.1 h)
    subst he
    rcases zx7 l m with q|rfl|q
    ·exact .inl (.inr ⟨rfl,q⟩)
    ·exact .inr (.inl ⟨rfl,rfl⟩)
    ·exact .inr (.inr (.inr ⟨rfl,q⟩))
end Go.Proofs.YtajjjghohakniaaGreat.R
