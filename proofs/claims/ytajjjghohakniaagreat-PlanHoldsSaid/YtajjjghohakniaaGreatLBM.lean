/-
  Plain laws: what is written is read again; keys stand as their values do.
  Conditions: as each theorem states them.
-/
import Derived.Test.YtajjjghohakniaaGreatLBL
import Derived.Test.YtajjjghohakniaaGreatLBE
import Derived.Test.YtajjjghohakniaaGreatLBA
import Derived.Test.YtajjjghohakniaaGreatLBC
namespace Go.Proofs.YtajjjghohakniaaGreat
open Go Go.Vx R
set_option maxRecDepth 100000
mutual
def evF (T:GTable) (row:List GValue):GExpr→GValue×Int
 | .mk k s v args=>
  if k=1 then(v,0)else if k=2 then(row.getD (colF T s).toNat yV,0)
  else if(evsF T row args).2≠0 then(yV,(evsF T row args).2)else zd4 s (evsF T row args).1
def evsF (T:GTable) (row:List GValue):List GExpr→List GValue×Int
 | []=>([],0)
 |e::l=>if(evF T row e).2≠0 then([],(evF T row e).2)else((evF T row e).1::(evsF T row l).1,(evsF T row l).2)
end
theorem zM9 (T:GTable) (row:List GValue) (e:GExpr):evF T row e=
  if e.kind=1 then(e.v,0)else if e.kind=2 then(row.getD (colF T e.s).toNat yV,0)
  else if(evsF T row e.args).2≠0 then(yV,(evsF T row e.args).2)else zd4 e.s (evsF T row e.args).1:=by cases e;rw[evF];rfl
structure VK (v:GValue) (k:Int):Prop where
 may:mayF v=true
 n:okI v.n
 kind:v.kind=k∨v.kind=0
theorem zE9 (k:Int):VK yV k:=⟨by decide,by decide,.inr rfl⟩
theorem zL7 (b:Bool):VK (xF b) 1:=by cases b<;>exact⟨by decide,by decide,.inl rfl⟩
theorem yI5 (n:Int):okI (rngF n).1:=by
 unfold rngF
 split
 ·assumption
 ·decide
theorem yz8 {s:List UInt8} {a b:Int} (ha:okI a) (hb:okI b):okI (zp8 s a b).1:=by
 unfold zp8
 repeat' split
 all_goals first|exact yI5 _|exact xm2 ha hb|decide
theorem yf7 {r:Int×Int} (h:okI r.1):VK (xY r).1 2:=by
 unfold xY
 split
 ·exact⟨rfl,h,.inl rfl⟩
 ·exact zE9 2
theorem zS9 (w:Int): ∀(l:List GValue) (b:Bool),(∀v∈l,VK v 1)→VK (zq8 w l b) 1
 | [],b,_=>by
  rw[zq8]
  split
  ·exact zE9 1
  ·exact zL7 _
 |v::l,b,h=>by
  rw[zq8]
  split
  ·exact zS9 w l true fun x hx=>h x (List.mem_cons_of_mem _ hx)
  ·split
   ·exact h v (List.mem_cons_self ..)
   ·exact zS9 w l b fun x hx=>h x (List.mem_cons_of_mem _ hx)
theorem zs8 {m s:Bool} {k k':Int} (h:zC3 m s k=(k',0)):m=true∧s=true∧k'=k:=by
 unfold zC3 at h
 cases m<;>cases s<;>simp at h
 exact⟨rfl,rfl,h.symm⟩
inductive OpK (s:List UInt8) (ks:List Int) (k:Int):Prop
 |null (hs:s= [73,83,78,85,76,76]∨s= [78,79,84,78,85,76,76]) (hl:ks.length=1) (hk:k=1)
 |not (hs:s= [78,79,84]) (hl:ks.length=1) (ha:allK ks 1=true) (hk:k=1)
 |neg (hs:s= [78,69,71]) (hl:ks.length=1) (ha:allK ks 2=true) (hk:k=2)
 |both (hs:s= [79,82]∨s= [65,78,68]) (hl:ks.length=2) (ha:allK ks 1=true) (hk:k=1)
 |sum (hs:s= [43]∨s= [45]∨s= [42]∨s= [47]∨s= [37]) (hl:ks.length=2) (ha:allK ks 2=true) (hk:k=2)
 |cmp (hs:s= [61]∨s= [60,62]∨s= [60]∨s= [60,61]∨s= [62]∨s= [62,61]) (hl:ks.length=2) (hk:k=1)
theorem zW9 {s:List UInt8} {ks:List Int} {k:Int} (h:zf2 s ks=(k,0)):OpK s ks k:=by
 have one:((ks.length:Int)==1)=true→ks.length=1:=fun h=>by
   have:(ks.length:Int)=1:=by simpa using h
   omega
 have two:((ks.length:Int)==2)=true→ks.length=2:=fun h=>by
   have:(ks.length:Int)=2:=by simpa using h
   omega
 unfold zf2 at h
 split at h
 ·obtain⟨h1,_,h3⟩:=zs8 h;exact .null (by assumption) (one h1) h3
 split at h
 ·obtain⟨h1,h2,h3⟩:=zs8 h;exact .not (by assumption) (one h1) h2 h3
 split at h
 ·obtain⟨h1,h2,h3⟩:=zs8 h;exact .neg (by assumption) (one h1) h2 h3
 split at h
 ·obtain⟨h1,h2,h3⟩:=zs8 h;exact .both (by assumption) (two h1) h2 h3
 split at h
 ·obtain⟨h1,h2,h3⟩:=zs8 h;exact .sum (by assumption) (two h1) h2 h3
 split at h
 ·obtain⟨h1,_,h3⟩:=zs8 h;exact .cmp (by assumption) (two h1) h3
 ·cases h
theorem zT8 {R:GValue→Int→Prop}: ∀{l:List GValue} {ks:List Int},All2 R l ks→l.length=ks.length
 | [],[],_=>rfl
 |_::_,_::_,⟨_,h⟩=>by rw[List.length_cons,List.length_cons,zT8 h]
theorem zD3 {k:Int}: ∀{l:List GValue} {ks:List Int},All2 VK l ks→allK ks k=true→ ∀v∈l,VK v k
 | [],[],_,_,v,hv=>by cases hv
 |x::l,y::ks,⟨h1,h2⟩,ha,v,hv=>by
  unfold allK at ha
  rw[List.all_cons,Bool.and_eq_true,Bool.or_eq_true,beq_iff_eq,beq_iff_eq]at ha
  rcases List.mem_cons.1 hv with rfl|hv
  ·exact⟨h1.may,h1.n,by
    rcases h1.kind with q|q
    ·rcases ha.1 with r|r
     ·exact .inl (q.trans r)
     ·exact .inr (q.trans r)
    ·exact .inr q⟩
  ·exact zD3 h2 ha.2 v hv
theorem yS1 {R:GValue→Int→Prop} (hR: ∀v k,R v k→okI v.n): ∀{l:List GValue} {ks:List Int},All2 R l ks→ ∀v∈l,okI v.n
 | [],[],_,v,hv=>by cases hv
 |x::l,y::ks,⟨h1,h2⟩,v,hv=>by
  rcases List.mem_cons.1 hv with rfl|hv
  ·exact hR _ _ h1
  ·exact yS1 hR h2 v hv
theorem zM6 (l:List GValue):zd4 [78,79,84] l=if(l.any fun v=>v.kind==0)=true then(yV,0)else(xF (!zn9 (l.getD 0 yV)),0):=rfl
theorem zM5 (l:List GValue):zd4 [78,69,71] l=if(l.any fun v=>v.kind==0)=true then(yV,0)else xY (rngF (-(l.getD 0 yV).n)):=rfl
theorem zD7 {s:List UInt8} (hs:s= [61]∨s= [60,62]∨s= [60]∨s= [60,61]∨s= [62]∨s= [62,61]) (l:List GValue):
  zd4 s l=if(l.any fun v=>v.kind==0)=true then(yV,0)else(xF (zb5 s (cmpV (l.getD 0 yV) (l.getD 1 yV))),0):=by
 rcases hs with rfl|rfl|rfl|rfl|rfl|rfl<;>rfl
theorem zM7 {s:List UInt8} (hs:s= [43]∨s= [45]∨s= [42]∨s= [47]∨s= [37]) (l:List GValue):
  zd4 s l=if(l.any fun v=>v.kind==0)=true then(yV,0)else xY (zp8 s (l.getD 0 yV).n (l.getD 1 yV).n):=by
 rcases hs with rfl|rfl|rfl|rfl|rfl<;>rfl
theorem yg9 {s:List UInt8} {l:List GValue} {ks:List Int} {k:Int} (ho:zf2 s ks=(k,0)) (ha:All2 VK l ks):
  VK (zd4 s l).1 k∧1≤l.length∧l.length≤2∧(∀v∈l,okI v.n)∧(l.length=1→s= [73,83,78,85,76,76]∨s= [78,79,84,78,85,76,76]∨s= [78,79,84]∨s= [78,69,71]):=by
 have hlen:=zT8 ha
 have hn:=yS1 (fun _ _ h=>VK.n h) ha
 have hx: ∀j,okI (l.getD j yV).n:=fun j=>by
  rw[List.getD_eq_getElem?_getD]
  cases hj:l[j]? with
  |none=>decide
  |some v=>exact hn v (List.mem_of_getElem? hj)
 have hng: ∀n:Int,okI (rngF n).1:=yI5
 cases zW9 ho with
 |null hs hl hk=>
  subst hk
  refine⟨?_,by omega,by omega,hn,fun _=>by rcases hs with h|h<;>simp[h]⟩
  rcases hs with rfl|rfl<;>exact zL7 _
 |not hs hl hk' hk=>
  subst hs hk
  refine⟨?_,by omega,by omega,hn,fun _=>by simp⟩
  rw[zM6]
  split
  ·exact zE9 1
  ·exact zL7 _
 |neg hs hl hk' hk=>
  subst hs hk
  refine⟨?_,by omega,by omega,hn,fun _=>by simp⟩
  rw[zM5]
  split
  ·exact zE9 2
  ·exact yf7 (hng _)
 |both hs hl hk' hk=>
  subst hk
  refine⟨?_,by omega,by omega,hn,fun h=>by omega⟩
  rcases hs with rfl|rfl
  ·exact zS9 1 l false (zD3 ha hk')
  ·exact zS9 0 l false (zD3 ha hk')
 |sum hs hl hk' hk=>
  subst hk
  refine⟨?_,by omega,by omega,hn,fun h=>by omega⟩
  rw[zM7 hs]
  split
  ·exact zE9 2
  ·exact yf7 (yz8 (hx 0) (hx 1))
 |cmp hs hl hk=>
  subst hk
  refine⟨?_,by omega,by omega,hn,fun h=>by omega⟩
  rw[zD7 hs]
  split
  ·exact zE9 1
  ·exact zL7 _
structure RowOk (T:GTable) (row:List GValue):Prop where
 len:row.length=T.cols.length
 cell: ∀(j:Nat) (C:GCol) (v:GValue),T.cols[j]? =some C→row[j]? =some v→VK v C.kind
theorem yo4 {T:GTable} {row:List GValue} (hr:RowOk T row): ∀(n:Nat) (e:GExpr),xA e≤n→Good e→(yZ T e).2=0→(evF T row e).2=0→VK (evF T row e).1 (yZ T e).1
 |0,e,h,_,_,_=>by have:=zg8 e;omega
 |n+1,e,h,hg,hk,he=>by
  have ih:=yo4 hr n
  have hde:=wV e
  rw[zM9]at he⊢
  rw[zg1]at hk⊢
  by_cases q1:e.kind=1
  ·rw[if_pos q1]at hk⊢
   rw[if_pos q1]
   by_cases w:e.s.isEmpty=false∨e.args.isEmpty=false∨mayF e.v=false
   ·rw[if_pos w]at hk;cases hk
   ·rw[if_neg w]
    refine⟨by
      cases hm:mayF e.v with
      |true=>rfl
      |false=>exact absurd (.inr (.inr hm)) w,⟨hg.v.n.1,hg.v.n.2⟩,.inl rfl⟩
  rw[if_neg q1]at hk he⊢
  rw[if_neg q1]
  by_cases q2:e.kind=2
  ·rw[if_pos q2]at hk⊢
   rw[if_pos q2]
   by_cases w:colF T e.s<0
   ·rw[if_pos w]at hk;cases hk
   rw[if_neg w]at hk⊢
   by_cases w2:e.args.isEmpty=false∨zh5 e.v=false
   ·rw[if_pos w2]at hk;cases hk
   rw[if_neg w2]
   obtain⟨j,hj,hjl⟩:=zr0 T e.s w
   have hjr:j<row.length:=by rw[hr.len];exact hjl
   simp only
   rw[hj,Int.toNat_natCast,List.getD_eq_getElem?_getD,List.getElem?_eq_getElem hjr]
   unfold colK
   rw[Int.toNat_natCast,List.getElem?_eq_getElem hjl]
   exact hr.cell j _ _ (List.getElem?_eq_getElem hjl) (List.getElem?_eq_getElem hjr)
  rw[if_neg q2]at hk he⊢
  rw[if_neg q2]
  by_cases q3:e.kind=3
  rotate_left
  ·rw[if_neg q3]at hk;cases hk
  rw[if_pos q3]at hk⊢
  have hgs:=hg.sub
  have list: ∀args:List GExpr,(∀x∈args,x∈e.args)→(yL T args).2=0→(evsF T row args).2=0→All2 VK (evsF T row args).1 (yL T args).1:=by
   intro args
   induction args with
   |nil=>intro _ _ _;exact trivial
   |cons x l ihl=>
    intro hm hk he
    rw[yL]at hk⊢
    rw[evsF]at he⊢
    by_cases w1:(yZ T x).2=0
    rotate_left
    ·rw[if_pos w1]at hk;exact absurd hk w1
    by_cases w2:(evF T row x).2=0
    rotate_left
    ·rw[if_pos w2]at he;exact absurd he w2
    have n1: ¬(yZ T x).2≠0:=fun h=>h w1
    have n2: ¬(evF T row x).2≠0:=fun h=>h w2
    rw[if_neg n1]at hk⊢
    rw[if_neg n2]at he⊢
    have hx:=hm x (List.mem_cons_self ..)
    have hdx:=xX e.args x hx
    exact⟨ih x (by omega) (hgs x hx) w1 w2,ihl (fun y hy=>hm y (List.mem_cons_of_mem _ hy)) hk he⟩
  by_cases w1:(yL T e.args).2=0
  rotate_left
  ·rw[if_pos w1]at hk;exact absurd hk w1
  by_cases w2:(evsF T row e.args).2=0
  rotate_left
  ·rw[if_pos w2]at he;exact absurd he w2
  have n1: ¬(yL T e.args).2≠0:=fun h=>h w1
  have n2: ¬(evsF T row e.args).2≠0:=fun h=>h w2
  rw[if_neg n1]at hk⊢
  rw[if_neg n2]at he⊢
  by_cases w3:zh5 e.v=false
  ·rw[if_pos w3]at hk;cases hk
  rw[if_neg w3]at hk⊢
  exact(yg9 (Prod.ext rfl hk) (list e.args (fun _ h=>h) w1 w2)).1
end Go.Proofs.YtajjjghohakniaaGreat
namespace Go.Proofs.YtajjjghohakniaaGreat
open Go Go.Vx R
set_option maxRecDepth 100000
theorem zH7 {T:GTable}: ∀{args:List GExpr},(yL T args).2=0→ ∀x∈args,(yZ T x).2=0
 | [],_,x,hx=>by cases hx
 |y::l,h,x,hx=>by
  rw[yL]at h
  by_cases w:(yZ T y).2=0
  ·have n1: ¬(yZ T y).2≠0:=fun h=>h w
   rw[if_neg n1]at h
   rcases List.mem_cons.1 hx with rfl|hx
   ·exact w
   ·exact zH7 h x hx
  ·rw[if_pos w]at h;exact absurd h w
theorem yw7 {T:GTable} {row:List GValue} (hr:RowOk T row) (n:Nat): ∀{args:List GExpr},(∀x∈args,xA x≤n∧Good x)→(yL T args).2=0→(evsF T row args).2=0→All2 VK (evsF T row args).1 (yL T args).1
 | [],_,_,_=>trivial
 |x::l,hm,hk,he=>by
  rw[yL]at hk⊢
  rw[evsF]at he⊢
  by_cases w1:(yZ T x).2=0
  rotate_left
  ·rw[if_pos w1]at hk;exact absurd hk w1
  by_cases w2:(evF T row x).2=0
  rotate_left
  ·rw[if_pos w2]at he;exact absurd he w2
  have n1: ¬(yZ T x).2≠0:=fun h=>h w1
  have n2: ¬(evF T row x).2≠0:=fun h=>h w2
  rw[if_neg n1]at hk⊢
  rw[if_neg n2]at he⊢
  have hx:=hm x (List.mem_cons_self ..)
  exact⟨yo4 hr n x hx.1 hx.2 w1 w2,yw7 hr n (fun y hy=>hm y (List.mem_cons_of_mem _ hy)) hk he⟩
set_option maxHeartbeats 2000000 in
theorem yV1 {T:GTable} {row:List GValue} (hr:RowOk T row) (hT:T.cols.length≤maxLen): ∀(n:Nat) (e:GExpr),xA e≤n→Wide e→Good e→(yZ T e).2=0→Pure Tryz.prog 131 [.agg T.row,.sl .ro (row.map GValue.row),.agg e.row] (valP (evF T row e))
 |0,e,h,_,_,_=>by have:=zg8 e;omega
 |n+1,e,h,hw,hg,hk=>by
  have ih:=yV1 hr hT n
  have hok:= @yw7 _ _ hr n
  have hde:=wV e
  have hlen:=hw.len
  have hsub:=hw.sub
  have hgs:=hg.sub
  have hcol:=yC8 T e.s hT
  rw[show xO (fun c:GCol=>c.name==e.s) T.cols 0=colF T e.s from rfl]at hcol
  obtain⟨M,hM⟩: ∃M,evF T row e=M:=⟨_,rfl⟩
  rw[hM]
  rw[zM9]at hM
  rw[zg1]at hk
  have ret: ∀(v:GValue) (e:Int) (σ:St),(v,e)=M→wret (some (.tup [.agg v.row,.int .i64 e])) 0 (fun r s=>r=valP M∧s= []) σ:=fun v e σ h=>zi4 h
  refine VCalls.introV 0 Tryz.func131 Tryz.ntmps131 Tryz.results131 rfl rfl (Nat.le_of_ble_eq_true rfl) fun c hc hb=> ?_
  refine zC ?_
  simp[go_sem]
  by_cases q1:e.kind=1
  ·have q1':(e.kind==1)=true:=by simpa using q1
   rw[if_pos q1]at hM
   simp[go_sem,q1']
   exact ret _ _ _ hM
  rw[if_neg q1]at hM hk
  have q1':(e.kind==1)=false:=by simpa using q1
  by_cases q2:e.kind=2
  ·have q2':(e.kind==2)=true:=by simpa using q2
   rw[if_pos q2]at hM hk
   by_cases w:colF T e.s<0
   ·rw[if_pos w]at hk;cases hk
   obtain⟨j,hj,hjl⟩:=zr0 T e.s w
   have hjr:j<row.length:=by rw[hr.len];exact hjl
   obtain⟨v,hv⟩: ∃v,row[j]=v:=⟨_,rfl⟩
   rw[hj,Int.toNat_natCast,List.getD_eq_getElem?_getD,List.getElem?_eq_getElem hjr,hv]at hM
   rw[hj]at hcol
   simp[go_sem,q1',q2']
   refine zD hcol Tryz.callB127 (zI (by simp[go_sem]) rfl) rfl ?_
   simp[go_sem,hjr,hv]
   exact ret _ _ _ hM
  rw[if_neg q2]at hM hk
  have q2':(e.kind==2)=false:=by simpa using q2
  by_cases q3:e.kind=3
  rotate_left
  ·rw[if_neg q3]at hk;cases hk
  rw[if_pos q3]at hk
  obtain⟨args,hargs⟩: ∃args,e.args=args:=⟨_,rfl⟩
  rw[hargs]at hde hlen hsub hgs hM hk
  by_cases w1:(yL T args).2=0
  rotate_left
  ·rw[if_pos w1]at hk;exact absurd hk w1
  have n1: ¬(yL T args).2≠0:=fun h=>h w1
  rw[if_neg n1]at hk
  by_cases w3:zh5 e.v=false
  ·rw[if_pos w3]at hk;cases hk
  rw[if_neg w3]at hk
  have hop:zf2 e.s (yL T args).1=((zf2 e.s (yL T args).1).1,0):=Prod.ext rfl hk
  have hmem:=zH7 w1
  have hevs:(evsF T row args).2=0→All2 VK (evsF T row args).1 (yL T args).1:=fun h=>
   hok (fun x hx=>⟨by have:=xX args x hx;omega,hgs x hx⟩) w1 h
  obtain⟨K,hK⟩: ∃K,evsF T row args=K:=⟨_,rfl⟩
  rw[hK]at hM hevs
  simp[go_sem,q1',q2',hargs]
  refine zu4 8 3 (by decide) (by simp[go_sem]) ?_
  refine zN (S:=Nat×List GValue) [1,3,5,6,8,29,30,31] (fun u=> [.sl .ro (row.map GValue.row),.ptr 0 0,.ptr 1 0,.ptr 2 0,.sl (.app 3) (u.2.map GValue.row),.sl .ro (args.map GExpr.row),.int .i64 args.length,.int .i64 (u.1:Int)])
   (fun u=> [.box T.row,.box e.row,.box [.int .i64 0,.int .i64 0,.str []],.app u.2.length 3]) (fun u=>args.length - u.1)
   (fun u=>u.1≤args.length∧u.2.length=u.1∧(evsF T row (args.drop u.1)).2=K.2∧(K.2=0→u.2++(evsF T row (args.drop u.1)).1=K.1)) hc hb (0,[])
   ⟨Nat.zero_le _,rfl,by simp only[List.drop_zero];rw[hK],fun _=>by simp only[List.drop_zero];rw[hK];rfl⟩ ?_ ?_
  ·exact at_n 4 (by simp[go_sem,hargs]) rfl (by simp[ltOb,ltC,ltK,GExpr.row_eq,GTable.row]) (Nat.zero_le _) (zE (by simp[go_sem]) rfl)
  rintro⟨i,l⟩ ⟨hi,hl,hinv,hinv2⟩
  simp only at hi hl hinv hinv2
  by_cases q:i<args.length
  rotate_left
  ·rw[List.drop_eq_nil_of_le (by omega),evsF]at hinv hinv2
   have hK2:K.2=0:=hinv.symm
   have hK1:l=K.1:=by have:=hinv2 hK2;simpa using this
   have n2: ¬K.2≠0:=fun h=>h hK2
   rw[if_neg n2,←hK1]at hM
   have hA:=hevs hK2
   rw[←hK1]at hA
   obtain⟨_,d1,d2,d3,d4⟩:=yg9 hop hA
   have hdo:=xq4 e.s l d1 d2 d3 d4
   generalize zd4 e.s l=o at hdo hM
   refine zC ?_
   simp[go_sem,q]
   refine zD hdo Tryz.callB177 ⟨zA rfl,zW,trivial⟩ rfl ?_
   simp[go_sem,valP]
   exact zi4 hM
  have ei:=zU q (by omega)
  obtain⟨x,hx⟩: ∃x,args[i]=x:=⟨_,rfl⟩
  have hxm:x∈args:=hx▸List.getElem_mem q
  have hdx:=xX args x hxm
  rw[List.drop_eq_getElem_cons q,hx,evsF]at hinv hinv2
  have hcall:=ih x (by omega) (hsub x hxm) (hgs x hxm) (hmem x hxm)
  generalize evF T row x=kx at hcall hinv hinv2
  by_cases q4:kx.2=0
  ·have n3: ¬kx.2≠0:=fun h=>h q4
   rw[if_neg n3]at hinv hinv2
   have q4':(kx.2 !=0)=false:=by simpa using q4
   refine zC ?_
   simp[go_sem,q,hx]
   refine zD hcall Tryz.callB131 (zI (by simp[go_sem]) (by rw[GExpr.row_eq];rfl)) rfl ?_
   simp[go_sem,valP,q4']
   refine zO ⟨by omega,by unfold uni;simp⟩ ?_
   simp[go_sem,ei]
   refine zP (i+1,l++ [kx.1]) ⟨by simp only;omega,⟨by simp only;omega,by simp;omega,hinv,fun h=>by have:=hinv2 h;simpa using this⟩, ?_⟩
   exact at_n 4 (by simp[go_sem]) rfl (by simp[ltOb,ltC,ltK,GExpr.row_eq]) (Nat.zero_le _) (zE (by simp[go_sem]) rfl)
  ·rw[if_pos q4]at hinv
   have q4':(kx.2 !=0)=true:=by simpa using q4
   have hK2:kx.2=K.2:=hinv
   rw[if_pos (by rw[←hK2];exact q4),←hK2]at hM
   refine zC ?_
   simp[go_sem,q,hx]
   refine zD hcall Tryz.callB131 (zI (by simp[go_sem]) (by rw[GExpr.row_eq];rfl)) rfl ?_
   simp[go_sem,valP,q4']
   exact ret yV _ _ hM
end Go.Proofs.YtajjjghohakniaaGreat
namespace Go.Proofs.YtajjjghohakniaaGreat
open Go Go.Vx R
set_option maxRecDepth 100000
theorem xb1 (a b:Int) (ha:okI a) (hb':okI b):Pure Tryz.prog 145 [.int .i64 a,.int .i64 b] (yN (rngF (a*b))):=by
 have hs1:=ye3 a ha
 have hs2:=ye3 b hb'
 have hok:=yY3 a b
 have hmo:zG2 a b≤9223372036854775808:=by unfold zG2;split<;>omega
 have hmv:=yY2 a b
 have hab:a.natAbs<18446744073709551616∧b.natAbs<18446744073709551616:=by unfold okI at ha hb';omega
 generalize hM:rngF (a*b)=M
 unfold rngF at hM
 refine VCalls.intro 0 Tryz.func145 Tryz.ntmps145 Tryz.results145 rfl rfl (Nat.le_of_ble_eq_true rfl) fun c hc hb=>zJ ?_
 simp[go_sem]
 by_cases a0:a=0
 ·have a0':(a==0)=true:=by simpa using a0
  simp[go_sem,a0']
  exact yO (by rw[←hM,a0,Int.zero_mul];rfl)
 have a0':(a==0)=false:=by simpa using a0
 by_cases b0:b=0
 ·have b0':(b==0)=true:=by simpa using b0
  simp[go_sem,a0',b0']
  exact yO (by rw[←hM,b0,Int.mul_zero];rfl)
 have b0':(b==0)=false:=by simpa using b0
 simp[go_sem,a0',b0']
 refine zD hs1 Tryz.callB184 (zG rfl) rfl ?_
 simp[go_sem]
 refine zD hs2 Tryz.callB184 (zG rfl) rfl ?_
 simp[go_sem]
 have hyp:0<b.natAbs:=by omega
 have hnz:((b.natAbs:Int))≠0:=by omega
 have fits: ∀m:Nat,(a.natAbs*b.natAbs≤m↔ ¬m/b.natAbs<a.natAbs):=fun m=>by rw[Nat.not_lt,Nat.le_div_iff_mul_le hyp]
 have u1:IntKind.u64.wrap 9223372036854775808=9223372036854775808:=by decide
 have fin: ∀m:Nat,zG2 a b=m→m≤9223372036854775808→(okI (a*b)∧decide ((m:Int).tdiv (b.natAbs:Int)<(a.natAbs:Int))=false∧IntKind.u64.wrap ((m:Int).tdiv (b.natAbs:Int))=(m:Int).tdiv (b.natAbs:Int))∨(¬okI (a*b)∧decide ((m:Int).tdiv (b.natAbs:Int)<(a.natAbs:Int))=true∧IntKind.u64.wrap ((m:Int).tdiv (b.natAbs:Int))=(m:Int).tdiv (b.natAbs:Int)):=fun m hm hm2=>by
  have e:(m:Int).tdiv (b.natAbs:Int)=((m/b.natAbs:Nat):Int):=rfl
  have hle:m/b.natAbs≤m:=Nat.div_le_self _ _
  rw[e,hok,hm,fits]
  generalize m/b.natAbs=d at hle
  have hw:IntKind.u64.wrap (d:Int)=(d:Int):=Vx.u64_id (by omega) (by omega)
  by_cases q:d<a.natAbs
  ·exact .inr ⟨fun h=>h q,decide_eq_true (by omega),hw⟩
  ·exact .inl ⟨q,decide_eq_false (by omega),hw⟩
 refine zS (fun v2=> ?_) (fun v2=> ?_)
 ·have hf:=fin 9223372036854775808 (hmv.1 v2) (Nat.le_refl _)
  simp only[Int.cast_ofNat_Int]at hf
  simp[go_sem,u1]
  refine zO (by omega) ?_
  rcases hf with ⟨f1,f2,f3⟩|⟨f1,f2,f3⟩
  ·have w:=zh4 f1
   simp[go_sem,f2,f3,w]
   exact yO (by rw[←hM,if_pos f1])
  ·simp[go_sem,f2,f3]
   exact yO (by rw[←hM,if_neg f1])
 ·have hf:=fin 9223372036854775807 (hmv.2 v2) (by decide)
  simp only[Int.cast_ofNat_Int]at hf
  simp[go_sem]
  refine zO (by omega) ?_
  rcases hf with ⟨f1,f2,f3⟩|⟨f1,f2,f3⟩
  ·have w:=zh4 f1
   simp[go_sem,f2,f3,w]
   exact yO (by rw[←hM,if_pos f1])
  ·simp[go_sem,f2,f3]
   exact yO (by rw[←hM,if_neg f1])
def zU2 (s:List UInt8) (a b:Int):GValue:=
 let w:Int:=if s= [79,82]then 1 else 0
 if a=w∨b=w then xF (w==1)else if a=2∨b=2 then yV else xF (w==0)
theorem ye2 (s:List UInt8) (a b:Int):Pure Tryz.prog 96 [.str s,.int .i64 a,.int .i64 b] (.agg (zU2 s a b).row):=by
 generalize hM:zU2 s a b=M
 have ret: ∀(v:GValue) (σ:St),v=M→wret (some (.agg v.row)) 0 (fun r s=>r= .agg M.row∧s= []) σ:=fun v σ h=>by subst h;exact zQ (zA rfl) ⟨rfl,rfl⟩
 unfold zU2 at hM
 refine VCalls.intro 0 Tryz.func96 Tryz.ntmps96 Tryz.results96 rfl rfl (Nat.le_of_ble_eq_true rfl) fun c hc hb=>zJ ?_
 simp[go_sem]
 repeat' (first
  |(refine yT (fun q=> ?_) (fun q=> ?_)<;>simp[go_sem,q])
  |(refine zS (fun q=> ?_) (fun q=> ?_)<;>simp[go_sem,q])
  |(refine zD (za0 true) Tryz.callB95 (zG rfl) rfl ?_;simp[go_sem])
  |(refine zD (za0 false) Tryz.callB95 (zG rfl) rfl ?_;simp[go_sem]))
 all_goals first
  |exact ret yV _ (by rw[←hM];simp_all)
  |exact ret (xF true) _ (by rw[←hM];simp_all)
  |exact ret (xF false) _ (by rw[←hM];simp_all)
def numR (s:List UInt8) (x y:GValue):GValue×Int:=if s= [78,69,71]then xY (rngF (-x.n))else xY (zp8 s x.n y.n)
set_option maxHeartbeats 1000000 in
theorem yw5 (s:List UInt8) (l:List GValue) (h1:1≤l.length) (hs:s= [78,69,71]∨(2≤l.length∧(s= [43]∨s= [45]∨s= [42]∨s= [47]∨s= [37]))) (hn: ∀v∈l,okI v.n):
  Pure Tryz.prog 99 [.str s,.sl .ro (l.map GValue.row)] (valP (numR s (l.getD 0 yV) (l.getD 1 yV))):=by
 obtain⟨x,hx⟩: ∃x,l[0]'h1=x:=⟨_,rfl⟩
 have hxd:l.getD 0 yV=x:=by rw[List.getD_eq_getElem?_getD,List.getElem?_eq_getElem h1,hx];rfl
 have hpos:0<l.length:=h1
 have hxn:okI x.n:=hn x (hx▸List.getElem_mem h1)
 rw[hxd]
 generalize hM:numR s x (l.getD 1 yV)=M
 unfold numR at hM
 have ok: ∀{n:Int} (σ:St),xY (n,0)=M→wret (some (.tup [.agg [.int .i64 2,.int .i64 n,.str []],.int .i64 0])) 0 (fun v s=>v=valP M∧s= []) σ:=fun{n} σ h=>by
  refine zS8 ?_
  rw[←h];rfl
 have no: ∀{e:Int} (σ:St),e≠0→xY (0,e)=M→wret (some (.tup [.agg [.int .i64 0,.int .i64 0,.str []],.int .i64 e])) 0 (fun v s=>v=valP M∧s= []) σ:=fun{e} σ he h=>by
  refine zS8 ?_
  rw[←h];unfold xY;rw[if_neg he];rfl
 have ends: ∀(r:Int×Int),xY r=M→((r.2 !=0)=false∧xY (r.1,0)=M)∨((r.2 !=0)=true∧r.2≠0∧xY (0,r.2)=M):=fun r h=>by
  by_cases q:r.2=0
  ·refine .inl ⟨by simpa using q, ?_⟩
   rw[←h,←q]
  ·refine .inr ⟨by simpa using q,q, ?_⟩
   rw[←h];unfold xY;rw[if_neg q,if_neg q]
 refine VCalls.intro 0 Tryz.func99 Tryz.ntmps99 Tryz.results99 rfl rfl (Nat.le_of_ble_eq_true rfl) fun c hc hb=>zJ ?_
 simp[go_sem,hpos,hx]
 by_cases q:s= [78,69,71]
 ·rw[if_pos q]at hM
  simp[go_sem,q]
  unfold okI at hxn
  by_cases w:x.n= -9223372036854775808
  ·have w':(x.n== -9223372036854775808)=true:=by simpa using w
   simp[go_sem,w']
   exact no _ (by decide) (by rw[←hM,w];rfl)
  ·have w':(x.n== -9223372036854775808)=false:=by simpa using w
   have e1:IntKind.i64.wrap (-x.n)= -x.n:=zh4 ⟨by omega,by omega⟩
   simp[go_sem,w',e1]
   exact ok _ (by rw[←hM,rngF,if_pos ⟨by omega,by omega⟩])
 rw[if_neg q]at hM
 obtain⟨h2,h3⟩:=hs.resolve_left q
 obtain⟨y,hy⟩: ∃y,l[1]'h2=y:=⟨_,rfl⟩
 have hyd:l.getD 1 yV=y:=by rw[List.getD_eq_getElem?_getD,List.getElem?_eq_getElem h2,hy];rfl
 have hyn:okI y.n:=hn y (hy▸List.getElem_mem h2)
 have h2':1<l.length:=h2
 rw[hyd]at hM
 have q':(s== [78,69,71])=false:=by simpa using q
 simp[go_sem,q',h2',hy]
 refine zO (by omega) ?_
 have ha:=ys1 x.n y.n hxn hyn
 have hm:=xb1 x.n y.n hxn hyn
 have hyn2:=hyn
 have hxn2:=hxn
 unfold okI at hyn2 hxn2
 rcases h3 with h3|h3|h3|h3|h3
 ·have hM:xY (rngF (x.n+y.n))=M:=by rw[←hM,h3];rfl
  simp[go_sem,h3]
  refine zD ha Tryz.callB144 (zG rfl) rfl ?_
  simp[go_sem,yN]
  rcases ends _ hM with ⟨e1,e2⟩|⟨e1,e2,e3⟩
  ·simp[go_sem,e1]
   exact ok _ e2
  ·simp[go_sem,e1]
   exact no _ e2 e3
 ·have hM:xY (rngF (x.n - y.n))=M:=by rw[←hM,h3];rfl
  simp[go_sem,h3]
  by_cases w:y.n= -9223372036854775808
  ·have w':(y.n== -9223372036854775808)=true:=by simpa using w
   by_cases p:0≤x.n
   ·have p':decide (0≤x.n)=true:=decide_eq_true p
    simp[go_sem,w',p']
    exact no _ (by decide) (by rw[←hM,rngF,if_neg (by unfold okI;omega)])
   ·have p':decide (0≤x.n)=false:=decide_eq_false p
    have e1:IntKind.i64.wrap (x.n - y.n)=x.n - y.n:=zh4 ⟨by omega,by omega⟩
    simp[go_sem,w',p',e1]
    exact ok _ (by rw[←hM,rngF,if_pos ⟨by omega,by omega⟩])
  ·have w':(y.n== -9223372036854775808)=false:=by simpa using w
   have e1:IntKind.i64.wrap (-y.n)= -y.n:=zh4 ⟨by omega,by omega⟩
   have ha:=ys1 x.n (-y.n) hxn ⟨by omega,by omega⟩
   rw[←Int.sub_eq_add_neg]at ha
   simp[go_sem,w',e1]
   refine zD ha Tryz.callB144 (zG rfl) rfl ?_
   simp[go_sem,yN]
   rcases ends _ hM with ⟨e1,e2⟩|⟨e1,e2,e3⟩
   ·simp[go_sem,e1]
    exact ok _ e2
   ·simp[go_sem,e1]
    exact no _ e2 e3
 ·have hM:xY (rngF (x.n*y.n))=M:=by rw[←hM,h3];rfl
  simp[go_sem,h3]
  refine zD hm Tryz.callB145 (zG rfl) rfl ?_
  simp[go_sem,yN]
  rcases ends _ hM with ⟨e1,e2⟩|⟨e1,e2,e3⟩
  ·simp[go_sem,e1]
   exact ok _ e2
  ·simp[go_sem,e1]
   exact no _ e2 e3
 ·have hM:xY (if y.n=0 then(0,17)else rngF (x.n.tdiv y.n))=M:=by rw[←hM,h3];rfl
  by_cases z:y.n=0
  ·have z':(y.n==0)=true:=by simpa using z
   rw[if_pos z]at hM
   simp[go_sem,h3,z']
   exact no _ (by decide) hM
  have z':(y.n==0)=false:=by simpa using z
  rw[if_neg z]at hM
  simp[go_sem,h3,z']
  by_cases w:x.n= -9223372036854775808
  ·have w':(x.n== -9223372036854775808)=true:=by simpa using w
   by_cases p:y.n= -1
   ·have p':(y.n== -1)=true:=by simpa using p
    simp[go_sem,w',p']
    exact no _ (by decide) (by rw[←hM,w,p];rfl)
   ·have p':(y.n== -1)=false:=by simpa using p
    have e0:=yk2 hxn hyn p
    have e1:=zh4 e0
    simp[go_sem,w',p',e1]
    refine zO z ?_
    simp[go_sem]
    exact ok _ (by rw[←hM,rngF,if_pos e0])
  ·have w':(x.n== -9223372036854775808)=false:=by simpa using w
   have e0:okI (x.n.tdiv y.n):=by
    by_cases p:y.n= -1
    ·rw[p,Int.tdiv_neg,Int.tdiv_one];exact⟨by omega,by omega⟩
    ·exact yk2 hxn hyn p
   have e1:=zh4 e0
   simp[go_sem,w',e1]
   refine zO z ?_
   simp[go_sem]
   exact ok _ (by rw[←hM,rngF,if_pos e0])
 ·have hM:xY (if y.n=0 then(0,17)else(x.n.tmod y.n,0))=M:=by rw[←hM,h3];rfl
  by_cases z:y.n=0
  ·have z':(y.n==0)=true:=by simpa using z
   rw[if_pos z]at hM
   simp[go_sem,h3,z']
   exact no _ (by decide) hM
  have z':(y.n==0)=false:=by simpa using z
  rw[if_neg z]at hM
  simp[go_sem,h3,z']
  by_cases p:y.n= -1
  ·have p':(y.n != -1)=false:=by simpa using p
   simp[go_sem,p']
   exact ok _ (by rw[←hM,p,Int.tmod_neg,Int.tmod_one])
  ·have p':(y.n != -1)=true:=by simpa using p
   simp[go_sem,p']
   refine zO z ?_
   simp[go_sem]
   exact ok _ hM
end Go.Proofs.YtajjjghohakniaaGreat
namespace Go.Proofs.YtajjjghohakniaaGreat
open Go Go.Vx R
set_option maxRecDepth 100000
def noT:GTable:=⟨[],[],0,0,0,⟨[],[],[],0,0,0⟩⟩
theorem yH2:RowOk noT []:=⟨rfl,fun j C v h=>by simp[noT]at h⟩
theorem yY8:noT.cols= []:=rfl
def evN (e:GExpr):GValue×Int:=if(wS noT e).2≠0 then(yV,(wS noT e).2)else evF noT [] e
theorem xq8 {e:GExpr} (he:EOk e) (h:(evN e).2=0):VK (evN e).1 (wS noT e).1:=by
 unfold evN at h⊢
 by_cases q:(wS noT e).2=0
 rotate_left
 ·rw[if_pos q]at h;exact absurd h q
 have n1: ¬(wS noT e).2≠0:=fun h=>h q
 rw[if_neg n1]at h⊢
 have hs:=he.size
 unfold wS at q⊢
 by_cases d:xA e≤64
 ·rw[if_pos d]at q⊢
  exact yo4 yH2 64 e d he.good q h
 ·rw[if_neg d]at q;cases q
theorem yC9 (e:GExpr) (he:EOk e):Pure Tryz.prog 81 [.agg noT.row,.sl .ro [],.agg e.row] (valP (evN e)):=by
 have hty:=yv6 noT (by simp[noT,maxLen]) e he
 have hev:=fun(d:xA e≤64) (k:(yZ noT e).2=0)=>yV1 yH2 (by simp[noT,maxLen]) 64 e d he.wide he.good k
 generalize hM:evN e=M
 unfold evN at hM
 have ret: ∀(v:GValue) (e:Int) (σ:St),(v,e)=M→wret (some (.tup [.agg v.row,.int .i64 e])) 0 (fun r s=>r=valP M∧s= []) σ:=fun v e σ h=>zi4 h
 refine VCalls.introV 0 Tryz.func81 Tryz.ntmps81 Tryz.results81 rfl rfl (Nat.le_of_ble_eq_true rfl) fun c hc hb=> ?_
 refine zC ?_
 simp[go_sem]
 refine zD hty Tryz.callB125 (zI (by simp[go_sem]) (by rw[GExpr.row_eq];rfl)) rfl ?_
 simp[go_sem,yN]
 by_cases q:(wS noT e).2=0
 rotate_left
 ·have q':((wS noT e).2 !=0)=true:=by simpa using q
  rw[if_pos q]at hM
  simp[go_sem,q']
  exact ret yV _ _ hM
 have q':((wS noT e).2 !=0)=false:=by simpa using q
 have n1: ¬(wS noT e).2≠0:=fun h=>h q
 rw[if_neg n1]at hM
 have hcall:Pure Tryz.prog 131 [.agg noT.row,.sl .ro [],.agg e.row] (valP (evF noT [] e)):=by
  unfold wS at q
  by_cases d:xA e≤64
  ·rw[if_pos d]at q;exact hev d q
  ·rw[if_neg d]at q;cases q
 rw[hM]at hcall
 simp[go_sem,q',yY8]
 refine zN (S:=Unit) [1,3,5,6,29,30,31] (fun _=> [.sl .ro [],.ptr 0 0,.ptr 1 0,.ptr 2 0,.sl .ro [],.int .i64 0,.int .i64 0])
   (fun _=> [.box noT.row,.box e.row,.box [.int .i64 0,.int .i64 0,.str []]]) (fun _=>0) (fun _=>True) hc hb () trivial ?_ ?_
 ·exact at_n 3 (by simp[go_sem,noT]) rfl (by simp[ltOb,ltC,ltK,GExpr.row_eq,GTable.row]) (Nat.zero_le _) (zE (by simp[go_sem]) rfl)
 rintro u _
 refine zC ?_
 simp[go_sem]
 refine zD hcall Tryz.callB131 (zI (by simp[go_sem]) (by rw[GExpr.row_eq];rfl)) rfl ?_
 simp[go_sem,valP]
 exact zi4 rfl
end Go.Proofs.YtajjjghohakniaaGreat
namespace Go.Proofs.YtajjjghohakniaaGreat.R
open Go Go.Vx
set_option maxRecDepth 100000
def zK4:List GCol→List GValue→Int
 |c::cs,v::vs=>if mayF v=false then 9 else if v.kind=0∧c.null=false then 16 else if v.kind≠0∧v.kind≠c.kind then 15 else zK4 cs vs
 |_,_=>0
def mayT (cols:List GCol) (row:List GValue):Int:=if row.length≠cols.length then 9 else zK4 cols row
end Go.Proofs.YtajjjghohakniaaGreat.R
namespace Go.Proofs.YtajjjghohakniaaGreat.R
open Go Go.Vx
set_option maxRecDepth 100000
def keyV (r:Int×List UInt8×Int):V:= .tup [.int .i64 r.1,.str r.2.1,.int .i64 r.2.2]
theorem zE2 {r:Int×List UInt8×Int} {a e:Int} {s:List UInt8} {σ:St} (h:r=(a,s,e)):wret (some (.tup [.int .i64 a,.str s,.int .i64 e])) 0 (fun v s=>v=keyV r∧s= []) σ:=by
 subst h
 exact zQ (zA rfl) ⟨rfl,rfl⟩
theorem yq7 {cols:List GCol} {row:List GValue} (h:mayT cols row=0):row.length=cols.length:=by
 unfold mayT at h
 split at h
 ·cases h
 ·rename_i h2;omega
end Go.Proofs.YtajjjghohakniaaGreat.R
namespace Go.Proofs.YtajjjghohakniaaGreat.R
open Go Go.Vx
set_option maxRecDepth 100000
theorem zg6: ∀a:List UInt8,Op.bytesLess a a=false
 | []=>rfl
 |a::l=>by simp[Op.bytesLess,zg6 l]
theorem zh6: ∀a b c:List UInt8,Op.bytesLess a b=true→Op.bytesLess b c=true→Op.bytesLess a c=true
 |_,[],_,h,_=>by simp[Op.bytesLess]at h
 |_,_::_,[],_,h=>by simp[Op.bytesLess]at h
 | [],_::_,_::_,_,_=>rfl
 |a::l,b::m,d::n,h1,h2=>by
  simp only[Op.bytesLess,Bool.or_eq_true,decide_eq_true_eq,Bool.and_eq_true,beq_iff_eq]at*
  rcases h1 with h1|⟨rfl,h1⟩
  ·rcases h2 with h2|⟨rfl,h2⟩
   ·exact .inl (UInt8.lt_trans h1 h2)
   ·exact .inl h1
  ·rcases h2 with h2|⟨rfl,h2⟩
   ·exact .inl h2
   ·exact .inr ⟨rfl,zh6 l m n h1 h2⟩
theorem zn1: ∀a b:List UInt8,Op.bytesLess a b=true∨a=b∨Op.bytesLess b a=true
 | [],[]=> .inr (.inl rfl)
 | [],_::_=> .inl rfl
 |_::_,[]=> .inr (.inr rfl)
 |a::l,b::m=>by
  simp only[Op.bytesLess,Bool.or_eq_true,decide_eq_true_eq,Bool.and_eq_true,beq_iff_eq,List.cons.injEq]
  by_cases h:a<b
  ·exact .inl (.inl h)
  ·by_cases h2:b<a
   ·exact .inr (.inr (.inl h2))
   ·have he:a=b:=UInt8.le_antisymm (UInt8.not_lt.1 h2) (UInt8.not_lt.1 h)
    subst he
    rcases zn1 l m with q|rfl|q
    ·exact .inl (.inr ⟨rfl,q⟩)
    ·exact .inr (.inl ⟨rfl,rfl⟩)
    ·exact .inr (.inr (.inr ⟨rfl,q⟩))
theorem zW1 {v:GValue} (h:mayF v=true):(v.kind=0∧v.n=0∧v.s= [])∨(v.kind=1∧(v.n=0∨v.n=1)∧v.s= [])∨(v.kind=2∧v.s= [])∨(v.kind=3∧v.n=0∧v.s.length≤64):=by
 have hk:=zH6 h
 unfold mayF at h
 rcases hk with hk|hk|hk|hk<;>rw[hk]at h⊢ <;>simp at h⊢ <;>exact h
theorem yp4 {a b:GValue} (ha:mayF a=true) (hb:mayF b=true) (hk:a.kind=b.kind) (oa:a.ok) (ob:b.ok):Op.bytesLess (keyF a) (keyF b)=decide (zP7 a b<0):=by
 have pa:=zW1 ha
 have pb:=zW1 hb
 have ia:=oa.n
 have ib:=ob.n
 obtain⟨k,n,s⟩:=a
 obtain⟨k2,n2,s2⟩:=b
 simp only at pa pb hk ia ib
 subst hk
 unfold keyF zP7
 rw[if_pos ha,if_pos hb]
 simp only
 rw[za3,if_neg (Nat.lt_irrefl _),if_neg (Nat.lt_irrefl _)]
 rcases pa with ⟨rfl,rfl,rfl⟩|⟨rfl,hn,rfl⟩|⟨rfl,rfl⟩|⟨rfl,rfl,hl⟩
 ·simp at pb
  obtain⟨rfl,rfl⟩:=pb
  decide
 ·simp at pb
  obtain⟨hn2,rfl⟩:=pb
  rcases hn with rfl|rfl<;>rcases hn2 with rfl|rfl<;>decide
 ·simp at pb
  subst pb
  simp only[show((2:Int)=1)=False from by simp,if_false,if_true]
  rw[yD7,Nat.mod_eq_of_lt (by omega),Nat.mod_eq_of_lt (by omega)]
  by_cases h:n<n2
  ·simp[h,Int.ne_of_lt h];omega
  ·by_cases h2:n=n2
   ·subst h2;simp
   ·simp[h,h2];omega
 ·simp at pb
  obtain⟨rfl,hl2⟩:=pb
  simp only[show((3:Int)=1)=False from by simp,show((3:Int)=2)=False from by simp,if_false,if_true]
  rw[yn9]
  by_cases h:s=s2
  ·subst h;simp[zg6]
  ·cases hq:Op.bytesLess s s2<;>simp[h]
end Go.Proofs.YtajjjghohakniaaGreat.R
