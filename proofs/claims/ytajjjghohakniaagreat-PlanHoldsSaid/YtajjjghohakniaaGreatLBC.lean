/-
  Contracts of functions that the claimed statement reaches, each proved over trees (the library Vx); used by the theorem at the end of the claim.
  Conditions: as each theorem states them.
-/
import Derived.Test.YtajjjghohakniaaGreatLBB
import Derived.Test.YtajjjghohakniaaGreatLAT
namespace Go.Proofs.YtajjjghohakniaaGreat.R
open Go Go.Vx
set_option maxRecDepth 100000
theorem zH6 {v:GValue} (h:mayF v=true):v.kind=0∨v.kind=1∨v.kind=2∨v.kind=3:=by
 unfold mayF at h
 by_cases h0:v.kind=0
 ·exact .inl h0
 ·by_cases h1:v.kind=1
  ·exact .inr (.inl h1)
  ·by_cases h2:v.kind=2
   ·exact .inr (.inr (.inl h2))
   ·by_cases h3:v.kind=3
    ·exact .inr (.inr (.inr h3))
    ·simp[h0,h1,h2,h3]at h
theorem yo0 {s:List UInt8} {i:Nat} (h:i<s.length):esc (s.take (i+1))=esc (s.take i)++(if s[i]=0 then [0,255]else [s[i]]):=by
 rw[List.take_succ_eq_append_getElem h,zU9]
 simp only[esc]
theorem yJ3 {s:Nat} {a b:List V} (h1:a.length=s) (h2:b.length=s):uni s [a,b]:=fun r hr=>by
 simp at hr
 rcases hr with rfl|rfl<;>assumption
theorem zW0 {v:GValue} (h:mayF v=true):v.s.length≤64:=by
 unfold mayF at h
 split at h
 ·simp at h;rw[h.2];decide
 split at h
 ·simp at h;rw[h.2];decide
 split at h
 ·simp at h;rw[h];decide
 split at h
 ·simp at h;exact h.2
 ·cases h
theorem xp3 (b:List UInt8) (v:GValue) (hv:v.ok) (hb0:b.length≤maxB - 1):Pure Tryz.prog 107 [bys b,.agg v.row] (bys (b++keyF v)):=by
 refine VCalls.introV 0 Tryz.func107 Tryz.ntmps107 Tryz.results107 rfl rfl (Nat.le_of_ble_eq_true rfl) fun c hc hb=> ?_
 refine zC ?_
 obtain⟨k,n,s⟩:=v
 have hn:=hv.n
 simp only at hn
 simp[go_sem,bys,yE]
 refine zO ⟨by unfold maxB at*;omega,by simp[uni],zq9 b⟩ ?_
 simp[go_sem]
 refine zD (yS0 ⟨k,n,s⟩) Tryz.callB130 (zG rfl) rfl ?_
 simp[go_sem]
 refine zS (fun h=> ?_) (fun h=> ?_)
 ·simp[go_sem]
  refine zm5 ?_
  have h:mayF ⟨k,n,s⟩=false:=by simpa using h
  simp[keyF,h,zR]
 have h:mayF ⟨k,n,s⟩=true:=by simpa using h
 have hs:s.length≤500:=by
   have:s.length≤64:=zW0 h
   omega
 have hk:=zH6 h
 simp only at hk
 simp[go_sem,yE]
 refine zO ⟨by unfold maxB at*;omega,xD rfl⟩ ?_
 have w0:IntKind.u8.wrap 0=0:=by decide+kernel
 have w1:IntKind.u8.wrap 1=1:=by decide+kernel
 have w2:IntKind.u8.wrap 2=2:=by decide+kernel
 have w3:IntKind.u8.wrap 3=3:=by decide+kernel
 rcases hk with rfl|rfl|rfl|rfl
 ·simp[go_sem]
  refine zm5 ?_
  simp[keyF,h,zR,w0]
 ·have h1:n=0∨n=1:=by
   unfold mayF at h
   simp at h
   exact h.1
  simp[go_sem]
  refine zO ⟨yE b,by rw[yE];unfold maxB at*;omega,xD rfl⟩ ?_
  simp[go_sem]
  refine zm5 ?_
  rcases h1 with rfl|rfl<;>simp[keyF,h,zR,w0,w1]
 ·simp[go_sem]
  obtain⟨u,hu⟩: ∃u,(n+9223372036854775808).toNat=u:=⟨_,rfl⟩
  have hO:=xf7 n hn
  rw[hu]at hO
  refine zD hO Tryz.callB152 (zG rfl) rfl ?_
  simp[go_sem]
  refine zD (xu9 (b++ [2]) u (by simp;unfold maxB at*;omega) (by omega)) Tryz.callB151 ⟨zq2 (by simp[zR,w2]),zA rfl,zA rfl,trivial⟩ rfl ?_
  simp[go_sem]
  refine zm5 ?_
  simp[keyF,h,hu]
 ·simp[go_sem]
  refine zN (S:=Nat) [3,5,44,45] (fun i=> [.ptr 0 0,.sl (.app 1) (zR (b++3::esc (s.take i))),.int .i64 s.length,.int .i64 i]) (fun i=> [.box [.int .i64 3,.int .i64 n,.str s],.app (b++3::esc (s.take i)).length 1]) (fun i=>s.length - i) (fun i=>i≤s.length) hc hb 0 (Nat.zero_le _) ?_ ?_
  ·exact at_n 2 (by simp[esc]) rfl rfl (Nat.zero_le _) (zE (by simp[go_sem,esc,zR,w3]) rfl)
  intro i hi
  have hel:=zR9 (s.take i)
  have htl:(s.take i).length≤s.length:=by simp;omega
  obtain⟨o,ho⟩: ∃o,b++3::esc (s.take i)=o:=⟨_,rfl⟩
  have hol:o.length≤maxB+1100:=by
   rw[←ho]
   simp
   unfold maxB at*
   omega
  rw[ho]
  refine zC ?_
  simp[go_sem]
  refine zS (fun q=> ?_) (fun q=> ?_)
  ·have q:i<s.length:=by simpa using q
   have ei:=zU q (by omega)
   have hnext:=yo0 q
   obtain⟨c0,hc0⟩: ∃c0,s[i]=c0:=⟨_,rfl⟩
   simp[go_sem,q,hc0,yE]
   refine zO ⟨by unfold maxB at*;omega,xD rfl⟩ ?_
   simp[go_sem,q,hc0]
   refine zS (fun q2=> ?_) (fun q2=> ?_)
   ·have q2:c0=0:=by
     have:c0.toNat=0:=by simp at q2;omega
     exact UInt8.toNat_inj.1 (by simpa using this)
    rw[hc0,if_pos q2]at hnext
    simp[go_sem,yE]
    refine zO ⟨by unfold maxB at*;omega,xD rfl⟩ ?_
    simp[go_sem,ei]
    exact zP (i+1) ⟨by omega,q,at_n 2 (by simp[hnext,←ho];omega) rfl rfl (Nat.zero_le _) (zE (by simp[go_sem,hnext,←ho,zR,q2]) rfl)⟩
   ·have q2: ¬c0=0:=fun h=>by rw[h]at q2;simp at q2
    rw[hc0,if_neg q2]at hnext
    simp[go_sem,ei]
    exact zP (i+1) ⟨by omega,q,at_n 2 (by simp[hnext,←ho];omega) rfl rfl (Nat.zero_le _) (zE (by simp[go_sem,hnext,←ho,zR]) rfl)⟩
  ·have q:i=s.length:=by
    have: ¬i<s.length:=by simpa using q
    omega
   subst q
   simp[go_sem,yE]
   refine zO ⟨by unfold maxB at*;omega,yJ3 rfl rfl⟩ ?_
   simp[go_sem]
   refine zm5 ?_
   rw[List.take_length]at ho
   simp[keyF,h,zR,←ho]
theorem yQ0 (b:List UInt8) (v:GValue) (hv:v.ok) (hb0:b.length≤maxB - 1):Pure Tryz.prog 91 [bys b,.agg v.row] (bys (b++keyF v)):=by
 refine VCalls.introV 0 Tryz.func91 Tryz.ntmps91 Tryz.results91 rfl rfl (Nat.le_of_ble_eq_true rfl) fun c hc hb=> ?_
 refine zC ?_
 obtain⟨k,n,s⟩:=v
 have hn:=hv.n
 simp only at hn
 simp[go_sem,bys,yE]
 refine zO ⟨by unfold maxB at*;omega,by simp[uni],zq9 b⟩ ?_
 simp[go_sem]
 refine zD (zK5 ⟨k,n,s⟩) Tryz.callB90 (zG rfl) rfl ?_
 simp[go_sem]
 refine zS (fun h=> ?_) (fun h=> ?_)
 ·simp[go_sem]
  refine zm5 ?_
  have h:mayF ⟨k,n,s⟩=false:=by simpa using h
  simp[keyF,h,zR]
 have h:mayF ⟨k,n,s⟩=true:=by simpa using h
 have hs:s.length≤500:=by
   have:s.length≤64:=zW0 h
   omega
 have hk:=zH6 h
 simp only at hk
 simp[go_sem,yE]
 refine zO ⟨by unfold maxB at*;omega,xD rfl⟩ ?_
 have w0:IntKind.u8.wrap 0=0:=by decide+kernel
 have w1:IntKind.u8.wrap 1=1:=by decide+kernel
 have w2:IntKind.u8.wrap 2=2:=by decide+kernel
 have w3:IntKind.u8.wrap 3=3:=by decide+kernel
 rcases hk with rfl|rfl|rfl|rfl
 ·simp[go_sem]
  refine zm5 ?_
  simp[keyF,h,zR,w0]
 ·have h1:n=0∨n=1:=by
   unfold mayF at h
   simp at h
   exact h.1
  simp[go_sem]
  refine zO ⟨yE b,by rw[yE];unfold maxB at*;omega,xD rfl⟩ ?_
  simp[go_sem]
  refine zm5 ?_
  rcases h1 with rfl|rfl<;>simp[keyF,h,zR,w0,w1]
 ·simp[go_sem]
  obtain⟨u,hu⟩: ∃u,(n+9223372036854775808).toNat=u:=⟨_,rfl⟩
  have hO:=yA1 n hn
  rw[hu]at hO
  refine zD hO Tryz.callB142 (zG rfl) rfl ?_
  simp[go_sem]
  refine zD (xf4 u (by omega)) Tryz.callB141 (zG rfl) rfl ?_
  simp[go_sem,bys,yE]
  refine zO ⟨by rw[zH0];unfold maxB at*;omega,zq9 _⟩ ?_
  simp[go_sem]
  refine zm5 ?_
  simp[keyF,h,hu,zR,w2]
 ·simp[go_sem]
  refine zN (S:=Nat) [3,5,6] (fun i=> [.ptr 0 0,.sl (.app 1) (zR (b++3::esc (s.take i))),.int .i64 i]) (fun i=> [.box [.int .i64 3,.int .i64 n,.str s],.app (b++3::esc (s.take i)).length 1]) (fun i=>s.length - i) (fun i=>i≤s.length) hc hb 0 (Nat.zero_le _) ?_ ?_
  ·exact at_n 2 (by simp[esc]) rfl rfl (Nat.zero_le _) (zE (by simp[go_sem,esc,zR,w3]) rfl)
  intro i hi
  have hel:=zR9 (s.take i)
  have htl:(s.take i).length≤s.length:=by simp;omega
  obtain⟨o,ho⟩: ∃o,b++3::esc (s.take i)=o:=⟨_,rfl⟩
  have hol:o.length≤maxB+1100:=by
   rw[←ho]
   simp
   unfold maxB at*
   omega
  rw[ho]
  refine zC ?_
  simp[go_sem]
  refine zS (fun q=> ?_) (fun q=> ?_)
  ·have q:i<s.length:=by simpa using q
   have ei:=zU q (by omega)
   have hnext:=yo0 q
   obtain⟨c0,hc0⟩: ∃c0,s[i]=c0:=⟨_,rfl⟩
   simp[go_sem,q,hc0,yE]
   refine zO ⟨by unfold maxB at*;omega,xD rfl⟩ ?_
   simp[go_sem,q,hc0]
   refine zS (fun q2=> ?_) (fun q2=> ?_)
   ·have q2:c0=0:=by
     have:c0.toNat=0:=by simp at q2;omega
     exact UInt8.toNat_inj.1 (by simpa using this)
    rw[hc0,if_pos q2]at hnext
    simp[go_sem,yE]
    refine zO ⟨by unfold maxB at*;omega,xD rfl⟩ ?_
    simp[go_sem,ei]
    exact zP (i+1) ⟨by omega,q,at_n 2 (by simp[hnext,←ho];omega) rfl rfl (Nat.zero_le _) (zE (by simp[go_sem,hnext,←ho,zR,q2]) rfl)⟩
   ·have q2: ¬c0=0:=fun h=>by rw[h]at q2;simp at q2
    rw[hc0,if_neg q2]at hnext
    simp[go_sem,ei]
    exact zP (i+1) ⟨by omega,q,at_n 2 (by simp[hnext,←ho];omega) rfl rfl (Nat.zero_le _) (zE (by simp[go_sem,hnext,←ho,zR]) rfl)⟩
  ·have q:i=s.length:=by
    have: ¬i<s.length:=by simpa using q
    omega
   subst q
   simp[go_sem,yE]
   refine zO ⟨by unfold maxB at*;omega,yJ3 rfl rfl⟩ ?_
   simp[go_sem]
   refine zm5 ?_
   rw[List.take_length]at ho
   simp[keyF,h,zR,←ho]
end Go.Proofs.YtajjjghohakniaaGreat.R
namespace Go.Proofs.YtajjjghohakniaaGreat.R
open Go Go.Vx
set_option maxRecDepth 100000
theorem yB0 (b:Bool):Pure Tryz.prog 146 [.bool b] (.int .i64 (if b then -1 else 1)):=by
 refine VCalls.intro 0 Tryz.func146 Tryz.ntmps146 Tryz.results146 rfl rfl (Nat.le_of_ble_eq_true rfl) fun c hc hb=>zJ ?_
 simp[go_sem]
 refine zS (fun q=> ?_) (fun q=> ?_)<;>simp[go_sem,q]<;>exact zQ (zA rfl) ⟨rfl,rfl⟩
def zP7 (a b:GValue):Int:=
 if a.kind≠b.kind then(if a.kind<b.kind then -1 else 1)else if a.n≠b.n then(if a.n<b.n then -1 else 1)else if a.s≠b.s then(if Op.bytesLess a.s b.s then -1 else 1)else 0
theorem yK3 (a b:GValue):Pure Tryz.prog 100 [.agg a.row,.agg b.row] (.int .i64 (zP7 a b)):=by
 obtain⟨k,n,s⟩:=a
 obtain⟨k2,n2,s2⟩:=b
 refine VCalls.intro 0 Tryz.func100 Tryz.ntmps100 Tryz.results100 rfl rfl (Nat.le_of_ble_eq_true rfl) fun c hc hb=>zJ ?_
 have ret: ∀(r:Int) (σ:St),r=zP7 ⟨k,n,s⟩ ⟨k2,n2,s2⟩→wret (some (.int .i64 r)) 0 (fun r s'=>r= .int .i64 (zP7 ⟨k,n,s⟩ ⟨k2,n2,s2⟩)∧s'= []) σ:=fun r σ h=>by subst h;exact zQ (zA rfl) ⟨rfl,rfl⟩
 unfold zP7 at ret
 simp only at ret
 simp[go_sem]
 refine zS (fun q=> ?_) (fun q=> ?_)
 ·have q:k≠k2:=by simpa using q
  simp[go_sem]
  refine zD (yB0 _) Tryz.callB146 (zG rfl) rfl ?_
  simp[go_sem]
  exact ret _ _ (by rw[if_pos q])
 have q:k=k2:=by simpa using q
 subst q
 simp[go_sem]
 refine zS (fun q=> ?_) (fun q=> ?_)
 ·have q:n≠n2:=by simpa using q
  simp[go_sem]
  refine zD (yB0 _) Tryz.callB146 (zG rfl) rfl ?_
  simp[go_sem]
  exact ret _ _ (by simp only[ne_eq,not_true_eq_false,if_false,q,if_true,not_false_eq_true])
 have q:n=n2:=by simpa using q
 subst q
 simp[go_sem]
 refine zS (fun q=> ?_) (fun q=> ?_)
 ·have q:s≠s2:=by simpa using q
  simp[go_sem]
  refine zD (yB0 _) Tryz.callB146 (zG rfl) rfl ?_
  simp[go_sem]
  exact ret _ _ (by simp only[ne_eq,not_true_eq_false,if_false,q,if_true,not_false_eq_true])
 have q:s=s2:=by simpa using q
 subst q
 simp[go_sem]
 exact ret _ _ (by simp)
def isF (n:Nat) (t:Int):Bool:=decide (0≤t)&&decide (t<n)
theorem zJ9 {n:Nat} {t:Int} (h:isF n t=true): ∃j:Nat,t=j∧j<n:=by
 simp[isF]at h
 exact⟨t.toNat,by omega,by omega⟩
def yY (n:Nat) (t:Int) (v:GValue):List UInt8:=if isF n t=true then UInt8.ofNat (t.toNat+1)::keyF v else []
def allF (n:Nat) (t:Int):List UInt8×List UInt8:=if isF n t=true then([UInt8.ofNat (t.toNat+1)],[UInt8.ofNat (t.toNat+2)])else([],[])
theorem yl3 (regs tabs:List (List V)) (t:Int) (v:GValue) (hn:tabs.length≤maxB) (hv:v.ok):Pure Tryz.prog 55 [.agg [.sl .ro regs,.sl .ro tabs],.int .i64 t,.agg v.row] (.str (yY tabs.length t v)):=by
 have his:=is_w regs tabs t
 rw[show(decide (0≤t)&&decide (t<tabs.length))=isF tabs.length t from rfl]at his
 refine VCalls.intro 0 Tryz.func55 Tryz.ntmps55 Tryz.results55 rfl rfl (Nat.le_of_ble_eq_true rfl) fun c hc hb=>zJ ?_
 simp[go_sem]
 refine zD his Tryz.callB105 (zG rfl) rfl ?_
 unfold yY
 refine(Bool.eq_false_or_eq_true (isF tabs.length t)).elim (fun h=> ?_) (fun h=> ?_)
 ·obtain⟨j,rfl,hj⟩:=zJ9 h
  rw[h,if_pos rfl]
  have e1:IntKind.u8.wrap (IntKind.i64.wrap ((j:Int)+1))=((UInt8.ofNat (j+1)).toNat:Int):=by
   rw[i64_id (by omega) (by unfold maxB at hn;omega),show(j:Int)+1=((j+1:Nat):Int) by omega,zO7]
  simp[go_sem,e1]
  refine zD (xp3 [UInt8.ofNat (j+1)] v hv (by simp[maxB])) Tryz.callB107 ⟨zq2 (by simp[zR]),zA rfl,trivial⟩ rfl ?_
  simp[go_sem,bys]
  refine zO (wX _) ?_
  simp[go_sem,zm6]
  exact zQ (zA rfl) ⟨rfl,rfl⟩
 ·rw[h]
  simp[go_sem]
  exact zQ (zA rfl) ⟨rfl,rfl⟩
theorem xf3 (regs tabs:List (List V)) (t:Int) (v:GValue) (hn:tabs.length≤maxB) (hv:v.ok) (_hs:v.s.length≤500):Pure Tryz.prog 55 [.agg [.sl .ro regs,.sl .ro tabs],.int .i64 t,.agg v.row] (.str (yY tabs.length t v)):=yl3 regs tabs t v hn hv
theorem xu6 (regs tabs:List (List V)) (t:Int) (hn:tabs.length≤maxB):Pure Tryz.prog 52 [.agg [.sl .ro regs,.sl .ro tabs],.int .i64 t] (.tup [.str (allF tabs.length t).1,.str (allF tabs.length t).2]):=by
 have his:=is_w regs tabs t
 rw[show(decide (0≤t)&&decide (t<tabs.length))=isF tabs.length t from rfl]at his
 refine VCalls.intro 0 Tryz.func52 Tryz.ntmps52 Tryz.results52 rfl rfl (Nat.le_of_ble_eq_true rfl) fun c hc hb=>zJ ?_
 simp[go_sem]
 refine zD his Tryz.callB105 (zG rfl) rfl ?_
 unfold allF
 refine(Bool.eq_false_or_eq_true (isF tabs.length t)).elim (fun h=> ?_) (fun h=> ?_)
 ·obtain⟨j,rfl,hj⟩:=zJ9 h
  rw[h,if_pos rfl]
  obtain⟨x,hx⟩: ∃x,UInt8.ofNat (j+1)=x:=⟨_,rfl⟩
  obtain⟨y,hy⟩: ∃y,UInt8.ofNat (j+2)=y:=⟨_,rfl⟩
  have e1:IntKind.u8.wrap (IntKind.i64.wrap ((j:Int)+1))=(x.toNat:Int):=by
   rw[i64_id (by omega) (by unfold maxB at hn;omega),show(j:Int)+1=((j+1:Nat):Int) by omega,zO7,hx]
  have e2:IntKind.u8.wrap (IntKind.i64.wrap ((j:Int)+2))=(y.toNat:Int):=by
   rw[i64_id (by omega) (by unfold maxB at hn;omega),show(j:Int)+2=((j+2:Nat):Int) by omega,zO7,hy]
  simp only[Int.toNat_natCast]
  simp[go_sem]
  refine zi5 [] 1 rfl (by kernel_rfl) (by kernel_rfl) ?_
  simp[go_sem,e1]
  refine zO (wX [x]) ?_
  have r1:zp9 [V.int IntKind.u8 x.toNat]=x:=by simp[zp9]
  have r2:zp9 [V.int IntKind.u8 y.toNat]=y:=by simp[zp9]
  simp[go_sem,e2,r1]
  refine zO (wX [y]) ?_
  simp[go_sem,r2]
  exact zQ (zA rfl) ⟨by rw[←hx,←hy];simp,rfl⟩
 ·rw[h]
  simp[go_sem]
  exact zQ (zA rfl) ⟨rfl,rfl⟩
theorem ys2 (regs tabs:List (List V)) (t:Int) (v:GValue) (hn:tabs.length≤maxB) (hv:v.ok):Pure Tryz.prog 40 [.agg [.sl .ro regs,.sl .ro tabs],.int .i64 t,.agg v.row] (.str (yY tabs.length t v)):=by
 have his:=yI2 regs tabs t
 rw[show(decide (0≤t)&&decide (t<tabs.length))=isF tabs.length t from rfl]at his
 refine VCalls.intro 0 Tryz.func40 Tryz.ntmps40 Tryz.results40 rfl rfl (Nat.le_of_ble_eq_true rfl) fun c hc hb=>zJ ?_
 simp[go_sem]
 refine zD his Tryz.callB36 (zG rfl) rfl ?_
 unfold yY
 refine(Bool.eq_false_or_eq_true (isF tabs.length t)).elim (fun h=> ?_) (fun h=> ?_)
 ·obtain⟨j,rfl,hj⟩:=zJ9 h
  rw[h,if_pos rfl]
  have e1:IntKind.u8.wrap (IntKind.i64.wrap ((j:Int)+1))=((UInt8.ofNat (j+1)).toNat:Int):=by
   rw[i64_id (by omega) (by unfold maxB at hn;omega),show(j:Int)+1=((j+1:Nat):Int) by omega,zO7]
  simp[go_sem,e1]
  refine zD (yQ0 [UInt8.ofNat (j+1)] v hv (by simp[maxB])) Tryz.callB91 ⟨zq2 (by simp[zR]),zA rfl,trivial⟩ rfl ?_
  simp[go_sem,bys]
  refine zO (wX _) ?_
  simp[go_sem,zm6]
  exact zQ (zA rfl) ⟨rfl,rfl⟩
 ·rw[h]
  simp[go_sem]
  exact zQ (zA rfl) ⟨rfl,rfl⟩
end Go.Proofs.YtajjjghohakniaaGreat.R
namespace Go.Proofs.YtajjjghohakniaaGreat
open Go Go.Vx R
set_option maxRecDepth 100000
theorem yX0 (v:GValue):(keyF v).length≤140:=by
 by_cases h:mayF v=true
 ·have h1:=yp3 (v:=v)
  have h2:=zW0 h
  omega
 ·unfold keyF;rw[if_neg h];simp
def maxS (x y:List UInt8):List UInt8:=if Op.bytesLess x y=true then y else x
def minS (x y:List UInt8):List UInt8:=if Op.bytesLess x y=true∨x=y then x else y
def cutF (at_:List UInt8) (sign:List UInt8) (b:List UInt8×List UInt8):List UInt8×List UInt8:=
 if sign= [61]then(maxS b.1 at_,minS b.2 (at_++ [0]))
 else if sign= [60]then(b.1,minS b.2 at_)
 else if sign= [60,61]then(b.1,minS b.2 (at_++ [0]))
 else if sign= [62]then(maxS b.1 (at_++ [0]),b.2)
 else if sign= [62,61]then(maxS b.1 at_,b.2)
 else b
def zF6 (n:Nat) (t:Int) (name:List UInt8) (l:List GExpr) (b:List UInt8×List UInt8):List UInt8×List UInt8:=
 l.foldl (fun b e=>match xS e name with|none=>b|some (s,v)=>cutF (yY n t v) s b) b
def zp6 (T:GTable):Option (List UInt8):=if 0≤T.key then(T.cols[T.key.toNat]?).map (·.name)else none
def zg7 (ts:List GTable) (t:Int) (st:GStmt):List UInt8×List UInt8:=
 if isF ts.length t=true then
  match (ts[t.toNat]?).bind zp6 with
  |none=>allF ts.length t
  |some name=>let b:=zF6 ts.length t name (zj4 st) (allF ts.length t);(b.1,maxS b.2 b.1)
 else allF ts.length t
def xa4 (b:List UInt8×List UInt8):V:= .tup [.str b.1,.str b.2]
theorem yE5 (o:Option (List UInt8×GValue)):noS (cutV o)=true:=by
 obtain _|⟨s,v⟩:=o<;>rfl
theorem yR6 (regs:List (List V)) (ts:List GTable) (t:Int) (st:GStmt) (hn:ts.length≤maxB) (_hc0: ∀T∈ts,T.cols.length≤maxLen) (hl:(zj4 st).length≤maxLen)
  (hv: ∀e∈zj4 st,∀name s v,xS e name=some (s,v)→v.ok):
  Pure Tryz.prog 24 [.agg [.sl .ro regs,.sl .ro (ts.map GTable.row)],.int .i64 t,.agg st.row] (xa4 (zg7 ts t st)):=by
 generalize hM:zg7 ts t st=M
 have ret: ∀(r:List UInt8×List UInt8) (σ:St),r=M→wret (some (.tup [.str r.1,.str r.2])) 0 (fun r s=>r=xa4 M∧s= []) σ:=fun r σ h=>by subst h;exact zQ (zA rfl) ⟨rfl,rfl⟩
 have hall:=xu6 regs (ts.map GTable.row) t (by simpa using hn)
 have hcj:=zP8 st
 simp only[List.length_map]at hall
 unfold zg7 at hM
 generalize hA:allF ts.length t=A at hall hM
 generalize hL:zj4 st=L at hcj hM hl hv
 refine VCalls.introV 0 Tryz.func24 Tryz.ntmps24 Tryz.results24 rfl rfl (Nat.le_of_ble_eq_true rfl) fun c hc hb=> ?_
 refine zC ?_
 simp[go_sem]
 refine zD hall Tryz.callB52 (zG rfl) rfl ?_
 simp[go_sem]
 refine(Bool.eq_false_or_eq_true (isF ts.length t)).elim (fun h=> ?_) (fun h=> ?_)
 rotate_left
 ·simp only[h]at hM
  have h2:decide (t<0)=true∨(decide (t<0)=false∧decide ((ts.length:Int)≤t)=true):=by
   unfold isF at h
   simp only[Bool.and_eq_false_iff,decide_eq_false_iff_not]at h
   simp only[decide_eq_true_eq,decide_eq_false_iff_not]
   omega
  refine h2.elim (fun q=> ?_) (fun q=> ?_)
  all_goals simp[go_sem,q]
  all_goals exact ret _ _ hM
 obtain⟨j,rfl,hj⟩:=zJ9 h
 obtain⟨T,hT⟩: ∃T,ts[j]=T:=⟨_,rfl⟩
 have hq2:decide ((ts.length:Int)≤j)=false:=decide_eq_false (by omega)
 have hq1:decide ((j:Int)<0)=false:=decide_eq_false (by omega)
 simp only[h,if_true,Int.toNat_natCast,List.getElem?_eq_getElem hj,hT,Option.bind_some]at hM
 have hq3:decide (ts.length≤j)=false:=decide_eq_false (by omega)
 simp[go_sem,hq1,hq3,hj,hT]
 by_cases hk:0≤T.key∧T.key<T.cols.length
 rotate_left
 ·have hkn:zp6 T=none:=by
   unfold zp6
   split
   ·rw[List.getElem?_eq_none (by omega)];rfl
   ·rfl
  rw[hkn]at hM
  have h2:decide (T.key<0)=true∨(decide (T.key<0)=false∧decide ((T.cols.length:Int)≤T.key)=true):=by
   simp only[decide_eq_true_eq,decide_eq_false_iff_not]
   omega
  refine h2.elim (fun q=> ?_) (fun q=> ?_)
  all_goals simp[go_sem,q]
  all_goals exact ret _ _ hM
 obtain⟨m,hm⟩: ∃m:Nat,T.key=m:=⟨T.key.toNat,by omega⟩
 have hmc:m<T.cols.length:=by omega
 obtain⟨C,hC⟩: ∃C,T.cols[m]=C:=⟨_,rfl⟩
 have hkn:zp6 T=some C.name:=by
  unfold zp6
  rw[if_pos (by omega),hm,Int.toNat_natCast,List.getElem?_eq_getElem hmc,hC];rfl
 simp only[hkn]at hM
 have hk1:decide (T.key<0)=false:=decide_eq_false (by omega)
 have hk2:decide ((T.cols.length:Int)≤T.key)=false:=decide_eq_false (by omega)
 simp[go_sem,hk1,hk2]
 refine zD hcj Tryz.callB53 (zI (by simp[go_sem]) rfl) rfl ?_
 simp[go_sem]
 refine zN (S:=Nat×List UInt8×List UInt8) [1,3,6,7,8,52,53,54] (fun u=> [.int .i64 j,.ptr 0 0,.str u.2.1,.str u.2.2,.ptr 1 0,.sl .ro (L.map GExpr.row),.int .i64 L.length,.int .i64 u.1])
  (fun _=> [.box [.sl .ro regs,.sl .ro (ts.map GTable.row)],.box T.row]) (fun u=>L.length - u.1)
  (fun u=>u.1≤L.length∧zF6 ts.length j C.name (L.drop u.1) u.2=zF6 ts.length j C.name L A) hc hb (0,A) ⟨Nat.zero_le _,rfl⟩ ?_ ?_
 ·exact zw7 [0,2] (by decide) rfl ⟨by simp[go_sem,yF,renC,renK],by simp[go_sem,yF,renC,renK],trivial⟩
   ⟨zA rfl,.inl (by simp[go_sem,renS,renA,renC,renK,ren]),zA rfl,zA rfl,.inl (by simp[go_sem,renS,renA,renC,renK,ren]),zW,zA rfl,zA rfl,trivial⟩
 rintro⟨i,b⟩ ⟨hi,hinv⟩
 simp only at hi hinv
 by_cases q:i<L.length
 rotate_left
 ·rw[List.drop_eq_nil_of_le (by omega)]at hinv
  have hbb:b=zF6 ts.length j C.name L A:=hinv
  rw[←hbb]at hM
  refine zC ?_
  simp[go_sem,q]
  exact ret (b.1,maxS b.2 b.1) _ hM
 have ei:=zU q (by unfold maxLen at hl;omega)
 obtain⟨x,hx⟩: ∃x,L[i]=x:=⟨_,rfl⟩
 have hxm:x∈L:=hx▸List.getElem_mem q
 rw[List.drop_eq_getElem_cons q,hx]at hinv
 have hag:=ya8 x C.name
 have hvx:=hv x hxm C.name
 have hrow:=GExpr.row_eq x
 refine zC ?_
 simp[go_sem,q,hx]
 refine zi5 [(8,0),(15,3)] 3 (by simp) (by kernel_rfl) (by kernel_rfl) ?_
 have hCq:T.cols[m]? =some C:=by rw[List.getElem?_eq_getElem hmc,hC]
 simp[go_sem,hm,hCq]
 refine zO hmc ?_
 simp[go_sem]
 refine zT hag Tryz.callB54 (fun _=>zI (by simp[go_sem]) (by rw[GExpr.row_eq];rfl)) (yE5 _) ?_
 cases ha:xS x C.name with
 |none=>
  simp only[zF6,List.foldl_cons,ha]at hinv
  simp[go_sem,cutV,yH0,ei]
  refine zP (i+1,b) ⟨by simp only;omega,⟨by simp only;omega,hinv⟩, ?_⟩
  exact at_n 2 (by simp[go_sem,hm]) rfl (by rfl) (Nat.zero_le _) (zE (by simp[go_sem]) rfl)
 |some p=>
  obtain⟨s,v⟩:=p
  have hvo:=hvx s v ha
  have hbd:=yl3 regs (ts.map GTable.row) j v (by simpa using hn) hvo
  simp only[List.length_map]at hbd
  simp only[zF6,List.foldl_cons,ha]at hinv
  obtain⟨B,hB⟩: ∃B,yY ts.length j v=B:=⟨_,rfl⟩
  have hBl:B.length≤9223372036854775806:=by
   have:=yX0 v
   rw[←hB];unfold yY;rw[if_pos h];simp only[List.length_cons];omega
  rw[hB]at hbd
  simp[go_sem,cutV]
  refine zD hbd Tryz.callB55 (zI (by simp[go_sem]) rfl) rfl ?_
  simp[go_sem]
  refine zO hBl ?_
  simp[go_sem]
  have fin: ∀b',cutF B s b=b'→zF6 ts.length j C.name (L.drop (i+1)) b'=zF6 ts.length j C.name L A:=fun b' h=>by rw[←h,←hB];exact hinv
  repeat' (first|(refine zS (fun q=> ?_) (fun q=> ?_)<;>simp[go_sem,q,ei]))
  all_goals simp only[beq_iff_eq,beq_eq_false_iff_ne]at*
  all_goals refine zP (i+1,cutF B s b) ⟨by simp only;omega,⟨by simp only;omega,fin _ rfl⟩, ?_⟩
  all_goals refine at_n 2 (by simp[go_sem,hm]) rfl (by rfl) (Nat.zero_le _) (zE ?_ rfl)
  all_goals unfold cutF maxS minS
  all_goals simp[go_sem, *]
end Go.Proofs.YtajjjghohakniaaGreat
namespace Go.Proofs.YtajjjghohakniaaGreat
open Go Go.Vx R
set_option maxRecDepth 100000
theorem ze0:(Tryz.prog.funcs.all fun fn=> !(fn.name== "runtime.NumGoroutine"))=true:=by kernel_rfl
theorem za7:Tryz.prog.follows .mixedOrders=true:=by kernel_rfl
def marks (f:Nat):List Nat:=if f=134 then [7]else []
def xf1:GZone:=⟨[1],[],[0,1],0,0,0⟩
def tabT:GTable:=⟨[84],[⟨[82],2,false⟩,⟨[75],2,false⟩,⟨[86],3,true⟩,⟨[78],2,true⟩],1,0,0,xf1⟩
def tabG:GTable:=⟨[71],[⟨[75],3,false⟩,⟨[78],2,false⟩,⟨[66],1,true⟩],0,1,0,xf1⟩
def tabH:GTable:=⟨[72],[⟨[66],1,false⟩,⟨[78],2,true⟩],0,2,1,xf1⟩
def tabsS:List GTable:= [tabT,tabG,tabH]
def zf3:List (List V):= [[.int .i64 0],[.int .i64 0],[.int .i64 1],[.int .i64 1]]
def schS:V:= .agg [.sl .full zf3,.sl .full (tabsS.map GTable.row)]
def schR (ts:List GTable):V:= .agg [.sl .ro zf3,.sl .ro (ts.map GTable.row)]
theorem yl5:Pure Tryz.prog 10 [] schS:=zg2 ze0 za7 marks 10000 (by kernel_rfl)
theorem zs3 {ρ:Nat→Nat}:argS ρ (schR tabsS) schS:=zn0 ⟨wD,wD,trivial⟩
def zb8 (t r:Int):Int×Int:=if t=0 then(if r=0 then(0,0)else if r=1 then(1,0)else(0,19))else if t=1 then(2,0)else if t=2 then(3,0)else(0,1)
def zy2 (p:Int×Int):V:= .tup [.int .i64 p.1,.int .i64 p.2]
theorem zT6 (t r:Int) (h:t=0∨t=1∨t=2) (hr:r= -1∨r=0∨r=1∨r=2∨r=3∨r=4):Pure Tryz.prog 34 [schR tabsS,.int .i64 t,.int .i64 r] (zy2 (zb8 t r)):=by
 rcases h with rfl|rfl|rfl<;>rcases hr with rfl|rfl|rfl|rfl|rfl|rfl<;>exact zg2 ze0 za7 marks 10000 (by kernel_rfl)
theorem yK4 (j:Nat) (hj:j<3):Pure Tryz.prog 34 [schR (tabsS.take (j+1)),.int .i64 j,.int .i64 0] (zy2 (zb8 j 0)):=by
 match j,hj with
 |0,_=>exact zg2 ze0 za7 marks 10000 (by kernel_rfl)
 |1,_=>exact zg2 ze0 za7 marks 10000 (by kernel_rfl)
 |2,_=>exact zg2 ze0 za7 marks 10000 (by kernel_rfl)
def ofS (r:Int):Int×Int×Int:=if r=0 then(0,0,0)else if r=1 then(0,1,0)else if r=2 then(1,-1,0)else if r=3 then(2,1,0)else(0,0,1)
def ofV (p:Int×Int×Int):V:= .tup [.int .i64 p.1,.int .i64 p.2.1,.int .i64 p.2.2]
theorem xi9:Pure Tryz.prog 58 [schR tabsS] (.int .i64 0):=zg2 ze0 za7 marks 10000 (by kernel_rfl)
end Go.Proofs.YtajjjghohakniaaGreat
namespace Go.Proofs.YtajjjghohakniaaGreat
open Go Go.Vx R
set_option maxRecDepth 100000
theorem yQ5:Pure Tryz.prog 84 [schR tabsS] (.sl .ro [[.int .i64 0],[.int .i64 1]]):=
 VCalls.frz (yL3 ze0 za7 marks 10000 (v:= .lsv 1 1 4 0 2) (σ':= [.box [.sl .ro zf3,.sl .ro (tabsS.map GTable.row)],.lst [[.int .i64 0],[.int .i64 1],[.int .i64 0],[.int .i64 0]] 1]) (by kernel_rfl))
  (fun r s ⟨h1,h2⟩=>by subst h1;subst h2;exact⟨_,_,.step 1 1 [[.int .i64 0],[.int .i64 1],[.int .i64 0],[.int .i64 0]] rfl rfl (.refl _ _),zW⟩)
def yG4 (t:Nat):Int:=if t=0 then 2 else 1
theorem yy0 (j:Nat) (hj:j<3):Pure Tryz.prog 110 [schR tabsS,.agg (tabsS[j]'hj).row] (.int .i64 (yG4 j)):=by
 match j,hj with
 |0,_=>exact zg2 ze0 za7 marks 10000 (by kernel_rfl)
 |1,_=>exact zg2 ze0 za7 marks 10000 (by kernel_rfl)
 |2,_=>exact zg2 ze0 za7 marks 10000 (by kernel_rfl)
theorem yi8 {M:Int×Int×Int} {a b e:Int} {σ:St} (h:(a,b,e)=M):wret (some (.tup [.int .i64 a,.int .i64 b,.int .i64 e])) 0 (fun r s=>r=ofV M∧s= []) σ:=by subst h;exact zQ (zA rfl) ⟨rfl,rfl⟩
set_option maxHeartbeats 4000000 in
theorem Of_w (g:Nat) (hg:g<5):Pure Tryz.prog 59 [schR tabsS,.int .i64 g] (ofV (ofS g)):=by
 have hm0:=yy0 0 (by decide)
 have hm1:=yy0 1 (by decide)
 have hm2:=yy0 2 (by decide)
 have hr:=yQ5
 generalize hM:ofS g=M
 refine VCalls.introV 0 Tryz.func59 Tryz.ntmps59 Tryz.results59 rfl rfl (Nat.le_of_ble_eq_true rfl) fun c hc hb=> ?_
 refine zC ?_
 simp[go_sem,schR]
 have h0:decide ((g:Int)<0)=false:=decide_eq_false (by omega)
 simp[go_sem,h0]
 refine zN (S:=Nat×Nat) [1,2,13,14,15] (fun u=> [.int .i64 u.2,.ptr 0 0,.sl .ro (tabsS.map GTable.row),.int .i64 3,.int .i64 u.1]) (fun _=> [.box [.sl .ro zf3,.sl .ro (tabsS.map GTable.row)]]) (fun u=>3 - u.1)
  (fun u=>(u.1=0∧u.2=g)∨(u.1=1∧u.2+2=g)∨(u.1=2∧u.2+3=g)∨(u.1=3∧u.2+4=g)) hc hb (0,g) (.inl ⟨rfl,rfl⟩) ?_ ?_
 ·exact at_n 1 (by simp[go_sem]) rfl (by rfl) (Nat.zero_le _) (zE (by simp[go_sem];rfl) rfl)
 rintro⟨i,r⟩ h
 simp only at h
 refine h.elim (fun⟨h1,h2⟩=> ?_) fun h=>h.elim (fun⟨h1,h2⟩=> ?_) fun h=>h.elim (fun⟨h1,h2⟩=> ?_) fun⟨h1,h2⟩=> ?_
 ·subst h1
  refine zC ?_
  simp[go_sem,tabsS]
  refine zD hm0 Tryz.callB110 (zI (by simp[go_sem,schR,tabsS]) rfl) rfl ?_
  simp[go_sem,yG4]
  by_cases q:2≤r
  ·have q':decide ((2:Int)≤r)=true:=decide_eq_true (by omega)
   have e:IntKind.i64.wrap ((r:Int) - 2)=((r - 2:Nat):Int):=by rw[i64_id (by omega) (by omega)];omega
   simp[go_sem,q',e]
   exact zP (1,r - 2) ⟨by simp only;omega,.inr (.inl ⟨rfl,by simp only;omega⟩),at_n 1 (by simp[go_sem]) rfl (by rfl) (Nat.zero_le _) (zE (by simp[go_sem]) rfl)⟩
  ·have q':decide ((2:Int)≤r)=false:=decide_eq_false (by omega)
   simp[go_sem,q',show tabT.place=0 from rfl]
   refine zi5 [(2,0)] 2 (by simp) (by kernel_rfl) (by kernel_rfl) ?_
   simp[go_sem]
   refine zT hr Tryz.callB84 (fun _=>zI (by simp[go_sem,schR,tabsS,show tabT.place=0 from rfl]) rfl) rfl ?_
   have h01:r=0∨r=1:=by omega
   refine h01.elim (fun e=> ?_) (fun e=> ?_)
   all_goals subst e
   all_goals simp[go_sem]
   all_goals exact yi8 (by rw[←hM,←h2];rfl)
 ·subst h1
  refine zC ?_
  simp[go_sem,tabsS]
  refine zD hm1 Tryz.callB110 (zI (by simp[go_sem,schR,tabsS]) rfl) rfl ?_
  simp[go_sem,yG4]
  by_cases q:1≤r
  ·have q':decide ((1:Int)≤r)=true:=decide_eq_true (by omega)
   have e:IntKind.i64.wrap ((r:Int) - 1)=((r - 1:Nat):Int):=by rw[i64_id (by omega) (by omega)];omega
   simp[go_sem,q',e]
   exact zP (2,r - 1) ⟨by simp only;omega,.inr (.inr (.inl ⟨rfl,by simp only;omega⟩)),at_n 1 (by simp[go_sem]) rfl (by rfl) (Nat.zero_le _) (zE (by simp[go_sem]) rfl)⟩
  ·have q':decide ((1:Int)≤r)=false:=decide_eq_false (by omega)
   simp[go_sem,q',show tabG.place=1 from rfl]
   have h01:r=0:=by omega
   subst h01
   exact yi8 (by rw[←hM,←h2];rfl)
 ·subst h1
  refine zC ?_
  simp[go_sem,tabsS]
  refine zD hm2 Tryz.callB110 (zI (by simp[go_sem,schR,tabsS]) rfl) rfl ?_
  simp[go_sem,yG4]
  by_cases q:1≤r
  ·have q':decide ((1:Int)≤r)=true:=decide_eq_true (by omega)
   have e:IntKind.i64.wrap ((r:Int) - 1)=((r - 1:Nat):Int):=by rw[i64_id (by omega) (by omega)];omega
   simp[go_sem,q',e]
   exact zP (3,r - 1) ⟨by simp only;omega,.inr (.inr (.inr ⟨rfl,by simp only;omega⟩)),at_n 1 (by simp[go_sem]) rfl (by rfl) (Nat.zero_le _) (zE (by simp[go_sem]) rfl)⟩
  ·have q':decide ((1:Int)≤r)=false:=decide_eq_false (by omega)
   have h01:r=0:=by omega
   subst h01
   simp[go_sem,show tabH.place=2 from rfl]
   refine zi5 [] 2 (by simp) (by kernel_rfl) (by kernel_rfl) ?_
   simp[go_sem]
   exact yi8 (by rw[←hM,←h2];rfl)
 ·subst h1
  refine zC ?_
  simp[go_sem,tabsS]
  exact yi8 (by
    rw[←hM];have:r=0:=by omega
    subst this;rw[←h2];rfl)
end Go.Proofs.YtajjjghohakniaaGreat
