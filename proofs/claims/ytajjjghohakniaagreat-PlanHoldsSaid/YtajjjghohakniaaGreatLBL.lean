/-
  Contracts of functions that the claimed statement reaches, each proved over trees (the library Vx); used by the theorem at the end of the claim.
  Conditions: as each theorem states them.
-/
import Derived.Test.YtajjjghohakniaaGreatLBE
import Derived.Test.YtajjjghohakniaaGreatLBI
import Derived.Lib.Bytealg
namespace Go.Proofs.YtajjjghohakniaaGreat
open Go Go.Vx R
set_option maxRecDepth 100000
abbrev okI (n:Int):Prop:= -9223372036854775808≤n∧n≤9223372036854775807
def rngF (n:Int):Int×Int:=if okI n then(n,0)else(0,5)
theorem zh4 {n:Int} (h:okI n):IntKind.i64.wrap n=n:=Vx.i64_id h.1 h.2
theorem yb1 (a b:Int) (ha:okI a) (hb':okI b):Pure Tryz.prog 221 [.int .i64 a,.int .i64 b] (yN (rngF (a+b))):=by
 generalize hM:rngF (a+b)=M
 unfold rngF at hM
 have q:(0<b∧decide (0<b)=true∧decide (b<0)=false)∨(b<0∧decide (0<b)=false∧decide (b<0)=true)∨(b=0∧decide (0<b)=false∧decide (b<0)=false):=by
  simp only[decide_eq_true_eq,decide_eq_false_iff_not];omega
 unfold okI at ha hb' hM
 refine VCalls.intro 0 Tryz.func221 Tryz.ntmps221 Tryz.results221 rfl rfl (Nat.le_of_ble_eq_true rfl) fun c hc hb=>zJ ?_
 rcases q with ⟨q,q1,q2⟩|⟨q,q1,q2⟩|⟨q,q1,q2⟩
 ·have w1:IntKind.i64.wrap (9223372036854775807 - b)=9223372036854775807 - b:=zh4 ⟨by omega,by omega⟩
  by_cases r:9223372036854775807 - b<a
  ·have r':decide (9223372036854775807 - b<a)=true:=decide_eq_true r
   simp[go_sem,q1,w1,r']
   exact yO (by rw[←hM,if_neg (by omega)])
  ·have r':decide (9223372036854775807 - b<a)=false:=decide_eq_false r
   have w2:IntKind.i64.wrap (a+b)=a+b:=zh4 ⟨by omega,by omega⟩
   simp[go_sem,q1,q2,w1,r',w2]
   exact yO (by rw[←hM,if_pos (by omega)])
 ·have w1:IntKind.i64.wrap (-9223372036854775808 - b)= -9223372036854775808 - b:=zh4 ⟨by omega,by omega⟩
  by_cases r:a< -9223372036854775808 - b
  ·have r':decide (a< -9223372036854775808 - b)=true:=decide_eq_true r
   simp[go_sem,q1,q2,w1,r']
   exact yO (by rw[←hM,if_neg (by omega)])
  ·have r':decide (a< -9223372036854775808 - b)=false:=decide_eq_false r
   have w2:IntKind.i64.wrap (a+b)=a+b:=zh4 ⟨by omega,by omega⟩
   simp[go_sem,q1,q2,w1,r',w2]
   exact yO (by rw[←hM,if_pos (by omega)])
 ·have w2:IntKind.i64.wrap (a+b)=a+b:=zh4 ⟨by omega,by omega⟩
  simp[go_sem,q1,q2,w2]
  exact yO (by rw[←hM,if_pos (by omega)])
theorem ys1 (a b:Int) (ha:okI a) (hb':okI b):Pure Tryz.prog 144 [.int .i64 a,.int .i64 b] (yN (rngF (a+b))):=by
 generalize hM:rngF (a+b)=M
 unfold rngF at hM
 have q:(0<a∧decide (0<a)=true∧decide (a<0)=false)∨(a<0∧decide (0<a)=false∧decide (a<0)=true)∨(a=0∧decide (0<a)=false∧decide (a<0)=false):=by
  simp only[decide_eq_true_eq,decide_eq_false_iff_not];omega
 unfold okI at ha hb' hM
 refine VCalls.intro 0 Tryz.func144 Tryz.ntmps144 Tryz.results144 rfl rfl (Nat.le_of_ble_eq_true rfl) fun c hc hb=>zJ ?_
 rcases q with ⟨q,q1,q2⟩|⟨q,q1,q2⟩|⟨q,q1,q2⟩
 ·have w1:IntKind.i64.wrap (9223372036854775807 - a)=9223372036854775807 - a:=zh4 ⟨by omega,by omega⟩
  by_cases r:9223372036854775807 - a<b
  ·have r':decide (9223372036854775807 - a<b)=true:=decide_eq_true r
   simp[go_sem,q1,w1,r']
   exact yO (by rw[←hM,if_neg (by omega)])
  ·have r':decide (9223372036854775807 - a<b)=false:=decide_eq_false r
   have w2:IntKind.i64.wrap (a+b)=a+b:=zh4 ⟨by omega,by omega⟩
   simp[go_sem,q1,q2,w1,r',w2]
   exact yO (by rw[←hM,if_pos (by omega)])
 ·have w1:IntKind.i64.wrap (-9223372036854775808 - a)= -9223372036854775808 - a:=zh4 ⟨by omega,by omega⟩
  by_cases r:b< -9223372036854775808 - a
  ·have r':decide (b< -9223372036854775808 - a)=true:=decide_eq_true r
   simp[go_sem,q1,q2,w1,r']
   exact yO (by rw[←hM,if_neg (by omega)])
  ·have r':decide (b< -9223372036854775808 - a)=false:=decide_eq_false r
   have w2:IntKind.i64.wrap (a+b)=a+b:=zh4 ⟨by omega,by omega⟩
   simp[go_sem,q1,q2,w1,r',w2]
   exact yO (by rw[←hM,if_pos (by omega)])
 ·have w2:IntKind.i64.wrap (a+b)=a+b:=zh4 ⟨by omega,by omega⟩
  simp[go_sem,q1,q2,w2]
  exact yO (by rw[←hM,if_pos (by omega)])
end Go.Proofs.YtajjjghohakniaaGreat
namespace Go.Proofs.YtajjjghohakniaaGreat
open Go Go.Vx R
set_option maxRecDepth 100000
theorem zV9 (x:Nat) (hx:x<18446744073709551616):zz4 .and .u64 (x:Int) 4294967295=((x%4294967296:Nat):Int):=by
 unfold zz4
 have h1:(BitVec.ofInt IntKind.u64.bits (x:Int)).toNat=x:=by
  rw[BitVec.toNat_ofInt]
  show((x:Int)%(18446744073709551616:Nat)).toNat=x
  omega
 have h2:(BitVec.ofInt IntKind.u64.bits 4294967295).toNat=4294967295:=by decide
 simp only[BitVec.toNat_and,h1,h2]
 have h3:=Nat.and_two_pow_sub_one_eq_mod x 32
 have h4:(2:Nat)^32 - 1=4294967295:=by decide
 have h5:(2:Nat)^32=4294967296:=by decide
 rw[h4,h5]at h3
 rw[h3]
 exact Vx.u64_id (by omega) (by omega)
theorem zL4 (x:Nat):(x:Int).fdiv 4294967296=((x/4294967296:Nat):Int):=by
 rw[Int.fdiv_eq_ediv_of_nonneg _ (by decide)]
 rfl
theorem xw8 (n:Nat):IntKind.u64.wrap (n:Int)=((n%18446744073709551616:Nat):Int):=by
 unfold IntKind.wrap
 simp[IntKind.bits,IntKind.signed]
theorem natU {n:Nat} (h:n<18446744073709551616):IntKind.u64.wrap (n:Int)=(n:Int):=Vx.u64_id (by omega) (by omega)
theorem yO4 (a b c d:Nat) (ha:a<4294967296) (hb:b<4294967296) (hc:c<4294967296) (hd:d<4294967296):
  a*d≤18446744065119617025∧b*c≤18446744065119617025∧a*c≤18446744065119617025∧b*d≤18446744065119617025∧
  (a*4294967296+b)*(c*4294967296+d)=(a*c)*18446744073709551616+(a*d)*4294967296+(b*c)*4294967296+b*d:=by
 have m: ∀x y:Nat,x<4294967296→y<4294967296→x*y≤18446744065119617025:=fun x y hx hy=>by
  have:=Nat.mul_le_mul (show x≤4294967295 by omega) (show y≤4294967295 by omega)
  simpa using this
 refine⟨m _ _ ha hd,m _ _ hb hc,m _ _ ha hc,m _ _ hb hd, ?_⟩
 rw[Nat.add_mul,Nat.mul_add,Nat.mul_add]
 have e1:a*4294967296*(c*4294967296)=(a*c)*18446744073709551616:=by
  rw[Nat.mul_mul_mul_comm]
 have e2:a*4294967296*d=(a*d)*4294967296:=by rw[Nat.mul_right_comm]
 have e3:b*(c*4294967296)=(b*c)*4294967296:=by rw[Nat.mul_assoc]
 rw[e1,e2,e3]
 omega
theorem zk1 (x y:Nat):(x:Int)*(y:Int)=((x*y:Nat):Int):=by simp
theorem zJ2 (x y:Nat):(x:Int)+(y:Int)=((x+y:Nat):Int):=by simp
theorem xf6 (x y:Nat) (hx:x<18446744073709551616) (hy:y<18446744073709551616):Pure Tryz.prog 239 [.int .u64 x,.int .u64 y] (.tup [.int .u64 ((x*y/18446744073709551616:Nat):Int),.int .u64 ((x*y%18446744073709551616:Nat):Int)]):=by
 obtain⟨m1,m2,m3,m4,m5⟩:=yO4 (x/4294967296) (x%4294967296) (y/4294967296) (y%4294967296) (by omega) (by omega) (by omega) (by omega)
 have ex:x/4294967296*4294967296+x%4294967296=x:=Nat.div_add_mod' x 4294967296
 have ey:y/4294967296*4294967296+y%4294967296=y:=Nat.div_add_mod' y 4294967296
 rw[ex,ey]at m5
 have a1:=zV9 x hx
 have a2:=zV9 y hy
 have a3:=zL4 x
 have a4:=zL4 y
 generalize ex1:x/4294967296=x1 at*
 generalize ex0:x%4294967296=x0 at*
 generalize ey1:y/4294967296=y1 at*
 generalize ey0:y%4294967296=y0 at*
 obtain⟨p,hp⟩: ∃p,p=x1*y1:=⟨_,rfl⟩
 obtain⟨q,hq⟩: ∃q,q=x1*y0:=⟨_,rfl⟩
 obtain⟨r,hr⟩: ∃r,r=x0*y1:=⟨_,rfl⟩
 obtain⟨s,hs⟩: ∃s,s=x0*y0:=⟨_,rfl⟩
 rw[←hq]at m1 m5
 rw[←hr]at m2 m5
 rw[←hp]at m3 m5
 rw[←hs]at m4 m5
 refine VCalls.intro 0 Tryz.func239 Tryz.ntmps239 Tryz.results239 rfl rfl (Nat.le_of_ble_eq_true rfl) fun c hc hb=>zJ ?_
 simp[go_sem,a1,a2,a3,a4]
 refine zQ (zA rfl) ⟨?_,rfl⟩
 rw[zk1 x1 y1,←hp,zk1 x1 y0,←hq,zk1 x0 y1,←hr,zk1 x0 y0,←hs,natU (n:=s) (by omega),natU (n:=p) (by omega),natU (n:=q) (by omega),natU (n:=r) (by omega),zL4 s,
  zJ2,natU (n:=q+s/4294967296) (by omega),zL4,zV9 _ (by omega),zJ2,zJ2,natU (n:=p+(q+s/4294967296)/4294967296) (by omega),natU (n:=(q+s/4294967296)%4294967296+r) (by omega),zL4,zJ2,natU (by omega),zk1,xw8]
 have e:p+(q+s/4294967296)/4294967296+((q+s/4294967296)%4294967296+r)/4294967296=x*y/18446744073709551616:=by
  rw[m5]
  omega
 rw[e]
 rfl
end Go.Proofs.YtajjjghohakniaaGreat
namespace Go.Proofs.YtajjjghohakniaaGreat
open Go Go.Vx R
set_option maxRecDepth 100000
theorem xe7 {a:Int} (h:a<0) (h2: -9223372036854775808≤a):IntKind.u64.wrap (-IntKind.u64.wrap a)=(a.natAbs:Int):=by
 have e:IntKind.u64.wrap a=a+18446744073709551616:=by
  unfold IntKind.wrap
  simp[IntKind.bits,IntKind.signed]
  omega
 rw[e]
 unfold IntKind.wrap
 simp[IntKind.bits,IntKind.signed]
 omega
theorem xc2 (a:Int) (ha:okI a):Pure Tryz.prog 240 [.int .i64 a] (.int .u64 (a.natAbs:Int)):=by
 unfold okI at ha
 refine VCalls.intro 0 Tryz.func240 Tryz.ntmps240 Tryz.results240 rfl rfl (Nat.le_of_ble_eq_true rfl) fun c hc hb=>zJ ?_
 simp[go_sem]
 by_cases q:a<0
 ·have q1:decide (a<0)=true:=decide_eq_true q
  simp[go_sem,q1]
  refine zQ (zA rfl) ⟨?_,rfl⟩
  rw[xe7 q ha.1]
 ·have q1:decide (a<0)=false:=decide_eq_false q
  simp[go_sem,q1]
  refine zQ (zA rfl) ⟨?_,rfl⟩
  rw[Vx.u64_id (by omega) (by omega)]
  congr 1
  omega
theorem ye3 (a:Int) (ha:okI a):Pure Tryz.prog 184 [.int .i64 a] (.int .u64 (a.natAbs:Int)):=by
 unfold okI at ha
 refine VCalls.intro 0 Tryz.func184 Tryz.ntmps184 Tryz.results184 rfl rfl (Nat.le_of_ble_eq_true rfl) fun c hc hb=>zJ ?_
 simp[go_sem]
 by_cases q:a<0
 ·have q1:decide (a<0)=true:=decide_eq_true q
  simp[go_sem,q1]
  refine zQ (zA rfl) ⟨?_,rfl⟩
  rw[Vx.i64_id (n:=a+1) (by omega) (by omega),Vx.i64_id (n:= -(a+1)) (by omega) (by omega),Vx.u64_id (n:= -(a+1)) (by omega) (by omega),Vx.u64_id (by omega) (by omega)]
  congr 1
  omega
 ·have q1:decide (a<0)=false:=decide_eq_false q
  simp[go_sem,q1]
  refine zQ (zA rfl) ⟨?_,rfl⟩
  rw[Vx.u64_id (by omega) (by omega)]
  congr 1
  omega
def zG2 (a b:Int):Nat:=if decide (a<0)=decide (b<0)then 9223372036854775807 else 9223372036854775808
theorem yY3 (a b:Int):okI (a*b)↔a.natAbs*b.natAbs≤zG2 a b:=by
 obtain⟨n,hn⟩:=Int.eq_nat_or_neg a
 obtain⟨m,hm⟩:=Int.eq_nat_or_neg b
 have e:a.natAbs=n∧b.natAbs=m:=⟨by omega,by omega⟩
 rw[e.1,e.2]
 have z1:n=0→n*m=0:=fun h=>by subst h;exact Nat.zero_mul m
 have z2:m=0→n*m=0:=fun h=>by subst h;exact Nat.mul_zero n
 unfold zG2 okI
 rcases hn with rfl|rfl<;>rcases hm with rfl|rfl
 ·rw[zk1,decide_eq_false (by omega),decide_eq_false (by omega),if_pos rfl]
  generalize n*m=p at*
  omega
 ·rw[Int.mul_neg,zk1]
  generalize n*m=p at*
  rw[decide_eq_false (by omega)]
  by_cases q: -(m:Int)<0
  ·rw[decide_eq_true q,if_neg (by simp)];omega
  ·rw[decide_eq_false q,if_pos rfl]
   have:=z2 (by omega)
   omega
 ·rw[Int.neg_mul,zk1]
  generalize n*m=p at*
  rw[decide_eq_false (p:=(m:Int)<0) (by omega)]
  by_cases q: -(n:Int)<0
  ·rw[decide_eq_true q,if_neg (by simp)];omega
  ·rw[decide_eq_false q,if_pos rfl]
   have:=z1 (by omega)
   omega
 ·rw[Int.neg_mul_neg,zk1]
  generalize n*m=p at*
  by_cases q: -(n:Int)<0<;>by_cases q2: -(m:Int)<0
  ·rw[decide_eq_true q,decide_eq_true q2,if_pos rfl];omega
  ·have:=z2 (by omega)
   rw[decide_eq_true q,decide_eq_false q2,if_neg (by simp)];omega
  ·have:=z1 (by omega)
   rw[decide_eq_false q,decide_eq_true q2,if_neg (by simp)];omega
  ·have:=z1 (by omega)
   rw[decide_eq_false q,decide_eq_false q2,if_pos rfl];omega
theorem yY2 (a b:Int):((!(decide (a<0)==decide (b<0)))=true→zG2 a b=9223372036854775808)∧((!(decide (a<0)==decide (b<0)))=false→zG2 a b=9223372036854775807):=by
 unfold zG2
 generalize decide (a<0)=x
 generalize decide (b<0)=y
 cases x<;>cases y<;>simp
theorem xu8 (a b:Int) (ha:okI a) (hb':okI b):Pure Tryz.prog 225 [.int .i64 a,.int .i64 b] (yN (rngF (a*b))):=by
 have hs1:=xc2 a ha
 have hs2:=xc2 b hb'
 have hab:a.natAbs<18446744073709551616∧b.natAbs<18446744073709551616:=by unfold okI at ha hb';omega
 have hm:=xf6 a.natAbs b.natAbs hab.1 hab.2
 have hok:=yY3 a b
 have hmo:zG2 a b≤9223372036854775808:=by unfold zG2;split<;>omega
 have hmv:=yY2 a b
 generalize hP:a.natAbs*b.natAbs=p at*
 have hi0:p/18446744073709551616*18446744073709551616+p%18446744073709551616=p:=Nat.div_add_mod' _ _
 have lo0:p%18446744073709551616<18446744073709551616:=Nat.mod_lt _ (by decide)
 generalize p/18446744073709551616=hi at*
 generalize p%18446744073709551616=lo at*
 generalize hM:rngF (a*b)=M
 unfold rngF at hM
 refine VCalls.intro 0 Tryz.func225 Tryz.ntmps225 Tryz.results225 rfl rfl (Nat.le_of_ble_eq_true rfl) fun c hc hb=>zJ ?_
 simp[go_sem]
 refine zD hs1 Tryz.callB240 (zG rfl) rfl ?_
 simp[go_sem]
 refine zD hs2 Tryz.callB240 (zG rfl) rfl ?_
 simp[go_sem]
 refine zD hm Tryz.callB239 (zG rfl) rfl ?_
 simp[go_sem]
 have u1:IntKind.u64.wrap 9223372036854775808=9223372036854775808:=by decide
 refine zS (fun v2=> ?_) (fun v2=> ?_)
 ·rw[hmv.1 v2]at hok
  by_cases q:p≤9223372036854775808
  ·have f1:decide (0<hi)=false:=decide_eq_false (by omega)
   have f3:decide ((9223372036854775808:Int)<(lo:Int))=false:=decide_eq_false (by omega)
   have w:=zh4 (hok.2 q)
   simp[go_sem,f1,f3,w,u1]
   exact yO (by rw[←hM,if_pos (hok.2 q)])
  ·have hno: ¬okI (a*b):=fun h=>q (hok.1 h)
   have f4:decide (0<hi)=true∨(decide (0<hi)=false∧decide ((9223372036854775808:Int)<(lo:Int))=true):=by
    simp only[decide_eq_true_eq,decide_eq_false_iff_not];omega
   rcases f4 with f4|⟨f4,f5⟩
   ·simp[go_sem,f4]
    exact yO (by rw[←hM,if_neg hno])
   ·simp[go_sem,f4,f5,u1]
    exact yO (by rw[←hM,if_neg hno])
 ·rw[hmv.2 v2]at hok
  by_cases q:p≤9223372036854775807
  ·have f1:decide (0<hi)=false:=decide_eq_false (by omega)
   have f3:decide ((9223372036854775807:Int)<(lo:Int))=false:=decide_eq_false (by omega)
   have w:=zh4 (hok.2 q)
   simp[go_sem,f1,f3,w]
   exact yO (by rw[←hM,if_pos (hok.2 q)])
  ·have hno: ¬okI (a*b):=fun h=>q (hok.1 h)
   have f4:decide (0<hi)=true∨(decide (0<hi)=false∧decide ((9223372036854775807:Int)<(lo:Int))=true):=by
    simp only[decide_eq_true_eq,decide_eq_false_iff_not];omega
   rcases f4 with f4|⟨f4,f5⟩
   ·simp[go_sem,f4]
    exact yO (by rw[←hM,if_neg hno])
   ·simp[go_sem,f4,f5]
    exact yO (by rw[←hM,if_neg hno])
end Go.Proofs.YtajjjghohakniaaGreat
namespace Go.Proofs.YtajjjghohakniaaGreat
open Go Go.Vx R
set_option maxRecDepth 100000
theorem yi5 (a b:Int) (ha:okI a) (hb':okI b):Pure Tryz.prog 200 [.int .i64 a,.int .i64 b] (yN (rngF (a - b))):=by
 by_cases q:b= -9223372036854775808
 ·generalize hM:rngF (a - b)=M
  unfold rngF at hM
  unfold okI at ha
  have q1:(b != -9223372036854775808)=false:=by simpa using q
  refine VCalls.intro 0 Tryz.func200 Tryz.ntmps200 Tryz.results200 rfl rfl (Nat.le_of_ble_eq_true rfl) fun c hc hb=>zJ ?_
  simp[go_sem,q1]
  by_cases r:0≤a
  ·have r1:decide (0≤a)=true:=decide_eq_true r
   simp[go_sem,r1]
   exact yO (by rw[←hM,if_neg (by omega)])
  ·have r1:decide (0≤a)=false:=decide_eq_false r
   have w:IntKind.i64.wrap (a - b)=a - b:=zh4 ⟨by omega,by omega⟩
   simp[go_sem,r1,w]
   exact yO (by rw[←hM,if_pos (by unfold okI;omega)])
 ·have hn:okI (-b):=by unfold okI at*;omega
  have w:IntKind.i64.wrap (-b)= -b:=zh4 hn
  have q1:(b != -9223372036854775808)=true:=by simpa using q
  have hc1:=yb1 a (-b) ha hn
  have e:a+ -b=a - b:=by omega
  rw[e]at hc1
  generalize rngF (a - b)=M at*
  refine VCalls.intro 0 Tryz.func200 Tryz.ntmps200 Tryz.results200 rfl rfl (Nat.le_of_ble_eq_true rfl) fun c hc hb=>zJ ?_
  simp[go_sem,q1,w]
  refine zD hc1 Tryz.callB221 (zG rfl) rfl ?_
  simp[go_sem,yN]
  exact zQ (zA rfl) ⟨rfl,rfl⟩
def zp8 (s:List UInt8) (a b:Int):Int×Int:=
 if s= [43]then rngF (a+b)else if s= [45]then rngF (a - b)else if s= [42]then rngF (a*b)
 else if b=0 then(0,17)else if s= [37]then(a.tmod b,0)else rngF (a.tdiv b)
theorem xm2 {a b:Int} (ha:okI a) (hb:okI b):okI (a.tmod b):=by
 unfold okI at*
 by_cases q:b=0
 ·subst q;rw[Int.tmod_zero];exact ha
 ·have h2:(a.tmod b).natAbs=a.natAbs%b.natAbs:=Int.natAbs_tmod a b
  have h3:a.natAbs%b.natAbs≤a.natAbs:=Nat.mod_le _ _
  have h4:(a.tmod b).natAbs<b.natAbs:=by
   rw[h2];exact Nat.mod_lt _ (by omega)
  omega
theorem yk2 {a b:Int} (ha:okI a) (_hb:okI b) (h:b≠ -1):okI (a.tdiv b):=by
 unfold okI at*
 have h2:(a.tdiv b).natAbs=a.natAbs/b.natAbs:=Int.natAbs_tdiv a b
 by_cases q:b.natAbs≤1
 ·have:b=0∨b=1:=by omega
  rcases this with rfl|rfl
  ·rw[Int.tdiv_zero];omega
  ·rw[Int.tdiv_one];exact ha
 ·have h3:a.natAbs/b.natAbs≤a.natAbs/2:=Nat.div_le_div_left (by omega) (by omega)
  omega
theorem xa9 (s:List UInt8) (a b:Int) (ha:okI a) (hb':okI b):Pure Tryz.prog 203 [.str s,.int .i64 a,.int .i64 b] (yN (zp8 s a b)):=by
 have c1:=yb1 a b ha hb'
 have c2:=yi5 a b ha hb'
 have c3:=xu8 a b ha hb'
 have c4:=yi5 0 a (by decide) ha
 have e4:rngF (0 - a)=rngF (-a):=by congr 1;omega
 rw[e4]at c4
 have wr: ∀{x:Int×Int} {M:Int×Int} {σ:St},x=M→wret (some (.tup [.int .i64 x.1,.int .i64 x.2])) 0 (fun v s=>v=yN M∧s= []) σ:=fun h=>yO h.symm
 generalize hM:zp8 s a b=M
 unfold zp8 at hM
 refine VCalls.intro 0 Tryz.func203 Tryz.ntmps203 Tryz.results203 rfl rfl (Nat.le_of_ble_eq_true rfl) fun c hc hb=>zJ ?_
 simp[go_sem]
 by_cases s1:s= [43]
 ·simp only[s1,if_pos]at hM
  simp[go_sem,s1]
  refine zD c1 Tryz.callB221 (zG rfl) rfl ?_
  simp[go_sem,yN]
  exact wr hM
 by_cases s2:s= [45]
 ·rw[if_neg s1,if_pos s2]at hM
  simp[go_sem,s2]
  refine zD c2 Tryz.callB200 (zG rfl) rfl ?_
  simp[go_sem,yN]
  exact wr hM
 by_cases s3:s= [42]
 ·rw[if_neg s1,if_neg s2,if_pos s3]at hM
  simp[go_sem,s3]
  refine zD c3 Tryz.callB225 (zG rfl) rfl ?_
  simp[go_sem,yN]
  exact wr hM
 rw[if_neg s1,if_neg s2,if_neg s3]at hM
 have s1':(s== [43])=false:=by simpa using s1
 have s2':(s== [45])=false:=by simpa using s2
 have s3':(s== [42])=false:=by simpa using s3
 simp[go_sem,s1',s2',s3']
 by_cases b0:b=0
 ·rw[if_pos b0]at hM
  have b0':(b==0)=true:=by simpa using b0
  simp[go_sem,b0']
  exact yO hM.symm
 rw[if_neg b0]at hM
 have b0':(b==0)=false:=by simpa using b0
 simp[go_sem,b0']
 by_cases s4:s= [37]
 ·rw[if_pos s4]at hM
  have s4':(s== [37])=true:=by simpa using s4
  simp[go_sem,s4']
  refine zO b0 ?_
  simp[go_sem]
  exact yO hM.symm
 rw[if_neg s4]at hM
 have s4':(s== [37])=false:=by simpa using s4
 simp[go_sem,s4']
 by_cases b1:b= -1
 ·rw[b1,Int.tdiv_neg,Int.tdiv_one]at hM
  have b1':(b== -1)=true:=by simpa using b1
  simp[go_sem,b1']
  refine zD c4 Tryz.callB200 (zG rfl) rfl ?_
  simp[go_sem,yN]
  exact wr hM
 have b1':(b== -1)=false:=by simpa using b1
 have ok:=yk2 ha hb' b1
 unfold rngF at hM
 rw[if_pos ok]at hM
 simp[go_sem,b1',zh4 ok]
 refine zO b0 ?_
 simp[go_sem]
 exact yO hM.symm
end Go.Proofs.YtajjjghohakniaaGreat
namespace Go.Proofs.YtajjjghohakniaaGreat
open Go Go.Vx R
set_option maxRecDepth 100000
def cmpS (a b:List UInt8):Int:=if Op.bytesLess a b=true then -1 else if Op.bytesLess b a=true then 1 else 0
theorem yE3: ∀a b:List UInt8,Lib.compareBytes a b=cmpS a b
 | [],[]=>rfl
 | [],_::_=>rfl
 |_::_,[]=>rfl
 |x::a,y::b=>by
  have ih:=yE3 a b
  rw[Lib.compareBytes]
  unfold cmpS at ih⊢
  rw[za3,za3]
  have h1:(x<y)↔x.toNat<y.toNat:=UInt8.lt_iff_toNat_lt
  have h2:(y<x)↔y.toNat<x.toNat:=UInt8.lt_iff_toNat_lt
  by_cases q:x<y
  ·have:=h1.1 q
   rw[if_pos q,if_pos this]
   rfl
  by_cases q2:y<x
  ·have:=h2.1 q2
   have n1: ¬x.toNat<y.toNat:=fun h=>q (h1.2 h)
   rw[if_neg q,if_pos q2,if_neg n1,if_pos this,if_pos this]
   rfl
  ·have n1:=fun h=>q (h1.2 h)
   have n2:=fun h=>q2 (h2.2 h)
   rw[if_neg q,if_neg q2,if_neg n1,if_neg n2,if_neg n2,if_neg n1]
   exact ih
theorem yn2 {a b:List UInt8} {c:Ctx} {σ:St} {K:V→St→Prop} {e:Fx K} (hk:K (.int .i64 (cmpS a b)) σ):wVC Tryz.prog c (.fn 245 []) [.str a,.str b] σ K e:=by
 refine⟨_,[],rfl,.inr fun w L β vals hm ha=> ?_⟩
 match vals,ha with
 | [v1,v2],⟨h1,h2,_⟩=>
  rw[wL h1,wL h2]
  refine⟨.int .i64 (cmpS a b),.int .i64 (cmpS a b), ?_,hk,RdP.int _ _⟩
  rw[run_callFunc_extern Tryz.func245 (by kernel_rfl) (by kernel_rfl) (by kernel_rfl) (e:=Extern.BytealgCompare.compare) (by kernel_rfl),Lib.run_compareString]
  rw[List.toList_toArray,List.toList_toArray,yE3]
  rfl
theorem yL5 (a b:List UInt8):Pure Tryz.prog 238 [.str a,.str b] (.int .i64 (cmpS a b)):=by
 refine VCalls.intro 0 Tryz.func238 Tryz.ntmps238 Tryz.results238 rfl rfl (Nat.le_of_ble_eq_true rfl) fun c hc hb=>zJ ?_
 simp[go_sem]
 refine yn2 ?_
 simp[go_sem]
 exact zQ (zA rfl) ⟨rfl,rfl⟩
theorem yU2 (a b:List UInt8):Pure Tryz.prog 224 [.str a,.str b] (.int .i64 (cmpS a b)):=by
 refine VCalls.intro 0 Tryz.func224 Tryz.ntmps224 Tryz.results224 rfl rfl (Nat.le_of_ble_eq_true rfl) fun c hc hb=>zJ ?_
 simp[go_sem]
 refine zD (yL5 a b) Tryz.callB238 (zG rfl) rfl ?_
 simp[go_sem]
 exact zQ (zA rfl) ⟨rfl,rfl⟩
theorem zU4 (x:Int):Pure Tryz.prog 237 [.int .i64 x] (.bool false):=by
 refine VCalls.intro 0 Tryz.func237 Tryz.ntmps237 Tryz.results237 rfl rfl (Nat.le_of_ble_eq_true rfl) fun c hc hb=>zJ ?_
 simp[go_sem]
 exact zQ (zA rfl) ⟨rfl,rfl⟩
theorem yw0 (x y:Int):Pure Tryz.prog 223 [.int .i64 x,.int .i64 y] (.int .i64 (cmpI x y)):=by
 generalize hM:cmpI x y=M
 have ret: ∀(r:Int) (σ:St),r=M→wret (some (.int .i64 r)) 0 (fun r s=>r= .int .i64 M∧s= []) σ:=fun r σ h=>by subst h;exact zQ (zA rfl) ⟨rfl,rfl⟩
 unfold cmpI at hM
 refine VCalls.intro 0 Tryz.func223 Tryz.ntmps223 Tryz.results223 rfl rfl (Nat.le_of_ble_eq_true rfl) fun c hc hb=>zJ ?_
 simp[go_sem]
 refine zD (zU4 x) Tryz.callB237 (zG rfl) rfl ?_
 simp[go_sem]
 refine zD (zU4 y) Tryz.callB237 (zG rfl) rfl ?_
 simp[go_sem]
 repeat' (first|(refine zS (fun q=> ?_) (fun q=> ?_)<;>simp[go_sem,q]))
 all_goals exact ret _ _ (by rw[←hM];simp only[decide_eq_true_eq,decide_eq_false_iff_not]at*;(repeat' split)<;>omega)
end Go.Proofs.YtajjjghohakniaaGreat
namespace Go.Proofs.YtajjjghohakniaaGreat
open Go Go.Vx R
set_option maxRecDepth 100000
def orL:List Int→Int
 | []=>0
 |x::l=>if x=0 then orL l else x
theorem or_w (l:List Int) (hl:l.length≤maxLen):Pure Tryz.prog 222 [.sl .ro (l.map fun n=> [V.int .i64 n])] (.int .i64 (orL l)):=by
 generalize hM:orL l=M
 have ret: ∀(r:Int) (σ:St),r=M→wret (some (.int .i64 r)) 0 (fun r s=>r= .int .i64 M∧s= []) σ:=fun r σ h=>by subst h;exact zQ (zA rfl) ⟨rfl,rfl⟩
 refine VCalls.introV 0 Tryz.func222 Tryz.ntmps222 Tryz.results222 rfl rfl (Nat.le_of_ble_eq_true rfl) fun c hc hb=> ?_
 refine zC ?_
 simp[go_sem]
 refine zN (S:=Nat) [3,6,7,8] (fun i=> [.int .i64 0,.sl .ro (l.map fun n=> [V.int .i64 n]),.int .i64 l.length,.int .i64 i]) (fun _=> []) (fun i=>l.length - i) (fun i=>i≤l.length∧orL (l.drop i)=M) hc hb 0 ⟨Nat.zero_le _,hM⟩ ?_ ?_
 ·exact at_0 rfl (zI (by simp[go_sem]) rfl)
 rintro i ⟨hi,hinv⟩
 by_cases q:i<l.length
 rotate_left
 ·have e:l.drop i= []:=List.drop_eq_nil_of_le (by omega)
  rw[e]at hinv
  refine zC ?_
  simp[go_sem,q]
  exact ret _ _ hinv
 have ei:=zU q (by unfold maxLen at hl;omega)
 obtain⟨r,hr⟩: ∃r,l[i]=r:=⟨_,rfl⟩
 rw[List.drop_eq_getElem_cons q,orL,hr]at hinv
 refine zC ?_
 simp[go_sem,q,hr]
 by_cases w1:r=0
 ·rw[if_pos w1]at hinv
  have w1':(r !=0)=false:=by simp[w1]
  simp[go_sem,w1',ei]
  exact zP (i+1) ⟨by omega,⟨q,hinv⟩,at_0 rfl (zI (by simp[go_sem]) rfl)⟩
 rw[if_neg w1]at hinv
 have w1':(r !=0)=true:=by simpa using w1
 simp[go_sem,w1']
 exact ret _ _ hinv
def cmpV (a b:GValue):Int:=orL [cmpI a.kind b.kind,cmpI a.n b.n,cmpS a.s b.s]
theorem yL7 (a b:GValue):Pure Tryz.prog 202 [.agg a.row,.agg b.row] (.int .i64 (cmpV a b)):=by
 have h:=or_w [cmpI a.kind b.kind,cmpI a.n b.n,cmpS a.s b.s] (by simp[maxLen])
 have h1:=ym9 a.kind b.kind
 have h2:=yw0 a.n b.n
 have h3:=yU2 a.s b.s
 unfold cmpV
 generalize orL [cmpI a.kind b.kind,cmpI a.n b.n,cmpS a.s b.s]=M at*
 refine VCalls.intro 0 Tryz.func202 Tryz.ntmps202 Tryz.results202 rfl rfl (Nat.le_of_ble_eq_true rfl) fun c hc hb=>zJ ?_
 simp[go_sem]
 refine zi5 [(4,0),(9,0),(14,0),(16,0)] 2 rfl (by kernel_rfl) (by kernel_rfl) ?_
 simp[go_sem]
 refine zT h1 Tryz.callB87 (fun _=>zG rfl) rfl ?_
 simp[go_sem]
 refine zT h2 Tryz.callB223 (fun _=>zG rfl) rfl ?_
 simp[go_sem]
 refine zT h3 Tryz.callB224 (fun _=>zG rfl) rfl ?_
 simp[go_sem]
 refine zT h Tryz.callB222 (fun _=>⟨zW,trivial⟩) rfl ?_
 simp[go_sem]
 exact zQ (zA rfl) ⟨rfl,rfl⟩
def valP (x:GValue×Int):V:= .tup [.agg x.1.row,.int .i64 x.2]
def yV:GValue:=⟨0,0,[]⟩
def xY (r:Int×Int):GValue×Int:=if r.2=0 then(⟨2,r.1,[]⟩,0)else(yV,r.2)
theorem zS8 {x:GValue×Int} {k n e:Int} {s:List UInt8} {σ:St} (h:x=(⟨k,n,s⟩,e)):wret (some (.tup [.agg [.int .i64 k,.int .i64 n,.str s],.int .i64 e])) 0 (fun v s=>v=valP x∧s= []) σ:=by
 subst h
 exact zQ (zA rfl) ⟨rfl,rfl⟩
theorem yr5 (r:Int×Int):Pure Tryz.prog 199 [.int .i64 r.1,.int .i64 r.2] (valP (xY r)):=by
 generalize hM:xY r=M
 unfold xY at hM
 refine VCalls.intro 0 Tryz.func199 Tryz.ntmps199 Tryz.results199 rfl rfl (Nat.le_of_ble_eq_true rfl) fun c hc hb=>zJ ?_
 simp[go_sem]
 by_cases q:r.2=0
 ·rw[if_pos q]at hM
  have q1:(r.2 !=0)=false:=by simpa using q
  simp[go_sem,q1]
  exact zS8 hM.symm
 ·rw[if_neg q]at hM
  have q1:(r.2 !=0)=true:=by simpa using q
  simp[go_sem,q1]
  exact zS8 hM.symm
def zb5 (s:List UInt8) (c:Int):Bool:=
 if s= [61]then c==0 else if s= [60,62]then c !=0 else if s= [60]then decide (c<0)else if s= [60,61]then decide (c≤0)else if s= [62]then decide (0<c)else decide (0≤c)
theorem xi0 (s:List UInt8) (x:Int):Pure Tryz.prog 201 [.str s,.int .i64 x] (.bool (zb5 s x)):=by
 generalize hM:zb5 s x=M
 have ret: ∀(r:Bool) (σ:St),r=M→wret (some (.bool r)) 0 (fun r s=>r= .bool M∧s= []) σ:=fun r σ h=>by subst h;exact zQ (zA rfl) ⟨rfl,rfl⟩
 unfold zb5 at hM
 refine VCalls.intro 0 Tryz.func201 Tryz.ntmps201 Tryz.results201 rfl rfl (Nat.le_of_ble_eq_true rfl) fun c hc hb=>zJ ?_
 simp[go_sem]
 repeat' (first|(refine zS (fun q=> ?_) (fun q=> ?_)<;>simp[go_sem,q]))
 all_goals exact ret _ _ (by rw[←hM];simp only[beq_iff_eq,beq_eq_false_iff_ne,ne_eq]at*;simp_all)
def zn9 (v:GValue):Bool:=v.kind==1&&(v.n==1&&v.s.isEmpty)
theorem xu0 (v:GValue):Pure Tryz.prog 198 [.agg v.row] (.bool (zn9 v)):=by
 have h:=zE8 true
 refine VCalls.intro 0 Tryz.func198 Tryz.ntmps198 Tryz.results198 rfl rfl (Nat.le_of_ble_eq_true rfl) fun c hc hb=>zJ ?_
 simp[go_sem]
 refine zi5 [(1,0)] 1 rfl (by kernel_rfl) (by kernel_rfl) ?_
 simp[go_sem]
 refine zT h Tryz.callB195 (fun _=>zG rfl) rfl ?_
 simp[go_sem,xF]
 exact zQ (zA rfl) ⟨rfl,rfl⟩
end Go.Proofs.YtajjjghohakniaaGreat
namespace Go.Proofs.YtajjjghohakniaaGreat
open Go Go.Vx R
set_option maxRecDepth 100000
def zq8 (wins:Int):List GValue→Bool→GValue
 | [],b=>if b=true then yV else xF (wins==0)
 |v::l,b=>if v.kind=0 then zq8 wins l true else if v.n=wins then v else zq8 wins l b
theorem yT4 (l:List GValue) (wins:Int) (hl:l.length≤maxLen):Pure Tryz.prog 197 [.sl .ro (l.map GValue.row),.int .i64 wins] (.agg (zq8 wins l false).row):=by
 generalize hM:zq8 wins l false=M
 have ret: ∀(v:GValue) (σ:St),v=M→wret (some (.agg v.row)) 0 (fun r s=>r= .agg M.row∧s= []) σ:=fun v σ h=>by subst h;exact zQ (zA rfl) ⟨rfl,rfl⟩
 refine VCalls.introV 0 Tryz.func197 Tryz.ntmps197 Tryz.results197 rfl rfl (Nat.le_of_ble_eq_true rfl) fun c hc hb=> ?_
 refine zC ?_
 simp[go_sem]
 refine zN (S:=Nat×Bool) [1,4,5,8,9,10] (fun u=> [.int .i64 wins,.ptr 0 0,.bool u.2,.sl .ro (l.map GValue.row),.int .i64 l.length,.int .i64 u.1]) (fun _=> [.box [.int .i64 0,.int .i64 0,.str []]]) (fun u=>l.length - u.1)
  (fun u=>u.1≤l.length∧zq8 wins (l.drop u.1) u.2=M) hc hb (0,false) ⟨Nat.zero_le _,hM⟩ ?_ ?_
 ·exact at_n 1 (by simp[go_sem]) rfl (by simp[ltOb,ltC,ltK]) (Nat.zero_le _) (zE (by simp[go_sem]) rfl)
 rintro⟨i,b⟩ ⟨hi,hinv⟩
 simp only at hi hinv
 by_cases q:i<l.length
 rotate_left
 ·have e:l.drop i= []:=List.drop_eq_nil_of_le (by omega)
  rw[e,zq8]at hinv
  refine zC ?_
  simp[go_sem,q]
  by_cases w1:b=true
  ·rw[if_pos w1]at hinv
   simp[go_sem,w1]
   exact ret yV _ hinv
  ·rw[if_neg w1]at hinv
   have w1':b=false:=by simpa using w1
   simp[go_sem,w1']
   refine zD (zE8 (wins==0)) Tryz.callB195 (zG rfl) rfl ?_
   simp[go_sem]
   exact ret _ _ hinv
 have ei:=zU q (by unfold maxLen at hl;omega)
 obtain⟨r,hr⟩: ∃r,l[i]=r:=⟨_,rfl⟩
 rw[List.drop_eq_getElem_cons q,zq8,hr]at hinv
 refine zC ?_
 simp[go_sem,q,hr]
 refine zD (yi7 r) Tryz.callB196 (zG rfl) rfl ?_
 simp[go_sem]
 by_cases w1:r.kind=0
 ·rw[if_pos w1]at hinv
  have w1':(r.kind==0)=true:=by simpa using w1
  simp[go_sem,w1',ei]
  exact zP (i+1,true) ⟨by simp only;omega,⟨q,hinv⟩,at_n 1 (by simp[go_sem]) rfl (by simp[ltOb,ltC,ltK]) (Nat.zero_le _) (zE (by simp[go_sem]) rfl)⟩
 rw[if_neg w1]at hinv
 have w1':(r.kind==0)=false:=by simpa using w1
 by_cases w2:r.n=wins
 ·rw[if_pos w2]at hinv
  have w2':(r.n==wins)=true:=by simpa using w2
  simp[go_sem,w1',w2']
  exact ret r _ hinv
 rw[if_neg w2]at hinv
 have w2':(r.n==wins)=false:=by simpa using w2
 simp[go_sem,w1',w2',ei]
 exact zP (i+1,b) ⟨by simp only;omega,⟨q,hinv⟩,at_n 1 (by simp[go_sem]) rfl (by simp[ltOb,ltC,ltK]) (Nat.zero_le _) (zE (by simp[go_sem]) rfl)⟩
end Go.Proofs.YtajjjghohakniaaGreat
namespace Go.Proofs.YtajjjghohakniaaGreat
open Go Go.Vx R
set_option maxRecDepth 100000
def cmpOps:List (List UInt8):= [[61],[60,62],[60],[60,61],[62],[62,61]]
def zd4 (s:List UInt8) (l:List GValue):GValue×Int:=
 let x:=l.getD 0 yV
 let y:=l.getD 1 yV
 if s= [73,83,78,85,76,76]then(xF (x.kind==0),0)
 else if s= [78,79,84,78,85,76,76]then(xF (!(x.kind==0)),0)
 else if s= [65,78,68]then(zq8 0 l false,0)
 else if s= [79,82]then(zq8 1 l false,0)
 else if(l.any fun v=>v.kind==0)=true then(yV,0)
 else if s= [78,79,84]then(xF (!zn9 x),0)
 else if s= [78,69,71]then xY (rngF (-x.n))
 else if cmpOps.contains s=true then(xF (zb5 s (cmpV x y)),0)
 else xY (zp8 s x.n y.n)
theorem zi4 {x:GValue×Int} {M:GValue×Int} {σ:St} (h:x=M):wret (some (.tup [.agg x.1.row,.int .i64 x.2])) 0 (fun v s=>v=valP M∧s= []) σ:=by
 subst h
 exact zQ (zA rfl) ⟨rfl,rfl⟩
set_option maxHeartbeats 2000000 in
theorem xq4 (s:List UInt8) (l:List GValue) (h1:1≤l.length) (h2:l.length≤2) (hn: ∀v∈l,okI v.n) (hs:l.length=1→s= [73,83,78,85,76,76]∨s= [78,79,84,78,85,76,76]∨s= [78,79,84]∨s= [78,69,71]):
  Pure Tryz.prog 177 [.str s,.sl .ro (l.map GValue.row)] (valP (zd4 s l)):=by
 obtain⟨x,hx⟩: ∃x,l[0]'h1=x:=⟨_,rfl⟩
 have hxd:l.getD 0 yV=x:=by rw[List.getD_eq_getElem?_getD,List.getElem?_eq_getElem h1,hx];rfl
 have hx0:l[0]? =some x:=by rw[List.getElem?_eq_getElem h1,hx]
 have hpos:0<l.length:=h1
 have hxn:okI x.n:=hn x (hx▸List.getElem_mem h1)
 generalize hM:zd4 s l=M
 have ret: ∀(v:GValue) (e:Int) (σ:St),(v,e)=M→wret (some (.tup [.agg v.row,.int .i64 e])) 0 (fun r s=>r=valP M∧s= []) σ:=fun v e σ h=>zi4 h
 unfold zd4 at hM
 simp only[hxd]at hM
 refine VCalls.introV 0 Tryz.func177 Tryz.ntmps177 Tryz.results177 rfl rfl (Nat.le_of_ble_eq_true rfl) fun c hc hb=> ?_
 by_cases a1:s= [73,83,78,85,76,76]
 ·rw[if_pos a1]at hM
  refine zC ?_
  simp[go_sem,a1,hpos,hx]
  refine zD (yi7 x) Tryz.callB196 (zG rfl) rfl ?_
  simp[go_sem]
  refine zD (zE8 (x.kind==0)) Tryz.callB195 (zG rfl) rfl ?_
  simp[go_sem]
  exact ret _ _ _ hM
 by_cases a2:s= [78,79,84,78,85,76,76]
 ·rw[if_neg a1,if_pos a2]at hM
  refine zC ?_
  simp[go_sem,a2,hpos,hx]
  refine zD (yi7 x) Tryz.callB196 (zG rfl) rfl ?_
  simp[go_sem]
  refine zD (zE8 (!(x.kind==0))) Tryz.callB195 (zG rfl) rfl ?_
  simp[go_sem]
  exact ret _ _ _ hM
 by_cases a3:s= [65,78,68]
 ·rw[if_neg a1,if_neg a2,if_pos a3]at hM
  refine zC ?_
  simp[go_sem,a3]
  refine zD (yT4 l 0 (by unfold maxLen;omega)) Tryz.callB197 (zG rfl) rfl ?_
  simp[go_sem]
  exact ret _ _ _ hM
 by_cases a4:s= [79,82]
 ·rw[if_neg a1,if_neg a2,if_neg a3,if_pos a4]at hM
  refine zC ?_
  simp[go_sem,a4]
  refine zD (yT4 l 1 (by unfold maxLen;omega)) Tryz.callB197 (zG rfl) rfl ?_
  simp[go_sem]
  exact ret _ _ _ hM
 rw[if_neg a1,if_neg a2,if_neg a3,if_neg a4]at hM
 have b1:(s== [73,83,78,85,76,76])=false:=by simpa using a1
 have b2:(s== [78,79,84,78,85,76,76])=false:=by simpa using a2
 have b3:(s== [65,78,68])=false:=by simpa using a3
 have b4:(s== [79,82])=false:=by simpa using a4
 refine zC ?_
 simp[go_sem,b1,b2,b3,b4]
 refine zN (S:=Nat) [0,1,4,5,32,33,34] (fun i=> [.str s,.sl .ro (l.map GValue.row),.ptr 0 0,.int .i64 0,.sl .ro (l.map GValue.row),.int .i64 l.length,.int .i64 i]) (fun _=> [.box [.int .i64 0,.int .i64 0,.str []]]) (fun i=>l.length - i)
  (fun i=>i≤l.length∧((l.drop i).any fun v=>v.kind==0)=(l.any fun v=>v.kind==0)) hc hb 0 ⟨Nat.zero_le _,rfl⟩ ?_ ?_
 ·exact at_n 1 (by simp[go_sem]) rfl (by simp[ltOb,ltC,ltK]) (Nat.zero_le _) (zE (by simp[go_sem]) rfl)
 rintro i ⟨hi,hinv⟩
 by_cases q:i<l.length
 ·have ei:=zU q (by omega)
  obtain⟨r,hr⟩: ∃r,l[i]=r:=⟨_,rfl⟩
  rw[List.drop_eq_getElem_cons q,List.any_cons,hr]at hinv
  refine zC ?_
  simp[go_sem,q,hr]
  refine zD (yi7 r) Tryz.callB196 (zG rfl) rfl ?_
  simp[go_sem]
  by_cases w1:r.kind=0
  ·have w1':(r.kind==0)=true:=by simpa using w1
   rw[w1',Bool.true_or]at hinv
   rw[if_pos hinv.symm]at hM
   simp[go_sem,w1']
   exact ret yV 0 _ hM
  ·have w1':(r.kind==0)=false:=by simpa using w1
   rw[w1',Bool.false_or]at hinv
   simp[go_sem,w1',ei]
   exact zP (i+1) ⟨by omega,⟨q,hinv⟩,at_n 1 (by simp[go_sem]) rfl (by simp[ltOb,ltC,ltK]) (Nat.zero_le _) (zE (by simp[go_sem]) rfl)⟩
 have e:l.drop i= []:=List.drop_eq_nil_of_le (by omega)
 rw[e,List.any_nil]at hinv
 rw[if_neg (by rw[←hinv];exact Bool.false_ne_true)]at hM
 by_cases a5:s= [78,79,84]
 ·rw[if_pos a5]at hM
  refine zC ?_
  simp[go_sem,q,a5,hpos,hx]
  refine zD (xu0 x) Tryz.callB198 (zG rfl) rfl ?_
  simp[go_sem]
  refine zD (zE8 (!zn9 x)) Tryz.callB195 (zG rfl) rfl ?_
  simp[go_sem]
  exact ret _ _ _ hM
 by_cases a6:s= [78,69,71]
 ·rw[if_neg a5,if_pos a6]at hM
  refine zC ?_
  simp[go_sem,q,a6,hpos,hx]
  refine zD (yi5 0 x.n (by decide) hxn) Tryz.callB200 (zG rfl) rfl ?_
  simp[go_sem,yN]
  refine zD (yr5 (rngF (-x.n))) Tryz.callB199 (zG rfl) rfl ?_
  simp[go_sem,valP]
  exact zi4 hM
 rw[if_neg a5,if_neg a6]at hM
 have h3:1<l.length:=by
  by_cases q:1<l.length
  ·exact q
  ·rcases hs (by omega)with h|h|h|h
   ·exact absurd h a1
   ·exact absurd h a2
   ·exact absurd h a5
   ·exact absurd h a6
 obtain⟨y,hy⟩: ∃y,l[1]'h3=y:=⟨_,rfl⟩
 have hyd:l.getD 1 yV=y:=by rw[List.getD_eq_getElem?_getD,List.getElem?_eq_getElem h3,hy];rfl
 have hyn:okI y.n:=hn y (hy▸List.getElem_mem h3)
 rw[hyd]at hM
 have b5:(s== [78,79,84])=false:=by simpa using a5
 have b6:(s== [78,69,71])=false:=by simpa using a6
 have hcm:=yL7 x y
 have hho:=xi0 s (cmpV x y)
 have htr:=zE8 (zb5 s (cmpV x y))
 have hre:=xa9 s x.n y.n hxn hyn
 have hnu:=yr5 (zp8 s x.n y.n)
 by_cases a7:cmpOps.contains s=true
 ·rw[if_pos a7]at hM
  have a8:s= [61]∨s= [60,62]∨s= [60]∨s= [60,61]∨s= [62]∨s= [62,61]:=by
   simpa[cmpOps]using a7
  rcases a8 with a8|a8|a8|a8|a8|a8
  all_goals
   rw[a8]at hho htr hM
   refine zC ?_
   simp[go_sem,q,a8]
   refine zi5 [(7,0),(8,0),(9,0)] 1 rfl (by kernel_rfl) (by kernel_rfl) ?_
   simp[go_sem,hpos,hx,h3,hy]
   refine zO (by omega) ?_
   simp[go_sem]
   refine zT hcm Tryz.callB202 (fun _=>zG rfl) rfl ?_
   simp[go_sem]
   refine zT hho Tryz.callB201 (fun _=>zG rfl) rfl ?_
   simp[go_sem]
   refine zT htr Tryz.callB195 (fun _=>zG rfl) rfl ?_
   simp[go_sem]
   exact ret _ _ _ hM
 rw[if_neg a7]at hM
 have a8: ¬s= [61]∧ ¬s= [60,62]∧ ¬s= [60]∧ ¬s= [60,61]∧ ¬s= [62]∧ ¬s= [62,61]:=by
  simpa[cmpOps]using a7
 have c1:(s== [61])=false:=by simpa using a8.1
 have c2:(s== [60,62])=false:=by simpa using a8.2.1
 have c3:(s== [60])=false:=by simpa using a8.2.2.1
 have c4:(s== [60,61])=false:=by simpa using a8.2.2.2.1
 have c5:(s== [62])=false:=by simpa using a8.2.2.2.2.1
 have c6:(s== [62,61])=false:=by simpa using a8.2.2.2.2.2
 refine zC ?_
 simp[go_sem,q,b5,b6,c1,c2,c3,c4,c5,c6]
 refine zi5 [(9,0),(12,0)] 1 rfl (by kernel_rfl) (by kernel_rfl) ?_
 simp[go_sem,hpos,hx,h3,hy]
 refine zO (by omega) ?_
 simp[go_sem]
 refine zT hre Tryz.callB203 (fun _=>zG rfl) rfl ?_
 simp[go_sem,yN]
 refine zT hnu Tryz.callB199 (fun _=>zG rfl) rfl ?_
 simp[go_sem,valP]
 exact zi4 hM
end Go.Proofs.YtajjjghohakniaaGreat
