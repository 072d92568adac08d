/-
  Contracts of functions that the claimed statement reaches, each proved over trees (the library Vx); used by the theorem at the end of the claim.
  Conditions: as each theorem states them.
-/
import Derived.Test.YtajjjghohakniaaGreatSBC
import Derived.Lib.Bytealg
namespace Go.Proofs.YtajjjghohakniaaGreat
open Go Go.Vx R
set_option maxRecDepth 100000
abbrev okI (n:Int):Prop:= -9223372036854775808≤n∧n≤9223372036854775807
def rngF (n:Int):Int×Int:=if okI n then(n,0)else(0,5)
theorem i64_w {n:Int} (h:okI n):IntKind.i64.wrap n=n:=Vx.i64_id h.1 h.2
theorem bitsAdd_w (a b:Int) (ha:okI a) (hb':okI b):Pure Tryz.prog 221 [.int .i64 a,.int .i64 b] (pairV (rngF (a+b))):=by
 generalize hM:rngF (a+b)=M
 unfold rngF at hM
 have q:(0<b∧decide (0<b)=true∧decide (b<0)=false)∨(b<0∧decide (0<b)=false∧decide (b<0)=true)∨(b=0∧decide (0<b)=false∧decide (b<0)=false):=by
  simp only[decide_eq_true_eq,decide_eq_false_iff_not];omega
 unfold okI at ha hb' hM
 refine VCalls.intro 0 Tryz.func221 Tryz.ntmps221 Tryz.results221 rfl rfl (Nat.le_of_ble_eq_true rfl) fun c hc hb=>wcode_of ?_
 rcases q with ⟨q,q1,q2⟩|⟨q,q1,q2⟩|⟨q,q1,q2⟩
 ·have w1:IntKind.i64.wrap (9223372036854775807 - b)=9223372036854775807 - b:=i64_w ⟨by omega,by omega⟩
  by_cases r:9223372036854775807 - b<a
  ·have r':decide (9223372036854775807 - b<a)=true:=decide_eq_true r
   simp[go_sem,q1,q2,w1,r']
   exact pair_ret (by rw[←hM,if_neg (by omega)])
  ·have r':decide (9223372036854775807 - b<a)=false:=decide_eq_false r
   have w2:IntKind.i64.wrap (a+b)=a+b:=i64_w ⟨by omega,by omega⟩
   simp[go_sem,q1,q2,w1,r',w2]
   exact pair_ret (by rw[←hM,if_pos (by omega)])
 ·have w1:IntKind.i64.wrap (-9223372036854775808 - b)= -9223372036854775808 - b:=i64_w ⟨by omega,by omega⟩
  by_cases r:a< -9223372036854775808 - b
  ·have r':decide (a< -9223372036854775808 - b)=true:=decide_eq_true r
   simp[go_sem,q1,q2,w1,r']
   exact pair_ret (by rw[←hM,if_neg (by omega)])
  ·have r':decide (a< -9223372036854775808 - b)=false:=decide_eq_false r
   have w2:IntKind.i64.wrap (a+b)=a+b:=i64_w ⟨by omega,by omega⟩
   simp[go_sem,q1,q2,w1,r',w2]
   exact pair_ret (by rw[←hM,if_pos (by omega)])
 ·have w2:IntKind.i64.wrap (a+b)=a+b:=i64_w ⟨by omega,by omega⟩
  simp[go_sem,q1,q2,w2]
  exact pair_ret (by rw[←hM,if_pos (by omega)])
end Go.Proofs.YtajjjghohakniaaGreat
namespace Go.Proofs.YtajjjghohakniaaGreat
open Go Go.Vx R
set_option maxRecDepth 100000
theorem mask_u64 (x:Nat) (hx:x<18446744073709551616):bitsV .and .u64 (x:Int) 4294967295=((x%4294967296:Nat):Int):=by
 unfold bitsV
 have h1:(BitVec.ofInt IntKind.u64.bits (x:Int)).toNat=x:=by
  rw[BitVec.toNat_ofInt]
  show((x:Int)%(18446744073709551616:Nat)).toNat=x
  omega
 have h2:(BitVec.ofInt IntKind.u64.bits 4294967295).toNat=4294967295:=by decide
 simp only[BitVec.toNat_and,h1,h2]
 have h3:=Nat.and_two_pow_sub_one_eq_mod x 32
 have h4:(2:Nat)^32 - 1=4294967295:=by decide
 have h5:(2:Nat)^32=4294967296:=by decide
 rw[h4,h5]at h3
 rw[h3]
 exact Vx.u64_id (by omega) (by omega)
theorem shr_u64 (x:Nat):(x:Int).fdiv 4294967296=((x/4294967296:Nat):Int):=by
 rw[Int.fdiv_eq_ediv_of_nonneg _ (by decide)]
 rfl
theorem wrapU (n:Nat):IntKind.u64.wrap (n:Int)=((n%18446744073709551616:Nat):Int):=by
 unfold IntKind.wrap
 simp[IntKind.bits,IntKind.signed]
theorem natU {n:Nat} (h:n<18446744073709551616):IntKind.u64.wrap (n:Int)=(n:Int):=Vx.u64_id (by omega) (by omega)
theorem mul_parts (a b c d:Nat) (ha:a<4294967296) (hb:b<4294967296) (hc:c<4294967296) (hd:d<4294967296):
  a*d≤18446744065119617025∧b*c≤18446744065119617025∧a*c≤18446744065119617025∧b*d≤18446744065119617025∧
  (a*4294967296+b)*(c*4294967296+d)=(a*c)*18446744073709551616+(a*d)*4294967296+(b*c)*4294967296+b*d:=by
 have m: ∀x y:Nat,x<4294967296→y<4294967296→x*y≤18446744065119617025:=fun x y hx hy=>by
  have:=Nat.mul_le_mul (show x≤4294967295 by omega) (show y≤4294967295 by omega)
  simpa using this
 refine⟨m _ _ ha hd,m _ _ hb hc,m _ _ ha hc,m _ _ hb hd, ?_⟩
 rw[Nat.add_mul,Nat.mul_add,Nat.mul_add]
 have e1:a*4294967296*(c*4294967296)=(a*c)*18446744073709551616:=by
  rw[Nat.mul_mul_mul_comm]
 have e2:a*4294967296*d=(a*d)*4294967296:=by rw[Nat.mul_right_comm]
 have e3:b*(c*4294967296)=(b*c)*4294967296:=by rw[Nat.mul_assoc]
 rw[e1,e2,e3]
 omega
theorem cast_mul (x y:Nat):(x:Int)*(y:Int)=((x*y:Nat):Int):=by simp
theorem cast_add (x y:Nat):(x:Int)+(y:Int)=((x+y:Nat):Int):=by simp
theorem Mul64_w (x y:Nat) (hx:x<18446744073709551616) (hy:y<18446744073709551616):Pure Tryz.prog 239 [.int .u64 x,.int .u64 y] (.tup [.int .u64 ((x*y/18446744073709551616:Nat):Int),.int .u64 ((x*y%18446744073709551616:Nat):Int)]):=by
 obtain⟨m1,m2,m3,m4,m5⟩:=mul_parts (x/4294967296) (x%4294967296) (y/4294967296) (y%4294967296) (by omega) (by omega) (by omega) (by omega)
 have ex:x/4294967296*4294967296+x%4294967296=x:=Nat.div_add_mod' x 4294967296
 have ey:y/4294967296*4294967296+y%4294967296=y:=Nat.div_add_mod' y 4294967296
 rw[ex,ey]at m5
 have a1:=mask_u64 x hx
 have a2:=mask_u64 y hy
 have a3:=shr_u64 x
 have a4:=shr_u64 y
 generalize ex1:x/4294967296=x1 at*
 generalize ex0:x%4294967296=x0 at*
 generalize ey1:y/4294967296=y1 at*
 generalize ey0:y%4294967296=y0 at*
 obtain⟨p,hp⟩: ∃p,p=x1*y1:=⟨_,rfl⟩
 obtain⟨q,hq⟩: ∃q,q=x1*y0:=⟨_,rfl⟩
 obtain⟨r,hr⟩: ∃r,r=x0*y1:=⟨_,rfl⟩
 obtain⟨s,hs⟩: ∃s,s=x0*y0:=⟨_,rfl⟩
 rw[←hq]at m1 m5
 rw[←hr]at m2 m5
 rw[←hp]at m3 m5
 rw[←hs]at m4 m5
 refine VCalls.intro 0 Tryz.func239 Tryz.ntmps239 Tryz.results239 rfl rfl (Nat.le_of_ble_eq_true rfl) fun c hc hb=>wcode_of ?_
 simp[go_sem,a1,a2,a3,a4]
 refine wret_0 (argS_no rfl) ⟨?_,rfl⟩
 rw[cast_mul x1 y1,←hp,cast_mul x1 y0,←hq,cast_mul x0 y1,←hr,cast_mul x0 y0,←hs,natU (n:=s) (by omega),natU (n:=p) (by omega),natU (n:=q) (by omega),natU (n:=r) (by omega),shr_u64 s,
  cast_add,natU (n:=q+s/4294967296) (by omega),shr_u64,mask_u64 _ (by omega),cast_add,cast_add,natU (n:=p+(q+s/4294967296)/4294967296) (by omega),natU (n:=(q+s/4294967296)%4294967296+r) (by omega),shr_u64,cast_add,natU (by omega),cast_mul,wrapU]
 have e:p+(q+s/4294967296)/4294967296+((q+s/4294967296)%4294967296+r)/4294967296=x*y/18446744073709551616:=by
  rw[m5]
  omega
 rw[e]
 rfl
end Go.Proofs.YtajjjghohakniaaGreat
namespace Go.Proofs.YtajjjghohakniaaGreat
open Go Go.Vx R
set_option maxRecDepth 100000
theorem wrapNegU {a:Int} (h:a<0) (h2: -9223372036854775808≤a):IntKind.u64.wrap (-IntKind.u64.wrap a)=(a.natAbs:Int):=by
 have e:IntKind.u64.wrap a=a+18446744073709551616:=by
  unfold IntKind.wrap
  simp[IntKind.bits,IntKind.signed]
  omega
 rw[e]
 unfold IntKind.wrap
 simp[IntKind.bits,IntKind.signed]
 omega
theorem size_w (a:Int) (ha:okI a):Pure Tryz.prog 240 [.int .i64 a] (.int .u64 (a.natAbs:Int)):=by
 unfold okI at ha
 refine VCalls.intro 0 Tryz.func240 Tryz.ntmps240 Tryz.results240 rfl rfl (Nat.le_of_ble_eq_true rfl) fun c hc hb=>wcode_of ?_
 simp[go_sem]
 by_cases q:a<0
 ·have q1:decide (a<0)=true:=decide_eq_true q
  simp[go_sem,q1]
  refine wret_0 (argS_no rfl) ⟨?_,rfl⟩
  rw[wrapNegU q ha.1]
 ·have q1:decide (a<0)=false:=decide_eq_false q
  simp[go_sem,q1]
  refine wret_0 (argS_no rfl) ⟨?_,rfl⟩
  rw[Vx.u64_id (by omega) (by omega)]
  congr 1
  omega
def mostN (a b:Int):Nat:=if decide (a<0)=decide (b<0)then 9223372036854775807 else 9223372036854775808
theorem mul_ok (a b:Int):okI (a*b)↔a.natAbs*b.natAbs≤mostN a b:=by
 obtain⟨n,hn⟩:=Int.eq_nat_or_neg a
 obtain⟨m,hm⟩:=Int.eq_nat_or_neg b
 have e:a.natAbs=n∧b.natAbs=m:=⟨by omega,by omega⟩
 rw[e.1,e.2]
 have z1:n=0→n*m=0:=fun h=>by subst h;exact Nat.zero_mul m
 have z2:m=0→n*m=0:=fun h=>by subst h;exact Nat.mul_zero n
 unfold mostN okI
 rcases hn with rfl|rfl<;>rcases hm with rfl|rfl
 ·rw[cast_mul,decide_eq_false (by omega),decide_eq_false (by omega),if_pos rfl]
  generalize n*m=p at*
  omega
 ·rw[Int.mul_neg,cast_mul]
  generalize n*m=p at*
  rw[decide_eq_false (by omega)]
  by_cases q: -(m:Int)<0
  ·rw[decide_eq_true q,if_neg (by simp)];omega
  ·rw[decide_eq_false q,if_pos rfl]
   have:=z2 (by omega)
   omega
 ·rw[Int.neg_mul,cast_mul]
  generalize n*m=p at*
  rw[decide_eq_false (p:=(m:Int)<0) (by omega)]
  by_cases q: -(n:Int)<0
  ·rw[decide_eq_true q,if_neg (by simp)];omega
  ·rw[decide_eq_false q,if_pos rfl]
   have:=z1 (by omega)
   omega
 ·rw[Int.neg_mul_neg,cast_mul]
  generalize n*m=p at*
  by_cases q: -(n:Int)<0<;>by_cases q2: -(m:Int)<0
  ·rw[decide_eq_true q,decide_eq_true q2,if_pos rfl];omega
  ·have:=z2 (by omega)
   rw[decide_eq_true q,decide_eq_false q2,if_neg (by simp)];omega
  ·have:=z1 (by omega)
   rw[decide_eq_false q,decide_eq_true q2,if_neg (by simp)];omega
  ·have:=z1 (by omega)
   rw[decide_eq_false q,decide_eq_false q2,if_pos rfl];omega
theorem most_v (a b:Int):((!(decide (a<0)==decide (b<0)))=true→mostN a b=9223372036854775808)∧((!(decide (a<0)==decide (b<0)))=false→mostN a b=9223372036854775807):=by
 unfold mostN
 generalize decide (a<0)=x
 generalize decide (b<0)=y
 cases x<;>cases y<;>simp
theorem Mul_w (a b:Int) (ha:okI a) (hb':okI b):Pure Tryz.prog 225 [.int .i64 a,.int .i64 b] (pairV (rngF (a*b))):=by
 have hs1:=size_w a ha
 have hs2:=size_w b hb'
 have hab:a.natAbs<18446744073709551616∧b.natAbs<18446744073709551616:=by unfold okI at ha hb';omega
 have hm:=Mul64_w a.natAbs b.natAbs hab.1 hab.2
 have hok:=mul_ok a b
 have hmo:mostN a b≤9223372036854775808:=by unfold mostN;split<;>omega
 have hmv:=most_v a b
 generalize hP:a.natAbs*b.natAbs=p at*
 have hi0:p/18446744073709551616*18446744073709551616+p%18446744073709551616=p:=Nat.div_add_mod' _ _
 have lo0:p%18446744073709551616<18446744073709551616:=Nat.mod_lt _ (by decide)
 generalize p/18446744073709551616=hi at*
 generalize p%18446744073709551616=lo at*
 generalize hM:rngF (a*b)=M
 unfold rngF at hM
 refine VCalls.intro 0 Tryz.func225 Tryz.ntmps225 Tryz.results225 rfl rfl (Nat.le_of_ble_eq_true rfl) fun c hc hb=>wcode_of ?_
 simp[go_sem]
 refine wVC_pure hs1 Tryz.callB240 (args_no rfl) rfl ?_
 simp[go_sem]
 refine wVC_pure hs2 Tryz.callB240 (args_no rfl) rfl ?_
 simp[go_sem]
 refine wVC_pure hm Tryz.callB239 (args_no rfl) rfl ?_
 simp[go_sem]
 have u1:IntKind.u64.wrap 9223372036854775808=9223372036854775808:=by decide
 refine wcond_i (fun v2=> ?_) (fun v2=> ?_)
 ·rw[hmv.1 v2]at hok
  by_cases q:p≤9223372036854775808
  ·have f1:decide (0<hi)=false:=decide_eq_false (by omega)
   have f3:decide ((9223372036854775808:Int)<(lo:Int))=false:=decide_eq_false (by omega)
   have w:=i64_w (hok.2 q)
   simp[go_sem,f1,f3,w,u1]
   exact pair_ret (by rw[←hM,if_pos (hok.2 q)])
  ·have hno: ¬okI (a*b):=fun h=>q (hok.1 h)
   have f4:decide (0<hi)=true∨(decide (0<hi)=false∧decide ((9223372036854775808:Int)<(lo:Int))=true):=by
    simp only[decide_eq_true_eq,decide_eq_false_iff_not];omega
   rcases f4 with f4|⟨f4,f5⟩
   ·simp[go_sem,f4]
    exact pair_ret (by rw[←hM,if_neg hno])
   ·simp[go_sem,f4,f5,u1]
    exact pair_ret (by rw[←hM,if_neg hno])
 ·rw[hmv.2 v2]at hok
  by_cases q:p≤9223372036854775807
  ·have f1:decide (0<hi)=false:=decide_eq_false (by omega)
   have f3:decide ((9223372036854775807:Int)<(lo:Int))=false:=decide_eq_false (by omega)
   have w:=i64_w (hok.2 q)
   simp[go_sem,f1,f3,w]
   exact pair_ret (by rw[←hM,if_pos (hok.2 q)])
  ·have hno: ¬okI (a*b):=fun h=>q (hok.1 h)
   have f4:decide (0<hi)=true∨(decide (0<hi)=false∧decide ((9223372036854775807:Int)<(lo:Int))=true):=by
    simp only[decide_eq_true_eq,decide_eq_false_iff_not];omega
   rcases f4 with f4|⟨f4,f5⟩
   ·simp[go_sem,f4]
    exact pair_ret (by rw[←hM,if_neg hno])
   ·simp[go_sem,f4,f5]
    exact pair_ret (by rw[←hM,if_neg hno])
end Go.Proofs.YtajjjghohakniaaGreat
namespace Go.Proofs.YtajjjghohakniaaGreat
open Go Go.Vx R
set_option maxRecDepth 100000
theorem minus_w (a b:Int) (ha:okI a) (hb':okI b):Pure Tryz.prog 200 [.int .i64 a,.int .i64 b] (pairV (rngF (a - b))):=by
 by_cases q:b= -9223372036854775808
 ·generalize hM:rngF (a - b)=M
  unfold rngF at hM
  unfold okI at ha
  have q1:(b != -9223372036854775808)=false:=by simpa using q
  refine VCalls.intro 0 Tryz.func200 Tryz.ntmps200 Tryz.results200 rfl rfl (Nat.le_of_ble_eq_true rfl) fun c hc hb=>wcode_of ?_
  simp[go_sem,q1]
  by_cases r:0≤a
  ·have r1:decide (0≤a)=true:=decide_eq_true r
   simp[go_sem,r1]
   exact pair_ret (by rw[←hM,if_neg (by omega)])
  ·have r1:decide (0≤a)=false:=decide_eq_false r
   have w:IntKind.i64.wrap (a - b)=a - b:=i64_w ⟨by omega,by omega⟩
   simp[go_sem,r1,w]
   exact pair_ret (by rw[←hM,if_pos (by unfold okI;omega)])
 ·have hn:okI (-b):=by unfold okI at*;omega
  have w:IntKind.i64.wrap (-b)= -b:=i64_w hn
  have q1:(b != -9223372036854775808)=true:=by simpa using q
  have hc1:=bitsAdd_w a (-b) ha hn
  have e:a+ -b=a - b:=by omega
  rw[e]at hc1
  generalize rngF (a - b)=M at*
  refine VCalls.intro 0 Tryz.func200 Tryz.ntmps200 Tryz.results200 rfl rfl (Nat.le_of_ble_eq_true rfl) fun c hc hb=>wcode_of ?_
  simp[go_sem,q1,w]
  refine wVC_pure hc1 Tryz.callB221 (args_no rfl) rfl ?_
  simp[go_sem,pairV]
  exact wret_0 (argS_no rfl) ⟨rfl,rfl⟩
def reckonF (s:List UInt8) (a b:Int):Int×Int:=
 if s= [43]then rngF (a+b)else if s= [45]then rngF (a - b)else if s= [42]then rngF (a*b)
 else if b=0 then(0,17)else if s= [37]then(a.tmod b,0)else rngF (a.tdiv b)
theorem tmod_ok {a b:Int} (ha:okI a) (hb:okI b):okI (a.tmod b):=by
 unfold okI at*
 by_cases q:b=0
 ·subst q;rw[Int.tmod_zero];exact ha
 ·have h2:(a.tmod b).natAbs=a.natAbs%b.natAbs:=Int.natAbs_tmod a b
  have h3:a.natAbs%b.natAbs≤a.natAbs:=Nat.mod_le _ _
  have h4:(a.tmod b).natAbs<b.natAbs:=by
   rw[h2];exact Nat.mod_lt _ (by omega)
  omega
theorem tdiv_ok {a b:Int} (ha:okI a) (_hb:okI b) (h:b≠ -1):okI (a.tdiv b):=by
 unfold okI at*
 have h2:(a.tdiv b).natAbs=a.natAbs/b.natAbs:=Int.natAbs_tdiv a b
 by_cases q:b.natAbs≤1
 ·have:b=0∨b=1:=by omega
  rcases this with rfl|rfl
  ·rw[Int.tdiv_zero];omega
  ·rw[Int.tdiv_one];exact ha
 ·have h3:a.natAbs/b.natAbs≤a.natAbs/2:=Nat.div_le_div_left (by omega) (by omega)
  omega
theorem reckon_w (s:List UInt8) (a b:Int) (ha:okI a) (hb':okI b):Pure Tryz.prog 203 [.str s,.int .i64 a,.int .i64 b] (pairV (reckonF s a b)):=by
 have c1:=bitsAdd_w a b ha hb'
 have c2:=minus_w a b ha hb'
 have c3:=Mul_w a b ha hb'
 have c4:=minus_w 0 a (by decide) ha
 have e4:rngF (0 - a)=rngF (-a):=by congr 1;omega
 rw[e4]at c4
 have wr: ∀{x:Int×Int} {M:Int×Int} {σ:St},x=M→wret (some (.tup [.int .i64 x.1,.int .i64 x.2])) 0 (fun v s=>v=pairV M∧s= []) σ:=fun h=>pair_ret h.symm
 generalize hM:reckonF s a b=M
 unfold reckonF at hM
 refine VCalls.intro 0 Tryz.func203 Tryz.ntmps203 Tryz.results203 rfl rfl (Nat.le_of_ble_eq_true rfl) fun c hc hb=>wcode_of ?_
 simp[go_sem]
 by_cases s1:s= [43]
 ·simp only[s1,if_pos]at hM
  simp[go_sem,s1]
  refine wVC_pure c1 Tryz.callB221 (args_no rfl) rfl ?_
  simp[go_sem,pairV]
  exact wr hM
 by_cases s2:s= [45]
 ·rw[if_neg s1,if_pos s2]at hM
  simp[go_sem,s2]
  refine wVC_pure c2 Tryz.callB200 (args_no rfl) rfl ?_
  simp[go_sem,pairV]
  exact wr hM
 by_cases s3:s= [42]
 ·rw[if_neg s1,if_neg s2,if_pos s3]at hM
  simp[go_sem,s3]
  refine wVC_pure c3 Tryz.callB225 (args_no rfl) rfl ?_
  simp[go_sem,pairV]
  exact wr hM
 rw[if_neg s1,if_neg s2,if_neg s3]at hM
 have s1':(s== [43])=false:=by simpa using s1
 have s2':(s== [45])=false:=by simpa using s2
 have s3':(s== [42])=false:=by simpa using s3
 simp[go_sem,s1',s2',s3']
 by_cases b0:b=0
 ·rw[if_pos b0]at hM
  have b0':(b==0)=true:=by simpa using b0
  simp[go_sem,b0']
  exact pair_ret hM.symm
 rw[if_neg b0]at hM
 have b0':(b==0)=false:=by simpa using b0
 simp[go_sem,b0']
 by_cases s4:s= [37]
 ·rw[if_pos s4]at hM
  have s4':(s== [37])=true:=by simpa using s4
  simp[go_sem,s4']
  refine wneed_i b0 ?_
  simp[go_sem]
  exact pair_ret hM.symm
 rw[if_neg s4]at hM
 have s4':(s== [37])=false:=by simpa using s4
 simp[go_sem,s4']
 by_cases b1:b= -1
 ·rw[b1,Int.tdiv_neg,Int.tdiv_one]at hM
  have b1':(b== -1)=true:=by simpa using b1
  simp[go_sem,b1']
  refine wVC_pure c4 Tryz.callB200 (args_no rfl) rfl ?_
  simp[go_sem,pairV]
  exact wr hM
 have b1':(b== -1)=false:=by simpa using b1
 have ok:=tdiv_ok ha hb' b1
 unfold rngF at hM
 rw[if_pos ok]at hM
 simp[go_sem,b1',i64_w ok]
 refine wneed_i b0 ?_
 simp[go_sem]
 exact pair_ret hM.symm
end Go.Proofs.YtajjjghohakniaaGreat
namespace Go.Proofs.YtajjjghohakniaaGreat
open Go Go.Vx R
set_option maxRecDepth 100000
def lowF (l:List Int) (v:Int):Nat:=(l.filter fun x=>decide (x<v)).length
theorem low_eq (l:List Int) (v:Int) (i:Nat) (hi:i≤l.length) (h1: ∀k (h:k<l.length),k<i→l[k]<v) (h2: ∀k (h:k<l.length),i≤k→v≤l[k]):lowF l v=i:=by
 unfold lowF
 have e:l=l.take i++l.drop i:=(List.take_append_drop i l).symm
 rw[e,List.filter_append,List.length_append]
 have ha:(l.take i).filter (fun x=>decide (x<v))=l.take i:=List.filter_eq_self.2 fun x hx=>by
  obtain⟨k,hk,rfl⟩:=List.mem_iff_getElem.1 hx
  rw[List.getElem_take]
  rw[List.length_take]at hk
  exact decide_eq_true (h1 k (by omega) (by omega))
 have hb:(l.drop i).filter (fun x=>decide (x<v))= []:=List.filter_eq_nil_iff.2 fun x hx=>by
  obtain⟨k,hk,rfl⟩:=List.mem_iff_getElem.1 hx
  rw[List.getElem_drop]
  rw[List.length_drop]at hk
  have:=h2 (i+k) (by omega) (by omega)
  simp;omega
 rw[ha,hb,List.length_take]
 simp;omega
theorem low_has (l:List Int) (v:Int) (hs:l.Pairwise (· < ·)) (i:Nat) (h1: ∀k (h:k<l.length),k<i→l[k]<v) (h2: ∀k (h:k<l.length),i≤k→v≤l[k]):(if h:i<l.length then l[i]==v else false)=l.contains v:=by
 rw[Bool.eq_iff_iff,List.contains_iff_mem]
 constructor
 ·intro h
  split at h
  ·rename_i hi
   rw[←eq_of_beq h]
   exact List.getElem_mem hi
  ·cases h
 ·intro h
  obtain⟨k,hk,rfl⟩:=List.mem_iff_getElem.1 h
  have hki:i≤k:=by
   rcases Nat.lt_or_ge k i with q|q
   ·have:=h1 k hk q;omega
   ·exact q
  have hi:i<l.length:=by omega
  rw[dif_pos hi]
  have hki2:k=i:=by
   rcases Nat.lt_or_ge i k with q|q
   ·have h3:=List.pairwise_iff_getElem.1 hs i k hi hk q
    have h4:=h2 i hi (Nat.le_refl _)
    omega
   ·omega
  subst hki2
  exact beq_self_eq_true _
theorem fdiv_nat (s k:Nat):(s:Int).fdiv k=((s/k:Nat):Int):=by
 rw[Int.fdiv_eq_ediv_of_nonneg _ (by omega)]
 rfl
theorem cmpNaN_w (x:Int):Pure Tryz.prog 137 [.int .i64 x] (.bool false):=by
 refine VCalls.intro 0 Tryz.func137 Tryz.ntmps137 Tryz.results137 rfl rfl (Nat.le_of_ble_eq_true rfl) fun c hc hb=>wcode_of ?_
 simp[go_sem]
 exact wret_0 (argS_no rfl) ⟨rfl,rfl⟩
def cmpI (x y:Int):Int:=if x<y then -1 else if x>y then 1 else 0
theorem cmpInt_w (x y:Int):Pure Tryz.prog 87 [.int .i64 x,.int .i64 y] (.int .i64 (cmpI x y)):=by
 generalize hM:cmpI x y=M
 have ret: ∀(r:Int) (σ:St),r=M→wret (some (.int .i64 r)) 0 (fun r s=>r= .int .i64 M∧s= []) σ:=fun r σ h=>by subst h;exact wret_0 (argS_no rfl) ⟨rfl,rfl⟩
 unfold cmpI at hM
 refine VCalls.intro 0 Tryz.func87 Tryz.ntmps87 Tryz.results87 rfl rfl (Nat.le_of_ble_eq_true rfl) fun c hc hb=>wcode_of ?_
 simp[go_sem]
 refine wVC_pure (cmpNaN_w x) Tryz.callB137 (args_no rfl) rfl ?_
 simp[go_sem]
 refine wVC_pure (cmpNaN_w y) Tryz.callB137 (args_no rfl) rfl ?_
 simp[go_sem]
 repeat' (first|(refine wcond_i (fun q=> ?_) (fun q=> ?_)<;>simp[go_sem,q]))
 all_goals exact ret _ _ (by rw[←hM];simp only[decide_eq_true_eq,decide_eq_false_iff_not]at*;(repeat' split)<;>omega)
@[go_sem] def uRow (x:Int×List GSpan):List V:= [.int .i64 x.1,.sl .ro (x.2.map GSpan.row)]
theorem need1_w (x:Int×List GSpan) (r:Int):Pure Tryz.prog 86 [.agg (uRow x),.int .i64 r] (.int .i64 (cmpI x.1 r)):=by
 refine VCalls.intro 0 Tryz.func86 Tryz.ntmps86 Tryz.results86 rfl rfl (Nat.le_of_ble_eq_true rfl) fun c hc hb=>wcode_of ?_
 simp[go_sem]
 refine wVC_pure (cmpInt_w x.1 r) Tryz.callB87 (args_no rfl) rfl ?_
 simp[go_sem]
 exact wret_0 (argS_no rfl) ⟨rfl,rfl⟩
theorem idxS_w (l:List GSpan) (x:GSpan) (hl:l.length≤maxLen):Pure Tryz.prog 140 [.sl .ro (l.map GSpan.row),.agg x.row] (.int .i64 (findF (fun t:GSpan=>t==x) l 0)):=by
 generalize hM:findF (fun t:GSpan=>t==x) l 0=M
 have ret: ∀(r:Int) (σ:St),r=M→wret (some (.int .i64 r)) 0 (fun r s=>r= .int .i64 M∧s= []) σ:=fun r σ h=>by subst h;exact wret_0 (argS_no rfl) ⟨rfl,rfl⟩
 refine VCalls.introV 0 Tryz.func140 Tryz.ntmps140 Tryz.results140 rfl rfl (Nat.le_of_ble_eq_true rfl) fun c hc hb=> ?_
 refine wVW_code ?_
 simp[go_sem]
 refine wVW_while (S:=Nat) [0,3,7,8] (fun i=> [.sl .ro (l.map GSpan.row),.ptr 0 0,.int .i64 l.length,.int .i64 i]) (fun _=> [.box x.row]) (fun i=>l.length - i) (fun i=>i≤l.length∧findF (fun t:GSpan=>t==x) (l.drop i) i=M) hc hb 0 ⟨Nat.zero_le _,hM⟩ ?_ ?_
 ·exact at_n 1 (by simp[go_sem]) rfl rfl (Nat.zero_le _) (args_lt_eq (by simp[go_sem]) rfl)
 rintro i ⟨hi,hinv⟩
 by_cases q:i<l.length
 rotate_left
 ·rw[List.drop_of_length_le (by omega),findF]at hinv
  refine wVW_code ?_
  simp[go_sem,q]
  exact ret _ _ hinv
 have ei:=i64_inc q (by unfold maxLen at hl;omega)
 obtain⟨y,hy⟩: ∃y,l[i]=y:=⟨_,rfl⟩
 rw[List.drop_eq_getElem_cons q,hy,findF]at hinv
 refine wVW_code ?_
 simp[go_sem,q,hy]
 refine wdraw [] 1 rfl (by kernel_rfl) (by kernel_rfl) ?_
 simp[go_sem,q,hy]
 have hbx:(x.lo==y.lo&&x.hi==y.hi)=(y==x):=by
  rw[Bool.eq_iff_iff]
  obtain⟨a,b⟩:=x;obtain⟨c,d⟩:=y
  simp only[Bool.and_eq_true,beq_iff_eq,GSpan.mk.injEq]
  exact⟨fun h=>⟨h.1.symm,h.2.symm⟩,fun h=>⟨h.1.symm,h.2.symm⟩⟩
 rw[hbx]
 refine wcond_i (fun w=> ?_) (fun w=> ?_)
 ·rw[if_pos w]at hinv
  simp[go_sem]
  exact ret _ _ hinv
 ·rw[if_neg (by rw[w];decide)]at hinv
  simp[go_sem,ei]
  exact next_i (i+1) ⟨by omega,⟨q,hinv⟩,at_n 1 (by simp[go_sem]) rfl rfl (Nat.zero_le _) (args_lt_eq (by simp[go_sem]) rfl)⟩
theorem findF_contains (x:GSpan): ∀(l:List GSpan) (i:Nat),decide (0≤findF (fun t:GSpan=>t==x) l i)=l.contains x
 | [],_=>rfl
 |y::l,i=>by
  unfold findF
  rw[List.contains_cons,←findF_contains x l (i+1)]
  by_cases h:y=x
  ·subst h;simp
  ·rw[if_neg (by simpa using h),show(x==y)=false by simpa using fun e=>h e.symm,Bool.false_or]
theorem hasS_w (l:List GSpan) (x:GSpan) (hl:l.length≤maxLen):Pure Tryz.prog 89 [.sl .ro (l.map GSpan.row),.agg x.row] (.bool (l.contains x)):=by
 have h:=idxS_w l x hl
 rw[←findF_contains x l 0]
 refine VCalls.intro 0 Tryz.func89 Tryz.ntmps89 Tryz.results89 rfl rfl (Nat.le_of_ble_eq_true rfl) fun c hc hb=>wcode_of ?_
 simp[go_sem]
 refine wVC_pure h Tryz.callB140 (args_eq (by simp[go_sem]) rfl) rfl ?_
 simp[go_sem]
 exact wret_0 (argS_no rfl) ⟨rfl,rfl⟩
set_option maxHeartbeats 1000000 in
theorem bsf_w (U:List (Int×List GSpan)) (v:Int) (hl:U.length≤1000) (hs:(U.map (·.1)).Pairwise (· < ·)):
  Pure Tryz.prog 85 [.sl .ro (U.map uRow),.int .i64 v,.fn 86 []] (.tup [.int .i64 (lowF (U.map (·.1)) v:Nat),.bool ((U.map (·.1)).contains v)]):=by
 obtain⟨l,hle⟩: ∃l,U.map (·.1)=l:=⟨_,rfl⟩
 have hll:l.length=U.length:=by rw[←hle];simp
 rw[hle]at hs⊢
 have hget: ∀(k:Nat) (hk:k<U.length),l[k]'(by omega)=(U[k]).1:=fun k hk=>by subst hle;simp
 refine VCalls.introV 0 Tryz.func85 Tryz.ntmps85 Tryz.results85 rfl rfl (Nat.le_of_ble_eq_true rfl) fun c hc hb=> ?_
 refine wVW_code ?_
 simp[go_sem]
 refine wVW_while (S:=Nat×Nat) [0,1,2,8,9,10] (fun u=> [.sl .ro (U.map uRow),.int .i64 v,.fn 86 [],.int .i64 U.length,.int .i64 u.1,.int .i64 u.2]) (fun _=> []) (fun u=>u.2 - u.1)
  (fun u=>u.1≤u.2∧u.2≤l.length∧(∀k (h:k<l.length),k<u.1→l[k]<v)∧(∀k (h:k<l.length),u.2≤k→v≤l[k])) hc hb (0,l.length) ⟨Nat.zero_le _,Nat.le_refl _,fun k _ h=>absurd h (Nat.not_lt_zero _),fun k h h'=>by simp only at h';omega⟩ ?_ ?_
 ·exact at_0 rfl (args_eq (by simp[go_sem,hll]) rfl)
 rintro⟨i,j⟩ ⟨hij,hj,h1,h2⟩
 simp only at hij hj h1 h2
 by_cases q:i<j
 rotate_left
 ·have hji:j=i:=by omega
  subst hji
  have hlow:=low_eq l v j hj h1 h2
  have hhas:=low_has l v hs j h1 h2
  rw[hlow]
  by_cases q2:j<U.length
  ·obtain⟨x,hx⟩: ∃x,U[j]=x:=⟨_,rfl⟩
   rw[dif_pos (by omega),hget j q2,hx]at hhas
   have hcb:(cmpI x.1 v==0)=(x.1==v):=by
    rw[Bool.eq_iff_iff];simp only[beq_iff_eq];unfold cmpI
    (repeat' split)<;>omega
   have hn1:=need1_w x v
   rw[←hhas]
   refine wVW_code ?_
   simp[go_sem,q2,hx]
   refine wVC_pure hn1 Tryz.callB86 (args_eq (by simp[go_sem]) rfl) rfl ?_
   simp[go_sem,hcb]
   exact wret_0 (argS_no rfl) ⟨rfl,rfl⟩
  ·rw[dif_neg (by omega)]at hhas
   rw[←hhas]
   refine wVW_code ?_
   simp[go_sem,q2]
   exact wret_0 (argS_no rfl) ⟨rfl,rfl⟩
 obtain⟨h,hh⟩: ∃h,(i+j)/2=h:=⟨_,rfl⟩
 have hhi:i≤h:=by omega
 have hhj:h<j:=by omega
 have hhl:h<U.length:=by omega
 have hhl2:h<l.length:=by omega
 obtain⟨x,hx⟩: ∃x,U[h]=x:=⟨_,rfl⟩
 have hlx:l[h]=x.1:=by rw[hget h hhl,hx]
 have e1:IntKind.i64.wrap ((i:Int)+j)=((i+j:Nat):Int):=by rw[i64_id (by omega) (by omega)];omega
 have em:IntKind.i64.wrap ((IntKind.u64.wrap (IntKind.i64.wrap ((i:Int)+j))).fdiv 2)=(h:Int):=by
  rw[e1,Vx.u64_id (by omega) (by omega),show(2:Int)=((2:Nat):Int) by rfl,fdiv_nat,hh,i64_id (by omega) (by omega)]
 have eh:=i64_inc hhl (by omega)
 have hn1:=need1_w x v
 have hcl:decide (cmpI x.1 v<0)=decide (x.1<v):=by
  rw[Bool.eq_iff_iff];simp only[decide_eq_true_eq];unfold cmpI
  (repeat' split)<;>omega
 refine wVW_code ?_
 simp[go_sem,q,em,hhl,hx]
 refine wVC_pure hn1 Tryz.callB86 (args_eq (by simp[go_sem]) rfl) rfl ?_
 simp[go_sem,hcl]
 refine wcond_i (fun w=> ?_) (fun w=> ?_)
 ·have w:x.1<v:=by simpa using w
  simp[go_sem,eh]
  refine next_i (h+1,j) ⟨by simp only;omega,⟨by simp only;omega,by simp only;omega,fun k hk hkh=> ?_,h2⟩,at_0 rfl (args_eq (by simp[go_sem]) rfl)⟩
  simp only at hkh
  rcases Nat.lt_or_ge k h with q3|q3
  ·have:=List.pairwise_iff_getElem.1 hs k h hk hhl2 q3
   omega
  ·have:k=h:=by omega
   subst this
   omega
 ·have w: ¬x.1<v:=by simpa using w
  simp[go_sem]
  refine next_i (i,h) ⟨by simp only;omega,⟨by simp only;omega,by simp only;omega,h1,fun k hk hkh=> ?_⟩,at_0 rfl (args_eq (by simp[go_sem]) rfl)⟩
  simp only at hkh
  rcases Nat.lt_or_ge h k with q3|q3
  ·have:=List.pairwise_iff_getElem.1 hs h k hhl2 hk q3
   omega
  ·have:k=h:=by omega
   subst this
   omega
end Go.Proofs.YtajjjghohakniaaGreat
namespace Go.Proofs.YtajjjghohakniaaGreat
open Go Go.Vx R
set_option maxRecDepth 100000
def cmpS (a b:List UInt8):Int:=if Op.bytesLess a b=true then -1 else if Op.bytesLess b a=true then 1 else 0
theorem cmpS_eq: ∀a b:List UInt8,Lib.compareBytes a b=cmpS a b
 | [],[]=>rfl
 | [],_::_=>rfl
 |_::_,[]=>rfl
 |x::a,y::b=>by
  have ih:=cmpS_eq a b
  rw[Lib.compareBytes]
  unfold cmpS at ih⊢
  rw[bl_cons,bl_cons]
  have h1:(x<y)↔x.toNat<y.toNat:=UInt8.lt_iff_toNat_lt
  have h2:(y<x)↔y.toNat<x.toNat:=UInt8.lt_iff_toNat_lt
  by_cases q:x<y
  ·have:=h1.1 q
   rw[if_pos q,if_pos this]
   rfl
  by_cases q2:y<x
  ·have:=h2.1 q2
   have n1: ¬x.toNat<y.toNat:=fun h=>q (h1.2 h)
   rw[if_neg q,if_pos q2,if_neg n1,if_pos this,if_pos this]
   rfl
  ·have n1:=fun h=>q (h1.2 h)
   have n2:=fun h=>q2 (h2.2 h)
   rw[if_neg q,if_neg q2,if_neg n1,if_neg n2,if_neg n2,if_neg n1]
   exact ih
theorem cmpstring_i {a b:List UInt8} {c:Ctx} {σ:St} {K:V→St→Prop} {e:Fx K} (hk:K (.int .i64 (cmpS a b)) σ):wVC Tryz.prog c (.fn 245 []) [.str a,.str b] σ K e:=by
 refine⟨_,[],rfl,.inr fun w L β vals hm ha=> ?_⟩
 match vals,ha with
 | [v1,v2],⟨h1,h2,_⟩=>
  rw[rdS_str h1,rdS_str h2]
  refine⟨.int .i64 (cmpS a b),.int .i64 (cmpS a b), ?_,hk,RdP.int _ _⟩
  rw[run_callFunc_extern Tryz.func245 (by kernel_rfl) (by kernel_rfl) (by kernel_rfl) (e:=Extern.BytealgCompare.compare) (by kernel_rfl),Lib.run_compareString]
  rw[List.toList_toArray,List.toList_toArray,cmpS_eq]
  rfl
theorem cmpStr0_w (a b:List UInt8):Pure Tryz.prog 238 [.str a,.str b] (.int .i64 (cmpS a b)):=by
 refine VCalls.intro 0 Tryz.func238 Tryz.ntmps238 Tryz.results238 rfl rfl (Nat.le_of_ble_eq_true rfl) fun c hc hb=>wcode_of ?_
 simp[go_sem]
 refine cmpstring_i ?_
 simp[go_sem]
 exact wret_0 (argS_no rfl) ⟨rfl,rfl⟩
theorem cmpStr_w (a b:List UInt8):Pure Tryz.prog 224 [.str a,.str b] (.int .i64 (cmpS a b)):=by
 refine VCalls.intro 0 Tryz.func224 Tryz.ntmps224 Tryz.results224 rfl rfl (Nat.le_of_ble_eq_true rfl) fun c hc hb=>wcode_of ?_
 simp[go_sem]
 refine wVC_pure (cmpStr0_w a b) Tryz.callB238 (args_no rfl) rfl ?_
 simp[go_sem]
 exact wret_0 (argS_no rfl) ⟨rfl,rfl⟩
theorem cmpNaN64_w (x:Int):Pure Tryz.prog 237 [.int .i64 x] (.bool false):=by
 refine VCalls.intro 0 Tryz.func237 Tryz.ntmps237 Tryz.results237 rfl rfl (Nat.le_of_ble_eq_true rfl) fun c hc hb=>wcode_of ?_
 simp[go_sem]
 exact wret_0 (argS_no rfl) ⟨rfl,rfl⟩
theorem cmpInt64_w (x y:Int):Pure Tryz.prog 223 [.int .i64 x,.int .i64 y] (.int .i64 (cmpI x y)):=by
 generalize hM:cmpI x y=M
 have ret: ∀(r:Int) (σ:St),r=M→wret (some (.int .i64 r)) 0 (fun r s=>r= .int .i64 M∧s= []) σ:=fun r σ h=>by subst h;exact wret_0 (argS_no rfl) ⟨rfl,rfl⟩
 unfold cmpI at hM
 refine VCalls.intro 0 Tryz.func223 Tryz.ntmps223 Tryz.results223 rfl rfl (Nat.le_of_ble_eq_true rfl) fun c hc hb=>wcode_of ?_
 simp[go_sem]
 refine wVC_pure (cmpNaN64_w x) Tryz.callB237 (args_no rfl) rfl ?_
 simp[go_sem]
 refine wVC_pure (cmpNaN64_w y) Tryz.callB237 (args_no rfl) rfl ?_
 simp[go_sem]
 repeat' (first|(refine wcond_i (fun q=> ?_) (fun q=> ?_)<;>simp[go_sem,q]))
 all_goals exact ret _ _ (by rw[←hM];simp only[decide_eq_true_eq,decide_eq_false_iff_not]at*;(repeat' split)<;>omega)
end Go.Proofs.YtajjjghohakniaaGreat
namespace Go.Proofs.YtajjjghohakniaaGreat
open Go Go.Vx R
set_option maxRecDepth 100000
def orL:List Int→Int
 | []=>0
 |x::l=>if x=0 then orL l else x
theorem or_w (l:List Int) (hl:l.length≤maxLen):Pure Tryz.prog 222 [.sl .ro (l.map fun n=> [V.int .i64 n])] (.int .i64 (orL l)):=by
 generalize hM:orL l=M
 have ret: ∀(r:Int) (σ:St),r=M→wret (some (.int .i64 r)) 0 (fun r s=>r= .int .i64 M∧s= []) σ:=fun r σ h=>by subst h;exact wret_0 (argS_no rfl) ⟨rfl,rfl⟩
 refine VCalls.introV 0 Tryz.func222 Tryz.ntmps222 Tryz.results222 rfl rfl (Nat.le_of_ble_eq_true rfl) fun c hc hb=> ?_
 refine wVW_code ?_
 simp[go_sem]
 refine wVW_while (S:=Nat) [3,6,7,8] (fun i=> [.int .i64 0,.sl .ro (l.map fun n=> [V.int .i64 n]),.int .i64 l.length,.int .i64 i]) (fun _=> []) (fun i=>l.length - i) (fun i=>i≤l.length∧orL (l.drop i)=M) hc hb 0 ⟨Nat.zero_le _,hM⟩ ?_ ?_
 ·exact at_0 rfl (args_eq (by simp[go_sem]) rfl)
 rintro i ⟨hi,hinv⟩
 by_cases q:i<l.length
 rotate_left
 ·have e:l.drop i= []:=List.drop_eq_nil_of_le (by omega)
  rw[e]at hinv
  refine wVW_code ?_
  simp[go_sem,q]
  exact ret _ _ hinv
 have ei:=i64_inc q (by unfold maxLen at hl;omega)
 obtain⟨r,hr⟩: ∃r,l[i]=r:=⟨_,rfl⟩
 rw[List.drop_eq_getElem_cons q,orL,hr]at hinv
 refine wVW_code ?_
 simp[go_sem,q,hr]
 by_cases w1:r=0
 ·rw[if_pos w1]at hinv
  have w1':(r !=0)=false:=by simp[w1]
  simp[go_sem,w1',ei]
  exact next_i (i+1) ⟨by omega,⟨q,hinv⟩,at_0 rfl (args_eq (by simp[go_sem]) rfl)⟩
 rw[if_neg w1]at hinv
 have w1':(r !=0)=true:=by simpa using w1
 simp[go_sem,w1']
 exact ret _ _ hinv
def cmpV (a b:GValue):Int:=orL [cmpI a.kind b.kind,cmpI a.n b.n,cmpS a.s b.s]
theorem compare_w (a b:GValue):Pure Tryz.prog 202 [.agg a.row,.agg b.row] (.int .i64 (cmpV a b)):=by
 have h:=or_w [cmpI a.kind b.kind,cmpI a.n b.n,cmpS a.s b.s] (by simp[maxLen])
 have h1:=cmpInt_w a.kind b.kind
 have h2:=cmpInt64_w a.n b.n
 have h3:=cmpStr_w a.s b.s
 unfold cmpV
 generalize orL [cmpI a.kind b.kind,cmpI a.n b.n,cmpS a.s b.s]=M at*
 refine VCalls.intro 0 Tryz.func202 Tryz.ntmps202 Tryz.results202 rfl rfl (Nat.le_of_ble_eq_true rfl) fun c hc hb=>wcode_of ?_
 simp[go_sem]
 refine wdraw [(4,0),(9,0),(14,0),(16,0)] 2 rfl (by kernel_rfl) (by kernel_rfl) ?_
 simp[go_sem]
 refine wVD_pure h1 Tryz.callB87 (fun _=>args_no rfl) rfl ?_
 simp[go_sem]
 refine wVD_pure h2 Tryz.callB223 (fun _=>args_no rfl) rfl ?_
 simp[go_sem]
 refine wVD_pure h3 Tryz.callB224 (fun _=>args_no rfl) rfl ?_
 simp[go_sem]
 refine wVD_pure h Tryz.callB222 (fun _=>⟨argS_ro,trivial⟩) rfl ?_
 simp[go_sem]
 exact wret_0 (argS_no rfl) ⟨rfl,rfl⟩
def valP (x:GValue×Int):V:= .tup [.agg x.1.row,.int .i64 x.2]
def zeroV:GValue:=⟨0,0,[]⟩
def numberF (r:Int×Int):GValue×Int:=if r.2=0 then(⟨2,r.1,[]⟩,0)else(zeroV,r.2)
theorem val_ret {x:GValue×Int} {k n e:Int} {s:List UInt8} {σ:St} (h:x=(⟨k,n,s⟩,e)):wret (some (.tup [.agg [.int .i64 k,.int .i64 n,.str s],.int .i64 e])) 0 (fun v s=>v=valP x∧s= []) σ:=by
 subst h
 exact wret_0 (argS_no rfl) ⟨rfl,rfl⟩
theorem number_w (r:Int×Int):Pure Tryz.prog 199 [.int .i64 r.1,.int .i64 r.2] (valP (numberF r)):=by
 generalize hM:numberF r=M
 unfold numberF at hM
 refine VCalls.intro 0 Tryz.func199 Tryz.ntmps199 Tryz.results199 rfl rfl (Nat.le_of_ble_eq_true rfl) fun c hc hb=>wcode_of ?_
 simp[go_sem]
 by_cases q:r.2=0
 ·rw[if_pos q]at hM
  have q1:(r.2 !=0)=false:=by simpa using q
  simp[go_sem,q1]
  exact val_ret hM.symm
 ·rw[if_neg q]at hM
  have q1:(r.2 !=0)=true:=by simpa using q
  simp[go_sem,q1]
  exact val_ret hM.symm
def holdsF (s:List UInt8) (c:Int):Bool:=
 if s= [61]then c==0 else if s= [60,62]then c !=0 else if s= [60]then decide (c<0)else if s= [60,61]then decide (c≤0)else if s= [62]then decide (0<c)else decide (0≤c)
theorem holds_w (s:List UInt8) (x:Int):Pure Tryz.prog 201 [.str s,.int .i64 x] (.bool (holdsF s x)):=by
 generalize hM:holdsF s x=M
 have ret: ∀(r:Bool) (σ:St),r=M→wret (some (.bool r)) 0 (fun r s=>r= .bool M∧s= []) σ:=fun r σ h=>by subst h;exact wret_0 (argS_no rfl) ⟨rfl,rfl⟩
 unfold holdsF at hM
 refine VCalls.intro 0 Tryz.func201 Tryz.ntmps201 Tryz.results201 rfl rfl (Nat.le_of_ble_eq_true rfl) fun c hc hb=>wcode_of ?_
 simp[go_sem]
 repeat' (first|(refine wcond_i (fun q=> ?_) (fun q=> ?_)<;>simp[go_sem,q]))
 all_goals exact ret _ _ (by rw[←hM];simp only[beq_iff_eq,beq_eq_false_iff_ne,ne_eq]at*;simp_all)
def trueF (v:GValue):Bool:=v.kind==1&&(v.n==1&&v.s.isEmpty)
theorem true_w (v:GValue):Pure Tryz.prog 198 [.agg v.row] (.bool (trueF v)):=by
 have h:=truth_w true
 refine VCalls.intro 0 Tryz.func198 Tryz.ntmps198 Tryz.results198 rfl rfl (Nat.le_of_ble_eq_true rfl) fun c hc hb=>wcode_of ?_
 simp[go_sem]
 refine wdraw [(1,0)] 1 rfl (by kernel_rfl) (by kernel_rfl) ?_
 simp[go_sem]
 refine wVD_pure h Tryz.callB195 (fun _=>args_no rfl) rfl ?_
 simp[go_sem,truthV]
 exact wret_0 (argS_no rfl) ⟨rfl,rfl⟩
end Go.Proofs.YtajjjghohakniaaGreat
namespace Go.Proofs.YtajjjghohakniaaGreat
open Go Go.Vx R
set_option maxRecDepth 100000
def bothL (wins:Int):List GValue→Bool→GValue
 | [],b=>if b=true then zeroV else truthV (wins==0)
 |v::l,b=>if v.kind=0 then bothL wins l true else if v.n=wins then v else bothL wins l b
theorem both_w (l:List GValue) (wins:Int) (hl:l.length≤maxLen):Pure Tryz.prog 197 [.sl .ro (l.map GValue.row),.int .i64 wins] (.agg (bothL wins l false).row):=by
 generalize hM:bothL wins l false=M
 have ret: ∀(v:GValue) (σ:St),v=M→wret (some (.agg v.row)) 0 (fun r s=>r= .agg M.row∧s= []) σ:=fun v σ h=>by subst h;exact wret_0 (argS_no rfl) ⟨rfl,rfl⟩
 refine VCalls.introV 0 Tryz.func197 Tryz.ntmps197 Tryz.results197 rfl rfl (Nat.le_of_ble_eq_true rfl) fun c hc hb=> ?_
 refine wVW_code ?_
 simp[go_sem]
 refine wVW_while (S:=Nat×Bool) [1,4,5,8,9,10] (fun u=> [.int .i64 wins,.ptr 0 0,.bool u.2,.sl .ro (l.map GValue.row),.int .i64 l.length,.int .i64 u.1]) (fun _=> [.box [.int .i64 0,.int .i64 0,.str []]]) (fun u=>l.length - u.1)
  (fun u=>u.1≤l.length∧bothL wins (l.drop u.1) u.2=M) hc hb (0,false) ⟨Nat.zero_le _,hM⟩ ?_ ?_
 ·exact at_n 1 (by simp[go_sem]) rfl (by simp[ltOb,ltC,ltK]) (Nat.zero_le _) (args_lt_eq (by simp[go_sem]) rfl)
 rintro⟨i,b⟩ ⟨hi,hinv⟩
 simp only at hi hinv
 by_cases q:i<l.length
 rotate_left
 ·have e:l.drop i= []:=List.drop_eq_nil_of_le (by omega)
  rw[e,bothL]at hinv
  refine wVW_code ?_
  simp[go_sem,q]
  by_cases w1:b=true
  ·rw[if_pos w1]at hinv
   simp[go_sem,w1]
   exact ret zeroV _ hinv
  ·rw[if_neg w1]at hinv
   have w1':b=false:=by simpa using w1
   simp[go_sem,w1']
   refine wVC_pure (truth_w (wins==0)) Tryz.callB195 (args_no rfl) rfl ?_
   simp[go_sem]
   exact ret _ _ hinv
 have ei:=i64_inc q (by unfold maxLen at hl;omega)
 obtain⟨r,hr⟩: ∃r,l[i]=r:=⟨_,rfl⟩
 rw[List.drop_eq_getElem_cons q,bothL,hr]at hinv
 refine wVW_code ?_
 simp[go_sem,q,hr]
 refine wVC_pure (null_w r) Tryz.callB196 (args_no rfl) rfl ?_
 simp[go_sem]
 by_cases w1:r.kind=0
 ·rw[if_pos w1]at hinv
  have w1':(r.kind==0)=true:=by simpa using w1
  simp[go_sem,w1',ei]
  exact next_i (i+1,true) ⟨by simp only;omega,⟨q,hinv⟩,at_n 1 (by simp[go_sem]) rfl (by simp[ltOb,ltC,ltK]) (Nat.zero_le _) (args_lt_eq (by simp[go_sem]) rfl)⟩
 rw[if_neg w1]at hinv
 have w1':(r.kind==0)=false:=by simpa using w1
 by_cases w2:r.n=wins
 ·rw[if_pos w2]at hinv
  have w2':(r.n==wins)=true:=by simpa using w2
  simp[go_sem,w1',w2']
  exact ret r _ hinv
 rw[if_neg w2]at hinv
 have w2':(r.n==wins)=false:=by simpa using w2
 simp[go_sem,w1',w2',ei]
 exact next_i (i+1,b) ⟨by simp only;omega,⟨q,hinv⟩,at_n 1 (by simp[go_sem]) rfl (by simp[ltOb,ltC,ltK]) (Nat.zero_le _) (args_lt_eq (by simp[go_sem]) rfl)⟩
end Go.Proofs.YtajjjghohakniaaGreat
