/-
  What a lot needs, of every lot that is not too great; used by the theorem at the end of the claim.
  Conditions: as each theorem states them.
-/
import Derived.Test.YtefbicjgbaaieaaGreatKAP
import Derived.Test.YtefbicjgbaaieaaGreatKAR
import Derived.Lib.Bytealg
import Derived.Test.YtefbicjgbaaieaaGreatKAN
import Derived.Test.YtefbicjgbaaieaaGreatKAO
import Derived.Test.YtefbicjgbaaieaaGreatKAS
set_option maxHeartbeats 8000000
namespace Go.Proofs.YtefbicjgbaaieaaGreat
open Go Go.Vx R Go.Proofs.Tryz
set_option maxRecDepth 100000
variable {a:Int}{σ:St}
abbrev okI (n:Int):Prop:= -9223372036854775808<=n/\n<=9223372036854775807
def rngF (n:Int):Int×Int:=if okI n then(n,0)else(0,5)
theorem zN1 {n:Int} (h:okI n):IntKind.i64.wrap n=n:=Vx.i64_id h.1 h.2
theorem zU7 (a b:Int) (ha:okI a) (aa:okI b):Pure prog 291 [.int .i64 a,.int .i64 b] (wC (rngF (a+b))):=by
 generalize hM:rngF (a+b)=M
 unfold rngF at hM
 have q:(0<b/\decide (0<b)=true/\decide (b<0)=false)∨(b<0/\decide (0<b)=false/\decide (b<0)=true)∨(b=0/\decide (0<b)=false/\decide (b<0)=false):=by
  simp only[decide_eq_true_eq,decide_eq_false_iff_not];omega
 unfold okI at ha aa hM
 refine iW 0 func291 ntmps291 results291 fun c hc hb=>zL ?_
 rcases q with ⟨q,q1,q2⟩|⟨q,q1,q2⟩|⟨q,q1,q2⟩
 .have w1:IntKind.i64.wrap (9223372036854775807 - b)=9223372036854775807 - b:=zN1 ⟨om,om⟩
  by_cases r:9223372036854775807 - b<a
  .have r':decide (9223372036854775807 - b<a)=true:=decide_eq_true r
   simp[go_sem,q1,w1,r']
   exact wO (by rw[<-hM,if_neg om])
  .have r':decide (9223372036854775807 - b<a)=false:=decide_eq_false r
   have w2:IntKind.i64.wrap (a+b)=a+b:=zN1 ⟨om,om⟩
   simp[go_sem,q1,q2,w1,r',w2]
   exact wO (by rw[<-hM,if_pos om])
 .have w1:IntKind.i64.wrap (-9223372036854775808 - b)= -9223372036854775808 - b:=zN1 ⟨om,om⟩
  by_cases r:a< -9223372036854775808 - b
  .have r':decide (a< -9223372036854775808 - b)=true:=decide_eq_true r
   simp[go_sem,q1,q2,w1,r']
   exact wO (by rw[<-hM,if_neg om])
  .have r':decide (a< -9223372036854775808 - b)=false:=decide_eq_false r
   have w2:IntKind.i64.wrap (a+b)=a+b:=zN1 ⟨om,om⟩
   simp[go_sem,q1,q2,w1,r',w2]
   exact wO (by rw[<-hM,if_pos om])
 .have w2:IntKind.i64.wrap (a+b)=a+b:=zN1 ⟨om,om⟩
  simp[go_sem,q1,q2,w2]
  exact wO (by rw[<-hM,if_pos om])
theorem yh5 (x:Nat) (hx:x<18446744073709551616):ze2 .and .u64 (x:Int) 4294967295=((x%4294967296:Nat):Int):=by
 unfold ze2
 have h1:(BitVec.ofInt IntKind.u64.bits (x:Int)).toNat=x:=by
  rw[BitVec.toNat_ofInt]
  show((x:Int)%(18446744073709551616:Nat)).toNat=x
  omega
 have h2:(BitVec.ofInt IntKind.u64.bits 4294967295).toNat=4294967295:=dC
 simp only[BitVec.toNat_and,h1,h2]
 have h3:=Nat.and_two_pow_sub_one_eq_mod x 32
 have h4:(2:Nat)^32 - 1=4294967295:=dC
 have h5:(2:Nat)^32=4294967296:=dC
 rw[h4,h5]at h3
 rw[h3]
 exact Vx.u64_id om om
theorem zS9 (x:Nat):(x:Int).fdiv 4294967296=((x/4294967296:Nat):Int):=by
 rw[Cl _ dC]
 rfl
theorem wi6 (n:Nat):IntKind.u64.wrap (n:Int)=((n%18446744073709551616:Nat):Int):=by
 unfold IntKind.wrap
 simp[IntKind.bits,IntKind.signed]
theorem natU {n:Nat} (h:n<18446744073709551616):IntKind.u64.wrap (n:Int)=(n:Int):=Vx.u64_id om om
theorem xp3 (a b c d:Nat) (ha:a<4294967296) (hb:b<4294967296) (hc:c<4294967296) (hd:d<4294967296):
  a*d<=18446744065119617025/\b*c<=18446744065119617025/\a*c<=18446744065119617025/\b*d<=18446744065119617025/\
  (a*4294967296+b)*(c*4294967296+d)=(a*c)*18446744073709551616+(a*d)*4294967296+(b*c)*4294967296+b*d:=by
 have m: ∀x y:Nat,x<4294967296->y<4294967296->x*y<=18446744065119617025:=fun x y hx hy=>by
  have:=Nat.mul_le_mul (show x<=4294967295 by omega) (show y<=4294967295 by omega)
  simpa using this
 refine⟨m _ _ ha hd,m _ _ hb hc,m _ _ ha hc,m _ _ hb hd, ?_⟩
 rw[B4,Nat.mul_add,Nat.mul_add]
 have e1:a*4294967296*(c*4294967296)=(a*c)*18446744073709551616:=by
  rw[Nat.mul_mul_mul_comm]
 have e2:a*4294967296*d=(a*d)*4294967296:=by rw[Nat.mul_right_comm]
 have e3:b*(c*4294967296)=(b*c)*4294967296:=by rw[El]
 rw[e1,e2,e3]
 omega
theorem zm8 (x y:Nat):(x:Int)*(y:Int)=((x*y:Nat):Int):=sm
theorem zQ4 (x y:Nat):(x:Int)+(y:Int)=((x+y:Nat):Int):=sm
theorem xL0 (x y:Nat) (hx:x<18446744073709551616) (hy:y<18446744073709551616):Pure prog 360 [.int .u64 x,.int .u64 y] (.tup [.int .u64 ((x*y/18446744073709551616:Nat):Int),.int .u64 ((x*y%18446744073709551616:Nat):Int)]):=by
 obtain⟨m1,m2,m3,m4,m5⟩:=xp3 (x/4294967296) (x%4294967296) (y/4294967296) (y%4294967296) om om om om
 have ex:x/4294967296*4294967296+x%4294967296=x:=Nat.div_add_mod' x 4294967296
 have ey:y/4294967296*4294967296+y%4294967296=y:=Nat.div_add_mod' y 4294967296
 rw[ex,ey]at m5
 have a1:=yh5 x hx
 have a2:=yh5 y hy
 have a3:=zS9 x
 have a4:=zS9 y
 generalize aa:x/4294967296=x1 at*
 generalize ab:x%4294967296=x0 at*
 generalize ad:y/4294967296=y1 at*
 generalize ae:y%4294967296=y0 at*
 obtain⟨p,hp⟩: ∃p,p=x1*y1:=⟨_,rfl⟩
 obtain⟨q,hq⟩: ∃q,q=x1*y0:=⟨_,rfl⟩
 obtain⟨r,hr⟩: ∃r,r=x0*y1:=⟨_,rfl⟩
 obtain⟨s,hs⟩: ∃s,s=x0*y0:=⟨_,rfl⟩
 rw[<-hq]at m1 m5
 rw[<-hr]at m2 m5
 rw[<-hp]at m3 m5
 rw[<-hs]at m4 m5
 refine iW 0 func360 ntmps360 results360 fun c hc hb=>zL ?_
 simp[go_sem,a1,a2,a3,a4]
 refine wG (zC rfl) ⟨?_,rfl⟩
 rw[zm8 x1 y1,<-hp,zm8 x1 y0,<-hq,zm8 x0 y1,<-hr,zm8 x0 y0,<-hs,natU (n:=s) om,natU (n:=p) om,natU (n:=q) om,natU (n:=r) om,zS9 s,
  zQ4,natU (n:=q+s/4294967296) om,zS9,yh5 _ om,zQ4,zQ4,natU (n:=p+(q+s/4294967296)/4294967296) om,natU (n:=(q+s/4294967296)%4294967296+r) om,zS9,zQ4,natU om,zm8,wi6]
 have e:p+(q+s/4294967296)/4294967296+((q+s/4294967296)%4294967296+r)/4294967296=x*y/18446744073709551616:=by
  rw[m5]
  omega
 rw[e]
 rfl
theorem xK3 (h:a<0) (h2: -9223372036854775808<=a):IntKind.u64.wrap (-IntKind.u64.wrap a)=(a.natAbs:Int):=by
 have e:IntKind.u64.wrap a=a+18446744073709551616:=by
  unfold IntKind.wrap
  simp[IntKind.bits,IntKind.signed]
  omega
 rw[e]
 unfold IntKind.wrap
 simp[IntKind.bits,IntKind.signed]
 omega
theorem xG4 (a:Int) (ha:okI a):Pure prog 361 [.int .i64 a] (.int .u64 (a.natAbs:Int)):=by
 unfold okI at ha
 refine iW 0 func361 ntmps361 results361 fun c hc hb=>zL ?_
 simp[go_sem]
 by_cases q:a<0
 .have q1:decide (a<0)=true:=decide_eq_true q
  simp[go_sem,q1]
  refine wG (zC rfl) ⟨?_,rfl⟩
  rw[xK3 q ha.1]
 .have q1:decide (a<0)=false:=decide_eq_false q
  simp[go_sem,q1]
  refine wG (zC rfl) ⟨?_,rfl⟩
  rw[Vx.u64_id om om]
  congr 1
  omega
def yh8 (a b:Int):Nat:=if decide (a<0)=decide (b<0)then 9223372036854775807 else 9223372036854775808
theorem wb6 (a b:Int):okI (a*b)↔a.natAbs*b.natAbs<=yh8 a b:=by
 obtain⟨n,hn⟩:=Int.eq_nat_or_neg a
 obtain⟨m,hm⟩:=Int.eq_nat_or_neg b
 have e:a.natAbs=n/\b.natAbs=m:=⟨om,om⟩
 rw[e.1,e.2]
 have z1:n=0->n*m=0:=fun h=>by subst h;exact Dj m
 have z2:m=0->n*m=0:=fun h=>by subst h;exact Nat.mul_zero n
 unfold yh8 okI
 rcases hn with rfl|rfl<;>rcases hm with rfl|rfl
 .rw[zm8,decide_eq_false om,decide_eq_false om,if_pos rfl]
  generalize n*m=p at*
  omega
 .rw[Int.mul_neg,zm8]
  generalize n*m=p at*
  rw[decide_eq_false om]
  by_cases q: -(m:Int)<0
  .rw[decide_eq_true q,if_neg sm];omega
  .rw[decide_eq_false q,if_pos rfl]
   have:=z2 om
   omega
 .rw[Int.neg_mul,zm8]
  generalize n*m=p at*
  rw[decide_eq_false (p:=(m:Int)<0) om]
  by_cases q: -(n:Int)<0
  .rw[decide_eq_true q,if_neg sm];omega
  .rw[decide_eq_false q,if_pos rfl]
   have:=z1 om
   omega
 .rw[Int.neg_mul_neg,zm8]
  generalize n*m=p at*
  by_cases q: -(n:Int)<0<;>by_cases q2: -(m:Int)<0
  .rw[decide_eq_true q,decide_eq_true q2,if_pos rfl];omega
  .have:=z2 om
   rw[decide_eq_true q,decide_eq_false q2,if_neg sm];omega
  .have:=z1 om
   rw[decide_eq_false q,decide_eq_true q2,if_neg sm];omega
  .have:=z1 om
   rw[decide_eq_false q,decide_eq_false q2,if_pos rfl];omega
theorem wb5 (a b:Int):((!(decide (a<0)==decide (b<0)))=true->yh8 a b=9223372036854775808)/\((!(decide (a<0)==decide (b<0)))=false->yh8 a b=9223372036854775807):=by
 unfold yh8
 generalize decide (a<0)=x
 generalize decide (b<0)=y
 cases x<;>cases y<;>simp
theorem we9 (a b:Int) (ha:okI a) (ab:okI b):Pure prog 349 [.int .i64 a,.int .i64 b] (wC (rngF (a*b))):=by
 have af:=xG4 a ha
 have ag:=xG4 b ab
 have ad:a.natAbs<18446744073709551616/\b.natAbs<18446744073709551616:=by unfold okI at ha ab;omega
 have hm:=xL0 a.natAbs b.natAbs ad.1 ad.2
 have hok:=wb6 a b
 have ah:yh8 a b<=9223372036854775808:=by unfold yh8;split<;>omega
 have ae:=wb5 a b
 generalize hP:a.natAbs*b.natAbs=p at*
 have ai:p/18446744073709551616*18446744073709551616+p%18446744073709551616=p:=Nat.div_add_mod' _ _
 have aj:p%18446744073709551616<18446744073709551616:=Do _ dC
 generalize p/18446744073709551616=hi at*
 generalize p%18446744073709551616=lo at*
 generalize hM:rngF (a*b)=M
 unfold rngF at hM
 refine iW 0 func349 ntmps349 results349 fun c hc hb=>zL ?_
 simp[go_sem]
 refine pC af ?_
 simp[go_sem]
 refine pC ag ?_
 simp[go_sem]
 refine pC hm ?_
 simp[go_sem]
 have u1:IntKind.u64.wrap 9223372036854775808=9223372036854775808:=dC
 refine zR (fun v2=> ?_) (fun v2=> ?_)
 .rw[ae.1 v2]at hok
  by_cases q:p<=9223372036854775808
  .have f1:decide (0<hi)=false:=decide_eq_false om
   have f3:decide ((9223372036854775808:Int)<(lo:Int))=false:=decide_eq_false om
   have w:=zN1 (hok.2 q)
   simp[go_sem,f1,f3,w,u1]
   exact wO (by rw[<-hM,if_pos (hok.2 q)])
  .have aa: ¬okI (a*b):=fun h=>q (hok.1 h)
   have f4:decide (0<hi)=true∨(decide (0<hi)=false/\decide ((9223372036854775808:Int)<(lo:Int))=true):=by
    simp only[decide_eq_true_eq,decide_eq_false_iff_not];omega
   rcases f4 with f4|⟨f4,f5⟩
   .simp[go_sem,f4]
    exact wO (by rw[<-hM,if_neg aa])
   .simp[go_sem,f4,f5,u1]
    exact wO (by rw[<-hM,if_neg aa])
 .rw[ae.2 v2]at hok
  by_cases q:p<=9223372036854775807
  .have f1:decide (0<hi)=false:=decide_eq_false om
   have f3:decide ((9223372036854775807:Int)<(lo:Int))=false:=decide_eq_false om
   have w:=zN1 (hok.2 q)
   simp[go_sem,f1,f3,w]
   exact wO (by rw[<-hM,if_pos (hok.2 q)])
  .have aa: ¬okI (a*b):=fun h=>q (hok.1 h)
   have f4:decide (0<hi)=true∨(decide (0<hi)=false/\decide ((9223372036854775807:Int)<(lo:Int))=true):=by
    simp only[decide_eq_true_eq,decide_eq_false_iff_not];omega
   rcases f4 with f4|⟨f4,f5⟩
   .simp[go_sem,f4]
    exact wO (by rw[<-hM,if_neg aa])
   .simp[go_sem,f4,f5]
    exact wO (by rw[<-hM,if_neg aa])
theorem yB8 (a b:Int) (ha:okI a) (ab:okI b):Pure prog 317 [.int .i64 a,.int .i64 b] (wC (rngF (a - b))):=by
 by_cases q:b= -9223372036854775808
 .generalize hM:rngF (a - b)=M
  unfold rngF at hM
  unfold okI at ha
  have q1:(b != -9223372036854775808)=false:=by simpa using q
  refine iW 0 func317 ntmps317 results317 fun c hc hb=>zL ?_
  simp[go_sem,q1]
  by_cases r:0<=a
  .have r1:decide (0<=a)=true:=decide_eq_true r
   simp[go_sem,r1]
   exact wO (by rw[<-hM,if_neg om])
  .have r1:decide (0<=a)=false:=decide_eq_false r
   have w:IntKind.i64.wrap (a - b)=a - b:=zN1 ⟨om,om⟩
   simp[go_sem,r1,w]
   exact wO (by rw[<-hM,if_pos (by unfold okI;omega)])
 .have hn:okI (-b):=by unfold okI at*;omega
  have w:IntKind.i64.wrap (-b)= -b:=zN1 hn
  have q1:(b != -9223372036854775808)=true:=by simpa using q
  have aa:=zU7 a (-b) ha hn
  have e:a+ -b=a - b:=om
  rw[e]at aa
  generalize rngF (a - b)=M at*
  refine iW 0 func317 ntmps317 results317 fun c hc hb=>zL ?_
  simp[go_sem,q1,w]
  refine pC aa ?_
  simp[go_sem,wC]
  exact wR
def zy5 (s:List UInt8) (a b:Int):Int×Int:=
 if s= [43]then rngF (a+b)else if s= [45]then rngF (a - b)else if s= [42]then rngF (a*b)
 else if b=0 then(0,17)else if s= [37]then(a.tmod b,0)else rngF (a.tdiv b)
theorem xT8 {b:Int} (ha:okI a) (hb:okI b):okI (a.tmod b):=by
 unfold okI at*
 by_cases q:b=0
 .subst q;rw[Int.tmod_zero];exact ha
 .have h2:(a.tmod b).natAbs=a.natAbs%b.natAbs:=Int.natAbs_tmod a b
  have h3:a.natAbs%b.natAbs<=a.natAbs:=Nat.mod_le _ _
  have h4:(a.tmod b).natAbs<b.natAbs:=by
   rw[h2];exact Do _ om
  omega
theorem xT7 {b:Int} (ha:okI a) (_hb:okI b) (h:b≠ -1):okI (a.tdiv b):=by
 unfold okI at*
 have h2:(a.tdiv b).natAbs=a.natAbs/b.natAbs:=Int.natAbs_tdiv a b
 by_cases q:b.natAbs<=1
 .have:b=0∨b=1:=om
  rcases this with rfl|rfl
  .rw[Int.tdiv_zero];omega
  .rw[Int.tdiv_one];exact ha
 .have h3:a.natAbs/b.natAbs<=a.natAbs/2:=Nat.div_le_div_left om om
  omega
theorem xF2 (s:List UInt8) (a b:Int) (ha:okI a) (aa:okI b):Pure prog 319 [.str s,.int .i64 a,.int .i64 b] (wC (zy5 s a b)):=by
 have c1:=zU7 a b ha aa
 have c2:=yB8 a b ha aa
 have c3:=we9 a b ha aa
 have c4:=yB8 0 a dC ha
 have e4:rngF (0 - a)=rngF (-a):=by congr 1;omega
 rw[e4]at c4
 have wr: ∀{x:Int×Int} {M:Int×Int} {σ:St},x=M->wret (some (.tup [.int .i64 x.1,.int .i64 x.2])) 0 (fun v s=>v=wC M/\s= []) σ:=fun h=>wO h.symm
 generalize hM:zy5 s a b=M
 unfold zy5 at hM
 refine iW 0 func319 ntmps319 results319 fun c hc hb=>zL ?_
 simp[go_sem]
 by_cases s1:s= [43]
 .simp only[s1,if_pos]at hM
  simp[go_sem,s1]
  refine pC c1 ?_
  simp[go_sem,wC]
  exact wr hM
 by_cases s2:s= [45]
 .rw[if_neg s1,if_pos s2]at hM
  simp[go_sem,s2]
  refine pC c2 ?_
  simp[go_sem,wC]
  exact wr hM
 by_cases s3:s= [42]
 .rw[if_neg s1,if_neg s2,if_pos s3]at hM
  simp[go_sem,s3]
  refine pC c3 ?_
  simp[go_sem,wC]
  exact wr hM
 rw[if_neg s1,if_neg s2,if_neg s3]at hM
 have af:(s== [43])=false:=by simpa using s1
 have ag:(s== [45])=false:=by simpa using s2
 have ah:(s== [42])=false:=by simpa using s3
 simp[go_sem,af,ag,ah]
 by_cases b0:b=0
 .rw[if_pos b0]at hM
  have ab:(b==0)=true:=by simpa using b0
  simp[go_sem,ab]
  exact wO hM.symm
 rw[if_neg b0]at hM
 have ab:(b==0)=false:=by simpa using b0
 simp[go_sem,ab]
 by_cases s4:s= [37]
 .rw[if_pos s4]at hM
  have ad:(s== [37])=true:=by simpa using s4
  simp[go_sem,ad]
  refine zI b0 ?_
  simp[go_sem]
  exact wO hM.symm
 rw[if_neg s4]at hM
 have ad:(s== [37])=false:=by simpa using s4
 simp[go_sem,ad]
 by_cases b1:b= -1
 .rw[b1,Int.tdiv_neg,Int.tdiv_one]at hM
  have ae:(b== -1)=true:=by simpa using b1
  simp[go_sem,ae]
  refine pC c4 ?_
  simp[go_sem,wC]
  exact wr hM
 have ae:(b== -1)=false:=by simpa using b1
 have ok:=xT7 ha aa b1
 unfold rngF at hM
 rw[if_pos ok]at hM
 simp[go_sem,ae,zN1 ok]
 refine zI b0 ?_
 simp[go_sem]
 exact wO hM.symm
def cmpS (a b:List UInt8):Int:=if Op.bytesLess a b=true then -1 else if Op.bytesLess b a=true then 1 else 0
theorem xc1: ∀a b:List UInt8,Lib.compareBytes a b=cmpS a b
 | [],[]=>rfl
 | [],_::_=>rfl
 |_::_,[]=>rfl
 |x::a,y::b=>by
  have ih:=xc1 a b
  rw[Lib.compareBytes]
  unfold cmpS at ih⊢
  rw[yb4,yb4]
  have h1:(x<y)↔x.toNat<y.toNat:=UInt8.lt_iff_toNat_lt
  have h2:(y<x)↔y.toNat<x.toNat:=UInt8.lt_iff_toNat_lt
  by_cases q:x<y
  .have:=h1.1 q
   rw[if_pos q,if_pos this]
   rfl
  by_cases q2:y<x
  .have:=h2.1 q2
   have n1: ¬x.toNat<y.toNat:=fun h=>q (h1.2 h)
   rw[if_neg q,if_pos q2,if_neg n1,if_pos this,if_pos this]
   rfl
  .have n1:=fun h=>q (h1.2 h)
   have n2:=fun h=>q2 (h2.2 h)
   rw[if_neg q,if_neg q2,if_neg n1,if_neg n2,if_neg n2,if_neg n1]
   exact ih
theorem yH9 {a b:List UInt8} {c:Ctx} {K:V->St->Prop} {e:Fx K} (hk:K (.int .i64 (cmpS a b)) σ):wVC prog c (.fn 309 []) [.str a,.str b] σ K e:=by
 refine⟨_,[],rfl,.inr fun w L β aa hm ha=> ?_⟩
 match aa,ha with
 | [v1,v2],⟨h1,h2,_⟩=>
  rw[wV h1,wV h2]
  refine⟨.int .i64 (cmpS a b),.int .i64 (cmpS a b),w,L,σ,β, ?_,hk,hm,Le.refl _ _,Ext.refl _ _,RdP.int _ _⟩
  rw[run_callFunc_extern func309 kR kR kR (e:=Extern.BytealgCompare.compare) kR,Lib.run_compareString]
  rw[List.toList_toArray,List.toList_toArray,xc1]
  rfl
theorem xl7 (a b:List UInt8):Pure prog 247 [.str a,.str b] (.int .i64 (cmpS a b)):=by
 refine iW 0 func247 ntmps247 results247 fun c hc hb=>zL ?_
 simp[go_sem]
 refine yH9 ?_
 simp[go_sem]
 exact wR
theorem yH8 (a b:List UInt8):Pure prog 164 [.str a,.str b] (.int .i64 (cmpS a b)):=by
 refine iW 0 func164 ntmps164 results164 fun c hc hb=>zL ?_
 simp[go_sem]
 refine pC (xl7 a b) ?_
 simp[go_sem]
 exact wR
theorem ye5 (x:Int):Pure prog 303 [.int .i64 x] (.bool false):=by
 refine iW 0 func303 ntmps303 results303 fun c hc hb=>zL ?_
 simp[go_sem]
 exact wR
theorem yU1 (x y:Int):Pure prog 236 [.int .i64 x,.int .i64 y] (.int .i64 (cmpI x y)):=by
 generalize hM:cmpI x y=M
 have ret: ∀(r:Int) (σ:St),r=M->wret (some (.int .i64 r)) 0 (fun r s=>r= .int .i64 M/\s= []) σ:=fun r σ h=>by subst h;exact wR
 unfold cmpI at hM
 refine iW 0 func236 ntmps236 results236 fun c hc hb=>zL ?_
 simp[go_sem]
 refine pC (ye5 x) ?_
 simp[go_sem]
 refine pC (ye5 y) ?_
 simp[go_sem]
 repeat' (first|(refine zR (fun q=> ?_) (fun q=> ?_)<;>simp[go_sem,q]))
 all_goals exact ret _ _ (by rw[<-hM];simp only[decide_eq_true_eq,decide_eq_false_iff_not]at*;(repeat' split)<;>omega)
def orL:List Int->Int
 | []=>0
 |x::l=>if x=0 then orL l else x
theorem or_w (l:List Int) (hl:l.length<=maxLen):Pure prog 163 [.sl .ro (l.map fun n=> [V.int .i64 n])] (.int .i64 (orL l)):=by
 generalize hM:orL l=M
 have ret: ∀(r:Int) (σ:St),r=M->wret (some (.int .i64 r)) 0 (fun r s=>r= .int .i64 M/\s= []) σ:=fun r σ h=>by subst h;exact wR
 refine iV 0 func163 ntmps163 results163 fun c hc hb=> ?_
 refine zA ?_
 simp[go_sem]
 refine zH (S:=Nat) [3,6,7,8] (fun i=> [.int .i64 0,.sl .ro (l.map fun n=> [V.int .i64 n]),.int .i64 l.length,.int .i64 i]) (fun _=> []) (fun i=>l.length - i) (fun i=>i<=l.length/\orL (l.drop i)=M) hc hb 0 ⟨A4 _,hM⟩ ?_ ?_
 .exact aO
 rintro i ⟨hi,hinv⟩
 by_cases q:i<l.length
 rotate_left
 .have e:l.drop i= []:=Ab om
  rw[e]at hinv
  refine zA ?_
  simp[go_sem,q]
  exact ret _ _ hinv
 have ei:=zQ q (by unfold maxLen at hl;omega)
 obtain⟨r,hr⟩:=eX (l[i])
 rw[A8 q,orL,hr]at hinv
 refine zA ?_
 simp[go_sem,q,hr]
 by_cases w1:r=0
 .rw[if_pos w1]at hinv
  have aa:(r !=0)=false:=by simp[w1]
  simp[go_sem,aa,ei]
  exact zG (i+1) ⟨om,⟨q,hinv⟩,aO⟩
 rw[if_neg w1]at hinv
 have aa:(r !=0)=true:=by simpa using w1
 simp[go_sem,aa]
 exact ret _ _ hinv
def cmpV (a b:GValue):Int:=orL [cmpI a.kind b.kind,cmpI a.n b.n,cmpS a.s b.s]
theorem yq2 (a b:GValue):Pure prog 159 [.agg a.row,.agg b.row] (.int .i64 (cmpV a b)):=by
 have h:=or_w [cmpI a.kind b.kind,cmpI a.n b.n,cmpS a.s b.s] (by simp[maxLen])
 have h1:=ye4 a.kind b.kind
 have h2:=yU1 a.n b.n
 have h3:=yH8 a.s b.s
 unfold cmpV
 generalize orL [cmpI a.kind b.kind,cmpI a.n b.n,cmpS a.s b.s]=M at*
 refine iW 0 func159 ntmps159 results159 fun c hc hb=>zL ?_
 simp[go_sem]
 refine yS [(4,0),(9,0),(14,0),(16,0)] 2 rfl kR kR ?_
 simp[go_sem]
 refine pD h1 ?_
 simp[go_sem]
 refine pD h2 ?_
 simp[go_sem]
 refine pD h3 ?_
 simp[go_sem]
 refine pD h ?_
 simp[go_sem]
 exact wR
def valP (x:GValue×Int):V:= .tup [.agg x.1.row,.int .i64 x.2]
def zeroV:GValue:=⟨0,0,[]⟩
def zt8 (r:Int×Int):GValue×Int:=if r.2=0 then(⟨2,r.1,[]⟩,0)else(zeroV,r.2)
theorem xk2 {x:GValue×Int} {k n e:Int} {s:List UInt8} (h:x=(⟨k,n,s⟩,e)):wret (some (.tup [.agg [.int .i64 k,.int .i64 n,.str s],.int .i64 e])) 0 (fun v s=>v=valP x/\s= []) σ:=by
 subst h
 exact wR
theorem yN7 (r:Int×Int):Pure prog 316 [.int .i64 r.1,.int .i64 r.2] (valP (zt8 r)):=by
 generalize hM:zt8 r=M
 unfold zt8 at hM
 refine iW 0 func316 ntmps316 results316 fun c hc hb=>zL ?_
 simp[go_sem]
 by_cases q:r.2=0
 .rw[if_pos q]at hM
  have q1:(r.2 !=0)=false:=by simpa using q
  simp[go_sem,q1]
  exact xk2 hM.symm
 .rw[if_neg q]at hM
  have q1:(r.2 !=0)=true:=by simpa using q
  simp[go_sem,q1]
  exact xk2 hM.symm
def zV7 (s:List UInt8) (c:Int):Bool:=
 if s= [61]then c==0 else if s= [60,62]then c !=0 else if s= [60]then decide (c<0)else if s= [60,61]then decide (c<=0)else if s= [62]then decide (0<c)else decide (0<=c)
theorem xO6 (s:List UInt8) (x:Int):Pure prog 318 [.str s,.int .i64 x] (.bool (zV7 s x)):=by
 generalize hM:zV7 s x=M
 have ret: ∀(r:Bool) (σ:St),r=M->wret (some (.bool r)) 0 (fun r s=>r= .bool M/\s= []) σ:=fun r σ h=>by subst h;exact wR
 unfold zV7 at hM
 refine iW 0 func318 ntmps318 results318 fun c hc hb=>zL ?_
 simp[go_sem]
 repeat' (first|(refine zR (fun q=> ?_) (fun q=> ?_)<;>simp[go_sem,q]))
 all_goals exact ret _ _ (by rw[<-hM];simp only[beq_iff_eq,beq_eq_false_iff_ne,ne_eq]at*;simp_all)
def ya3 (v:GValue):Bool:=v.kind==1&&(v.n==1&&v.s.isEmpty)
theorem xH9 (v:GValue):Pure prog 153 [.agg v.row] (.bool (ya3 v)):=by
 have h:=zM1 true
 refine iW 0 func153 ntmps153 results153 fun c hc hb=>zL ?_
 simp[go_sem]
 refine yS [(1,0)] 1 rfl kR kR ?_
 simp[go_sem]
 refine pD h ?_
 simp[go_sem,zA1]
 exact wR
def zF9 (wins:Int):List GValue->Bool->GValue
 | [],b=>if b=true then zeroV else zA1 (wins==0)
 |v::l,b=>if v.kind=0 then zF9 wins l true else if v.n=wins then v else zF9 wins l b
theorem xu9 (l:List GValue) (aa:Int) (hl:l.length<=maxLen):Pure prog 315 [.sl .ro (l.map GValue.row),.int .i64 aa] (.agg (zF9 aa l false).row):=by
 generalize hM:zF9 aa l false=M
 have ret: ∀(v:GValue) (σ:St),v=M->wret (some (.agg v.row)) 0 (fun r s=>r= .agg M.row/\s= []) σ:=fun v σ h=>by subst h;exact wR
 refine iV 0 func315 ntmps315 results315 fun c hc hb=> ?_
 refine zA ?_
 simp[go_sem]
 refine zH (S:=Nat×Bool) [1,4,5,8,9,10] (fun u=> [.int .i64 aa,.ptr 0 0,.bool u.2,.sl .ro (l.map GValue.row),.int .i64 l.length,.int .i64 u.1]) (fun _=> [.box [.int .i64 0,.int .i64 0,.str []]]) (fun u=>l.length - u.1)
  (fun u=>u.1<=l.length/\zF9 aa (l.drop u.1) u.2=M) hc hb (0,false) ⟨A4 _,hM⟩ ?_ ?_
 .exact aN 1 (by simp[ltOb,ltC,ltK])
 rintro⟨i,b⟩ ⟨hi,hinv⟩
 simp only at hi hinv
 by_cases q:i<l.length
 rotate_left
 .have e:l.drop i= []:=Ab om
  rw[e,zF9]at hinv
  refine zA ?_
  simp[go_sem,q]
  by_cases w1:b=true
  .rw[if_pos w1]at hinv
   simp[go_sem,w1]
   exact ret zeroV _ hinv
  .rw[if_neg w1]at hinv
   have ab:b=false:=by simpa using w1
   simp[go_sem,ab]
   refine pC (zM1 (aa==0)) ?_
   simp[go_sem]
   exact ret _ _ hinv
 have ei:=zQ q (by unfold maxLen at hl;omega)
 obtain⟨r,hr⟩:=eX (l[i])
 rw[A8 q,zF9,hr]at hinv
 refine zA ?_
 simp[go_sem,q,hr]
 refine pC (yC1 r) ?_
 simp[go_sem]
 by_cases w1:r.kind=0
 .rw[if_pos w1]at hinv
  have ab:(r.kind==0)=true:=by simpa using w1
  simp[go_sem,ab,ei]
  exact zG (i+1,true) ⟨by simp only;omega,⟨q,hinv⟩,aN 1 (by simp[ltOb,ltC,ltK])⟩
 rw[if_neg w1]at hinv
 have ab:(r.kind==0)=false:=by simpa using w1
 by_cases w2:r.n=aa
 .rw[if_pos w2]at hinv
  have ad:(r.n==aa)=true:=by simpa using w2
  simp[go_sem,ab,ad]
  exact ret r _ hinv
 rw[if_neg w2]at hinv
 have ad:(r.n==aa)=false:=by simpa using w2
 simp[go_sem,ab,ad,ei]
 exact zG (i+1,b) ⟨by simp only;omega,⟨q,hinv⟩,aN 1 (by simp[ltOb,ltC,ltK])⟩
def cmpOps:List (List UInt8):= [[61],[60,62],[60],[60,61],[62],[62,61]]
def zH1 (s:List UInt8) (l:List GValue):GValue×Int:=
 let x:=l.getD 0 zeroV
 let y:=l.getD 1 zeroV
 if s= [73,83,78,85,76,76]then(zA1 (x.kind==0),0)
 else if s= [78,79,84,78,85,76,76]then(zA1 (!(x.kind==0)),0)
 else if s= [65,78,68]then(zF9 0 l false,0)
 else if s= [79,82]then(zF9 1 l false,0)
 else if(l.any fun v=>v.kind==0)=true then(zeroV,0)
 else if s= [78,79,84]then(zA1 (!ya3 x),0)
 else if s= [78,69,71]then zt8 (rngF (-x.n))
 else if cmpOps.contains s=true then(zA1 (zV7 s (cmpV x y)),0)
 else zt8 (zy5 s x.n y.n)
theorem zo0 {x:GValue×Int} {M:GValue×Int} (h:x=M):wret (some (.tup [.agg x.1.row,.int .i64 x.2])) 0 (fun v s=>v=valP M/\s= []) σ:=by
 subst h
 exact wR
theorem xZ6 (s:List UInt8) (l:List GValue) (h1:1<=l.length) (h2:l.length<=2) (hn: ∀v∈l,okI v.n) (hs:l.length=1->s= [73,83,78,85,76,76]∨s= [78,79,84,78,85,76,76]∨s= [78,79,84]∨s= [78,69,71]):
  Pure prog 254 [.str s,.sl .ro (l.map GValue.row)] (valP (zH1 s l)):=by
 obtain⟨x,hx⟩:=eX (l[0]'h1)
 have ag:l.getD 0 zeroV=x:=by rw[A7,A0 h1,hx];rfl
 have an:l[0]? =some x:=by rw[A0 h1,hx]
 have aa:0<l.length:=h1
 have ad:okI x.n:=hn x (hx▸Aa h1)
 generalize hM:zH1 s l=M
 have ret: ∀(v:GValue) (e:Int) (σ:St),(v,e)=M->wret (some (.tup [.agg v.row,.int .i64 e])) 0 (fun r s=>r=valP M/\s= []) σ:=fun v e σ h=>zo0 h
 unfold zH1 at hM
 simp only[ag]at hM
 refine iV 0 func254 ntmps254 results254 fun c hc hb=> ?_
 by_cases a1:s= [73,83,78,85,76,76]
 .rw[if_pos a1]at hM
  refine zA ?_
  simp[go_sem,a1,aa,hx]
  refine pC (yC1 x) ?_
  simp[go_sem]
  refine pC (zM1 (x.kind==0)) ?_
  simp[go_sem]
  exact ret _ _ _ hM
 by_cases a2:s= [78,79,84,78,85,76,76]
 .rw[if_neg a1,if_pos a2]at hM
  refine zA ?_
  simp[go_sem,a2,aa,hx]
  refine pC (yC1 x) ?_
  simp[go_sem]
  refine pC (zM1 (!(x.kind==0))) ?_
  simp[go_sem]
  exact ret _ _ _ hM
 by_cases a3:s= [65,78,68]
 .rw[if_neg a1,if_neg a2,if_pos a3]at hM
  refine zA ?_
  simp[go_sem,a3]
  refine pC (xu9 l 0 (by unfold maxLen;omega)) ?_
  simp[go_sem]
  exact ret _ _ _ hM
 by_cases a4:s= [79,82]
 .rw[if_neg a1,if_neg a2,if_neg a3,if_pos a4]at hM
  refine zA ?_
  simp[go_sem,a4]
  refine pC (xu9 l 1 (by unfold maxLen;omega)) ?_
  simp[go_sem]
  exact ret _ _ _ hM
 rw[if_neg a1,if_neg a2,if_neg a3,if_neg a4]at hM
 have b1:(s== [73,83,78,85,76,76])=false:=by simpa using a1
 have b2:(s== [78,79,84,78,85,76,76])=false:=by simpa using a2
 have b3:(s== [65,78,68])=false:=by simpa using a3
 have b4:(s== [79,82])=false:=by simpa using a4
 refine zA ?_
 simp[go_sem,b1,b2,b3,b4]
 refine zH (S:=Nat) [0,1,4,5,32,33,34] (fun i=> [.str s,.sl .ro (l.map GValue.row),.ptr 0 0,.int .i64 0,.sl .ro (l.map GValue.row),.int .i64 l.length,.int .i64 i]) (fun _=> [.box [.int .i64 0,.int .i64 0,.str []]]) (fun i=>l.length - i)
  (fun i=>i<=l.length/\((l.drop i).any fun v=>v.kind==0)=(l.any fun v=>v.kind==0)) hc hb 0 ⟨A4 _,rfl⟩ ?_ ?_
 .exact aN 1 (by simp[ltOb,ltC,ltK])
 rintro i ⟨hi,hinv⟩
 by_cases q:i<l.length
 .have ei:=zQ q om
  obtain⟨r,hr⟩:=eX (l[i])
  rw[A8 q,List.any_cons,hr]at hinv
  refine zA ?_
  simp[go_sem,q,hr]
  refine pC (yC1 r) ?_
  simp[go_sem]
  by_cases w1:r.kind=0
  .have ab:(r.kind==0)=true:=by simpa using w1
   rw[ab,Dx]at hinv
   rw[if_pos hinv.symm]at hM
   simp[go_sem,ab]
   exact ret zeroV 0 _ hM
  .have ab:(r.kind==0)=false:=by simpa using w1
   rw[ab,Cb]at hinv
   simp[go_sem,ab,ei]
   exact zG (i+1) ⟨om,⟨q,hinv⟩,aN 1 (by simp[ltOb,ltC,ltK])⟩
 have e:l.drop i= []:=Ab om
 rw[e,List.any_nil]at hinv
 rw[if_neg (by rw[<-hinv];exact Bool.false_ne_true)]at hM
 by_cases a5:s= [78,79,84]
 .rw[if_pos a5]at hM
  refine zA ?_
  simp[go_sem,q,a5,aa,hx]
  refine pC (xH9 x) ?_
  simp[go_sem]
  refine pC (zM1 (!ya3 x)) ?_
  simp[go_sem]
  exact ret _ _ _ hM
 by_cases a6:s= [78,69,71]
 .rw[if_neg a5,if_pos a6]at hM
  refine zA ?_
  simp[go_sem,q,a6,aa,hx]
  refine pC (yB8 0 x.n dC ad) ?_
  simp[go_sem,wC]
  refine pC (yN7 (rngF (-x.n))) ?_
  simp[go_sem,valP]
  exact zo0 hM
 rw[if_neg a5,if_neg a6]at hM
 have h3:1<l.length:=by
  by_cases q:1<l.length
  .exact q
  .rcases hs om with h|h|h|h
   .exact absurd h a1
   .exact absurd h a2
   .exact absurd h a5
   .exact absurd h a6
 obtain⟨y,hy⟩:=eX (l[1]'h3)
 have ah:l.getD 1 zeroV=y:=by rw[A7,A0 h3,hy];rfl
 have ai:okI y.n:=hn y (hy▸Aa h3)
 rw[ah]at hM
 have b5:(s== [78,79,84])=false:=by simpa using a5
 have b6:(s== [78,69,71])=false:=by simpa using a6
 have aj:=yq2 x y
 have ae:=xO6 s (cmpV x y)
 have af:=zM1 (zV7 s (cmpV x y))
 have ak:=xF2 s x.n y.n ad ai
 have al:=yN7 (zy5 s x.n y.n)
 by_cases a7:cmpOps.contains s=true
 .rw[if_pos a7]at hM
  have a8:s= [61]∨s= [60,62]∨s= [60]∨s= [60,61]∨s= [62]∨s= [62,61]:=by
   simpa[cmpOps]using a7
  rcases a8 with a8|a8|a8|a8|a8|a8
  all_goals
   rw[a8]at ae af hM
   refine zA ?_
   simp[go_sem,q,a8]
   refine yS [(7,0),(8,0),(9,0)] 1 rfl kR kR ?_
   simp[go_sem,aa,hx,h3,hy]
   refine zI om ?_
   simp[go_sem]
   refine pD aj ?_
   simp[go_sem]
   refine pD ae ?_
   simp[go_sem]
   refine pD af ?_
   simp[go_sem]
   exact ret _ _ _ hM
 rw[if_neg a7]at hM
 have a8: ¬s= [61]/\ ¬s= [60,62]/\ ¬s= [60]/\ ¬s= [60,61]/\ ¬s= [62]/\ ¬s= [62,61]:=by
  simpa[cmpOps]using a7
 have c1:(s== [61])=false:=by simpa using a8.1
 have c2:(s== [60,62])=false:=by simpa using a8.2.1
 have c3:(s== [60])=false:=by simpa using a8.2.2.1
 have c4:(s== [60,61])=false:=by simpa using a8.2.2.2.1
 have c5:(s== [62])=false:=by simpa using a8.2.2.2.2.1
 have c6:(s== [62,61])=false:=by simpa using a8.2.2.2.2.2
 refine zA ?_
 simp[go_sem,q,b5,b6,c1,c2,c3,c4,c5,c6]
 refine yS [(9,0),(12,0)] 1 rfl kR kR ?_
 simp[go_sem,aa,hx,h3,hy]
 refine zI om ?_
 simp[go_sem]
 refine pD ak ?_
 simp[go_sem,wC]
 refine pD al ?_
 simp[go_sem,valP]
 exact zo0 hM
mutual
def evF (T:GTable) (row:List GValue):GExpr->GValue×Int
 | .mk k s v args=>
  if k=1 then(v,0)else if k=2 then(row.getD (colF T s).toNat zeroV,0)
  else if(evsF T row args).2≠0 then(zeroV,(evsF T row args).2)else zH1 s (evsF T row args).1
def evsF (T:GTable) (row:List GValue):List GExpr->List GValue×Int
 | []=>([],0)
 |e::l=>if(evF T row e).2≠0 then([],(evF T row e).2)else((evF T row e).1::(evsF T row l).1,(evsF T row l).2)
end
theorem xx6 (T:GTable) (row:List GValue) (e:GExpr):evF T row e=
  if e.kind=1 then(e.v,0)else if e.kind=2 then(row.getD (colF T e.s).toNat zeroV,0)
  else if(evsF T row e.args).2≠0 then(zeroV,(evsF T row e.args).2)else zH1 e.s (evsF T row e.args).1:=by cases e;rw[evF];rfl
structure VK (v:GValue) (k:Int):Prop where
 may:mayF v=true
 n:okI v.n
 kind:v.kind=k∨v.kind=0
theorem zM2 (k:Int):VK zeroV k:=⟨dC,dC,.inr rfl⟩
theorem zT7 (b:Bool):VK (zA1 b) 1:=by cases b<;>exact⟨dC,dC,.inl rfl⟩
theorem yD2 (n:Int):okI (rngF n).1:=by
 unfold rngF
 split
 .assumption
 .decide
theorem yX5 {s:List UInt8} {a b:Int} (ha:okI a) (hb:okI b):okI (zy5 s a b).1:=by
 unfold zy5
 repeat' split
 all_goals first|exact yD2 _|exact xT8 ha hb|decide
theorem yw4 {r:Int×Int} (h:okI r.1):VK (zt8 r).1 2:=by
 unfold zt8
 split
 .exact⟨rfl,h,.inl rfl⟩
 .exact zM2 2
theorem yd1 (w:Int): ∀(l:List GValue) (b:Bool),(∀v∈l,VK v 1)->VK (zF9 w l b) 1
 | [],b,_=>by
  rw[zF9]
  split
  .exact zM2 1
  .exact zT7 _
 |v::l,b,h=>by
  rw[zF9]
  split
  .exact yd1 w l true fun x hx=>h x (An _ hx)
  .split
   .exact h v (Au ..)
   .exact yd1 w l b fun x hx=>h x (An _ hx)
theorem zC1 {m s:Bool} {k k':Int} (h:zT3 m s k=(k',0)):m=true/\s=true/\k'=k:=by
 unfold zT3 at h
 cases m<;>cases s<;>simp at h
 exact⟨rfl,rfl,h.symm⟩
inductive OpK (s:List UInt8) (ks:List Int) (k:Int):Prop
 |null (hs:s= [73,83,78,85,76,76]∨s= [78,79,84,78,85,76,76]) (hl:ks.length=1) (hk:k=1)
 |not (hs:s= [78,79,84]) (hl:ks.length=1) (ha:allK ks 1=true) (hk:k=1)
 |neg (hs:s= [78,69,71]) (hl:ks.length=1) (ha:allK ks 2=true) (hk:k=2)
 |both (hs:s= [79,82]∨s= [65,78,68]) (hl:ks.length=2) (ha:allK ks 1=true) (hk:k=1)
 |sum (hs:s= [43]∨s= [45]∨s= [42]∨s= [47]∨s= [37]) (hl:ks.length=2) (ha:allK ks 2=true) (hk:k=2)
 |cmp (hs:s= [61]∨s= [60,62]∨s= [60]∨s= [60,61]∨s= [62]∨s= [62,61]) (hl:ks.length=2) (hk:k=1)
theorem xE3 {s:List UInt8} {ks:List Int} {k:Int} (h:zv8 s ks=(k,0)):OpK s ks k:=by
 have one:((ks.length:Int)==1)=true->ks.length=1:=fun h=>by
   have:(ks.length:Int)=1:=by simpa using h
   omega
 have two:((ks.length:Int)==2)=true->ks.length=2:=fun h=>by
   have:(ks.length:Int)=2:=by simpa using h
   omega
 unfold zv8 at h
 split at h
 .obtain⟨h1,_,h3⟩:=zC1 h;exact .null (by assumption) (one h1) h3
 split at h
 .obtain⟨h1,h2,h3⟩:=zC1 h;exact .not (by assumption) (one h1) h2 h3
 split at h
 .obtain⟨h1,h2,h3⟩:=zC1 h;exact .neg (by assumption) (one h1) h2 h3
 split at h
 .obtain⟨h1,h2,h3⟩:=zC1 h;exact .both (by assumption) (two h1) h2 h3
 split at h
 .obtain⟨h1,h2,h3⟩:=zC1 h;exact .sum (by assumption) (two h1) h2 h3
 split at h
 .obtain⟨h1,_,h3⟩:=zC1 h;exact .cmp (by assumption) (two h1) h3
 .cases h
theorem yG2 {R:GValue->Int->Prop}: ∀{l:List GValue} {ks:List Int},All2 R l ks->l.length=ks.length
 | [],[],_=>rfl
 |_::_,_::_,⟨_,h⟩=>by rw[Ag,Ag,yG2 h]
theorem yx2 {k:Int}: ∀{l:List GValue} {ks:List Int},All2 VK l ks->allK ks k=true-> ∀v∈l,VK v k
 | [],[],_,_,v,hv=>by cases hv
 |x::l,y::ks,⟨h1,h2⟩,ha,v,hv=>by
  unfold allK at ha
  rw[Ar,A6,Bv,beq_iff_eq,beq_iff_eq]at ha
  rcases Ae.1 hv with rfl|hv
  .exact⟨h1.may,h1.n,by
    rcases h1.kind with q|q
    .rcases ha.1 with r|r
     .exact .inl (q.trans r)
     .exact .inr (q.trans r)
    .exact .inr q⟩
  .exact yx2 h2 ha.2 v hv
theorem xt7 {R:GValue->Int->Prop} (hR: ∀v k,R v k->okI v.n): ∀{l:List GValue} {ks:List Int},All2 R l ks-> ∀v∈l,okI v.n
 | [],[],_,v,hv=>by cases hv
 |x::l,y::ks,⟨h1,h2⟩,v,hv=>by
  rcases Ae.1 hv with rfl|hv
  .exact hR _ _ h1
  .exact xt7 hR h2 v hv
theorem xm1 (l:List GValue):zH1 [78,79,84] l=if(l.any fun v=>v.kind==0)=true then(zeroV,0)else(zA1 (!ya3 (l.getD 0 zeroV)),0):=rfl
theorem xm0 (l:List GValue):zH1 [78,69,71] l=if(l.any fun v=>v.kind==0)=true then(zeroV,0)else zt8 (rngF (-(l.getD 0 zeroV).n)):=rfl
theorem xl9 {s:List UInt8} (hs:s= [61]∨s= [60,62]∨s= [60]∨s= [60,61]∨s= [62]∨s= [62,61]) (l:List GValue):
  zH1 s l=if(l.any fun v=>v.kind==0)=true then(zeroV,0)else(zA1 (zV7 s (cmpV (l.getD 0 zeroV) (l.getD 1 zeroV))),0):=by
 rcases hs with rfl|rfl|rfl|rfl|rfl|rfl<;>rfl
theorem xm2 {s:List UInt8} (hs:s= [43]∨s= [45]∨s= [42]∨s= [47]∨s= [37]) (l:List GValue):
  zH1 s l=if(l.any fun v=>v.kind==0)=true then(zeroV,0)else zt8 (zy5 s (l.getD 0 zeroV).n (l.getD 1 zeroV).n):=by
 rcases hs with rfl|rfl|rfl|rfl|rfl<;>rfl
theorem xc8 {s:List UInt8} {l:List GValue} {ks:List Int} {k:Int} (ho:zv8 s ks=(k,0)) (ha:All2 VK l ks):
  VK (zH1 s l).1 k/\1<=l.length/\l.length<=2/\(∀v∈l,okI v.n)/\(l.length=1->s= [73,83,78,85,76,76]∨s= [78,79,84,78,85,76,76]∨s= [78,79,84]∨s= [78,69,71]):=by
 have hlen:=yG2 ha
 have hn:=xt7 (fun _ _ h=>VK.n h) ha
 have hx: ∀j,okI (l.getD j zeroV).n:=fun j=>by
  rw[A7]
  cases hj:l[j]? with
  |none=>decide
  |some v=>exact hn v (As hj)
 have ab: ∀n:Int,okI (rngF n).1:=yD2
 cases xE3 ho with
 |null hs hl hk=>
  subst hk
  refine⟨?_,om,om,hn,fun _=>by rcases hs with h|h<;>simp[h]⟩
  rcases hs with rfl|rfl<;>exact zT7 _
 |not hs hl aa hk=>
  subst hs hk
  refine⟨?_,om,om,hn,fun _=>sm⟩
  rw[xm1]
  split
  .exact zM2 1
  .exact zT7 _
 |neg hs hl aa hk=>
  subst hs hk
  refine⟨?_,om,om,hn,fun _=>sm⟩
  rw[xm0]
  split
  .exact zM2 2
  .exact yw4 (ab _)
 |both hs hl aa hk=>
  subst hk
  refine⟨?_,om,om,hn,fun h=>om⟩
  rcases hs with rfl|rfl
  .exact yd1 1 l false (yx2 ha aa)
  .exact yd1 0 l false (yx2 ha aa)
 |sum hs hl aa hk=>
  subst hk
  refine⟨?_,om,om,hn,fun h=>om⟩
  rw[xm2 hs]
  split
  .exact zM2 2
  .exact yw4 (yX5 (hx 0) (hx 1))
 |cmp hs hl hk=>
  subst hk
  refine⟨?_,om,om,hn,fun h=>om⟩
  rw[xl9 hs]
  split
  .exact zM2 1
  .exact zT7 _
structure RowOk (T:GTable) (row:List GValue):Prop where
 len:row.length=T.cols.length
 cell: ∀(j:Nat) (C:GCol) (v:GValue),T.cols[j]? =some C->row[j]? =some v->VK v C.kind
theorem xd0 {T:GTable} {row:List GValue} (hr:RowOk T row): ∀(n:Nat) (e:GExpr),wE e<=n->Good e->(zk0 T e).2=0->(evF T row e).2=0->VK (evF T row e).1 (zk0 T e).1
 |0,e,h,_,_,_=>by have:=zL0 e;omega
 |n+1,e,h,hg,hk,he=>by
  have ih:=xd0 hr n
  have af:=zj5 e
  rw[xx6]at he⊢
  rw[yg8]at hk⊢
  by_cases q1:e.kind=1
  .rw[if_pos q1]at hk⊢
   rw[if_pos q1]
   by_cases w:e.s.isEmpty=false∨e.args.isEmpty=false∨mayF e.v=false
   .rw[if_pos w]at hk;cases hk
   .rw[if_neg w]
    refine⟨by
      cases hm:mayF e.v with
      |true=>rfl
      |false=>exact absurd (.inr (.inr hm)) w,⟨hg.v.n.1,hg.v.n.2⟩,.inl rfl⟩
  rw[if_neg q1]at hk he⊢
  rw[if_neg q1]
  by_cases q2:e.kind=2
  .rw[if_pos q2]at hk⊢
   rw[if_pos q2]
   by_cases w:colF T e.s<0
   .rw[if_pos w]at hk;cases hk
   rw[if_neg w]at hk⊢
   by_cases w2:e.args.isEmpty=false∨zs0 e.v=false
   .rw[if_pos w2]at hk;cases hk
   rw[if_neg w2]
   obtain⟨j,hj,aa⟩:=zQ6 T e.s w
   have ab:j<row.length:=by rw[hr.len];exact aa
   simp only
   rw[hj,Ay,A7,A0 ab]
   unfold colK
   rw[Ay,A0 aa]
   exact hr.cell j _ _ (A0 aa) (A0 ab)
  rw[if_neg q2]at hk he⊢
  rw[if_neg q2]
  by_cases q3:e.kind=3
  rotate_left
  .rw[if_neg q3]at hk;cases hk
  rw[if_pos q3]at hk⊢
  have ad:=hg.sub
  have list: ∀args:List GExpr,(∀x∈args,x∈e.args)->(wL T args).2=0->(evsF T row args).2=0->All2 VK (evsF T row args).1 (wL T args).1:=by
   intro args
   induction args with
   |nil=>intro _ _ _;exact trivial
   |cons x l ae=>
    intro hm hk he
    rw[wL]at hk⊢
    rw[evsF]at he⊢
    by_cases w1:(zk0 T x).2=0
    rotate_left
    .rw[if_pos w1]at hk;exact absurd hk w1
    by_cases w2:(evF T row x).2=0
    rotate_left
    .rw[if_pos w2]at he;exact absurd he w2
    have n1: ¬(zk0 T x).2≠0:=fun h=>h w1
    have n2: ¬(evF T row x).2≠0:=fun h=>h w2
    rw[if_neg n1]at hk⊢
    rw[if_neg n2]at he⊢
    have hx:=hm x (Au ..)
    have ag:=zl5 e.args x hx
    exact⟨ih x om (ad x hx) w1 w2,ae (fun y hy=>hm y (An _ hy)) hk he⟩
  by_cases w1:(wL T e.args).2=0
  rotate_left
  .rw[if_pos w1]at hk;exact absurd hk w1
  by_cases w2:(evsF T row e.args).2=0
  rotate_left
  .rw[if_pos w2]at he;exact absurd he w2
  have n1: ¬(wL T e.args).2≠0:=fun h=>h w1
  have n2: ¬(evsF T row e.args).2≠0:=fun h=>h w2
  rw[if_neg n1]at hk⊢
  rw[if_neg n2]at he⊢
  by_cases w3:zs0 e.v=false
  .rw[if_pos w3]at hk;cases hk
  rw[if_neg w3]at hk⊢
  exact(xc8 (Et rfl hk) (list e.args (fun _ h=>h) w1 w2)).1
theorem yh0 {T:GTable}: ∀{args:List GExpr},(wL T args).2=0-> ∀x∈args,(zk0 T x).2=0
 | [],_,x,hx=>by cases hx
 |y::l,h,x,hx=>by
  rw[wL]at h
  by_cases w:(zk0 T y).2=0
  .have n1: ¬(zk0 T y).2≠0:=fun h=>h w
   rw[if_neg n1]at h
   rcases Ae.1 hx with rfl|hx
   .exact w
   .exact yh0 h x hx
  .rw[if_pos w]at h;exact absurd h w
theorem xy1 {T:GTable} {row:List GValue} (hr:RowOk T row) (n:Nat): ∀{args:List GExpr},(∀x∈args,wE x<=n/\Good x)->(wL T args).2=0->(evsF T row args).2=0->All2 VK (evsF T row args).1 (wL T args).1
 | [],_,_,_=>trivial
 |x::l,hm,hk,he=>by
  rw[wL]at hk⊢
  rw[evsF]at he⊢
  by_cases w1:(zk0 T x).2=0
  rotate_left
  .rw[if_pos w1]at hk;exact absurd hk w1
  by_cases w2:(evF T row x).2=0
  rotate_left
  .rw[if_pos w2]at he;exact absurd he w2
  have n1: ¬(zk0 T x).2≠0:=fun h=>h w1
  have n2: ¬(evF T row x).2≠0:=fun h=>h w2
  rw[if_neg n1]at hk⊢
  rw[if_neg n2]at he⊢
  have hx:=hm x (Au ..)
  exact⟨xd0 hr n x hx.1 hx.2 w1 w2,xy1 hr n (fun y hy=>hm y (An _ hy)) hk he⟩
theorem yU6 {T:GTable} {row:List GValue} (hr:RowOk T row) (hT:T.cols.length<=maxLen): ∀(n:Nat) (e:GExpr),wE e<=n->Wide e->Good e->(zk0 T e).2=0->Pure prog 178 [.agg T.row,.sl .ro (row.map GValue.row),.agg e.row] (valP (evF T row e))
 |0,e,h,_,_,_=>by have:=zL0 e;omega
 |n+1,e,h,hw,hg,hk=>by
  have ih:=yU6 hr hT n
  have hok:= @xy1 _ _ hr n
  have av:=zj5 e
  have hlen:=hw.len
  have ai:=hw.sub
  have ak:=hg.sub
  have af:=yp5 T e.s hT
  rw[show za2 (fun c:GCol=>c.name==e.s) T.cols 0=colF T e.s from rfl]at af
  obtain⟨M,hM⟩:=eX (evF T row e)
  rw[hM]
  rw[xx6]at hM
  rw[yg8]at hk
  have ret: ∀(v:GValue) (e:Int) (σ:St),(v,e)=M->wret (some (.tup [.agg v.row,.int .i64 e])) 0 (fun r s=>r=valP M/\s= []) σ:=fun v e σ h=>zo0 h
  refine iV 0 func178 ntmps178 results178 fun c hc hb=> ?_
  refine zA ?_
  simp[go_sem]
  by_cases q1:e.kind=1
  .have ag:(e.kind==1)=true:=by simpa using q1
   rw[if_pos q1]at hM
   simp[go_sem,ag]
   exact ret _ _ _ hM
  rw[if_neg q1]at hM hk
  have ag:(e.kind==1)=false:=by simpa using q1
  by_cases q2:e.kind=2
  .have al:(e.kind==2)=true:=by simpa using q2
   rw[if_pos q2]at hM hk
   by_cases w:colF T e.s<0
   .rw[if_pos w]at hk;cases hk
   obtain⟨j,hj,aw⟩:=zQ6 T e.s w
   have ao:j<row.length:=by rw[hr.len];exact aw
   obtain⟨v,hv⟩:=eX (row[j])
   rw[hj,Ay,A7,A0 ao,hv]at hM
   rw[hj]at af
   simp[go_sem,ag,al]
   refine zJ af cB (zN sg rfl) rfl ?_
   simp[go_sem,ao,hv]
   exact ret _ _ _ hM
  rw[if_neg q2]at hM hk
  have al:(e.kind==2)=false:=by simpa using q2
  by_cases q3:e.kind=3
  rotate_left
  .rw[if_neg q3]at hk;cases hk
  rw[if_pos q3]at hk
  obtain⟨args,ab⟩:=eX e.args
  rw[ab]at av hlen ai ak hM hk
  by_cases w1:(wL T args).2=0
  rotate_left
  .rw[if_pos w1]at hk;exact absurd hk w1
  have n1: ¬(wL T args).2≠0:=fun h=>h w1
  rw[if_neg n1]at hk
  by_cases w3:zs0 e.v=false
  .rw[if_pos w3]at hk;cases hk
  rw[if_neg w3]at hk
  have ax:zv8 e.s (wL T args).1=((zv8 e.s (wL T args).1).1,0):=Et rfl hk
  have aq:=yh0 w1
  have aj:(evsF T row args).2=0->All2 VK (evsF T row args).1 (wL T args).1:=fun h=>
   hok (fun x hx=>⟨by have:=zl5 args x hx;omega,ak x hx⟩) w1 h
  obtain⟨K,hK⟩:=eX (evsF T row args)
  rw[hK]at hM aj
  simp[go_sem,ag,al,ab]
  refine zi6 8 3 dC sg ?_
  refine zH (S:=Nat×List GValue) [1,3,5,6,8,29,30,31] (fun u=> [.sl .ro (row.map GValue.row),.ptr 0 0,.ptr 1 0,.ptr 2 0,.sl (.app 3) (u.2.map GValue.row),.sl .ro (args.map GExpr.row),.int .i64 args.length,.int .i64 (u.1:Int)])
   (fun u=> [.box T.row,.box e.row,.box [.int .i64 0,.int .i64 0,.str []],.app u.2.length 3]) (fun u=>args.length - u.1)
   (fun u=>u.1<=args.length/\u.2.length=u.1/\(evsF T row (args.drop u.1)).2=K.2/\(K.2=0->u.2++(evsF T row (args.drop u.1)).1=K.1)) hc hb (0,[])
   ⟨A4 _,rfl,by simp only[Bg];rw[hK],fun _=>by simp only[Bg];rw[hK];rfl⟩ ?_ ?_
  .exact at_n 4 (by simp[go_sem,ab]) rfl (by simp[ltOb,ltC,ltK,GExpr.row_eq,GTable.row]) (A4 _) (zF sg rfl)
  rintro⟨i,l⟩ ⟨hi,hl,hinv,aa⟩
  simp only at hi hl hinv aa
  by_cases q:i<args.length
  rotate_left
  .rw[Ab om,evsF]at hinv aa
   have ae:K.2=0:=hinv.symm
   have ar:l=K.1:=by have:=aa ae;simpa using this
   have n2: ¬K.2≠0:=fun h=>h ae
   rw[if_neg n2,<-ar]at hM
   have hA:=aj ae
   rw[<-ar]at hA
   obtain⟨_,d1,d2,d3,d4⟩:=xc8 ax hA
   have au:=xZ6 e.s l d1 d2 d3 d4
   generalize zH1 e.s l=o at au hM
   refine zA ?_
   simp[go_sem,q]
   refine pC au ?_
   simp[go_sem,valP]
   exact zo0 hM
  have ei:=zQ q om
  obtain⟨x,hx⟩:=eX (args[i])
  have ah:x∈args:=hx▸Aa q
  have ay:=zl5 args x ah
  rw[A8 q,hx,evsF]at hinv aa
  have ad:=ih x om (ai x ah) (ak x ah) (aq x ah)
  generalize evF T row x=kx at ad hinv aa
  by_cases q4:kx.2=0
  .have n3: ¬kx.2≠0:=fun h=>h q4
   rw[if_neg n3]at hinv aa
   have an:(kx.2 !=0)=false:=by simpa using q4
   refine zA ?_
   simp[go_sem,q,hx]
   refine zJ ad cB (zN sg (by rw[GExpr.row_eq];rfl)) rfl ?_
   simp[go_sem,valP,an]
   refine zI ⟨om,by unfold uni;simp⟩ ?_
   simp[go_sem,ei]
   refine zG (i+1,l++ [kx.1]) ⟨by simp only;omega,⟨by simp only;omega,by simp;omega,hinv,fun h=>by have:=aa h;simpa using this⟩, ?_⟩
   exact aN 4 (by simp[ltOb,ltC,ltK,GExpr.row_eq])
  .rw[if_pos q4]at hinv
   have an:(kx.2 !=0)=true:=by simpa using q4
   have ae:kx.2=K.2:=hinv
   rw[if_pos (by rw[<-ae];exact q4),<-ae]at hM
   refine zA ?_
   simp[go_sem,q,hx]
   refine zJ ad cB (zN sg (by rw[GExpr.row_eq];rfl)) rfl ?_
   simp[go_sem,valP,an]
   exact ret zeroV _ _ hM
def noT:GTable:=⟨[],[],0,0,0,⟨[],[],[],0,0,0⟩⟩
theorem xg6:RowOk noT []:=⟨rfl,fun j C v h=>by simp[noT]at h⟩
theorem xC8:noT.cols= []:=rfl
def evN (e:GExpr):GValue×Int:=if(za9 noT e).2≠0 then(zeroV,(za9 noT e).2)else evF noT [] e
theorem xx7 {e:GExpr} (he:EOk e) (h:(evN e).2=0):VK (evN e).1 (za9 noT e).1:=by
 unfold evN at h⊢
 by_cases q:(za9 noT e).2=0
 rotate_left
 .rw[if_pos q]at h;exact absurd h q
 have n1: ¬(za9 noT e).2≠0:=fun h=>h q
 rw[if_neg n1]at h⊢
 have hs:=he.size
 unfold za9 at q⊢
 by_cases d:wE e<=64
 .rw[if_pos d]at q⊢
  exact xd0 xg6 64 e d he.good q h
 .rw[if_neg d]at q;cases q
theorem yw9 (e:GExpr) (he:EOk e):Pure prog 106 [.agg noT.row,.sl .ro [],.agg e.row] (valP (evN e)):=by
 have ab:=yx1 noT (by simp[noT,maxLen]) e he
 have ad:=fun(d:wE e<=64) (k:(zk0 noT e).2=0)=>yU6 xg6 (by simp[noT,maxLen]) 64 e d he.wide he.good k
 generalize hM:evN e=M
 unfold evN at hM
 have ret: ∀(v:GValue) (e:Int) (σ:St),(v,e)=M->wret (some (.tup [.agg v.row,.int .i64 e])) 0 (fun r s=>r=valP M/\s= []) σ:=fun v e σ h=>zo0 h
 refine iV 0 func106 ntmps106 results106 fun c hc hb=> ?_
 refine zA ?_
 simp[go_sem]
 refine zJ ab cB (zN sg (by rw[GExpr.row_eq];rfl)) rfl ?_
 simp[go_sem,wC]
 by_cases q:(za9 noT e).2=0
 rotate_left
 .have q':((za9 noT e).2 !=0)=true:=by simpa using q
  rw[if_pos q]at hM
  simp[go_sem,q']
  exact ret zeroV _ _ hM
 have q':((za9 noT e).2 !=0)=false:=by simpa using q
 have n1: ¬(za9 noT e).2≠0:=fun h=>h q
 rw[if_neg n1]at hM
 have aa:Pure prog 178 [.agg noT.row,.sl .ro [],.agg e.row] (valP (evF noT [] e)):=by
  unfold za9 at q
  by_cases d:wE e<=64
  .rw[if_pos d]at q;exact ad d q
  .rw[if_neg d]at q;cases q
 rw[hM]at aa
 simp[go_sem,q',xC8]
 refine zH (S:=Unit) [1,3,5,6,29,30,31] (fun _=> [.sl .ro [],.ptr 0 0,.ptr 1 0,.ptr 2 0,.sl .ro [],.int .i64 0,.int .i64 0])
   (fun _=> [.box noT.row,.box e.row,.box [.int .i64 0,.int .i64 0,.str []]]) (fun _=>0) (fun _=>True) hc hb () trivial ?_ ?_
 .exact at_n 3 (by simp[go_sem,noT]) rfl (by simp[ltOb,ltC,ltK,GExpr.row_eq,GTable.row]) (A4 _) (zF sg rfl)
 rintro u _
 refine zA ?_
 simp[go_sem]
 refine zJ aa cB (zN sg (by rw[GExpr.row_eq];rfl)) rfl ?_
 simp[go_sem,valP]
 exact zo0 rfl
end Go.Proofs.YtefbicjgbaaieaaGreat
namespace Go.Proofs.YtefbicjgbaaieaaGreat.R
open Go Go.Vx Go.Proofs.Tryz
set_option maxRecDepth 100000
variable {cols:List GCol}
def zy3:List GCol->List GValue->Int
 |c::cs,v::vs=>if mayF v=false then 9 else if v.kind=0/\c.null=false then 16 else if v.kind≠0/\v.kind≠c.kind then 15 else zy3 cs vs
 |_,_=>0
def mayT (cols:List GCol) (row:List GValue):Int:=if row.length≠cols.length then 9 else zy3 cols row
theorem yF9 (t:GTable) (row:List GValue) (hr:row.length<=maxLen):Pure prog 149 [.agg t.row,.sl .ro (row.map GValue.row)] (.int .i64 (mayT t.cols row)):=by
 obtain⟨name,cols,key,place,region,zone⟩:=t
 refine iV 0 func149 ntmps149 results149 fun c hc hb=> ?_
 refine zA ?_
 have ret: ∀(r:Int) (σ:St),r=mayT cols row->wret (some (.int .i64 r)) 0 (fun r s=>r= .int .i64 (mayT cols row)/\s= []) σ:=fun r σ h=>by subst h;exact wR
 simp[go_sem]
 refine zR (fun h=> ?_) (fun h=> ?_)
 .have h:row.length≠cols.length:=by simp at h;omega
  simp[go_sem]
  exact ret _ _ (by rw[mayT,if_pos h])
 have h:row.length=cols.length:=by simp at h;omega
 rw[mayT,if_neg om]at ret⊢
 simp[go_sem]
 refine zH (S:=Nat) [2,13,14,15] (fun i=> [.ptr 0 0,.sl .ro (row.map GValue.row),.int .i64 row.length,.int .i64 i]) (fun _=> [.box (GTable.row ⟨name,cols,key,place,region,zone⟩)]) (fun i=>row.length - i) (fun i=>i<=row.length/\zy3 (cols.drop i) (row.drop i)=zy3 cols row) hc hb 0 ⟨A4 _,rfl⟩ ?_ ?_
 .exact aN 1 rfl
 rintro i ⟨hi,hinv⟩
 refine zA ?_
 simp[go_sem]
 refine zR (fun q=> ?_) (fun q=> ?_)
 .have q:i<row.length:=by simpa using q
  have q2:i<cols.length:=om
  have ei:=zQ q (by unfold maxLen at hr;omega)
  rw[A8 q,A8 q2]at hinv
  obtain⟨⟨k,n,s⟩,hv⟩: ∃v,row[i]=v:=⟨_,rfl⟩
  obtain⟨⟨cn,ck,cb⟩,ab⟩: ∃v,cols[i]=v:=⟨_,rfl⟩
  rw[hv,ab,zy3]at hinv
  simp only at hinv
  simp[go_sem,q,hv]
  refine pC (yp6 ⟨k,n,s⟩) ?_
  simp[go_sem]
  refine zR (fun h1=> ?_) (fun h1=> ?_)
  .have h1:mayF ⟨k,n,s⟩=false:=by simpa using h1
   rw[if_pos h1]at hinv
   simp[go_sem]
   exact ret _ _ hinv
  have h1: ¬mayF ⟨k,n,s⟩=false:=by simpa using h1
  rw[if_neg h1]at hinv
  simp[go_sem]
  refine xE (fun h2=> ?_) (fun h2=> ?_)
  .have aa:k=0:=by simpa using h2
   simp[go_sem,h2,q2,ab]
   refine zR (fun h3=> ?_) (fun h3=> ?_)
   .have h3:cb=false:=by simpa using h3
    rw[if_pos ⟨aa,h3⟩]at hinv
    simp[go_sem]
    exact ret _ _ hinv
   have h3: ¬cb=false:=by simpa using h3
   rw[if_neg (fun w=>h3 w.2),if_neg (fun w=>w.1 aa)]at hinv
   simp[go_sem]
   refine yS [] 2 rfl kR kR ?_
   simp[go_sem,aa,q2,ab,ei]
   exact zG (i+1) ⟨om,⟨q,hinv⟩,aM 1 rfl (zF (by simp[go_sem,ei]) rfl)⟩
  .have aa: ¬k=0:=by simpa using h2
   rw[if_neg (fun w=>aa w.1)]at hinv
   simp[go_sem,h2]
   refine yS [] 2 rfl kR kR ?_
   have ad:(k !=0)=true:=by simpa using aa
   simp[go_sem,ad,q2,ab]
   refine zR (fun h4=> ?_) (fun h4=> ?_)
   .have h4: ¬k=ck:=by simpa using h4
    rw[if_pos ⟨aa,h4⟩]at hinv
    simp[go_sem]
    exact ret _ _ hinv
   have h4:k=ck:=by simpa using h4
   rw[if_neg (fun w=>w.2 h4)]at hinv
   simp[go_sem,ei]
   exact zG (i+1) ⟨om,⟨q,hinv⟩,aM 1 rfl (zF (by simp[go_sem,ei]) rfl)⟩
 .have q:i=row.length:=by
   have: ¬i<row.length:=by simpa using q
   omega
  subst q
  rw[D6,h,D6]at hinv
  simp[go_sem]
  exact ret _ _ hinv
def keyR (n j:Nat) (t:GTable) (row:List GValue) (rg:Int->Int×Int):Int×List UInt8×Int:=
 if mayT t.cols row≠0 then(0,[],mayT t.cols row)
 else
  let r:=rg (if t.place=0 then min (max (row.headD v0).n (-1)) 4 else 0)
  if r.2≠0 then(0,[],r.2)else(r.1,zj0 n j (row.getD t.key.toNat v0),0)
def keyV (r:Int×List UInt8×Int):V:= .tup [.int .i64 r.1,.str r.2.1,.int .i64 r.2.2]
theorem zR8 {r:Int×List UInt8×Int} {a e:Int} {s:List UInt8} {σ:St} (h:r=(a,s,e)):wret (some (.tup [.int .i64 a,.str s,.int .i64 e])) 0 (fun v s=>v=keyV r/\s= []) σ:=by
 subst h
 exact wR
theorem zk1 {row:List GValue} (h:mayT cols row=0):row.length=cols.length:=by
 unfold mayT at h
 split at h
 .cases h
 .rename_i h2;omega
theorem xt2 (ae:List (List V)) (ts:List GTable) (j:Nat) (hj:j<ts.length) (t:GTable) (ht:ts[j]=t) (row:List GValue) (hr:row.length<=maxLen) (hL:mayT t.cols row=0->LightR row) (hn:ts.length<=maxB) (hk:0<=t.key/\t.key<t.cols.length) (rg:Int->Int×Int)
  (ag: ∀r,-1<=r->r<=4->(t.place≠0->r=0)->Pure prog 62 [.agg [.sl .ro ae,.sl .ro (ts.map GTable.row)],.int .i64 j,.int .i64 r] (.tup [.int .i64 (rg r).1,.int .i64 (rg r).2])):
  Pure prog 88 [.agg [.sl .ro ae,.sl .ro (ts.map GTable.row)],.int .i64 j,.sl .ro (row.map GValue.row)] (keyV (keyR ts.length j t row rg)):=by
 have af:=yF9 t row hr
 have hbound: ∀v:GValue,v.ok->v.s.length<=500->_:=fun v h1 h2=>xa8 ae (ts.map GTable.row) j v (by simpa using hn) h1 h2
 simp only[B1]at hbound
 generalize aa:keyR ts.length j t row rg=res
 unfold keyR at aa
 obtain⟨m,hm⟩:=eX (mayT t.cols row)
 have hlen:m=0->row.length=t.cols.length:=fun h=>zk1 (hm.trans h)
 rw[hm]at af hL aa
 obtain⟨name,cols,key,place,region,zone⟩:=t
 simp only at hk hlen aa
 obtain⟨q,rfl⟩: ∃q:Nat,key=q:=⟨key.toNat,om⟩
 refine iV 0 func88 ntmps88 results88 fun c hc hb=> ?_
 refine zA ?_
 simp[go_sem]
 refine pC (is_w ae (ts.map GTable.row) j) ?_
 simp[go_sem,hj,ht]
 refine zJ af cB (zN sg rfl) rfl ?_
 simp[go_sem]
 refine zR (fun h=> ?_) (fun h=> ?_)
 .have h:m≠0:=by simpa using h
  simp[go_sem]
  exact zR8 (by rw[<-aa,if_pos h])
 have h:m=0:=by simpa using h
 have hl:=hlen h
 have hq:q<row.length:=om
 have h0:0<row.length:=om
 have ah:=hL h
 obtain⟨v,hv⟩:=eX (row[q])
 obtain⟨v1,ai⟩: ∃v,row[0]=v:=⟨_,rfl⟩
 have aj:v∈row:=hv▸Aa hq
 have e1:row.headD v0=v1:=by
  rw[<-ai]
  cases row with
  |nil=>simp at h0
  |cons a l=>rfl
 have e2:row.getD q v0=v:=by rw[A7,A0 hq,hv];rfl
 rw[if_neg om,e1,Ay,e2]at aa
 have ak:=hbound v (ah.ok v aj) (ah.s v aj)
 have fin: ∀(x:Int) (σ:St),(if place=0 then min (max v1.n (-1)) 4 else 0)=x->((rg x).2≠0->res=(0,[],(rg x).2))/\((rg x).2=0->res=((rg x).1,zj0 ts.length j v,0)):=fun x σ hx=>by
  rw[hx]at aa
  exact⟨fun w=>by rw[<-aa];exact if_pos w,fun w=>by rw[<-aa];exact if_neg (fun q=>q w)⟩
 simp[go_sem]
 refine zR (fun hp=> ?_) (fun hp=> ?_)
 .have hp:place=0:=by simpa using hp
  simp[go_sem,h0,ai]
  obtain⟨x,hx⟩:=eX ((if 4<if v1.n< -1 then -1 else v1.n then 4 else if v1.n< -1 then -1 else v1.n))
  have al:x=min (max v1.n (-1)) 4:=by rw[<-hx];split<;>split<;>omega
  rw[hx]
  have ab:=fin x [] (by rw[if_pos hp,al])
  have ad:=ag x om om (fun w=>absurd hp w)
  revert ab ad
  generalize rg x=o
  obtain⟨oa,oe⟩:=o
  intro ab ad
  simp only at ab ad
  refine pC ad ?_
  simp[go_sem]
  refine zR (fun w=> ?_) (fun w=> ?_)
  .have w:oe≠0:=by simpa using w
   simp[go_sem]
   exact zR8 (ab.1 w)
  have w:oe=0:=by simpa using w
  simp[go_sem]
  refine yS [(8,0)] 2 rfl kR kR ?_
  simp[go_sem,hq,hv]
  refine pD ak ?_
  simp[go_sem]
  exact zR8 (ab.2 w)
 .have hp: ¬place=0:=by simpa using hp
  have ab:=fin 0 [] (by rw[if_neg hp])
  have ad:=ag 0 om om (fun _=>rfl)
  revert ab ad
  generalize rg 0=o
  obtain⟨oa,oe⟩:=o
  intro ab ad
  simp only at ab ad
  simp[go_sem]
  refine pC ad ?_
  simp[go_sem]
  refine zR (fun w=> ?_) (fun w=> ?_)
  .have w:oe≠0:=by simpa using w
   simp[go_sem]
   exact zR8 (ab.1 w)
  have w:oe=0:=by simpa using w
  simp[go_sem]
  refine yS [(8,0)] 2 rfl kR kR ?_
  simp[go_sem,hq,hv]
  refine pD ak ?_
  simp[go_sem]
  exact zR8 (ab.2 w)
theorem xX8 {n:Nat} (h:n<256):(UInt8.ofNat n).toNat=n:=by
 rw[UInt8.toNat_ofNat']
 exact Ct h
theorem zd8: ∀a:List UInt8,Op.bytesLess a a=false
 | []=>rfl
 |a::l=>by simp[Op.bytesLess,zd8 l]
theorem zq0: ∀a b c:List UInt8,Op.bytesLess a b=true->Op.bytesLess b c=true->Op.bytesLess a c=true
 |_,[],_,h,_=>by simp[Op.bytesLess]at h
 |_,_::_,[],_,h=>by simp[Op.bytesLess]at h
 | [],_::_,_::_,_,_=>rfl
 |a::l,b::m,d::n,h1,h2=>by
  simp only[Op.bytesLess,Bv,decide_eq_true_eq,A6,beq_iff_eq]at*
  rcases h1 with h1|⟨rfl,h1⟩
  .rcases h2 with h2|⟨rfl,h2⟩
   .exact .inl (UInt8.lt_trans h1 h2)
   .exact .inl h1
  .rcases h2 with h2|⟨rfl,h2⟩
   .exact .inl h2
   .exact .inr ⟨rfl,zq0 l m n h1 h2⟩
theorem zA3: ∀a b:List UInt8,Op.bytesLess a b=true∨a=b∨Op.bytesLess b a=true
 | [],[]=> .inr (.inl rfl)
 | [],_::_=> .inl rfl
 |_::_,[]=> .inr (.inr rfl)
 |a::l,b::m=>by
  simp only[Op.bytesLess,Bv,decide_eq_true_eq,A6,beq_iff_eq,List.cons.injEq]
  by_cases h:a<b
  .exact .inl (.inl h)
  .by_cases h2:b<a
   .exact .inr (.inr (.inl h2))
   .have he:a=b:=UInt8.le_antisymm (UInt8.not_lt.1 h2) (UInt8.not_lt.1 h)
    subst he
    rcases zA3 l m with q|rfl|q
    .exact .inl (.inr ⟨rfl,q⟩)
    .exact .inr (.inl ⟨rfl,rfl⟩)
    .exact .inr (.inr (.inr ⟨rfl,q⟩))
theorem zX4: ∀(n i v:Nat) (rest:List UInt8),n<18446744073709551616->(n*128^i<18446744073709551616)->(0<i->0<n)->wP (varF n++rest) i v=(v+n*128^i,i+(varF n).length,0):=by
 intro n
 induction n using Nat.strongRecOn with
 |_ n ih=>
  intro i v rest hn hb h0
  have h9:i=9->n<=1:=fun h=>by
   subst h
   omega
  by_cases h:n<128
  .have e:(UInt8.ofNat n).toNat=n:=xX8 om
   rw[zT6 h]
   show wP (UInt8.ofNat n::rest) i v=_
   rw[wP,e,if_neg om,if_pos h,if_neg om,Ct h]
   rfl
  .have e:(UInt8.ofNat (n%128+128)).toNat=n%128+128:=xX8 om
   rw[yd0 h]
   show wP (UInt8.ofNat (n%128+128)::(varF (n/128)++rest)) i v=_
   rw[wP,e,if_neg om,if_neg om]
   have hdiv:n/128*128^(i+1)<=n*128^i:=by
    rw[Ex,Dh (128^i) 128,<-El]
    exact Ao _ (Nat.div_mul_le_self n 128)
   rw[ih (n/128) om (i+1) _ rest om om (fun _=>om)]
   have e2:(n%128+128)%128=n%128:=om
   rw[e2,Ag]
   have e3:n%128*128^i+n/128*128^(i+1)=n*128^i:=by
    rw[Ex,Dh (128^i) 128,<-El,<-B4]
    congr 1
    omega
   rw[Ds,e3]
   congr 2
   omega
theorem xV5 (n:Int):zagF (zigF n)=n:=by
 unfold zagF zigF
 by_cases h:0<=n
 .rw[if_pos h,if_pos om]
  omega
 .rw[if_neg h,if_neg om]
  omega
theorem zO7 {v:GValue} (h:mayF v=true):(v.kind=0/\v.n=0/\v.s= [])∨(v.kind=1/\(v.n=0∨v.n=1)/\v.s= [])∨(v.kind=2/\v.s= [])∨(v.kind=3/\v.n=0/\v.s.length<=64):=by
 have hk:=yg9 h
 unfold mayF at h
 rcases hk with hk|hk|hk|hk<;>rw[hk]at h⊢ <;>simp at h⊢ <;>exact h
theorem yR1 {v:GValue} (h:mayF v=true) (ho:v.ok) (rest:List UInt8):zg6 (zb1 v++rest)=⟨v,(zb1 v).length,0⟩:=by
 have hp:=zO7 h
 have hi:=ho.n
 obtain⟨k,n,s⟩:=v
 simp only at hp hi
 unfold zb1
 rw[if_pos h]
 simp only
 rcases hp with ⟨rfl,rfl,rfl⟩|⟨rfl,hn,rfl⟩|⟨rfl,rfl⟩|⟨rfl,rfl,hl⟩
 .simp[zg6,zt0,v0]
 .rcases hn with rfl|rfl<;>simp[zg6,zt0,zg1]
 .have hz:=yF5 hi
  have:=zX4 (zigF n) 0 0 rest hz (by simpa using hz) (fun h=>om)
  simp[zg6,zt0,this,xV5]
  omega
 .have ht:=zX4 s.length 0 0 (s++rest) om om (fun h=>om)
  have aa:zc5 (varF s.length++(s++rest))=(s,(varF s.length).length+s.length,0):=by
   unfold zc5
   rw[ht]
   have e1:(varF s.length++(s++rest)).take ((varF s.length).length+s.length)=varF s.length++s:=by
    rw[<-Cy,Cp sm,Al sm]
   unfold wH
   simp only[Ad,Nat.pow_zero,Nat.mul_one,e1,List.drop_left]
   rw[if_neg sm,if_neg om,if_neg sm]
  have ab: ¬64<s.length:=om
  simp[zg6,zt0,aa,ab]
  omega
theorem yv0: ∀(l:List GValue),(∀v∈l,mayF v=true)->(∀v∈l,v.ok)->rowG l.length (l.flatMap zb1)=some l
 | [],_,_=>by simp[rowG]
 |v::l,h,ho=>by
  have h1:=yR1 (h v sm) (ho v sm) (l.flatMap zb1)
  have h2:=yv0 l (fun x hx=>h x (by simp[hx])) (fun x hx=>ho x (by simp[hx]))
  rw[Ag,rowG,C1,h1]
  simp[h2]
theorem zI5: ∀(cs:List GCol) (vs:List GValue),vs.length=cs.length->zy3 cs vs=0-> ∀i (hi:i<cs.length) (hj:i<vs.length),mayF vs[i]=true/\(cs[i].null=false->vs[i].kind=cs[i].kind)
 | [],[],_,_,i,hi,_=>by simp at hi
 |c::cs,v::vs,hl,h,i,hi,hj=>by
  unfold zy3 at h
  split at h
  .cases h
  .rename_i h1
   split at h
   .cases h
   .rename_i h2
    split at h
    .cases h
    .rename_i h3
     cases i with
     |zero=>
      refine⟨by simpa using h1,fun hn=> ?_⟩
      have hn:c.null=false:=hn
      have:v.kind≠0:=fun q=>h2 ⟨q,hn⟩
      exact Decidable.not_not.1 fun q=>h3 ⟨this,q⟩
     |succ i=>exact zI5 cs vs (by simpa using hl) h i (by simpa using hi) (by simpa using hj)
 | [],_::_,hl,_,_,_,_=>by simp at hl
 |_::_,[],hl,_,_,_,_=>by simp at hl
theorem yt5 {row:List GValue} (h:mayT cols row=0):zy3 cols row=0:=by
 unfold mayT at h
 split at h
 .cases h
 .exact h
theorem yM5 {row:List GValue} (h:mayT cols row=0): ∀v∈row,mayF v=true:=fun v hv=>by
 obtain⟨i,hi,rfl⟩:=Dg.1 hv
 exact(zI5 cols row (zk1 h) (yt5 h) i (by rw[<-zk1 h];exact hi) hi).1
theorem xF7 {row:List GValue} (h:mayT cols row=0) (hL:LightR row):rowC cols.length (yO row)=(row,0):=by
 have hl:=zk1 h
 have aa:=hL.len
 have ht:=zX4 row.length 0 0 (row.flatMap zb1) om om (fun h=>om)
 have hd:yO row=varF row.length++row.flatMap zb1:=by unfold yO zG0;rw[Dz]
 unfold rowC
 rw[hd,ht]
 simp[<-hl,yv0 row (yM5 h) hL.ok,rowR]
end Go.Proofs.YtefbicjgbaaieaaGreat.R
namespace Go.Proofs.YtefbicjgbaaieaaGreat
open Go Go.Vx R Go.Proofs.Tryz
set_option maxRecDepth 100000
end Go.Proofs.YtefbicjgbaaieaaGreat
namespace Go.Vx
open Go
end Go.Vx
namespace Go.Proofs.YtefbicjgbaaieaaGreat
open Go Go.Vx R Go.Proofs.Tryz
set_option maxRecDepth 100000
end Go.Proofs.YtefbicjgbaaieaaGreat
namespace Go.Proofs.YtefbicjgbaaieaaGreat
open Go Go.Vx R Go.Proofs.Tryz
set_option maxRecDepth 100000
def yH4 (v:GValue) (C:GCol):Bool:=mayF v&&(v.kind==0||v.kind==C.kind)
def zE2 (cs:List GCol) (row:List GValue):Bool:=decide (row.length=cs.length)&&(row.zip cs).all fun p=>yH4 p.1 p.2
theorem yt4 {T:GTable} {row:List GValue} (h:zE2 T.cols row=true) (hv: ∀v∈row,v.ok):RowOk T row:=by
 unfold zE2 at h
 rw[A6,decide_eq_true_eq]at h
 refine⟨h.1,fun j C v hC hV=> ?_⟩
 have hz:(row.zip T.cols)[j]? =some (v,C):=by rw[List.getElem?_zip_eq_some];exact⟨hV,hC⟩
 have h2:=Af.1 h.2 _ (As hz)
 unfold yH4 at h2
 simp only[A6,Bv,beq_iff_eq]at h2
 have aa:=hv v (As hV)
 exact⟨h2.1,⟨aa.n.1,aa.n.2⟩,h2.2.elim .inr .inl⟩
def evR (T:GTable) (row:List GValue) (e:GExpr):GValue×Int:=if(za9 T e).2≠0 then(zeroV,(za9 T e).2)else if zE2 T.cols row=false then(zeroV,9)else evF T row e
theorem yJ4 (e:GExpr):evR noT [] e=evN e:=rfl
def regC (n:Int):Int:=if 4<(if n< -1 then -1 else n)then 4 else if n< -1 then -1 else n
theorem xR4 (n:Int):regC n= -1∨regC n=0∨regC n=1∨regC n=2∨regC n=3∨regC n=4:=by
 unfold regC
 repeat' split
 all_goals omega
def regN (T:GTable) (r:List GExpr):Option Int:=
 if T.place=0 then(if(evN (r.getD 0 zeroE)).2≠0∨(evN (r.getD 0 zeroE)).1.kind≠2 then none else some (regC (evN (r.getD 0 zeroE)).1.n))else some 0
def rowS (t:Int) (r:List GExpr) (U:US):US:=
 match tabsS[t.toNat]? with
 |none=>U
 |some T=>
  if r.length<=T.key.toNat then U else
  if(evN (r.getD T.key.toNat zeroE)).2≠0∨(evN (r.getD T.key.toNat zeroE)).1.kind=0 then U else
  match regN T r with
  |none=>U
  |some g=>if(yV t g).2≠0 then U else zq9 (yV t g).1 ⟨zj0 3 t (evN (r.getD T.key.toNat zeroE)).1,zj0 3 t (evN (r.getD T.key.toNat zeroE)).1++ [0]⟩ U
theorem xR9 (t:Int) (r:List GExpr) (n:Nat) (U:US) (h:Bd n U):Bd (n+1) (rowS t r U):=by
 unfold rowS
 split
 .exact⟨by have:=h.1;omega,fun y hy=>by have:=h.2 y hy;omega⟩
 .split
  .exact⟨by have:=h.1;omega,fun y hy=>by have:=h.2 y hy;omega⟩
  .split
   .exact⟨by have:=h.1;omega,fun y hy=>by have:=h.2 y hy;omega⟩
   .split
    .exact⟨by have:=h.1;omega,fun y hy=>by have:=h.2 y hy;omega⟩
    .split
     .exact⟨by have:=h.1;omega,fun y hy=>by have:=h.2 y hy;omega⟩
     .exact Bd.need h _ _
section
variable {b:List V} {rows:List (List V)} {A:List Nat} {τ:St}
theorem xz3:(gS b rows A++τ).take (A.length+2)=gS b rows A:=by rw[<-yD (b:=b) (rows:=rows),List.take_left]
end
theorem xI6 {v:GValue} {k:Int} (h:VK v k):v.ok/\v.s.length<=500:=by
 have hm:=h.may
 have hn:=h.n
 unfold mayF at hm
 have:i64R v.kind/\v.s.length<=64:=by
  unfold i64R
  split at hm
  .rename_i q;rw[q];simp at hm;exact⟨dC,by rw[hm.2];decide⟩
  split at hm
  .rename_i q;rw[q];simp at hm;exact⟨dC,by rw[hm.2];decide⟩
  split at hm
  .rename_i q;rw[q];simp at hm;exact⟨dC,by rw[hm];decide⟩
  split at hm
  .rename_i q;rw[q];simp at hm;exact⟨dC,hm.2⟩
  .cases hm
 exact⟨⟨this.1,hn,by unfold maxLen;omega⟩,om⟩
theorem wh3 (tn:Nat) (T:GTable) (hT:tabsS[tn]? =some T) (r:List GExpr) (hr:r.length<=1000) (he: ∀e∈r,EOk e) (N:List (Int×List GSpan×Nat)) (A:List Nat) (h:NOk N A) (hB:Bd 1000 (uOf N)):
  VCalls prog 59 [.ptr 0 0,schR tabsS,.int .i64 tn,.sl .ro (r.map GExpr.row)] (nSt N A) (fun x s=>x= .tup []/\ ∃N' A',s=nSt N' A'/\NOk N' A'/\uOf N'=rowS tn r (uOf N)):=by
 have au: ∃kk:Nat,T.key=(kk:Int):=by
  match tn,hT with
  |0,h=>simp[tabsS]at h;subst h;exact⟨1,rfl⟩
  |1,h=>simp[tabsS]at h;subst h;exact⟨0,rfl⟩
  |2,h=>simp[tabsS]at h;subst h;exact⟨0,rfl⟩
  |n+3,h=>simp[tabsS]at h
 obtain⟨kk,av⟩:=au
 generalize hM:rowS tn r (uOf N)=M
 unfold rowS at hM
 rw[Ay,hT]at hM
 simp only at hM
 rw[av,Ay]at hM
 have done: ∀(τ:St),uOf N=M->wret (some (.tup [])) (A.length+2) (fun x s=>x= .tup []/\ ∃N' A',s=nSt N' A'/\NOk N' A'/\uOf N'=M) (gS [.lsv 1 2 N.length 0 N.length] (N.map nRow) A++τ):=fun τ hM=>
  xA (A.length+2) (s:=gS [.lsv 1 2 N.length 0 N.length] (N.map nRow) A) xz3 yD (ys0 _ _ h) (A5 _) (zC rfl) ⟨rfl,N,A,rfl,h,hM⟩
 have aj:tn<tabsS.length:=(A3.1 hT).1
 have aw:(tn:Int)=0∨(tn:Int)=1∨(tn:Int)=2:=by have:tn<3:=aj;omega
 have a7:tabsS[tn]'aj=T:=(A3.1 hT).2
 have a8:decide ((kk:Int)<0)=false:=decide_eq_false om
 refine VCalls.introV (A.length+2) func59 ntmps59 results59 rfl (by simp[nSt,gS]) (Ci rfl) fun c hc hb=> ?_
 refine zA ?_
 unfold nSt
 rw[<-Az (gS _ _ _)]
 simp[go_sem,yD,schR,aj,a7,av,a8]
 have ret: ∀(τ:St),uOf N=M->wret (some (.tup [])) (A.length+2) (fun x s=>x= .tup []/\ ∃N' A',s=gS [.lsv 1 2 N'.length 0 N'.length] (N'.map nRow) A'/\NOk N' A'/\uOf N'=M) (gS [.lsv 1 2 N.length 0 N.length] (N.map nRow) A++τ):=done
 by_cases q1:r.length<=kk
 .rw[if_pos q1]at hM
  have ak:decide (r.length<=kk)=true:=decide_eq_true q1
  simp[go_sem,ak]
  exact ret _ hM
 rw[if_neg q1]at hM
 have ak:decide (r.length<=kk)=false:=decide_eq_false q1
 have qk:kk<r.length:=om
 obtain⟨x,hx⟩:=eX (r[kk])
 have aA:r.getD kk zeroE=x:=by rw[A7,A0 qk,hx];rfl
 have ax:=he x (hx▸Aa qk)
 have aB:=yw9 x ax
 rw[aA]at hM
 simp[go_sem,ak,yD,qk,hx]
 refine zJ aB cB ⟨zm7 ⟨zT rfl,yJ,zT rfl,zT rfl,zT rfl,yJ,yJ,yJ,zT rfl,zT rfl,zT rfl,tV⟩,zK,zN sg (by rw[GExpr.row_eq];rfl)⟩ rfl ?_
 have ay:(evN x).2=0->VK (evN x).1 (za9 noT x).1:=xx7 ax
 generalize evN x=kv at hM ay⊢
 simp[go_sem,valP,yD]
 by_cases q2:kv.2=0
 rotate_left
 .rw[if_pos (.inl q2)]at hM
  have ag:(kv.2 !=0)=true:=by simpa using q2
  simp[go_sem,ag]
  exact ret _ hM
 have ag:(kv.2 !=0)=false:=by simpa using q2
 by_cases q3:kv.1.kind=0
 .rw[if_pos (.inr q3)]at hM
  have al:(kv.1.kind==0)=true:=by simpa using q3
  simp[go_sem,ag,al,yD]
  exact ret _ hM
 have al:(kv.1.kind==0)=false:=by simpa using q3
 rw[if_neg (fun h=>h.elim (fun h=>h q2) q3)]at hM
 obtain⟨aC,aD⟩:=xI6 (ay q2)
 have ah:=xa8 xG (tabsS.map GTable.row) tn kv.1 dC aC aD
 rw[show(tabsS.map GTable.row).length=3 from rfl]at ah
 obtain⟨bd,az⟩:=eX (zj0 3 (tn:Int) kv.1)
 have a1:bd.length<=9223372036854775806:=by
  have:=yL2 (v:=kv.1)
  rw[<-az];unfold zj0;split
  .simp only[Ag];omega
  .simp
 rw[az]at ah hM
 simp[go_sem,ag,al,yD]
 have af:=xI2 hB
 by_cases q4:T.place=0
 .have an:(T.place==0)=true:=by simpa using q4
  have q5:0<r.length:=om
  obtain⟨y,hy⟩:=eX (r[0])
  have aE:r.getD 0 zeroE=y:=by rw[A7,A0 q5,hy];rfl
  have aF:=he y (hy▸Aa q5)
  have a6:=yw9 y aF
  unfold regN at hM
  rw[if_pos q4,aE]at hM
  simp[go_sem,an,q5,hy]
  refine zJ a6 cB ⟨zm7 ⟨zT rfl,yJ,zT rfl,zT rfl,zT rfl,yJ,yJ,yJ,zT rfl,zT rfl,zT rfl,tV⟩,zK,zN sg (by rw[GExpr.row_eq];rfl)⟩ rfl ?_
  generalize evN y=rv at hM⊢
  simp[go_sem,valP,yD]
  by_cases q6:rv.2=0
  rotate_left
  .rw[if_pos (.inl q6)]at hM
   have ai:(rv.2 !=0)=true:=by simpa using q6
   simp[go_sem,ai]
   exact ret _ hM
  have ai:(rv.2 !=0)=false:=by simpa using q6
  by_cases q7:rv.1.kind=2
  rotate_left
  .rw[if_pos (.inr q7)]at hM
   have ao:(rv.1.kind !=2)=true:=by simpa using q7
   simp[go_sem,ai,ao,yD]
   exact ret _ hM
  have ao:(rv.1.kind !=2)=false:=by simpa using q7
  rw[if_neg (fun h=>h.elim (fun h=>h q6) (fun h=>h q7))]at hM
  simp only at hM
  have ae:=zG6 tn (regC rv.1.n) aw (xR4 _)
  obtain⟨⟨g,ge⟩,hg⟩: ∃g,yV tn (regC rv.1.n)=g:=⟨_,rfl⟩
  rw[hg]at ae hM
  simp only at hM
  unfold regC at ae
  simp[go_sem,ai,ao,yD]
  refine zJ ae cB (zN (by simp[go_sem,schR]) rfl) rfl ?_
  simp[go_sem,zP0]
  by_cases q8:ge=0
  rotate_left
  .rw[if_pos q8]at hM
   have ab:(ge !=0)=true:=by simpa using q8
   simp[go_sem,ab]
   exact ret _ hM
  have ab:(ge !=0)=false:=by simpa using q8
  rw[if_neg (fun h=>h q8)]at hM
  have ad:=yW3 N A h g ⟨bd,bd++ [0]⟩ om (fun y hy=>by have:=af.2 y hy;omega)
  simp[go_sem,ab,yD]
  refine zJ ah cB (zN sg rfl) rfl ?_
  simp[go_sem]
  refine zI a1 ?_
  simp[go_sem]
  refine zM4 ad cB (zz8 h) (by simp[ltOb,ltC,ltK]) ⟨zg2 (n:=(nSt N A).length) (by simp[ltS,ltA,ltC,ltK,zn4]),zC rfl,zC rfl,tV⟩ (fun r s h=>by
   obtain⟨rfl,N2,A2,rfl,h2,_⟩:=h
   exact⟨rfl,zz8 h2⟩) ?_
  rintro r' s ⟨rfl,N2,A2,rfl,aa,aq⟩ hle σ' pick ar
  simp[go_sem]
  exact yl8 ar (by rw[yD];exact A5 _) (zz8 aa) hle rfl ⟨rfl,N2,A2,rfl,aa,aq.trans hM⟩
 have an:(T.place==0)=false:=by simpa using q4
 unfold regN at hM
 rw[if_neg q4]at hM
 simp only at hM
 have ae:=zG6 tn 0 aw om
 obtain⟨⟨g,ge⟩,hg⟩: ∃g,yV tn 0=g:=⟨_,rfl⟩
 rw[hg]at ae hM
 simp only at hM
 simp[go_sem,an,yD]
 refine zJ ae cB (zN (by simp[go_sem,schR]) rfl) rfl ?_
 simp[go_sem,zP0]
 by_cases q8:ge=0
 rotate_left
 .rw[if_pos q8]at hM
  have ab:(ge !=0)=true:=by simpa using q8
  simp[go_sem,ab]
  exact ret _ hM
 have ab:(ge !=0)=false:=by simpa using q8
 rw[if_neg (fun h=>h q8)]at hM
 have ad:=yW3 N A h g ⟨bd,bd++ [0]⟩ om (fun y hy=>by have:=af.2 y hy;omega)
 simp[go_sem,ab,yD]
 refine zJ ah cB (zN sg rfl) rfl ?_
 simp[go_sem]
 refine zI a1 ?_
 simp[go_sem]
 refine zM4 ad cB (zz8 h) (by simp[ltOb,ltC,ltK]) ⟨zg2 (n:=(nSt N A).length) (by simp[ltS,ltA,ltC,ltK,zn4]),zC rfl,zC rfl,tV⟩ (fun r s h=>by
  obtain⟨rfl,N2,A2,rfl,h2,_⟩:=h
  exact⟨rfl,zz8 h2⟩) ?_
 rintro r' s ⟨rfl,N2,A2,rfl,aa,aq⟩ hle σ' pick ar
 simp[go_sem]
 exact yl8 ar (by rw[yD];exact A5 _) (zz8 aa) hle rfl ⟨rfl,N2,A2,rfl,aa,aq.trans hM⟩
def za6 (l:GLot):US:=l.stmts.foldl (zB8 rowS) []
theorem ye2: ∀(n:Nat) (q l:List GExpr),(∀e∈q,Good e)->(∀e∈l,Good e)-> ∀e∈bfs n q l,Good e
 |0,_,_,_,hl=>hl
 |n+1,[],_,_,hl=>by rw[bfs];exact hl
 |n+1,x::q,l,hq,hl=>by
  have hx:=hq x (Au ..)
  have aa: ∀e∈q,Good e:=fun e he=>hq e (An _ he)
  rw[bfs]
  split
  .exact ye2 n _ _ (fun e he=>by
    rcases Av.1 he with he|he
    .exact aa e he
    .exact hx.sub e he) hl
  .exact ye2 n _ _ aa (fun e he=>by
    rcases Av.1 he with he|he
    .exact hl e he
    .rw[Bl]at he;subst he;exact hx)
theorem yR7 {st:GStmt} (h:Good st.where_):VOk st:=fun e he name s v ha=>by
 have hg:Good e:=by
  unfold zs5 at he
  split at he
  .exact ye2 4096 [st.where_] [] (fun e he=>by rw[Bl]at he;subst he;exact h) (fun e he=>by cases he) e he
  .cases he
 have aa: ∃a∈e.args,a.v=v:=by
  unfold zc6 at ha
  split at ha
  .rename_i a b heq ab
   rw[ab]
   split at ha
   .split at ha
    .cases ha;exact⟨a,sm,rfl⟩
    .cases ha
   .split at ha
    .cases ha;exact⟨b,sm,rfl⟩
    .cases ha
  .cases ha
 obtain⟨a,ad,rfl⟩:=aa
 exact(hg.sub a ad).v
theorem xC5 (l:GLot) (hl:l.stmts.length<=24) (hs: ∀st∈l.stmts,SOk st):Pure prog 31 [schR tabsS,.agg l.row] (.sl .ro ((za6 l).map uRow)):=by
 refine xL1 rowS (fun t r n U h=>xR9 t r n U h) l (by unfold maxLen;omega) (fun st aa=>yR7 (hs st aa).where_.good) ?_ (fun st aa=>by have:=(hs st aa).rows.1;unfold maxLen;omega) (fun st aa hk ht=> ?_)
 .have: ∀L:List GStmt,(∀st∈L,SOk st)->(L.map cntF).sum<=20*L.length:=by
   intro L
   induction L with
   |nil=>intro _;exact A5 _
   |cons x L ih=>
    intro h
    have h1:=ih (fun st aa=>h st (An _ aa))
    have h2:=(h x (Au ..)).rows.1
    rw[Aj,List.sum_cons,Ag]
    have:cntF x<=20:=by unfold cntF;split<;>omega
    omega
  have:=this _ hs
  omega
 .intro r hr N A hN hB
  obtain⟨ag,ab⟩:=(hs st aa).rows.2 r hr
  have ad:=zr5 st.table
  obtain⟨tn,ae⟩: ∃tn:Nat,yG st.table=(tn:Int):=⟨(yG st.table).toNat,om⟩
  rw[ae]at ad⊢
  have af:tn<tabsS.length:=by show tn<3;omega
  exact wh3 tn _ (A0 af) r om ab N A hN hB
end Go.Proofs.YtefbicjgbaaieaaGreat
