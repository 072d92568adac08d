/-
  Contracts of functions that the claimed statement reaches, each proved over trees (the library Vx); used by the theorem at the end of the claim.
  Conditions: as each theorem states them.
-/
import Derived.Test.YtkigddpaonhmlaaGreatXAZ
import Derived.Test.YtkigddpaonhmlaaGreatXBC
import Derived.Lib.Bytealg
set_option maxHeartbeats 8000000
namespace Go.Proofs.YtkigddpaonhmlaaGreat
open Go Go.Vx R Go.Proofs.Tryz
set_option maxRecDepth 100000
abbrev okI (n:Int):Prop:= -9223372036854775808<=n/\n<=9223372036854775807
def rngF (n:Int):Int×Int:=if okI n then(n,0)else(0,5)
theorem zK5 {n:Int} (h:okI n):IntKind.i64.wrap n=n:=Vx.i64_id h.1 h.2
theorem zR4 (a b:Int) (ha:okI a) (hb':okI b):Pure prog 188 [.int .i64 a,.int .i64 b] (wA (rngF (a+b))):=by
 generalize hM:rngF (a+b)=M
 unfold rngF at hM
 have q:(0<b/\decide (0<b)=true/\decide (b<0)=false)∨(b<0/\decide (0<b)=false/\decide (b<0)=true)∨(b=0/\decide (0<b)=false/\decide (b<0)=false):=by
  simp only[decide_eq_true_eq,decide_eq_false_iff_not];omega
 unfold okI at ha hb' hM
 refine iW 0 func188 ntmps188 results188 fun c hc hb=>zN ?_
 rcases q with ⟨q,q1,q2⟩|⟨q,q1,q2⟩|⟨q,q1,q2⟩
 .have w1:IntKind.i64.wrap (9223372036854775807 - b)=9223372036854775807 - b:=zK5 ⟨by omega,by omega⟩
  by_cases r:9223372036854775807 - b<a
  .have r':decide (9223372036854775807 - b<a)=true:=decide_eq_true r
   simp[go_sem,q1,w1,r']
   exact wO (by rw[<-hM,if_neg (by omega)])
  .have r':decide (9223372036854775807 - b<a)=false:=decide_eq_false r
   have w2:IntKind.i64.wrap (a+b)=a+b:=zK5 ⟨by omega,by omega⟩
   simp[go_sem,q1,q2,w1,r',w2]
   exact wO (by rw[<-hM,if_pos (by omega)])
 .have w1:IntKind.i64.wrap (-9223372036854775808 - b)= -9223372036854775808 - b:=zK5 ⟨by omega,by omega⟩
  by_cases r:a< -9223372036854775808 - b
  .have r':decide (a< -9223372036854775808 - b)=true:=decide_eq_true r
   simp[go_sem,q1,q2,w1,r']
   exact wO (by rw[<-hM,if_neg (by omega)])
  .have r':decide (a< -9223372036854775808 - b)=false:=decide_eq_false r
   have w2:IntKind.i64.wrap (a+b)=a+b:=zK5 ⟨by omega,by omega⟩
   simp[go_sem,q1,q2,w1,r',w2]
   exact wO (by rw[<-hM,if_pos (by omega)])
 .have w2:IntKind.i64.wrap (a+b)=a+b:=zK5 ⟨by omega,by omega⟩
  simp[go_sem,q1,q2,w2]
  exact wO (by rw[<-hM,if_pos (by omega)])
theorem yg1 (x:Nat) (hx:x<18446744073709551616):ze2 .and .u64 (x:Int) 4294967295=((x%4294967296:Nat):Int):=by
 unfold ze2
 have h1:(BitVec.ofInt IntKind.u64.bits (x:Int)).toNat=x:=by
  rw[BitVec.toNat_ofInt]
  show((x:Int)%(18446744073709551616:Nat)).toNat=x
  omega
 have h2:(BitVec.ofInt IntKind.u64.bits 4294967295).toNat=4294967295:=by decide
 simp only[BitVec.toNat_and,h1,h2]
 have h3:=Nat.and_two_pow_sub_one_eq_mod x 32
 have h4:(2:Nat)^32 - 1=4294967295:=by decide
 have h5:(2:Nat)^32=4294967296:=by decide
 rw[h4,h5]at h3
 rw[h3]
 exact Vx.u64_id (by omega) (by omega)
theorem zP6 (x:Nat):(x:Int).fdiv 4294967296=((x/4294967296:Nat):Int):=by
 rw[Co _ (by decide)]
 rfl
theorem xX7 (n:Nat):IntKind.u64.wrap (n:Int)=((n%18446744073709551616:Nat):Int):=by
 unfold IntKind.wrap
 simp[IntKind.bits,IntKind.signed]
theorem natU {n:Nat} (h:n<18446744073709551616):IntKind.u64.wrap (n:Int)=(n:Int):=Vx.u64_id (by omega) (by omega)
theorem xg7 (a b c d:Nat) (ha:a<4294967296) (hb:b<4294967296) (hc:c<4294967296) (hd:d<4294967296):
  a*d<=18446744065119617025/\b*c<=18446744065119617025/\a*c<=18446744065119617025/\b*d<=18446744065119617025/\
  (a*4294967296+b)*(c*4294967296+d)=(a*c)*18446744073709551616+(a*d)*4294967296+(b*c)*4294967296+b*d:=by
 have m: ∀x y:Nat,x<4294967296->y<4294967296->x*y<=18446744065119617025:=fun x y hx hy=>by
  have:=Nat.mul_le_mul (show x<=4294967295 by omega) (show y<=4294967295 by omega)
  simpa using this
 refine⟨m _ _ ha hd,m _ _ hb hc,m _ _ ha hc,m _ _ hb hd, ?_⟩
 rw[An,Nat.mul_add,Nat.mul_add]
 have e1:a*4294967296*(c*4294967296)=(a*c)*18446744073709551616:=by
  rw[Nat.mul_mul_mul_comm]
 have e2:a*4294967296*d=(a*d)*4294967296:=by rw[Nat.mul_right_comm]
 have e3:b*(c*4294967296)=(b*c)*4294967296:=by rw[E7]
 rw[e1,e2,e3]
 omega
theorem zm1 (x y:Nat):(x:Int)*(y:Int)=((x*y:Nat):Int):=by simp
theorem zN4 (x y:Nat):(x:Int)+(y:Int)=((x+y:Nat):Int):=by simp
theorem xB4 (x y:Nat) (hx:x<18446744073709551616) (hy:y<18446744073709551616):Pure prog 253 [.int .u64 x,.int .u64 y] (.tup [.int .u64 ((x*y/18446744073709551616:Nat):Int),.int .u64 ((x*y%18446744073709551616:Nat):Int)]):=by
 obtain⟨m1,m2,m3,m4,m5⟩:=xg7 (x/4294967296) (x%4294967296) (y/4294967296) (y%4294967296) (by omega) (by omega) (by omega) (by omega)
 have ex:x/4294967296*4294967296+x%4294967296=x:=Nat.div_add_mod' x 4294967296
 have ey:y/4294967296*4294967296+y%4294967296=y:=Nat.div_add_mod' y 4294967296
 rw[ex,ey]at m5
 have a1:=yg1 x hx
 have a2:=yg1 y hy
 have a3:=zP6 x
 have a4:=zP6 y
 generalize ex1:x/4294967296=x1 at*
 generalize ex0:x%4294967296=x0 at*
 generalize ey1:y/4294967296=y1 at*
 generalize ey0:y%4294967296=y0 at*
 obtain⟨p,hp⟩: ∃p,p=x1*y1:=⟨_,rfl⟩
 obtain⟨q,hq⟩: ∃q,q=x1*y0:=⟨_,rfl⟩
 obtain⟨r,hr⟩: ∃r,r=x0*y1:=⟨_,rfl⟩
 obtain⟨s,hs⟩: ∃s,s=x0*y0:=⟨_,rfl⟩
 rw[<-hq]at m1 m5
 rw[<-hr]at m2 m5
 rw[<-hp]at m3 m5
 rw[<-hs]at m4 m5
 refine iW 0 func253 ntmps253 results253 fun c hc hb=>zN ?_
 simp[go_sem,a1,a2,a3,a4]
 refine zQ (zC rfl) ⟨?_,rfl⟩
 rw[zm1 x1 y1,<-hp,zm1 x1 y0,<-hq,zm1 x0 y1,<-hr,zm1 x0 y0,<-hs,natU (n:=s) (by omega),natU (n:=p) (by omega),natU (n:=q) (by omega),natU (n:=r) (by omega),zP6 s,
  zN4,natU (n:=q+s/4294967296) (by omega),zP6,yg1 _ (by omega),zN4,zN4,natU (n:=p+(q+s/4294967296)/4294967296) (by omega),natU (n:=(q+s/4294967296)%4294967296+r) (by omega),zP6,zN4,natU (by omega),zm1,xX7]
 have e:p+(q+s/4294967296)/4294967296+((q+s/4294967296)%4294967296+r)/4294967296=x*y/18446744073709551616:=by
  rw[m5]
  omega
 rw[e]
 rfl
theorem xA5 {a:Int} (h:a<0) (h2: -9223372036854775808<=a):IntKind.u64.wrap (-IntKind.u64.wrap a)=(a.natAbs:Int):=by
 have e:IntKind.u64.wrap a=a+18446744073709551616:=by
  unfold IntKind.wrap
  simp[IntKind.bits,IntKind.signed]
  omega
 rw[e]
 unfold IntKind.wrap
 simp[IntKind.bits,IntKind.signed]
 omega
theorem xx0 (a:Int) (ha:okI a):Pure prog 254 [.int .i64 a] (.int .u64 (a.natAbs:Int)):=by
 unfold okI at ha
 refine iW 0 func254 ntmps254 results254 fun c hc hb=>zN ?_
 simp[go_sem]
 by_cases q:a<0
 .have q1:decide (a<0)=true:=decide_eq_true q
  simp[go_sem,q1]
  refine zQ (zC rfl) ⟨?_,rfl⟩
  rw[xA5 q ha.1]
 .have q1:decide (a<0)=false:=decide_eq_false q
  simp[go_sem,q1]
  refine zQ (zC rfl) ⟨?_,rfl⟩
  rw[Vx.u64_id (by omega) (by omega)]
  congr 1
  omega
def yg5 (a b:Int):Nat:=if decide (a<0)=decide (b<0)then 9223372036854775807 else 9223372036854775808
theorem xQ3 (a b:Int):okI (a*b)↔a.natAbs*b.natAbs<=yg5 a b:=by
 obtain⟨n,hn⟩:=Int.eq_nat_or_neg a
 obtain⟨m,hm⟩:=Int.eq_nat_or_neg b
 have e:a.natAbs=n/\b.natAbs=m:=⟨by omega,by omega⟩
 rw[e.1,e.2]
 have z1:n=0->n*m=0:=fun h=>by subst h;exact Ca m
 have z2:m=0->n*m=0:=fun h=>by subst h;exact Nat.mul_zero n
 unfold yg5 okI
 rcases hn with rfl|rfl<;>rcases hm with rfl|rfl
 .rw[zm1,decide_eq_false (by omega),decide_eq_false (by omega),if_pos rfl]
  generalize n*m=p at*
  omega
 .rw[Int.mul_neg,zm1]
  generalize n*m=p at*
  rw[decide_eq_false (by omega)]
  by_cases q: -(m:Int)<0
  .rw[decide_eq_true q,if_neg (by simp)];omega
  .rw[decide_eq_false q,if_pos rfl]
   have:=z2 (by omega)
   omega
 .rw[Int.neg_mul,zm1]
  generalize n*m=p at*
  rw[decide_eq_false (p:=(m:Int)<0) (by omega)]
  by_cases q: -(n:Int)<0
  .rw[decide_eq_true q,if_neg (by simp)];omega
  .rw[decide_eq_false q,if_pos rfl]
   have:=z1 (by omega)
   omega
 .rw[Int.neg_mul_neg,zm1]
  generalize n*m=p at*
  by_cases q: -(n:Int)<0<;>by_cases q2: -(m:Int)<0
  .rw[decide_eq_true q,decide_eq_true q2,if_pos rfl];omega
  .have:=z2 (by omega)
   rw[decide_eq_true q,decide_eq_false q2,if_neg (by simp)];omega
  .have:=z1 (by omega)
   rw[decide_eq_false q,decide_eq_true q2,if_neg (by simp)];omega
  .have:=z1 (by omega)
   rw[decide_eq_false q,decide_eq_false q2,if_pos rfl];omega
theorem xQ2 (a b:Int):((!(decide (a<0)==decide (b<0)))=true->yg5 a b=9223372036854775808)/\((!(decide (a<0)==decide (b<0)))=false->yg5 a b=9223372036854775807):=by
 unfold yg5
 generalize decide (a<0)=x
 generalize decide (b<0)=y
 cases x<;>cases y<;>simp
theorem xU0 (a b:Int) (ha:okI a) (hb':okI b):Pure prog 243 [.int .i64 a,.int .i64 b] (wA (rngF (a*b))):=by
 have hs1:=xx0 a ha
 have hs2:=xx0 b hb'
 have hab:a.natAbs<18446744073709551616/\b.natAbs<18446744073709551616:=by unfold okI at ha hb';omega
 have hm:=xB4 a.natAbs b.natAbs hab.1 hab.2
 have hok:=xQ3 a b
 have hmo:yg5 a b<=9223372036854775808:=by unfold yg5;split<;>omega
 have hmv:=xQ2 a b
 generalize hP:a.natAbs*b.natAbs=p at*
 have hi0:p/18446744073709551616*18446744073709551616+p%18446744073709551616=p:=Nat.div_add_mod' _ _
 have lo0:p%18446744073709551616<18446744073709551616:=D1 _ (by decide)
 generalize p/18446744073709551616=hi at*
 generalize p%18446744073709551616=lo at*
 generalize hM:rngF (a*b)=M
 unfold rngF at hM
 refine iW 0 func243 ntmps243 results243 fun c hc hb=>zN ?_
 simp[go_sem]
 refine zD hs1 cB (zH rfl) rfl ?_
 simp[go_sem]
 refine zD hs2 cB (zH rfl) rfl ?_
 simp[go_sem]
 refine zD hm cB (zH rfl) rfl ?_
 simp[go_sem]
 have u1:IntKind.u64.wrap 9223372036854775808=9223372036854775808:=by decide
 refine zT (fun v2=> ?_) (fun v2=> ?_)
 .rw[hmv.1 v2]at hok
  by_cases q:p<=9223372036854775808
  .have f1:decide (0<hi)=false:=decide_eq_false (by omega)
   have f3:decide ((9223372036854775808:Int)<(lo:Int))=false:=decide_eq_false (by omega)
   have w:=zK5 (hok.2 q)
   simp[go_sem,f1,f3,w,u1]
   exact wO (by rw[<-hM,if_pos (hok.2 q)])
  .have hno: ¬okI (a*b):=fun h=>q (hok.1 h)
   have f4:decide (0<hi)=true∨(decide (0<hi)=false/\decide ((9223372036854775808:Int)<(lo:Int))=true):=by
    simp only[decide_eq_true_eq,decide_eq_false_iff_not];omega
   rcases f4 with f4|⟨f4,f5⟩
   .simp[go_sem,f4]
    exact wO (by rw[<-hM,if_neg hno])
   .simp[go_sem,f4,f5,u1]
    exact wO (by rw[<-hM,if_neg hno])
 .rw[hmv.2 v2]at hok
  by_cases q:p<=9223372036854775807
  .have f1:decide (0<hi)=false:=decide_eq_false (by omega)
   have f3:decide ((9223372036854775807:Int)<(lo:Int))=false:=decide_eq_false (by omega)
   have w:=zK5 (hok.2 q)
   simp[go_sem,f1,f3,w]
   exact wO (by rw[<-hM,if_pos (hok.2 q)])
  .have hno: ¬okI (a*b):=fun h=>q (hok.1 h)
   have f4:decide (0<hi)=true∨(decide (0<hi)=false/\decide ((9223372036854775807:Int)<(lo:Int))=true):=by
    simp only[decide_eq_true_eq,decide_eq_false_iff_not];omega
   rcases f4 with f4|⟨f4,f5⟩
   .simp[go_sem,f4]
    exact wO (by rw[<-hM,if_neg hno])
   .simp[go_sem,f4,f5]
    exact wO (by rw[<-hM,if_neg hno])
theorem yw1 (a b:Int) (ha:okI a) (hb':okI b):Pure prog 225 [.int .i64 a,.int .i64 b] (wA (rngF (a - b))):=by
 by_cases q:b= -9223372036854775808
 .generalize hM:rngF (a - b)=M
  unfold rngF at hM
  unfold okI at ha
  have q1:(b != -9223372036854775808)=false:=by simpa using q
  refine iW 0 func225 ntmps225 results225 fun c hc hb=>zN ?_
  simp[go_sem,q1]
  by_cases r:0<=a
  .have r1:decide (0<=a)=true:=decide_eq_true r
   simp[go_sem,r1]
   exact wO (by rw[<-hM,if_neg (by omega)])
  .have r1:decide (0<=a)=false:=decide_eq_false r
   have w:IntKind.i64.wrap (a - b)=a - b:=zK5 ⟨by omega,by omega⟩
   simp[go_sem,r1,w]
   exact wO (by rw[<-hM,if_pos (by unfold okI;omega)])
 .have hn:okI (-b):=by unfold okI at*;omega
  have w:IntKind.i64.wrap (-b)= -b:=zK5 hn
  have q1:(b != -9223372036854775808)=true:=by simpa using q
  have hc1:=zR4 a (-b) ha hn
  have e:a+ -b=a - b:=by omega
  rw[e]at hc1
  generalize rngF (a - b)=M at*
  refine iW 0 func225 ntmps225 results225 fun c hc hb=>zN ?_
  simp[go_sem,q1,w]
  refine zD hc1 cB (zH rfl) rfl ?_
  simp[go_sem,wA]
  exact zQ (zC rfl) ⟨rfl,rfl⟩
def zx4 (s:List UInt8) (a b:Int):Int×Int:=
 if s= [43]then rngF (a+b)else if s= [45]then rngF (a - b)else if s= [42]then rngF (a*b)
 else if b=0 then(0,17)else if s= [37]then(a.tmod b,0)else rngF (a.tdiv b)
theorem xI7 {a b:Int} (ha:okI a) (hb:okI b):okI (a.tmod b):=by
 unfold okI at*
 by_cases q:b=0
 .subst q;rw[Int.tmod_zero];exact ha
 .have h2:(a.tmod b).natAbs=a.natAbs%b.natAbs:=Int.natAbs_tmod a b
  have h3:a.natAbs%b.natAbs<=a.natAbs:=Nat.mod_le _ _
  have h4:(a.tmod b).natAbs<b.natAbs:=by
   rw[h2];exact D1 _ (by omega)
  omega
theorem xI6 {a b:Int} (ha:okI a) (_hb:okI b) (h:b≠ -1):okI (a.tdiv b):=by
 unfold okI at*
 have h2:(a.tdiv b).natAbs=a.natAbs/b.natAbs:=Int.natAbs_tdiv a b
 by_cases q:b.natAbs<=1
 .have:b=0∨b=1:=by omega
  rcases this with rfl|rfl
  .rw[Int.tdiv_zero];omega
  .rw[Int.tdiv_one];exact ha
 .have h3:a.natAbs/b.natAbs<=a.natAbs/2:=Nat.div_le_div_left (by omega) (by omega)
  omega
theorem xv8 (s:List UInt8) (a b:Int) (ha:okI a) (hb':okI b):Pure prog 227 [.str s,.int .i64 a,.int .i64 b] (wA (zx4 s a b)):=by
 have c1:=zR4 a b ha hb'
 have c2:=yw1 a b ha hb'
 have c3:=xU0 a b ha hb'
 have c4:=yw1 0 a (by decide) ha
 have e4:rngF (0 - a)=rngF (-a):=by congr 1;omega
 rw[e4]at c4
 have wr: ∀{x:Int×Int} {M:Int×Int} {σ:St},x=M->wret (some (.tup [.int .i64 x.1,.int .i64 x.2])) 0 (fun v s=>v=wA M/\s= []) σ:=fun h=>wO h.symm
 generalize hM:zx4 s a b=M
 unfold zx4 at hM
 refine iW 0 func227 ntmps227 results227 fun c hc hb=>zN ?_
 simp[go_sem]
 by_cases s1:s= [43]
 .simp only[s1,if_pos]at hM
  simp[go_sem,s1]
  refine zD c1 cB (zH rfl) rfl ?_
  simp[go_sem,wA]
  exact wr hM
 by_cases s2:s= [45]
 .rw[if_neg s1,if_pos s2]at hM
  simp[go_sem,s2]
  refine zD c2 cB (zH rfl) rfl ?_
  simp[go_sem,wA]
  exact wr hM
 by_cases s3:s= [42]
 .rw[if_neg s1,if_neg s2,if_pos s3]at hM
  simp[go_sem,s3]
  refine zD c3 cB (zH rfl) rfl ?_
  simp[go_sem,wA]
  exact wr hM
 rw[if_neg s1,if_neg s2,if_neg s3]at hM
 have s1':(s== [43])=false:=by simpa using s1
 have s2':(s== [45])=false:=by simpa using s2
 have s3':(s== [42])=false:=by simpa using s3
 simp[go_sem,s1',s2',s3']
 by_cases b0:b=0
 .rw[if_pos b0]at hM
  have b0':(b==0)=true:=by simpa using b0
  simp[go_sem,b0']
  exact wO hM.symm
 rw[if_neg b0]at hM
 have b0':(b==0)=false:=by simpa using b0
 simp[go_sem,b0']
 by_cases s4:s= [37]
 .rw[if_pos s4]at hM
  have s4':(s== [37])=true:=by simpa using s4
  simp[go_sem,s4']
  refine zJ b0 ?_
  simp[go_sem]
  exact wO hM.symm
 rw[if_neg s4]at hM
 have s4':(s== [37])=false:=by simpa using s4
 simp[go_sem,s4']
 by_cases b1:b= -1
 .rw[b1,Int.tdiv_neg,Int.tdiv_one]at hM
  have b1':(b== -1)=true:=by simpa using b1
  simp[go_sem,b1']
  refine zD c4 cB (zH rfl) rfl ?_
  simp[go_sem,wA]
  exact wr hM
 have b1':(b== -1)=false:=by simpa using b1
 have ok:=xI6 ha hb' b1
 unfold rngF at hM
 rw[if_pos ok]at hM
 simp[go_sem,b1',zK5 ok]
 refine zJ b0 ?_
 simp[go_sem]
 exact wO hM.symm
def cmpS (a b:List UInt8):Int:=if Op.bytesLess a b=true then -1 else if Op.bytesLess b a=true then 1 else 0
theorem yU9: ∀a b:List UInt8,Lib.compareBytes a b=cmpS a b
 | [],[]=>rfl
 | [],_::_=>rfl
 |_::_,[]=>rfl
 |x::a,y::b=>by
  have ih:=yU9 a b
  rw[Lib.compareBytes]
  unfold cmpS at ih⊢
  rw[yU7,yU7]
  have h1:(x<y)↔x.toNat<y.toNat:=UInt8.lt_iff_toNat_lt
  have h2:(y<x)↔y.toNat<x.toNat:=UInt8.lt_iff_toNat_lt
  by_cases q:x<y
  .have:=h1.1 q
   rw[if_pos q,if_pos this]
   rfl
  by_cases q2:y<x
  .have:=h2.1 q2
   have n1: ¬x.toNat<y.toNat:=fun h=>q (h1.2 h)
   rw[if_neg q,if_pos q2,if_neg n1,if_pos this,if_pos this]
   rfl
  .have n1:=fun h=>q (h1.2 h)
   have n2:=fun h=>q2 (h2.2 h)
   rw[if_neg q,if_neg q2,if_neg n1,if_neg n2,if_neg n2,if_neg n1]
   exact ih
theorem yC4 {a b:List UInt8} {c:Ctx} {σ:St} {K:V->St->Prop} {e:Fx K} (hk:K (.int .i64 (cmpS a b)) σ):wVC prog c (.fn 206 []) [.str a,.str b] σ K e:=by
 refine⟨_,[],rfl,.inr fun w L β vals hm ha=> ?_⟩
 match vals,ha with
 | [v1,v2],⟨h1,h2,_⟩=>
  rw[wK h1,wK h2]
  refine⟨.int .i64 (cmpS a b),.int .i64 (cmpS a b),w,L,σ,β, ?_,hk,hm,Le.refl _ _,Ext.refl _ _,RdP.int _ _⟩
  rw[run_callFunc_extern func206 (by kernel_rfl) (by kernel_rfl) (by kernel_rfl) (e:=Extern.BytealgCompare.compare) (by kernel_rfl),Lib.run_compareString]
  rw[List.toList_toArray,List.toList_toArray,yU9]
  rfl
theorem xd3 (a b:List UInt8):Pure prog 144 [.str a,.str b] (.int .i64 (cmpS a b)):=by
 refine iW 0 func144 ntmps144 results144 fun c hc hb=>zN ?_
 simp[go_sem]
 refine yC4 ?_
 simp[go_sem]
 exact zQ (zC rfl) ⟨rfl,rfl⟩
theorem yC3 (a b:List UInt8):Pure prog 84 [.str a,.str b] (.int .i64 (cmpS a b)):=by
 refine iW 0 func84 ntmps84 results84 fun c hc hb=>zN ?_
 simp[go_sem]
 refine zD (xd3 a b) cB (zH rfl) rfl ?_
 simp[go_sem]
 exact zQ (zC rfl) ⟨rfl,rfl⟩
theorem ya9 (x:Int):Pure prog 200 [.int .i64 x] (.bool false):=by
 refine iW 0 func200 ntmps200 results200 fun c hc hb=>zN ?_
 simp[go_sem]
 exact zQ (zC rfl) ⟨rfl,rfl⟩
theorem yN3 (x y:Int):Pure prog 132 [.int .i64 x,.int .i64 y] (.int .i64 (cmpI x y)):=by
 generalize hM:cmpI x y=M
 have ret: ∀(r:Int) (σ:St),r=M->wret (some (.int .i64 r)) 0 (fun r s=>r= .int .i64 M/\s= []) σ:=fun r σ h=>by subst h;exact zQ (zC rfl) ⟨rfl,rfl⟩
 unfold cmpI at hM
 refine iW 0 func132 ntmps132 results132 fun c hc hb=>zN ?_
 simp[go_sem]
 refine zD (ya9 x) cB (zH rfl) rfl ?_
 simp[go_sem]
 refine zD (ya9 y) cB (zH rfl) rfl ?_
 simp[go_sem]
 repeat' (first|(refine zT (fun q=> ?_) (fun q=> ?_)<;>simp[go_sem,q]))
 all_goals exact ret _ _ (by rw[<-hM];simp only[decide_eq_true_eq,decide_eq_false_iff_not]at*;(repeat' split)<;>omega)
def orL:List Int->Int
 | []=>0
 |x::l=>if x=0 then orL l else x
theorem or_w (l:List Int) (hl:l.length<=maxLen):Pure prog 82 [.sl .ro (l.map fun n=> [V.int .i64 n])] (.int .i64 (orL l)):=by
 generalize hM:orL l=M
 have ret: ∀(r:Int) (σ:St),r=M->wret (some (.int .i64 r)) 0 (fun r s=>r= .int .i64 M/\s= []) σ:=fun r σ h=>by subst h;exact zQ (zC rfl) ⟨rfl,rfl⟩
 refine iV 0 func82 ntmps82 results82 fun c hc hb=> ?_
 refine zA ?_
 simp[go_sem]
 refine zL (S:=Nat) [3,6,7,8] (fun i=> [.int .i64 0,.sl .ro (l.map fun n=> [V.int .i64 n]),.int .i64 l.length,.int .i64 i]) (fun _=> []) (fun i=>l.length - i) (fun i=>i<=l.length/\orL (l.drop i)=M) hc hb 0 ⟨A3 _,hM⟩ ?_ ?_
 .exact aO
 rintro i ⟨hi,hinv⟩
 by_cases q:i<l.length
 rotate_left
 .have e:l.drop i= []:=A9 (by omega)
  rw[e]at hinv
  refine zA ?_
  simp[go_sem,q]
  exact ret _ _ hinv
 have ei:=zV q (by unfold maxLen at hl;omega)
 obtain⟨r,hr⟩:=eX (l[i])
 rw[A6 q,orL,hr]at hinv
 refine zA ?_
 simp[go_sem,q,hr]
 by_cases w1:r=0
 .rw[if_pos w1]at hinv
  have w1':(r !=0)=false:=by simp[w1]
  simp[go_sem,w1',ei]
  exact zI (i+1) ⟨by omega,⟨q,hinv⟩,aO⟩
 rw[if_neg w1]at hinv
 have w1':(r !=0)=true:=by simpa using w1
 simp[go_sem,w1']
 exact ret _ _ hinv
def cmpV (a b:GValue):Int:=orL [cmpI a.kind b.kind,cmpI a.n b.n,cmpS a.s b.s]
theorem yn0 (a b:GValue):Pure prog 78 [.agg a.row,.agg b.row] (.int .i64 (cmpV a b)):=by
 have h:=or_w [cmpI a.kind b.kind,cmpI a.n b.n,cmpS a.s b.s] (by simp[maxLen])
 have h1:=yC1 a.kind b.kind
 have h2:=yN3 a.n b.n
 have h3:=yC3 a.s b.s
 unfold cmpV
 generalize orL [cmpI a.kind b.kind,cmpI a.n b.n,cmpS a.s b.s]=M at*
 refine iW 0 func78 ntmps78 results78 fun c hc hb=>zN ?_
 simp[go_sem]
 refine yU [(4,0),(9,0),(14,0),(16,0)] 2 rfl (by kernel_rfl) (by kernel_rfl) ?_
 simp[go_sem]
 refine zW h1 cB (fun _=>zH rfl) rfl ?_
 simp[go_sem]
 refine zW h2 cB (fun _=>zH rfl) rfl ?_
 simp[go_sem]
 refine zW h3 cB (fun _=>zH rfl) rfl ?_
 simp[go_sem]
 refine zW h cB (fun _=>⟨zX,trivial⟩) rfl ?_
 simp[go_sem]
 exact zQ (zC rfl) ⟨rfl,rfl⟩
def valP (x:GValue×Int):V:= .tup [.agg x.1.row,.int .i64 x.2]
def zeroV:GValue:=⟨0,0,[]⟩
def zs8 (r:Int×Int):GValue×Int:=if r.2=0 then(⟨2,r.1,[]⟩,0)else(zeroV,r.2)
theorem xb6 {x:GValue×Int} {k n e:Int} {s:List UInt8} {σ:St} (h:x=(⟨k,n,s⟩,e)):wret (some (.tup [.agg [.int .i64 k,.int .i64 n,.str s],.int .i64 e])) 0 (fun v s=>v=valP x/\s= []) σ:=by
 subst h
 exact zQ (zC rfl) ⟨rfl,rfl⟩
theorem yH1 (r:Int×Int):Pure prog 224 [.int .i64 r.1,.int .i64 r.2] (valP (zs8 r)):=by
 generalize hM:zs8 r=M
 unfold zs8 at hM
 refine iW 0 func224 ntmps224 results224 fun c hc hb=>zN ?_
 simp[go_sem]
 by_cases q:r.2=0
 .rw[if_pos q]at hM
  have q1:(r.2 !=0)=false:=by simpa using q
  simp[go_sem,q1]
  exact xb6 hM.symm
 .rw[if_neg q]at hM
  have q1:(r.2 !=0)=true:=by simpa using q
  simp[go_sem,q1]
  exact xb6 hM.symm
def zS3 (s:List UInt8) (c:Int):Bool:=
 if s= [61]then c==0 else if s= [60,62]then c !=0 else if s= [60]then decide (c<0)else if s= [60,61]then decide (c<=0)else if s= [62]then decide (0<c)else decide (0<=c)
theorem xE4 (s:List UInt8) (x:Int):Pure prog 226 [.str s,.int .i64 x] (.bool (zS3 s x)):=by
 generalize hM:zS3 s x=M
 have ret: ∀(r:Bool) (σ:St),r=M->wret (some (.bool r)) 0 (fun r s=>r= .bool M/\s= []) σ:=fun r σ h=>by subst h;exact zQ (zC rfl) ⟨rfl,rfl⟩
 unfold zS3 at hM
 refine iW 0 func226 ntmps226 results226 fun c hc hb=>zN ?_
 simp[go_sem]
 repeat' (first|(refine zT (fun q=> ?_) (fun q=> ?_)<;>simp[go_sem,q]))
 all_goals exact ret _ _ (by rw[<-hM];simp only[beq_iff_eq,beq_eq_false_iff_ne,ne_eq]at*;simp_all)
def zW9 (v:GValue):Bool:=v.kind==1&&(v.n==1&&v.s.isEmpty)
theorem xy3 (v:GValue):Pure prog 72 [.agg v.row] (.bool (zW9 v)):=by
 have h:=zJ6 true
 refine iW 0 func72 ntmps72 results72 fun c hc hb=>zN ?_
 simp[go_sem]
 refine yU [(1,0)] 1 rfl (by kernel_rfl) (by kernel_rfl) ?_
 simp[go_sem]
 refine zW h cB (fun _=>zH rfl) rfl ?_
 simp[go_sem,zy8]
 exact zQ (zC rfl) ⟨rfl,rfl⟩
def zE2 (wins:Int):List GValue->Bool->GValue
 | [],b=>if b=true then zeroV else zy8 (wins==0)
 |v::l,b=>if v.kind=0 then zE2 wins l true else if v.n=wins then v else zE2 wins l b
theorem xm3 (l:List GValue) (wins:Int) (hl:l.length<=maxLen):Pure prog 223 [.sl .ro (l.map GValue.row),.int .i64 wins] (.agg (zE2 wins l false).row):=by
 generalize hM:zE2 wins l false=M
 have ret: ∀(v:GValue) (σ:St),v=M->wret (some (.agg v.row)) 0 (fun r s=>r= .agg M.row/\s= []) σ:=fun v σ h=>by subst h;exact zQ (zC rfl) ⟨rfl,rfl⟩
 refine iV 0 func223 ntmps223 results223 fun c hc hb=> ?_
 refine zA ?_
 simp[go_sem]
 refine zL (S:=Nat×Bool) [1,4,5,8,9,10] (fun u=> [.int .i64 wins,.ptr 0 0,.bool u.2,.sl .ro (l.map GValue.row),.int .i64 l.length,.int .i64 u.1]) (fun _=> [.box [.int .i64 0,.int .i64 0,.str []]]) (fun u=>l.length - u.1)
  (fun u=>u.1<=l.length/\zE2 wins (l.drop u.1) u.2=M) hc hb (0,false) ⟨A3 _,hM⟩ ?_ ?_
 .exact aN 1 (by simp[ltOb,ltC,ltK])
 rintro⟨i,b⟩ ⟨hi,hinv⟩
 simp only at hi hinv
 by_cases q:i<l.length
 rotate_left
 .have e:l.drop i= []:=A9 (by omega)
  rw[e,zE2]at hinv
  refine zA ?_
  simp[go_sem,q]
  by_cases w1:b=true
  .rw[if_pos w1]at hinv
   simp[go_sem,w1]
   exact ret zeroV _ hinv
  .rw[if_neg w1]at hinv
   have w1':b=false:=by simpa using w1
   simp[go_sem,w1']
   refine zD (zJ6 (wins==0)) cB (zH rfl) rfl ?_
   simp[go_sem]
   exact ret _ _ hinv
 have ei:=zV q (by unfold maxLen at hl;omega)
 obtain⟨r,hr⟩:=eX (l[i])
 rw[A6 q,zE2,hr]at hinv
 refine zA ?_
 simp[go_sem,q,hr]
 refine zD (yw4 r) cB (zH rfl) rfl ?_
 simp[go_sem]
 by_cases w1:r.kind=0
 .rw[if_pos w1]at hinv
  have w1':(r.kind==0)=true:=by simpa using w1
  simp[go_sem,w1',ei]
  exact zI (i+1,true) ⟨by simp only;omega,⟨q,hinv⟩,aN 1 (by simp[ltOb,ltC,ltK])⟩
 rw[if_neg w1]at hinv
 have w1':(r.kind==0)=false:=by simpa using w1
 by_cases w2:r.n=wins
 .rw[if_pos w2]at hinv
  have w2':(r.n==wins)=true:=by simpa using w2
  simp[go_sem,w1',w2']
  exact ret r _ hinv
 rw[if_neg w2]at hinv
 have w2':(r.n==wins)=false:=by simpa using w2
 simp[go_sem,w1',w2',ei]
 exact zI (i+1,b) ⟨by simp only;omega,⟨q,hinv⟩,aN 1 (by simp[ltOb,ltC,ltK])⟩
def cmpOps:List (List UInt8):= [[61],[60,62],[60],[60,61],[62],[62,61]]
def zF3 (s:List UInt8) (l:List GValue):GValue×Int:=
 let x:=l.getD 0 zeroV
 let y:=l.getD 1 zeroV
 if s= [73,83,78,85,76,76]then(zy8 (x.kind==0),0)
 else if s= [78,79,84,78,85,76,76]then(zy8 (!(x.kind==0)),0)
 else if s= [65,78,68]then(zE2 0 l false,0)
 else if s= [79,82]then(zE2 1 l false,0)
 else if(l.any fun v=>v.kind==0)=true then(zeroV,0)
 else if s= [78,79,84]then(zy8 (!zW9 x),0)
 else if s= [78,69,71]then zs8 (rngF (-x.n))
 else if cmpOps.contains s=true then(zy8 (zS3 s (cmpV x y)),0)
 else zs8 (zx4 s x.n y.n)
theorem zn0 {x:GValue×Int} {M:GValue×Int} {σ:St} (h:x=M):wret (some (.tup [.agg x.1.row,.int .i64 x.2])) 0 (fun v s=>v=valP M/\s= []) σ:=by
 subst h
 exact zQ (zC rfl) ⟨rfl,rfl⟩
theorem xO3 (s:List UInt8) (l:List GValue) (h1:1<=l.length) (h2:l.length<=2) (hn: ∀v∈l,okI v.n) (hs:l.length=1->s= [73,83,78,85,76,76]∨s= [78,79,84,78,85,76,76]∨s= [78,79,84]∨s= [78,69,71]):
  Pure prog 173 [.str s,.sl .ro (l.map GValue.row)] (valP (zF3 s l)):=by
 obtain⟨x,hx⟩:=eX (l[0]'h1)
 have hxd:l.getD 0 zeroV=x:=by rw[A5,A0 h1,hx];rfl
 have hx0:l[0]? =some x:=by rw[A0 h1,hx]
 have hpos:0<l.length:=h1
 have hxn:okI x.n:=hn x (hx▸A8 h1)
 generalize hM:zF3 s l=M
 have ret: ∀(v:GValue) (e:Int) (σ:St),(v,e)=M->wret (some (.tup [.agg v.row,.int .i64 e])) 0 (fun r s=>r=valP M/\s= []) σ:=fun v e σ h=>zn0 h
 unfold zF3 at hM
 simp only[hxd]at hM
 refine iV 0 func173 ntmps173 results173 fun c hc hb=> ?_
 by_cases a1:s= [73,83,78,85,76,76]
 .rw[if_pos a1]at hM
  refine zA ?_
  simp[go_sem,a1,hpos,hx]
  refine zD (yw4 x) cB (zH rfl) rfl ?_
  simp[go_sem]
  refine zD (zJ6 (x.kind==0)) cB (zH rfl) rfl ?_
  simp[go_sem]
  exact ret _ _ _ hM
 by_cases a2:s= [78,79,84,78,85,76,76]
 .rw[if_neg a1,if_pos a2]at hM
  refine zA ?_
  simp[go_sem,a2,hpos,hx]
  refine zD (yw4 x) cB (zH rfl) rfl ?_
  simp[go_sem]
  refine zD (zJ6 (!(x.kind==0))) cB (zH rfl) rfl ?_
  simp[go_sem]
  exact ret _ _ _ hM
 by_cases a3:s= [65,78,68]
 .rw[if_neg a1,if_neg a2,if_pos a3]at hM
  refine zA ?_
  simp[go_sem,a3]
  refine zD (xm3 l 0 (by unfold maxLen;omega)) cB (zH rfl) rfl ?_
  simp[go_sem]
  exact ret _ _ _ hM
 by_cases a4:s= [79,82]
 .rw[if_neg a1,if_neg a2,if_neg a3,if_pos a4]at hM
  refine zA ?_
  simp[go_sem,a4]
  refine zD (xm3 l 1 (by unfold maxLen;omega)) cB (zH rfl) rfl ?_
  simp[go_sem]
  exact ret _ _ _ hM
 rw[if_neg a1,if_neg a2,if_neg a3,if_neg a4]at hM
 have b1:(s== [73,83,78,85,76,76])=false:=by simpa using a1
 have b2:(s== [78,79,84,78,85,76,76])=false:=by simpa using a2
 have b3:(s== [65,78,68])=false:=by simpa using a3
 have b4:(s== [79,82])=false:=by simpa using a4
 refine zA ?_
 simp[go_sem,b1,b2,b3,b4]
 refine zL (S:=Nat) [0,1,4,5,32,33,34] (fun i=> [.str s,.sl .ro (l.map GValue.row),.ptr 0 0,.int .i64 0,.sl .ro (l.map GValue.row),.int .i64 l.length,.int .i64 i]) (fun _=> [.box [.int .i64 0,.int .i64 0,.str []]]) (fun i=>l.length - i)
  (fun i=>i<=l.length/\((l.drop i).any fun v=>v.kind==0)=(l.any fun v=>v.kind==0)) hc hb 0 ⟨A3 _,rfl⟩ ?_ ?_
 .exact aN 1 (by simp[ltOb,ltC,ltK])
 rintro i ⟨hi,hinv⟩
 by_cases q:i<l.length
 .have ei:=zV q (by omega)
  obtain⟨r,hr⟩:=eX (l[i])
  rw[A6 q,List.any_cons,hr]at hinv
  refine zA ?_
  simp[go_sem,q,hr]
  refine zD (yw4 r) cB (zH rfl) rfl ?_
  simp[go_sem]
  by_cases w1:r.kind=0
  .have w1':(r.kind==0)=true:=by simpa using w1
   rw[w1',Dl]at hinv
   rw[if_pos hinv.symm]at hM
   simp[go_sem,w1']
   exact ret zeroV 0 _ hM
  .have w1':(r.kind==0)=false:=by simpa using w1
   rw[w1',C8]at hinv
   simp[go_sem,w1',ei]
   exact zI (i+1) ⟨by omega,⟨q,hinv⟩,aN 1 (by simp[ltOb,ltC,ltK])⟩
 have e:l.drop i= []:=A9 (by omega)
 rw[e,List.any_nil]at hinv
 rw[if_neg (by rw[<-hinv];exact Bool.false_ne_true)]at hM
 by_cases a5:s= [78,79,84]
 .rw[if_pos a5]at hM
  refine zA ?_
  simp[go_sem,q,a5,hpos,hx]
  refine zD (xy3 x) cB (zH rfl) rfl ?_
  simp[go_sem]
  refine zD (zJ6 (!zW9 x)) cB (zH rfl) rfl ?_
  simp[go_sem]
  exact ret _ _ _ hM
 by_cases a6:s= [78,69,71]
 .rw[if_neg a5,if_pos a6]at hM
  refine zA ?_
  simp[go_sem,q,a6,hpos,hx]
  refine zD (yw1 0 x.n (by decide) hxn) cB (zH rfl) rfl ?_
  simp[go_sem,wA]
  refine zD (yH1 (rngF (-x.n))) cB (zH rfl) rfl ?_
  simp[go_sem,valP]
  exact zn0 hM
 rw[if_neg a5,if_neg a6]at hM
 have h3:1<l.length:=by
  by_cases q:1<l.length
  .exact q
  .rcases hs (by omega)with h|h|h|h
   .exact absurd h a1
   .exact absurd h a2
   .exact absurd h a5
   .exact absurd h a6
 obtain⟨y,hy⟩:=eX (l[1]'h3)
 have hyd:l.getD 1 zeroV=y:=by rw[A5,A0 h3,hy];rfl
 have hyn:okI y.n:=hn y (hy▸A8 h3)
 rw[hyd]at hM
 have b5:(s== [78,79,84])=false:=by simpa using a5
 have b6:(s== [78,69,71])=false:=by simpa using a6
 have hcm:=yn0 x y
 have hho:=xE4 s (cmpV x y)
 have htr:=zJ6 (zS3 s (cmpV x y))
 have hre:=xv8 s x.n y.n hxn hyn
 have hnu:=yH1 (zx4 s x.n y.n)
 by_cases a7:cmpOps.contains s=true
 .rw[if_pos a7]at hM
  have a8:s= [61]∨s= [60,62]∨s= [60]∨s= [60,61]∨s= [62]∨s= [62,61]:=by
   simpa[cmpOps]using a7
  rcases a8 with a8|a8|a8|a8|a8|a8
  all_goals
   rw[a8]at hho htr hM
   refine zA ?_
   simp[go_sem,q,a8]
   refine yU [(7,0),(8,0),(9,0)] 1 rfl (by kernel_rfl) (by kernel_rfl) ?_
   simp[go_sem,hpos,hx,h3,hy]
   refine zJ (by omega) ?_
   simp[go_sem]
   refine zW hcm cB (fun _=>zH rfl) rfl ?_
   simp[go_sem]
   refine zW hho cB (fun _=>zH rfl) rfl ?_
   simp[go_sem]
   refine zW htr cB (fun _=>zH rfl) rfl ?_
   simp[go_sem]
   exact ret _ _ _ hM
 rw[if_neg a7]at hM
 have a8: ¬s= [61]/\ ¬s= [60,62]/\ ¬s= [60]/\ ¬s= [60,61]/\ ¬s= [62]/\ ¬s= [62,61]:=by
  simpa[cmpOps]using a7
 have c1:(s== [61])=false:=by simpa using a8.1
 have c2:(s== [60,62])=false:=by simpa using a8.2.1
 have c3:(s== [60])=false:=by simpa using a8.2.2.1
 have c4:(s== [60,61])=false:=by simpa using a8.2.2.2.1
 have c5:(s== [62])=false:=by simpa using a8.2.2.2.2.1
 have c6:(s== [62,61])=false:=by simpa using a8.2.2.2.2.2
 refine zA ?_
 simp[go_sem,q,b5,b6,c1,c2,c3,c4,c5,c6]
 refine yU [(9,0),(12,0)] 1 rfl (by kernel_rfl) (by kernel_rfl) ?_
 simp[go_sem,hpos,hx,h3,hy]
 refine zJ (by omega) ?_
 simp[go_sem]
 refine zW hre cB (fun _=>zH rfl) rfl ?_
 simp[go_sem,wA]
 refine zW hnu cB (fun _=>zH rfl) rfl ?_
 simp[go_sem,valP]
 exact zn0 hM
mutual
def evF (T:GTable) (row:List GValue):GExpr->GValue×Int
 | .mk k s v args=>
  if k=1 then(v,0)else if k=2 then(row.getD (colF T s).toNat zeroV,0)
  else if(evsF T row args).2≠0 then(zeroV,(evsF T row args).2)else zF3 s (evsF T row args).1
def evsF (T:GTable) (row:List GValue):List GExpr->List GValue×Int
 | []=>([],0)
 |e::l=>if(evF T row e).2≠0 then([],(evF T row e).2)else((evF T row e).1::(evsF T row l).1,(evsF T row l).2)
end
theorem xp0 (T:GTable) (row:List GValue) (e:GExpr):evF T row e=
  if e.kind=1 then(e.v,0)else if e.kind=2 then(row.getD (colF T e.s).toNat zeroV,0)
  else if(evsF T row e.args).2≠0 then(zeroV,(evsF T row e.args).2)else zF3 e.s (evsF T row e.args).1:=by cases e;rw[evF];rfl
structure VK (v:GValue) (k:Int):Prop where
 may:mayF v=true
 n:okI v.n
 kind:v.kind=k∨v.kind=0
theorem zJ7 (k:Int):VK zeroV k:=⟨by decide,by decide,.inr rfl⟩
theorem zQ4 (b:Bool):VK (zy8 b) 1:=by cases b<;>exact⟨by decide,by decide,.inl rfl⟩
theorem yx7 (n:Int):okI (rngF n).1:=by
 unfold rngF
 split
 .assumption
 .decide
theorem yQ3 {s:List UInt8} {a b:Int} (ha:okI a) (hb:okI b):okI (zx4 s a b).1:=by
 unfold zx4
 repeat' split
 all_goals first|exact yx7 _|exact xI7 ha hb|decide
theorem ys4 {r:Int×Int} (h:okI r.1):VK (zs8 r).1 2:=by
 unfold zs8
 split
 .exact⟨rfl,h,.inl rfl⟩
 .exact zJ7 2
theorem zZ7 (w:Int): ∀(l:List GValue) (b:Bool),(∀v∈l,VK v 1)->VK (zE2 w l b) 1
 | [],b,_=>by
  rw[zE2]
  split
  .exact zJ7 1
  .exact zQ4 _
 |v::l,b,h=>by
  rw[zE2]
  split
  .exact zZ7 w l true fun x hx=>h x (B5 _ hx)
  .split
   .exact h v (Bb ..)
   .exact zZ7 w l b fun x hx=>h x (B5 _ hx)
theorem zA6 {m s:Bool} {k k':Int} (h:zQ0 m s k=(k',0)):m=true/\s=true/\k'=k:=by
 unfold zQ0 at h
 cases m<;>cases s<;>simp at h
 exact⟨rfl,rfl,h.symm⟩
inductive OpK (s:List UInt8) (ks:List Int) (k:Int):Prop
 |null (hs:s= [73,83,78,85,76,76]∨s= [78,79,84,78,85,76,76]) (hl:ks.length=1) (hk:k=1)
 |not (hs:s= [78,79,84]) (hl:ks.length=1) (ha:allK ks 1=true) (hk:k=1)
 |neg (hs:s= [78,69,71]) (hl:ks.length=1) (ha:allK ks 2=true) (hk:k=2)
 |both (hs:s= [79,82]∨s= [65,78,68]) (hl:ks.length=2) (ha:allK ks 1=true) (hk:k=1)
 |sum (hs:s= [43]∨s= [45]∨s= [42]∨s= [47]∨s= [37]) (hl:ks.length=2) (ha:allK ks 2=true) (hk:k=2)
 |cmp (hs:s= [61]∨s= [60,62]∨s= [60]∨s= [60,61]∨s= [62]∨s= [62,61]) (hl:ks.length=2) (hk:k=1)
theorem xu7 {s:List UInt8} {ks:List Int} {k:Int} (h:zu8 s ks=(k,0)):OpK s ks k:=by
 have one:((ks.length:Int)==1)=true->ks.length=1:=fun h=>by
   have:(ks.length:Int)=1:=by simpa using h
   omega
 have two:((ks.length:Int)==2)=true->ks.length=2:=fun h=>by
   have:(ks.length:Int)=2:=by simpa using h
   omega
 unfold zu8 at h
 split at h
 .obtain⟨h1,_,h3⟩:=zA6 h;exact .null (by assumption) (one h1) h3
 split at h
 .obtain⟨h1,h2,h3⟩:=zA6 h;exact .not (by assumption) (one h1) h2 h3
 split at h
 .obtain⟨h1,h2,h3⟩:=zA6 h;exact .neg (by assumption) (one h1) h2 h3
 split at h
 .obtain⟨h1,h2,h3⟩:=zA6 h;exact .both (by assumption) (two h1) h2 h3
 split at h
 .obtain⟨h1,h2,h3⟩:=zA6 h;exact .sum (by assumption) (two h1) h2 h3
 split at h
 .obtain⟨h1,_,h3⟩:=zA6 h;exact .cmp (by assumption) (two h1) h3
 .cases h
theorem yA7 {R:GValue->Int->Prop}: ∀{l:List GValue} {ks:List Int},All2 R l ks->l.length=ks.length
 | [],[],_=>rfl
 |_::_,_::_,⟨_,h⟩=>by rw[Ah,Ah,yA7 h]
theorem yt1 {k:Int}: ∀{l:List GValue} {ks:List Int},All2 VK l ks->allK ks k=true-> ∀v∈l,VK v k
 | [],[],_,_,v,hv=>by cases hv
 |x::l,y::ks,⟨h1,h2⟩,ha,v,hv=>by
  unfold allK at ha
  rw[Am,A4,Bt,beq_iff_eq,beq_iff_eq]at ha
  rcases Ag.1 hv with rfl|hv
  .exact⟨h1.may,h1.n,by
    rcases h1.kind with q|q
    .rcases ha.1 with r|r
     .exact .inl (q.trans r)
     .exact .inr (q.trans r)
    .exact .inr q⟩
  .exact yt1 h2 ha.2 v hv
theorem xl3 {R:GValue->Int->Prop} (hR: ∀v k,R v k->okI v.n): ∀{l:List GValue} {ks:List Int},All2 R l ks-> ∀v∈l,okI v.n
 | [],[],_,v,hv=>by cases hv
 |x::l,y::ks,⟨h1,h2⟩,v,hv=>by
  rcases Ag.1 hv with rfl|hv
  .exact hR _ _ h1
  .exact xl3 hR h2 v hv
theorem xd7 (l:List GValue):zF3 [78,79,84] l=if(l.any fun v=>v.kind==0)=true then(zeroV,0)else(zy8 (!zW9 (l.getD 0 zeroV)),0):=rfl
theorem xd6 (l:List GValue):zF3 [78,69,71] l=if(l.any fun v=>v.kind==0)=true then(zeroV,0)else zs8 (rngF (-(l.getD 0 zeroV).n)):=rfl
theorem xd5 {s:List UInt8} (hs:s= [61]∨s= [60,62]∨s= [60]∨s= [60,61]∨s= [62]∨s= [62,61]) (l:List GValue):
  zF3 s l=if(l.any fun v=>v.kind==0)=true then(zeroV,0)else(zy8 (zS3 s (cmpV (l.getD 0 zeroV) (l.getD 1 zeroV))),0):=by
 rcases hs with rfl|rfl|rfl|rfl|rfl|rfl<;>rfl
theorem xd8 {s:List UInt8} (hs:s= [43]∨s= [45]∨s= [42]∨s= [47]∨s= [37]) (l:List GValue):
  zF3 s l=if(l.any fun v=>v.kind==0)=true then(zeroV,0)else zs8 (zx4 s (l.getD 0 zeroV).n (l.getD 1 zeroV).n):=by
 rcases hs with rfl|rfl|rfl|rfl|rfl<;>rfl
theorem yV5 {s:List UInt8} {l:List GValue} {ks:List Int} {k:Int} (ho:zu8 s ks=(k,0)) (ha:All2 VK l ks):
  VK (zF3 s l).1 k/\1<=l.length/\l.length<=2/\(∀v∈l,okI v.n)/\(l.length=1->s= [73,83,78,85,76,76]∨s= [78,79,84,78,85,76,76]∨s= [78,79,84]∨s= [78,69,71]):=by
 have hlen:=yA7 ha
 have hn:=xl3 (fun _ _ h=>VK.n h) ha
 have hx: ∀j,okI (l.getD j zeroV).n:=fun j=>by
  rw[A5]
  cases hj:l[j]? with
  |none=>decide
  |some v=>exact hn v (B1 hj)
 have hng: ∀n:Int,okI (rngF n).1:=yx7
 cases xu7 ho with
 |null hs hl hk=>
  subst hk
  refine⟨?_,by omega,by omega,hn,fun _=>by rcases hs with h|h<;>simp[h]⟩
  rcases hs with rfl|rfl<;>exact zQ4 _
 |not hs hl hk' hk=>
  subst hs hk
  refine⟨?_,by omega,by omega,hn,fun _=>by simp⟩
  rw[xd7]
  split
  .exact zJ7 1
  .exact zQ4 _
 |neg hs hl hk' hk=>
  subst hs hk
  refine⟨?_,by omega,by omega,hn,fun _=>by simp⟩
  rw[xd6]
  split
  .exact zJ7 2
  .exact ys4 (hng _)
 |both hs hl hk' hk=>
  subst hk
  refine⟨?_,by omega,by omega,hn,fun h=>by omega⟩
  rcases hs with rfl|rfl
  .exact zZ7 1 l false (yt1 ha hk')
  .exact zZ7 0 l false (yt1 ha hk')
 |sum hs hl hk' hk=>
  subst hk
  refine⟨?_,by omega,by omega,hn,fun h=>by omega⟩
  rw[xd8 hs]
  split
  .exact zJ7 2
  .exact ys4 (yQ3 (hx 0) (hx 1))
 |cmp hs hl hk=>
  subst hk
  refine⟨?_,by omega,by omega,hn,fun h=>by omega⟩
  rw[xd5 hs]
  split
  .exact zJ7 1
  .exact zQ4 _
structure RowOk (T:GTable) (row:List GValue):Prop where
 len:row.length=T.cols.length
 cell: ∀(j:Nat) (C:GCol) (v:GValue),T.cols[j]? =some C->row[j]? =some v->VK v C.kind
theorem yV7 {T:GTable} {row:List GValue} (hr:RowOk T row): ∀(n:Nat) (e:GExpr),wB e<=n->Good e->(zj3 T e).2=0->(evF T row e).2=0->VK (evF T row e).1 (zj3 T e).1
 |0,e,h,_,_,_=>by have:=zI6 e;omega
 |n+1,e,h,hg,hk,he=>by
  have ih:=yV7 hr n
  have hde:=zj0 e
  rw[xp0]at he⊢
  rw[yf3]at hk⊢
  by_cases q1:e.kind=1
  .rw[if_pos q1]at hk⊢
   rw[if_pos q1]
   by_cases w:e.s.isEmpty=false∨e.args.isEmpty=false∨mayF e.v=false
   .rw[if_pos w]at hk;cases hk
   .rw[if_neg w]
    refine⟨by
      cases hm:mayF e.v with
      |true=>rfl
      |false=>exact absurd (.inr (.inr hm)) w,⟨hg.v.n.1,hg.v.n.2⟩,.inl rfl⟩
  rw[if_neg q1]at hk he⊢
  rw[if_neg q1]
  by_cases q2:e.kind=2
  .rw[if_pos q2]at hk⊢
   rw[if_pos q2]
   by_cases w:colF T e.s<0
   .rw[if_pos w]at hk;cases hk
   rw[if_neg w]at hk⊢
   by_cases w2:e.args.isEmpty=false∨zq7 e.v=false
   .rw[if_pos w2]at hk;cases hk
   rw[if_neg w2]
   obtain⟨j,hj,hjl⟩:=zN5 T e.s w
   have hjr:j<row.length:=by rw[hr.len];exact hjl
   simp only
   rw[hj,Ax,A5,A0 hjr]
   unfold colK
   rw[Ax,A0 hjl]
   exact hr.cell j _ _ (A0 hjl) (A0 hjr)
  rw[if_neg q2]at hk he⊢
  rw[if_neg q2]
  by_cases q3:e.kind=3
  rotate_left
  .rw[if_neg q3]at hk;cases hk
  rw[if_pos q3]at hk⊢
  have hgs:=hg.sub
  have list: ∀args:List GExpr,(∀x∈args,x∈e.args)->(wI T args).2=0->(evsF T row args).2=0->All2 VK (evsF T row args).1 (wI T args).1:=by
   intro args
   induction args with
   |nil=>intro _ _ _;exact trivial
   |cons x l ihl=>
    intro hm hk he
    rw[wI]at hk⊢
    rw[evsF]at he⊢
    by_cases w1:(zj3 T x).2=0
    rotate_left
    .rw[if_pos w1]at hk;exact absurd hk w1
    by_cases w2:(evF T row x).2=0
    rotate_left
    .rw[if_pos w2]at he;exact absurd he w2
    have n1: ¬(zj3 T x).2≠0:=fun h=>h w1
    have n2: ¬(evF T row x).2≠0:=fun h=>h w2
    rw[if_neg n1]at hk⊢
    rw[if_neg n2]at he⊢
    have hx:=hm x (Bb ..)
    have hdx:=zk9 e.args x hx
    exact⟨ih x (by omega) (hgs x hx) w1 w2,ihl (fun y hy=>hm y (B5 _ hy)) hk he⟩
  by_cases w1:(wI T e.args).2=0
  rotate_left
  .rw[if_pos w1]at hk;exact absurd hk w1
  by_cases w2:(evsF T row e.args).2=0
  rotate_left
  .rw[if_pos w2]at he;exact absurd he w2
  have n1: ¬(wI T e.args).2≠0:=fun h=>h w1
  have n2: ¬(evsF T row e.args).2≠0:=fun h=>h w2
  rw[if_neg n1]at hk⊢
  rw[if_neg n2]at he⊢
  by_cases w3:zq7 e.v=false
  .rw[if_pos w3]at hk;cases hk
  rw[if_neg w3]at hk⊢
  exact(yV5 (Prod.ext rfl hk) (list e.args (fun _ h=>h) w1 w2)).1
theorem yf5 {T:GTable}: ∀{args:List GExpr},(wI T args).2=0-> ∀x∈args,(zj3 T x).2=0
 | [],_,x,hx=>by cases hx
 |y::l,h,x,hx=>by
  rw[wI]at h
  by_cases w:(zj3 T y).2=0
  .have n1: ¬(zj3 T y).2≠0:=fun h=>h w
   rw[if_neg n1]at h
   rcases Ag.1 hx with rfl|hx
   .exact w
   .exact yf5 h x hx
  .rw[if_pos w]at h;exact absurd h w
theorem xp5 {T:GTable} {row:List GValue} (hr:RowOk T row) (n:Nat): ∀{args:List GExpr},(∀x∈args,wB x<=n/\Good x)->(wI T args).2=0->(evsF T row args).2=0->All2 VK (evsF T row args).1 (wI T args).1
 | [],_,_,_=>trivial
 |x::l,hm,hk,he=>by
  rw[wI]at hk⊢
  rw[evsF]at he⊢
  by_cases w1:(zj3 T x).2=0
  rotate_left
  .rw[if_pos w1]at hk;exact absurd hk w1
  by_cases w2:(evF T row x).2=0
  rotate_left
  .rw[if_pos w2]at he;exact absurd he w2
  have n1: ¬(zj3 T x).2≠0:=fun h=>h w1
  have n2: ¬(evF T row x).2≠0:=fun h=>h w2
  rw[if_neg n1]at hk⊢
  rw[if_neg n2]at he⊢
  have hx:=hm x (Bb ..)
  exact⟨yV7 hr n x hx.1 hx.2 w1 w2,xp5 hr n (fun y hy=>hm y (B5 _ hy)) hk he⟩
theorem yN8 {T:GTable} {row:List GValue} (hr:RowOk T row) (hT:T.cols.length<=maxLen): ∀(n:Nat) (e:GExpr),wB e<=n->Wide e->Good e->(zj3 T e).2=0->Pure prog 112 [.agg T.row,.sl .ro (row.map GValue.row),.agg e.row] (valP (evF T row e))
 |0,e,h,_,_,_=>by have:=zI6 e;omega
 |n+1,e,h,hw,hg,hk=>by
  have ih:=yN8 hr hT n
  have hok:= @xp5 _ _ hr n
  have hde:=zj0 e
  have hlen:=hw.len
  have hsub:=hw.sub
  have hgs:=hg.sub
  have hcol:=ym4 T e.s hT
  rw[show wN (fun c:GCol=>c.name==e.s) T.cols 0=colF T e.s from rfl]at hcol
  obtain⟨M,hM⟩:=eX (evF T row e)
  rw[hM]
  rw[xp0]at hM
  rw[yf3]at hk
  have ret: ∀(v:GValue) (e:Int) (σ:St),(v,e)=M->wret (some (.tup [.agg v.row,.int .i64 e])) 0 (fun r s=>r=valP M/\s= []) σ:=fun v e σ h=>zn0 h
  refine iV 0 func112 ntmps112 results112 fun c hc hb=> ?_
  refine zA ?_
  simp[go_sem]
  by_cases q1:e.kind=1
  .have q1':(e.kind==1)=true:=by simpa using q1
   rw[if_pos q1]at hM
   simp[go_sem,q1']
   exact ret _ _ _ hM
  rw[if_neg q1]at hM hk
  have q1':(e.kind==1)=false:=by simpa using q1
  by_cases q2:e.kind=2
  .have q2':(e.kind==2)=true:=by simpa using q2
   rw[if_pos q2]at hM hk
   by_cases w:colF T e.s<0
   .rw[if_pos w]at hk;cases hk
   obtain⟨j,hj,hjl⟩:=zN5 T e.s w
   have hjr:j<row.length:=by rw[hr.len];exact hjl
   obtain⟨v,hv⟩:=eX (row[j])
   rw[hj,Ax,A5,A0 hjr,hv]at hM
   rw[hj]at hcol
   simp[go_sem,q1',q2']
   refine zD hcol cB (zR (by simp[go_sem]) rfl) rfl ?_
   simp[go_sem,hjr,hv]
   exact ret _ _ _ hM
  rw[if_neg q2]at hM hk
  have q2':(e.kind==2)=false:=by simpa using q2
  by_cases q3:e.kind=3
  rotate_left
  .rw[if_neg q3]at hk;cases hk
  rw[if_pos q3]at hk
  obtain⟨args,hargs⟩:=eX e.args
  rw[hargs]at hde hlen hsub hgs hM hk
  by_cases w1:(wI T args).2=0
  rotate_left
  .rw[if_pos w1]at hk;exact absurd hk w1
  have n1: ¬(wI T args).2≠0:=fun h=>h w1
  rw[if_neg n1]at hk
  by_cases w3:zq7 e.v=false
  .rw[if_pos w3]at hk;cases hk
  rw[if_neg w3]at hk
  have hop:zu8 e.s (wI T args).1=((zu8 e.s (wI T args).1).1,0):=Prod.ext rfl hk
  have hmem:=yf5 w1
  have hevs:(evsF T row args).2=0->All2 VK (evsF T row args).1 (wI T args).1:=fun h=>
   hok (fun x hx=>⟨by have:=zk9 args x hx;omega,hgs x hx⟩) w1 h
  obtain⟨K,hK⟩:=eX (evsF T row args)
  rw[hK]at hM hevs
  simp[go_sem,q1',q2',hargs]
  refine zn1 8 3 (by decide) (by simp[go_sem]) ?_
  refine zL (S:=Nat×List GValue) [1,3,5,6,8,29,30,31] (fun u=> [.sl .ro (row.map GValue.row),.ptr 0 0,.ptr 1 0,.ptr 2 0,.sl (.app 3) (u.2.map GValue.row),.sl .ro (args.map GExpr.row),.int .i64 args.length,.int .i64 (u.1:Int)])
   (fun u=> [.box T.row,.box e.row,.box [.int .i64 0,.int .i64 0,.str []],.app u.2.length 3]) (fun u=>args.length - u.1)
   (fun u=>u.1<=args.length/\u.2.length=u.1/\(evsF T row (args.drop u.1)).2=K.2/\(K.2=0->u.2++(evsF T row (args.drop u.1)).1=K.1)) hc hb (0,[])
   ⟨A3 _,rfl,by simp only[Bd];rw[hK],fun _=>by simp only[Bd];rw[hK];rfl⟩ ?_ ?_
  .exact at_n 4 (by simp[go_sem,hargs]) rfl (by simp[ltOb,ltC,ltK,GExpr.row_eq,GTable.row]) (A3 _) (zG (by simp[go_sem]) rfl)
  rintro⟨i,l⟩ ⟨hi,hl,hinv,hinv2⟩
  simp only at hi hl hinv hinv2
  by_cases q:i<args.length
  rotate_left
  .rw[A9 (by omega),evsF]at hinv hinv2
   have hK2:K.2=0:=hinv.symm
   have hK1:l=K.1:=by have:=hinv2 hK2;simpa using this
   have n2: ¬K.2≠0:=fun h=>h hK2
   rw[if_neg n2,<-hK1]at hM
   have hA:=hevs hK2
   rw[<-hK1]at hA
   obtain⟨_,d1,d2,d3,d4⟩:=yV5 hop hA
   have hdo:=xO3 e.s l d1 d2 d3 d4
   generalize zF3 e.s l=o at hdo hM
   refine zA ?_
   simp[go_sem,q]
   refine zD hdo cB ⟨zC rfl,zX,trivial⟩ rfl ?_
   simp[go_sem,valP]
   exact zn0 hM
  have ei:=zV q (by omega)
  obtain⟨x,hx⟩:=eX (args[i])
  have hxm:x∈args:=hx▸A8 q
  have hdx:=zk9 args x hxm
  rw[A6 q,hx,evsF]at hinv hinv2
  have hcall:=ih x (by omega) (hsub x hxm) (hgs x hxm) (hmem x hxm)
  generalize evF T row x=kx at hcall hinv hinv2
  by_cases q4:kx.2=0
  .have n3: ¬kx.2≠0:=fun h=>h q4
   rw[if_neg n3]at hinv hinv2
   have q4':(kx.2 !=0)=false:=by simpa using q4
   refine zA ?_
   simp[go_sem,q,hx]
   refine zD hcall cB (zR (by simp[go_sem]) (by rw[GExpr.row_eq];rfl)) rfl ?_
   simp[go_sem,valP,q4']
   refine zJ ⟨by omega,by unfold uni;simp⟩ ?_
   simp[go_sem,ei]
   refine zI (i+1,l++ [kx.1]) ⟨by simp only;omega,⟨by simp only;omega,by simp;omega,hinv,fun h=>by have:=hinv2 h;simpa using this⟩, ?_⟩
   exact aN 4 (by simp[ltOb,ltC,ltK,GExpr.row_eq])
  .rw[if_pos q4]at hinv
   have q4':(kx.2 !=0)=true:=by simpa using q4
   have hK2:kx.2=K.2:=hinv
   rw[if_pos (by rw[<-hK2];exact q4),<-hK2]at hM
   refine zA ?_
   simp[go_sem,q,hx]
   refine zD hcall cB (zR (by simp[go_sem]) (by rw[GExpr.row_eq];rfl)) rfl ?_
   simp[go_sem,valP,q4']
   exact ret zeroV _ _ hM
end Go.Proofs.YtkigddpaonhmlaaGreat
