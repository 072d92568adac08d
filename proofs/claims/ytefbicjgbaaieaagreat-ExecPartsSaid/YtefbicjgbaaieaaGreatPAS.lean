/-
  That the program's planner does anything yet, over trees (the library Vx); used by the theorem at the end of the claim.
  Conditions: as each theorem states them.
-/
import Derived.Test.YtefbicjgbaaieaaGreatPAR
import Derived.Test.YtefbicjgbaaieaaGreatPAP
import Derived.Lib.Bytealg
import Derived.Test.YtefbicjgbaaieaaGreatPAN
import Derived.Test.YtefbicjgbaaieaaGreatPAO
set_option maxHeartbeats 8000000
namespace Go.Proofs.YtefbicjgbaaieaaGreat
open Go Go.Vx R Go.Proofs.Tryz
set_option maxRecDepth 100000
variable {a:Int}{σ:St}
theorem xJ2 (T:GTable) (hT:T.cols.length<=1000) (st:GStmt) (hs:SOk st):Pure prog 143 [.agg T.row,.agg st.row] (.int .i64 (zr3 T [] st.sets)):=by
 obtain⟨L,hL⟩:=eX st.sets
 obtain⟨al,ak⟩:=hs.sets
 rw[hL]at al ak
 rw[hL]
 generalize hM:zr3 T [] L=M
 refine iV 0 func143 ntmps143 results143 fun c hc hb=> ?_
 refine zA ?_
 simp[go_sem,hL]
 refine zI (S:=Nat) [2,3,10,11,12] (fun i=> [.ptr 0 0,.ptr 1 0,.sl .ro (L.map GAssign.row),.int .i64 L.length,.int .i64 (i:Int)]) (fun _=> [.box T.row,.box st.row]) (fun i=>L.length - i)
  (fun i=>i<=L.length/\zr3 T (L.take i) (L.drop i)=M) hc hb 0 ⟨A7 _,hM⟩ ?_ ?_
 .exact at_n 2 (by simp[go_sem,hL]) rfl (st_T T st 2) (A7 _) (zF sg rfl)
 rintro i ⟨hi,hinv⟩
 by_cases q:i<L.length
 rotate_left
 .rw[Ad om,zr3]at hinv
  refine zA ?_
  simp[go_sem,q]
  exact iret hinv
 have ei:=zS q om
 obtain⟨x,hx⟩:=eX (L[i])
 obtain⟨aq,hE⟩:=ak x (hx▸Ac q)
 have aa:=ym0 T x.name (by unfold maxLen;omega)
 rw[show ze8 (fun c:GCol=>c.name==x.name) T.cols 0=colF T x.name from rfl]at aa
 have ag:=xQ9 x (L.take i) (by simp;omega)
 have an:L.take (i+1)=L.take i++ [x]:=by rw[Dj,A4 q,hx];rfl
 rw[Aa q,hx,zr3,<-an]at hinv
 generalize ((L.take i).any fun y=>y.name==x.name)=b at ag hinv
 by_cases qc:colF T x.name<0
 .have ae:decide (colF T x.name<0)=true:=decide_eq_true qc
  rw[if_pos qc]at hinv
  refine zA ?_
  simp[go_sem,q,hx]
  refine zM aa cB (zO sg rfl) rfl ?_
  simp[go_sem,ae]
  exact iret hinv
 have ae:decide (colF T x.name<0)=false:=decide_eq_false qc
 rw[if_neg qc]at hinv
 obtain⟨j,hj,ai⟩:=zO2 T x.name qc
 obtain⟨C,hC⟩:=eX (T.cols[j])
 have ao:colK T (colF T x.name)=C.kind:=by
  unfold colK
  rw[hj,B6,A4 ai,hC];rfl
 rw[ao]at hinv
 have ab:=zZ3 T (by unfold maxLen;omega) x.e hE C.kind
 generalize zv3 T x.e C.kind=kc at ab hinv
 rw[hj]at aa hinv ae
 by_cases qk:(j:Int)=T.key∨((j:Int)=0/\T.place=0)
 .rw[if_pos qk]at hinv
  refine zA ?_
  simp[go_sem,q,hx]
  refine zM aa cB (zO sg rfl) rfl ?_
  simp[go_sem,ae]
  by_cases k1:(j:Int)=T.key
  .have af:((j:Int)==T.key)=true:=by simpa using k1
   simp[go_sem,af]
   exact iret hinv
  .have af:((j:Int)==T.key)=false:=by simpa using k1
   obtain⟨k2,k3⟩:=qk.resolve_left k1
   have ah:((j:Int)==0)=true:=by simpa using k2
   have aj:(T.place==0)=true:=by simpa using k3
   simp[go_sem,af,ah,aj]
   exact iret hinv
 rw[if_neg qk]at hinv
 have af:((j:Int)==T.key)=false:=by simpa using fun h=>qk (.inl h)
 have key:((j:Int)==0)=false∨(((j:Int)==0)=true/\(T.place==0)=false):=by
  by_cases k2:(j:Int)=0
  .exact .inr ⟨by simpa using k2,by simpa using fun h=>qk (.inr ⟨k2,h⟩)⟩
  .exact .inl (by simpa using k2)
 refine key.elim (fun ah=> ?_) (fun⟨ah,aj⟩=> ?_)
 .refine zA ?_
  simp[go_sem,q,hx]
  refine zM aa cB (zO sg rfl) rfl ?_
  simp[go_sem,ae,af,ah,hL]
  refine zG ⟨hi,ya0 fun _=>rfl⟩ ?_
  simp[go_sem,<-List.map_take]
  refine zm2 2 ag cB rfl (st_x x) ⟨zL,.inl (by simp[renS,renA,renC,renK,ren]),tV⟩ (fun r σ h=>⟨_,h.2,st_x x⟩) ?_
  rintro r o2 ⟨rfl,h2⟩
  obtain rfl:o2= .box x.row:=by simpa using h2
  refine(Ab b).elim (fun p=> ?_) (fun p=> ?_)
  .rw[if_pos p]at hinv
   simp[go_sem,p]
   exact iret hinv
  rw[if_neg (by rw[p];decide)]at hinv
  simp[go_sem,p]
  refine zc3 [(9,0)] 3 sm kR kR ?_
  simp[go_sem,ai,hC]
  refine zi1 ab cB (fun _=>⟨zC rfl,zN8 x.e,zC rfl,tV⟩) rfl ?_
  simp[go_sem]
  by_cases qe:kc=0
  .have ad:(kc !=0)=false:=by simpa using qe
   rw[if_neg (fun h=>h qe)]at hinv
   simp[go_sem,ad,ei]
   exact zH (i+1) ⟨om,⟨om,hinv⟩,at_n 2 (by simp[go_sem,hL]) rfl (st_T T st 2) (A7 _) (zF sg rfl)⟩
  .have ad:(kc !=0)=true:=by simpa using qe
   rw[if_pos qe]at hinv
   simp[go_sem,ad]
   exact iret hinv
 .refine zA ?_
  simp[go_sem,q,hx]
  refine zM aa cB (zO sg rfl) rfl ?_
  simp[go_sem,ae,af,ah,aj,hL]
  refine zG ⟨hi,ya0 fun _=>rfl⟩ ?_
  simp[go_sem,<-List.map_take]
  refine zm2 2 ag cB rfl (st_x x) ⟨zL,.inl (by simp[renS,renA,renC,renK,ren]),tV⟩ (fun r σ h=>⟨_,h.2,st_x x⟩) ?_
  rintro r o2 ⟨rfl,h2⟩
  obtain rfl:o2= .box x.row:=by simpa using h2
  refine(Ab b).elim (fun p=> ?_) (fun p=> ?_)
  .rw[if_pos p]at hinv
   simp[go_sem,p]
   exact iret hinv
  rw[if_neg (by rw[p];decide)]at hinv
  simp[go_sem,p]
  refine zc3 [(9,0)] 3 sm kR kR ?_
  simp[go_sem,ai,hC]
  refine zi1 ab cB (fun _=>⟨zC rfl,zN8 x.e,zC rfl,tV⟩) rfl ?_
  simp[go_sem]
  by_cases qe:kc=0
  .have ad:(kc !=0)=false:=by simpa using qe
   rw[if_neg (fun h=>h qe)]at hinv
   simp[go_sem,ad,ei]
   exact zH (i+1) ⟨om,⟨om,hinv⟩,at_n 2 (by simp[go_sem,hL]) rfl (st_T T st 2) (A7 _) (zF sg rfl)⟩
  .have ad:(kc !=0)=true:=by simpa using qe
   rw[if_pos qe]at hinv
   simp[go_sem,ad]
   exact iret hinv
def zo8 (st:GStmt):Int:=
 match tabsS[(zd9 st.table).toNat]? with
 |none=>14
 |some T=>if zd9 st.table<0 then 14 else if st.kind=1 then zY7 T st else if st.kind=2 then yq7 T st.rows else if st.kind=3 then(if zr3 T [] st.sets≠0 then zr3 T [] st.sets else zI5 T st)else zI5 T st
theorem xo3 (st:GStmt) (hs:SOk st):Pure prog 85 [schR tabsS,.agg st.row] (.int .i64 (zo8 st)):=by
 have ad:=xm1 tabsS st.table dc
 rw[show ze8 (fun t:GTable=>t.name==st.table) tabsS 0=zd9 st.table from rfl]at ad
 generalize hM:zo8 st=M
 unfold zo8 at hM
 have al:=zX3 st.table
 generalize zd9 st.table=t at ad al hM
 refine iW 0 func85 ntmps85 results85 fun c hc hb=>zJ ?_
 simp[go_sem,schR]
 refine zM ad cB (zO (by simp[go_sem,schR]) rfl) rfl ?_
 simp[go_sem]
 by_cases ah:t= -1
 .have hM:14=M:=by rw[<-hM,ah];rfl
  subst ah
  simp[go_sem]
  exact iret hM
 have ai: ¬t<0:=om
 have aj:decide (t<0)=false:=decide_eq_false ai
 obtain⟨j,rfl⟩: ∃j:Nat,t=j:=⟨t.toNat,om⟩
 have ae:j<tabsS.length:=by show j<3;omega
 obtain⟨T,hT⟩:=eX (tabsS[j])
 have ak:T.cols.length<=1000:=by
  rw[<-hT]
  match j,ae with
  |0,_=>exact(by decide:tabT.cols.length<=1000)
  |1,_=>exact(by decide:tabG.cols.length<=1000)
  |2,_=>exact(by decide:tabH.cols.length<=1000)
 simp only[B6,A4 ae,hT]at hM
 rw[if_neg ai]at hM
 have h1:=xo6 T (by unfold maxLen;omega) st hs
 have h2:=xf6 T ak st hs
 have h3:=xJ2 T ak st hs
 have h4:=yM4 T (by unfold maxLen;omega) st hs
 simp[go_sem,aj,ae,hT]
 by_cases k1:st.kind=1
 .have aa:(st.kind==1)=true:=by simpa using k1
  rw[if_pos k1]at hM
  simp[go_sem,aa]
  refine zM h1 cB (zO sg rfl) rfl ?_
  simp[go_sem]
  exact iret hM
 have aa:(st.kind==1)=false:=by simpa using k1
 rw[if_neg k1]at hM
 by_cases k2:st.kind=2
 .have ab:(st.kind==2)=true:=by simpa using k2
  rw[if_pos k2]at hM
  simp[go_sem,aa,ab]
  refine zM h2 cB (zO sg rfl) rfl ?_
  simp[go_sem]
  exact iret hM
 have ab:(st.kind==2)=false:=by simpa using k2
 rw[if_neg k2]at hM
 by_cases k3:st.kind=3
 .have af:(st.kind==3)=true:=by simpa using k3
  rw[if_pos k3]at hM
  generalize zr3 T [] st.sets=sc at h3 hM
  simp[go_sem,aa,ab,af]
  refine zM h3 cB (zO sg rfl) rfl ?_
  by_cases qe:sc=0
  .have ag:(sc !=0)=false:=by simpa using qe
   rw[if_neg (fun h=>h qe)]at hM
   simp[go_sem,ag]
   refine zM h4 cB (zO sg rfl) rfl ?_
   simp[go_sem]
   exact iret hM
  .have ag:(sc !=0)=true:=by simpa using qe
   rw[if_pos qe]at hM
   simp[go_sem,ag]
   exact iret hM
 have af:(st.kind==3)=false:=by simpa using k3
 rw[if_neg k3]at hM
 simp[go_sem,aa,ab,af]
 refine zM h4 cB (zO sg rfl) rfl ?_
 simp[go_sem]
 exact iret hM
def zM3 (mode:Int):List GStmt->Nat->Int×Int
 | [],_=>(0,0)
 |x::l,i=>if mode≠0/\x.kind≠1 then((i:Int),1)else if zo8 x≠0 then((i:Int),zo8 x)else zM3 mode l (i+1)
def zy4 (l:GLot):Int×Int:=if mayL l=true then zM3 l.mode l.stmts 0 else(0,9)
theorem yI4 (l:GLot) (hl:LOk l):Pure prog 40 [schR tabsS,.agg l.row] (wB (zy4 l)):=by
 have ad:=xl0 l hl
 obtain⟨L,hL⟩:=eX l.stmts
 obtain⟨ag,af⟩:=hl.stmts
 rw[hL]at ag af
 obtain⟨m,hm⟩:=eX l.mode
 generalize hM:zy4 l=M
 unfold zy4 at hM
 rw[hL,hm]at hM
 generalize mayL l=b at ad hM
 refine iV 0 func40 ntmps40 results40 fun c hc hb=> ?_
 refine zA ?_
 simp[go_sem,schR]
 refine zM ad cB (zO sg rfl) rfl ?_
 refine(Ab b).elim (fun p=> ?_) (fun p=> ?_)
 rotate_left
 .rw[if_neg (by rw[p];decide)]at hM
  simp[go_sem,p]
  exact zv4 hM
 rw[if_pos p]at hM
 simp[go_sem,p,hL]
 refine zI (S:=Nat) [2,3,13,14,15] (fun i=> [.ptr 0 0,.ptr 1 0,.sl .ro (L.map GStmt.row),.int .i64 L.length,.int .i64 (i:Int)]) (fun _=> [.box [.sl .ro xX,.sl .ro (tabsS.map GTable.row)],.box l.row]) (fun i=>L.length - i)
  (fun i=>i<=L.length/\zM3 m (L.drop i) i=M) hc hb 0 ⟨A7 _,hM⟩ ?_ ?_
 .exact at_n 2 (by simp[go_sem,hL]) rfl (by simp[ltOb,ltC,ltK,GLot.row]) (A7 _) (zF sg rfl)
 rintro i ⟨hi,hinv⟩
 by_cases q:i<L.length
 rotate_left
 .rw[Ad om,zM3]at hinv
  refine zA ?_
  simp[go_sem,q]
  exact zv4 hinv
 have ei:=zS q om
 obtain⟨st,ae⟩:=eX (L[i])
 have aa:=xo3 st (af st (ae▸Ac q))
 rw[Aa q,ae,zM3]at hinv
 generalize zo8 st=ce at aa hinv
 refine zA ?_
 simp[go_sem,q,ae,hm]
 by_cases q1:m≠0/\st.kind≠1
 .rw[if_pos q1]at hinv
  have ah:(m !=0)=true:=by simpa using q1.1
  have ai:(st.kind !=1)=true:=by simpa using q1.2
  simp[go_sem,ah,ai]
  exact zv4 hinv
 rw[if_neg q1]at hinv
 have key:(m !=0)=false∨((m !=0)=true/\(st.kind !=1)=false):=by
  by_cases h:m=0
  .exact .inl (by simpa using h)
  .refine .inr ⟨by simpa using h, ?_⟩
   simp only[bne_eq_false_iff_eq]
   exact E9 fun g=>q1 ⟨h,g⟩
 refine key.elim (fun a1=> ?_) (fun⟨a1,a2⟩=> ?_)
 .simp[go_sem,a1]
  refine zM aa cB (zO (by simp[go_sem,schR]) rfl) rfl ?_
  by_cases qe:ce=0
  .have ab:(ce !=0)=false:=by simpa using qe
   rw[if_neg (fun h=>h qe)]at hinv
   simp[go_sem,ab,ei]
   exact zH (i+1) ⟨om,⟨om,hinv⟩,at_n 2 (by simp[go_sem,hL,hm]) rfl (by simp[ltOb,ltC,ltK]) (A7 _) (zF sg rfl)⟩
  .have ab:(ce !=0)=true:=by simpa using qe
   rw[if_pos qe]at hinv
   simp[go_sem,ab]
   exact zv4 hinv
 .simp[go_sem,a1,a2]
  refine zM aa cB (zO (by simp[go_sem,schR]) rfl) rfl ?_
  by_cases qe:ce=0
  .have ab:(ce !=0)=false:=by simpa using qe
   rw[if_neg (fun h=>h qe)]at hinv
   simp[go_sem,ab,ei]
   exact zH (i+1) ⟨om,⟨om,hinv⟩,at_n 2 (by simp[go_sem,hL,hm]) rfl (by simp[ltOb,ltC,ltK]) (A7 _) (zF sg rfl)⟩
  .have ab:(ce !=0)=true:=by simpa using qe
   rw[if_pos qe]at hinv
   simp[go_sem,ab]
   exact zv4 hinv
abbrev okI (n:Int):Prop:= -9223372036854775808<=n/\n<=9223372036854775807
def rngF (n:Int):Int×Int:=if okI n then(n,0)else(0,5)
theorem zL2 {n:Int} (h:okI n):IntKind.i64.wrap n=n:=Vx.i64_id h.1 h.2
theorem zS1 (a b:Int) (ha:okI a) (aa:okI b):Pure prog 291 [.int .i64 a,.int .i64 b] (wB (rngF (a+b))):=by
 generalize hM:rngF (a+b)=M
 unfold rngF at hM
 have q:(0<b/\decide (0<b)=true/\decide (b<0)=false)∨(b<0/\decide (0<b)=false/\decide (b<0)=true)∨(b=0/\decide (0<b)=false/\decide (b<0)=false):=by
  simp only[decide_eq_true_eq,decide_eq_false_iff_not];omega
 unfold okI at ha aa hM
 refine iW 0 func291 ntmps291 results291 fun c hc hb=>zJ ?_
 rcases q with ⟨q,q1,q2⟩|⟨q,q1,q2⟩|⟨q,q1,q2⟩
 .have w1:IntKind.i64.wrap (9223372036854775807 - b)=9223372036854775807 - b:=zL2 ⟨om,om⟩
  by_cases r:9223372036854775807 - b<a
  .have r':decide (9223372036854775807 - b<a)=true:=decide_eq_true r
   simp[go_sem,q1,w1,r']
   exact wP (by rw[<-hM,if_neg om])
  .have r':decide (9223372036854775807 - b<a)=false:=decide_eq_false r
   have w2:IntKind.i64.wrap (a+b)=a+b:=zL2 ⟨om,om⟩
   simp[go_sem,q1,q2,w1,r',w2]
   exact wP (by rw[<-hM,if_pos om])
 .have w1:IntKind.i64.wrap (-9223372036854775808 - b)= -9223372036854775808 - b:=zL2 ⟨om,om⟩
  by_cases r:a< -9223372036854775808 - b
  .have r':decide (a< -9223372036854775808 - b)=true:=decide_eq_true r
   simp[go_sem,q1,q2,w1,r']
   exact wP (by rw[<-hM,if_neg om])
  .have r':decide (a< -9223372036854775808 - b)=false:=decide_eq_false r
   have w2:IntKind.i64.wrap (a+b)=a+b:=zL2 ⟨om,om⟩
   simp[go_sem,q1,q2,w1,r',w2]
   exact wP (by rw[<-hM,if_pos om])
 .have w2:IntKind.i64.wrap (a+b)=a+b:=zL2 ⟨om,om⟩
  simp[go_sem,q1,q2,w2]
  exact wP (by rw[<-hM,if_pos om])
theorem ye5 (x:Nat) (hx:x<18446744073709551616):ze6 .and .u64 (x:Int) 4294967295=((x%4294967296:Nat):Int):=by
 unfold ze6
 have h1:(BitVec.ofInt IntKind.u64.bits (x:Int)).toNat=x:=by
  rw[BitVec.toNat_ofInt]
  show((x:Int)%(18446744073709551616:Nat)).toNat=x
  omega
 have h2:(BitVec.ofInt IntKind.u64.bits 4294967295).toNat=4294967295:=dc
 simp only[BitVec.toNat_and,h1,h2]
 have h3:=Nat.and_two_pow_sub_one_eq_mod x 32
 have h4:(2:Nat)^32 - 1=4294967295:=dc
 have h5:(2:Nat)^32=4294967296:=dc
 rw[h4,h5]at h3
 rw[h3]
 exact Vx.u64_id om om
theorem zQ3 (x:Nat):(x:Int).fdiv 4294967296=((x/4294967296:Nat):Int):=by
 rw[Cu _ dc]
 rfl
theorem xZ4 (n:Nat):IntKind.u64.wrap (n:Int)=((n%18446744073709551616:Nat):Int):=by
 unfold IntKind.wrap
 simp[IntKind.bits,IntKind.signed]
theorem natU {n:Nat} (h:n<18446744073709551616):IntKind.u64.wrap (n:Int)=(n:Int):=Vx.u64_id om om
theorem xi0 (a b c d:Nat) (ha:a<4294967296) (hb:b<4294967296) (hc:c<4294967296) (hd:d<4294967296):
  a*d<=18446744065119617025/\b*c<=18446744065119617025/\a*c<=18446744065119617025/\b*d<=18446744065119617025/\
  (a*4294967296+b)*(c*4294967296+d)=(a*c)*18446744073709551616+(a*d)*4294967296+(b*c)*4294967296+b*d:=by
 have m: ∀x y:Nat,x<4294967296->y<4294967296->x*y<=18446744065119617025:=fun x y hx hy=>by
  have:=Nat.mul_le_mul (show x<=4294967295 by omega) (show y<=4294967295 by omega)
  simpa using this
 refine⟨m _ _ ha hd,m _ _ hb hc,m _ _ ha hc,m _ _ hb hd, ?_⟩
 rw[Ap,Nat.mul_add,Nat.mul_add]
 have e1:a*4294967296*(c*4294967296)=(a*c)*18446744073709551616:=by
  rw[Nat.mul_mul_mul_comm]
 have e2:a*4294967296*d=(a*d)*4294967296:=by rw[Nat.mul_right_comm]
 have e3:b*(c*4294967296)=(b*c)*4294967296:=by rw[Ef]
 rw[e1,e2,e3]
 omega
theorem zn2 (x y:Nat):(x:Int)*(y:Int)=((x*y:Nat):Int):=sm
theorem zO1 (x y:Nat):(x:Int)+(y:Int)=((x+y:Nat):Int):=sm
theorem xC8 (x y:Nat) (hx:x<18446744073709551616) (hy:y<18446744073709551616):Pure prog 360 [.int .u64 x,.int .u64 y] (.tup [.int .u64 ((x*y/18446744073709551616:Nat):Int),.int .u64 ((x*y%18446744073709551616:Nat):Int)]):=by
 obtain⟨m1,m2,m3,m4,m5⟩:=xi0 (x/4294967296) (x%4294967296) (y/4294967296) (y%4294967296) om om om om
 have ex:x/4294967296*4294967296+x%4294967296=x:=Nat.div_add_mod' x 4294967296
 have ey:y/4294967296*4294967296+y%4294967296=y:=Nat.div_add_mod' y 4294967296
 rw[ex,ey]at m5
 have a1:=ye5 x hx
 have a2:=ye5 y hy
 have a3:=zQ3 x
 have a4:=zQ3 y
 generalize aa:x/4294967296=x1 at*
 generalize ab:x%4294967296=x0 at*
 generalize ad:y/4294967296=y1 at*
 generalize ae:y%4294967296=y0 at*
 obtain⟨p,hp⟩: ∃p,p=x1*y1:=⟨_,rfl⟩
 obtain⟨q,hq⟩: ∃q,q=x1*y0:=⟨_,rfl⟩
 obtain⟨r,hr⟩: ∃r,r=x0*y1:=⟨_,rfl⟩
 obtain⟨s,hs⟩: ∃s,s=x0*y0:=⟨_,rfl⟩
 rw[<-hq]at m1 m5
 rw[<-hr]at m2 m5
 rw[<-hp]at m3 m5
 rw[<-hs]at m4 m5
 refine iW 0 func360 ntmps360 results360 fun c hc hb=>zJ ?_
 simp[go_sem,a1,a2,a3,a4]
 refine wW (zC rfl) ⟨?_,rfl⟩
 rw[zn2 x1 y1,<-hp,zn2 x1 y0,<-hq,zn2 x0 y1,<-hr,zn2 x0 y0,<-hs,natU (n:=s) om,natU (n:=p) om,natU (n:=q) om,natU (n:=r) om,zQ3 s,
  zO1,natU (n:=q+s/4294967296) om,zQ3,ye5 _ om,zO1,zO1,natU (n:=p+(q+s/4294967296)/4294967296) om,natU (n:=(q+s/4294967296)%4294967296+r) om,zQ3,zO1,natU om,zn2,xZ4]
 have e:p+(q+s/4294967296)/4294967296+((q+s/4294967296)%4294967296+r)/4294967296=x*y/18446744073709551616:=by
  rw[m5]
  omega
 rw[e]
 rfl
theorem xB9 (h:a<0) (h2: -9223372036854775808<=a):IntKind.u64.wrap (-IntKind.u64.wrap a)=(a.natAbs:Int):=by
 have e:IntKind.u64.wrap a=a+18446744073709551616:=by
  unfold IntKind.wrap
  simp[IntKind.bits,IntKind.signed]
  omega
 rw[e]
 unfold IntKind.wrap
 simp[IntKind.bits,IntKind.signed]
 omega
theorem xy5 (a:Int) (ha:okI a):Pure prog 361 [.int .i64 a] (.int .u64 (a.natAbs:Int)):=by
 unfold okI at ha
 refine iW 0 func361 ntmps361 results361 fun c hc hb=>zJ ?_
 simp[go_sem]
 by_cases q:a<0
 .have q1:decide (a<0)=true:=decide_eq_true q
  simp[go_sem,q1]
  refine wW (zC rfl) ⟨?_,rfl⟩
  rw[xB9 q ha.1]
 .have q1:decide (a<0)=false:=decide_eq_false q
  simp[go_sem,q1]
  refine wW (zC rfl) ⟨?_,rfl⟩
  rw[Vx.u64_id om om]
  congr 1
  omega
def ye9 (a b:Int):Nat:=if decide (a<0)=decide (b<0)then 9223372036854775807 else 9223372036854775808
theorem xS3 (a b:Int):okI (a*b)↔a.natAbs*b.natAbs<=ye9 a b:=by
 obtain⟨n,hn⟩:=Int.eq_nat_or_neg a
 obtain⟨m,hm⟩:=Int.eq_nat_or_neg b
 have e:a.natAbs=n/\b.natAbs=m:=⟨om,om⟩
 rw[e.1,e.2]
 have z1:n=0->n*m=0:=fun h=>by subst h;exact Cg m
 have z2:m=0->n*m=0:=fun h=>by subst h;exact Nat.mul_zero n
 unfold ye9 okI
 rcases hn with rfl|rfl<;>rcases hm with rfl|rfl
 .rw[zn2,decide_eq_false om,decide_eq_false om,if_pos rfl]
  generalize n*m=p at*
  omega
 .rw[Int.mul_neg,zn2]
  generalize n*m=p at*
  rw[decide_eq_false om]
  by_cases q: -(m:Int)<0
  .rw[decide_eq_true q,if_neg sm];omega
  .rw[decide_eq_false q,if_pos rfl]
   have:=z2 om
   omega
 .rw[Int.neg_mul,zn2]
  generalize n*m=p at*
  rw[decide_eq_false (p:=(m:Int)<0) om]
  by_cases q: -(n:Int)<0
  .rw[decide_eq_true q,if_neg sm];omega
  .rw[decide_eq_false q,if_pos rfl]
   have:=z1 om
   omega
 .rw[Int.neg_mul_neg,zn2]
  generalize n*m=p at*
  by_cases q: -(n:Int)<0<;>by_cases q2: -(m:Int)<0
  .rw[decide_eq_true q,decide_eq_true q2,if_pos rfl];omega
  .have:=z2 om
   rw[decide_eq_true q,decide_eq_false q2,if_neg sm];omega
  .have:=z1 om
   rw[decide_eq_false q,decide_eq_true q2,if_neg sm];omega
  .have:=z1 om
   rw[decide_eq_false q,decide_eq_false q2,if_pos rfl];omega
theorem xS2 (a b:Int):((!(decide (a<0)==decide (b<0)))=true->ye9 a b=9223372036854775808)/\((!(decide (a<0)==decide (b<0)))=false->ye9 a b=9223372036854775807):=by
 unfold ye9
 generalize decide (a<0)=x
 generalize decide (b<0)=y
 cases x<;>cases y<;>simp
theorem xW0 (a b:Int) (ha:okI a) (ab:okI b):Pure prog 349 [.int .i64 a,.int .i64 b] (wB (rngF (a*b))):=by
 have af:=xy5 a ha
 have ag:=xy5 b ab
 have ad:a.natAbs<18446744073709551616/\b.natAbs<18446744073709551616:=by unfold okI at ha ab;omega
 have hm:=xC8 a.natAbs b.natAbs ad.1 ad.2
 have hok:=xS3 a b
 have ah:ye9 a b<=9223372036854775808:=by unfold ye9;split<;>omega
 have ae:=xS2 a b
 generalize hP:a.natAbs*b.natAbs=p at*
 have ai:p/18446744073709551616*18446744073709551616+p%18446744073709551616=p:=Nat.div_add_mod' _ _
 have aj:p%18446744073709551616<18446744073709551616:=Cv _ dc
 generalize p/18446744073709551616=hi at*
 generalize p%18446744073709551616=lo at*
 generalize hM:rngF (a*b)=M
 unfold rngF at hM
 refine iW 0 func349 ntmps349 results349 fun c hc hb=>zJ ?_
 simp[go_sem]
 refine pC af ?_
 simp[go_sem]
 refine pC ag ?_
 simp[go_sem]
 refine pC hm ?_
 simp[go_sem]
 have u1:IntKind.u64.wrap 9223372036854775808=9223372036854775808:=dc
 refine zR (fun v2=> ?_) (fun v2=> ?_)
 .rw[ae.1 v2]at hok
  by_cases q:p<=9223372036854775808
  .have f1:decide (0<hi)=false:=decide_eq_false om
   have f3:decide ((9223372036854775808:Int)<(lo:Int))=false:=decide_eq_false om
   have w:=zL2 (hok.2 q)
   simp[go_sem,f1,f3,w,u1]
   exact wP (by rw[<-hM,if_pos (hok.2 q)])
  .have aa: ¬okI (a*b):=fun h=>q (hok.1 h)
   have f4:decide (0<hi)=true∨(decide (0<hi)=false/\decide ((9223372036854775808:Int)<(lo:Int))=true):=by
    simp only[decide_eq_true_eq,decide_eq_false_iff_not];omega
   rcases f4 with f4|⟨f4,f5⟩
   .simp[go_sem,f4]
    exact wP (by rw[<-hM,if_neg aa])
   .simp[go_sem,f4,f5,u1]
    exact wP (by rw[<-hM,if_neg aa])
 .rw[ae.2 v2]at hok
  by_cases q:p<=9223372036854775807
  .have f1:decide (0<hi)=false:=decide_eq_false om
   have f3:decide ((9223372036854775807:Int)<(lo:Int))=false:=decide_eq_false om
   have w:=zL2 (hok.2 q)
   simp[go_sem,f1,f3,w]
   exact wP (by rw[<-hM,if_pos (hok.2 q)])
  .have aa: ¬okI (a*b):=fun h=>q (hok.1 h)
   have f4:decide (0<hi)=true∨(decide (0<hi)=false/\decide ((9223372036854775807:Int)<(lo:Int))=true):=by
    simp only[decide_eq_true_eq,decide_eq_false_iff_not];omega
   rcases f4 with f4|⟨f4,f5⟩
   .simp[go_sem,f4]
    exact wP (by rw[<-hM,if_neg aa])
   .simp[go_sem,f4,f5]
    exact wP (by rw[<-hM,if_neg aa])
theorem yw4 (a b:Int) (ha:okI a) (ab:okI b):Pure prog 317 [.int .i64 a,.int .i64 b] (wB (rngF (a - b))):=by
 by_cases q:b= -9223372036854775808
 .generalize hM:rngF (a - b)=M
  unfold rngF at hM
  unfold okI at ha
  have q1:(b != -9223372036854775808)=false:=by simpa using q
  refine iW 0 func317 ntmps317 results317 fun c hc hb=>zJ ?_
  simp[go_sem,q1]
  by_cases r:0<=a
  .have r1:decide (0<=a)=true:=decide_eq_true r
   simp[go_sem,r1]
   exact wP (by rw[<-hM,if_neg om])
  .have r1:decide (0<=a)=false:=decide_eq_false r
   have w:IntKind.i64.wrap (a - b)=a - b:=zL2 ⟨om,om⟩
   simp[go_sem,r1,w]
   exact wP (by rw[<-hM,if_pos (by unfold okI;omega)])
 .have hn:okI (-b):=by unfold okI at*;omega
  have w:IntKind.i64.wrap (-b)= -b:=zL2 hn
  have q1:(b != -9223372036854775808)=true:=by simpa using q
  have aa:=zS1 a (-b) ha hn
  have e:a+ -b=a - b:=om
  rw[e]at aa
  generalize rngF (a - b)=M at*
  refine iW 0 func317 ntmps317 results317 fun c hc hb=>zJ ?_
  simp[go_sem,q1,w]
  refine pC aa ?_
  simp[go_sem,wB]
  exact wR
def zp9 (s:List UInt8) (a b:Int):Int×Int:=
 if s= [43]then rngF (a+b)else if s= [45]then rngF (a - b)else if s= [42]then rngF (a*b)
 else if b=0 then(0,17)else if s= [37]then(a.tmod b,0)else rngF (a.tdiv b)
theorem xK3 {b:Int} (ha:okI a) (hb:okI b):okI (a.tmod b):=by
 unfold okI at*
 by_cases q:b=0
 .subst q;rw[Int.tmod_zero];exact ha
 .have h2:(a.tmod b).natAbs=a.natAbs%b.natAbs:=Int.natAbs_tmod a b
  have h3:a.natAbs%b.natAbs<=a.natAbs:=Nat.mod_le _ _
  have h4:(a.tmod b).natAbs<b.natAbs:=by
   rw[h2];exact Cv _ om
  omega
theorem xK2 {b:Int} (ha:okI a) (_hb:okI b) (h:b≠ -1):okI (a.tdiv b):=by
 unfold okI at*
 have h2:(a.tdiv b).natAbs=a.natAbs/b.natAbs:=Int.natAbs_tdiv a b
 by_cases q:b.natAbs<=1
 .have:b=0∨b=1:=om
  rcases this with rfl|rfl
  .rw[Int.tdiv_zero];omega
  .rw[Int.tdiv_one];exact ha
 .have h3:a.natAbs/b.natAbs<=a.natAbs/2:=Nat.div_le_div_left om om
  omega
theorem xx4 (s:List UInt8) (a b:Int) (ha:okI a) (aa:okI b):Pure prog 319 [.str s,.int .i64 a,.int .i64 b] (wB (zp9 s a b)):=by
 have c1:=zS1 a b ha aa
 have c2:=yw4 a b ha aa
 have c3:=xW0 a b ha aa
 have c4:=yw4 0 a dc ha
 have e4:rngF (0 - a)=rngF (-a):=by congr 1;omega
 rw[e4]at c4
 have wr: ∀{x:Int×Int} {M:Int×Int} {σ:St},x=M->wret (some (.tup [.int .i64 x.1,.int .i64 x.2])) 0 (fun v s=>v=wB M/\s= []) σ:=fun h=>wP h.symm
 generalize hM:zp9 s a b=M
 unfold zp9 at hM
 refine iW 0 func319 ntmps319 results319 fun c hc hb=>zJ ?_
 simp[go_sem]
 by_cases s1:s= [43]
 .simp only[s1,if_pos]at hM
  simp[go_sem,s1]
  refine pC c1 ?_
  simp[go_sem,wB]
  exact wr hM
 by_cases s2:s= [45]
 .rw[if_neg s1,if_pos s2]at hM
  simp[go_sem,s2]
  refine pC c2 ?_
  simp[go_sem,wB]
  exact wr hM
 by_cases s3:s= [42]
 .rw[if_neg s1,if_neg s2,if_pos s3]at hM
  simp[go_sem,s3]
  refine pC c3 ?_
  simp[go_sem,wB]
  exact wr hM
 rw[if_neg s1,if_neg s2,if_neg s3]at hM
 have af:(s== [43])=false:=by simpa using s1
 have ag:(s== [45])=false:=by simpa using s2
 have ah:(s== [42])=false:=by simpa using s3
 simp[go_sem,af,ag,ah]
 by_cases b0:b=0
 .rw[if_pos b0]at hM
  have ab:(b==0)=true:=by simpa using b0
  simp[go_sem,ab]
  exact wP hM.symm
 rw[if_neg b0]at hM
 have ab:(b==0)=false:=by simpa using b0
 simp[go_sem,ab]
 by_cases s4:s= [37]
 .rw[if_pos s4]at hM
  have ad:(s== [37])=true:=by simpa using s4
  simp[go_sem,ad]
  refine zG b0 ?_
  simp[go_sem]
  exact wP hM.symm
 rw[if_neg s4]at hM
 have ad:(s== [37])=false:=by simpa using s4
 simp[go_sem,ad]
 by_cases b1:b= -1
 .rw[b1,Int.tdiv_neg,Int.tdiv_one]at hM
  have ae:(b== -1)=true:=by simpa using b1
  simp[go_sem,ae]
  refine pC c4 ?_
  simp[go_sem,wB]
  exact wr hM
 have ae:(b== -1)=false:=by simpa using b1
 have ok:=xK2 ha aa b1
 unfold rngF at hM
 rw[if_pos ok]at hM
 simp[go_sem,ae,zL2 ok]
 refine zG b0 ?_
 simp[go_sem]
 exact wP hM.symm
def cmpS (a b:List UInt8):Int:=if Op.bytesLess a b=true then -1 else if Op.bytesLess b a=true then 1 else 0
theorem yV8: ∀a b:List UInt8,Lib.compareBytes a b=cmpS a b
 | [],[]=>rfl
 | [],_::_=>rfl
 |_::_,[]=>rfl
 |x::a,y::b=>by
  have ih:=yV8 a b
  rw[Lib.compareBytes]
  unfold cmpS at ih⊢
  rw[zf1,zf1]
  have h1:(x<y)↔x.toNat<y.toNat:=UInt8.lt_iff_toNat_lt
  have h2:(y<x)↔y.toNat<x.toNat:=UInt8.lt_iff_toNat_lt
  by_cases q:x<y
  .have:=h1.1 q
   rw[if_pos q,if_pos this]
   rfl
  by_cases q2:y<x
  .have:=h2.1 q2
   have n1: ¬x.toNat<y.toNat:=fun h=>q (h1.2 h)
   rw[if_neg q,if_pos q2,if_neg n1,if_pos this,if_pos this]
   rfl
  .have n1:=fun h=>q (h1.2 h)
   have n2:=fun h=>q2 (h2.2 h)
   rw[if_neg q,if_neg q2,if_neg n1,if_neg n2,if_neg n2,if_neg n1]
   exact ih
theorem yC5 {a b:List UInt8} {c:Ctx} {K:V->St->Prop} {e:Fx K} (hk:K (.int .i64 (cmpS a b)) σ):wVC prog c (.fn 309 []) [.str a,.str b] σ K e:=by
 refine⟨_,[],rfl,.inr fun w L β aa hm ha=> ?_⟩
 match aa,ha with
 | [v1,v2],⟨h1,h2,_⟩=>
  rw[wM h1,wM h2]
  refine⟨.int .i64 (cmpS a b),.int .i64 (cmpS a b),w,L,σ,β, ?_,hk,hm,Le.refl _ _,Ext.refl _ _,RdP.int _ _⟩
  rw[run_callFunc_extern func309 kR kR kR (e:=Extern.BytealgCompare.compare) kR,Lib.run_compareString]
  rw[List.toList_toArray,List.toList_toArray,yV8]
  rfl
theorem xe6 (a b:List UInt8):Pure prog 247 [.str a,.str b] (.int .i64 (cmpS a b)):=by
 refine iW 0 func247 ntmps247 results247 fun c hc hb=>zJ ?_
 simp[go_sem]
 refine yC5 ?_
 simp[go_sem]
 exact wR
theorem yC4 (a b:List UInt8):Pure prog 164 [.str a,.str b] (.int .i64 (cmpS a b)):=by
 refine iW 0 func164 ntmps164 results164 fun c hc hb=>zJ ?_
 simp[go_sem]
 refine pC (xe6 a b) ?_
 simp[go_sem]
 exact wR
theorem yb6 (x:Int):Pure prog 303 [.int .i64 x] (.bool false):=by
 refine iW 0 func303 ntmps303 results303 fun c hc hb=>zJ ?_
 simp[go_sem]
 exact wR
theorem yO0 (x y:Int):Pure prog 236 [.int .i64 x,.int .i64 y] (.int .i64 (cmpI x y)):=by
 generalize hM:cmpI x y=M
 have ret: ∀(r:Int) (σ:St),r=M->wret (some (.int .i64 r)) 0 (fun r s=>r= .int .i64 M/\s= []) σ:=fun r σ h=>by subst h;exact wR
 unfold cmpI at hM
 refine iW 0 func236 ntmps236 results236 fun c hc hb=>zJ ?_
 simp[go_sem]
 refine pC (yb6 x) ?_
 simp[go_sem]
 refine pC (yb6 y) ?_
 simp[go_sem]
 repeat' (first|(refine zR (fun q=> ?_) (fun q=> ?_)<;>simp[go_sem,q]))
 all_goals exact ret _ _ (by rw[<-hM];simp only[decide_eq_true_eq,decide_eq_false_iff_not]at*;(repeat' split)<;>omega)
def orL:List Int->Int
 | []=>0
 |x::l=>if x=0 then orL l else x
theorem or_w (l:List Int) (hl:l.length<=maxLen):Pure prog 163 [.sl .ro (l.map fun n=> [V.int .i64 n])] (.int .i64 (orL l)):=by
 generalize hM:orL l=M
 have ret: ∀(r:Int) (σ:St),r=M->wret (some (.int .i64 r)) 0 (fun r s=>r= .int .i64 M/\s= []) σ:=fun r σ h=>by subst h;exact wR
 refine iV 0 func163 ntmps163 results163 fun c hc hb=> ?_
 refine zA ?_
 simp[go_sem]
 refine zI (S:=Nat) [3,6,7,8] (fun i=> [.int .i64 0,.sl .ro (l.map fun n=> [V.int .i64 n]),.int .i64 l.length,.int .i64 i]) (fun _=> []) (fun i=>l.length - i) (fun i=>i<=l.length/\orL (l.drop i)=M) hc hb 0 ⟨A7 _,hM⟩ ?_ ?_
 .exact aO
 rintro i ⟨hi,hinv⟩
 by_cases q:i<l.length
 rotate_left
 .have e:l.drop i= []:=Ad om
  rw[e]at hinv
  refine zA ?_
  simp[go_sem,q]
  exact ret _ _ hinv
 have ei:=zS q (by unfold maxLen at hl;omega)
 obtain⟨r,hr⟩:=eX (l[i])
 rw[Aa q,orL,hr]at hinv
 refine zA ?_
 simp[go_sem,q,hr]
 by_cases w1:r=0
 .rw[if_pos w1]at hinv
  have aa:(r !=0)=false:=by simp[w1]
  simp[go_sem,aa,ei]
  exact zH (i+1) ⟨om,⟨q,hinv⟩,aO⟩
 rw[if_neg w1]at hinv
 have aa:(r !=0)=true:=by simpa using w1
 simp[go_sem,aa]
 exact ret _ _ hinv
def cmpV (a b:GValue):Int:=orL [cmpI a.kind b.kind,cmpI a.n b.n,cmpS a.s b.s]
theorem ym5 (a b:GValue):Pure prog 159 [.agg a.row,.agg b.row] (.int .i64 (cmpV a b)):=by
 have h:=or_w [cmpI a.kind b.kind,cmpI a.n b.n,cmpS a.s b.s] (by simp[maxLen])
 have h1:=yC2 a.kind b.kind
 have h2:=yO0 a.n b.n
 have h3:=yC4 a.s b.s
 unfold cmpV
 generalize orL [cmpI a.kind b.kind,cmpI a.n b.n,cmpS a.s b.s]=M at*
 refine iW 0 func159 ntmps159 results159 fun c hc hb=>zJ ?_
 simp[go_sem]
 refine yV [(4,0),(9,0),(14,0),(16,0)] 2 rfl kR kR ?_
 simp[go_sem]
 refine pD h1 ?_
 simp[go_sem]
 refine pD h2 ?_
 simp[go_sem]
 refine pD h3 ?_
 simp[go_sem]
 refine pD h ?_
 simp[go_sem]
 exact wR
def valP (x:GValue×Int):V:= .tup [.agg x.1.row,.int .i64 x.2]
def zeroV:GValue:=⟨0,0,[]⟩
def zu1 (r:Int×Int):GValue×Int:=if r.2=0 then(⟨2,r.1,[]⟩,0)else(zeroV,r.2)
theorem xc9 {x:GValue×Int} {k n e:Int} {s:List UInt8} (h:x=(⟨k,n,s⟩,e)):wret (some (.tup [.agg [.int .i64 k,.int .i64 n,.str s],.int .i64 e])) 0 (fun v s=>v=valP x/\s= []) σ:=by
 subst h
 exact wR
theorem yH6 (r:Int×Int):Pure prog 316 [.int .i64 r.1,.int .i64 r.2] (valP (zu1 r)):=by
 generalize hM:zu1 r=M
 unfold zu1 at hM
 refine iW 0 func316 ntmps316 results316 fun c hc hb=>zJ ?_
 simp[go_sem]
 by_cases q:r.2=0
 .rw[if_pos q]at hM
  have q1:(r.2 !=0)=false:=by simpa using q
  simp[go_sem,q1]
  exact xc9 hM.symm
 .rw[if_neg q]at hM
  have q1:(r.2 !=0)=true:=by simpa using q
  simp[go_sem,q1]
  exact xc9 hM.symm
def zD1 (s:List UInt8) (c:Int):Bool:=
 if s= [61]then c==0 else if s= [60,62]then c !=0 else if s= [60]then decide (c<0)else if s= [60,61]then decide (c<=0)else if s= [62]then decide (0<c)else decide (0<=c)
theorem xF9 (s:List UInt8) (x:Int):Pure prog 318 [.str s,.int .i64 x] (.bool (zD1 s x)):=by
 generalize hM:zD1 s x=M
 have ret: ∀(r:Bool) (σ:St),r=M->wret (some (.bool r)) 0 (fun r s=>r= .bool M/\s= []) σ:=fun r σ h=>by subst h;exact wR
 unfold zD1 at hM
 refine iW 0 func318 ntmps318 results318 fun c hc hb=>zJ ?_
 simp[go_sem]
 repeat' (first|(refine zR (fun q=> ?_) (fun q=> ?_)<;>simp[go_sem,q]))
 all_goals exact ret _ _ (by rw[<-hM];simp only[beq_iff_eq,beq_eq_false_iff_ne,ne_eq]at*;simp_all)
def zk9 (v:GValue):Bool:=v.kind==1&&(v.n==1&&v.s.isEmpty)
theorem xz7 (v:GValue):Pure prog 153 [.agg v.row] (.bool (zk9 v)):=by
 have h:=zK3 true
 refine iW 0 func153 ntmps153 results153 fun c hc hb=>zJ ?_
 simp[go_sem]
 refine yV [(1,0)] 1 rfl kR kR ?_
 simp[go_sem]
 refine pD h ?_
 simp[go_sem,zp4]
 exact wR
def zq4 (wins:Int):List GValue->Bool->GValue
 | [],b=>if b=true then zeroV else zp4 (wins==0)
 |v::l,b=>if v.kind=0 then zq4 wins l true else if v.n=wins then v else zq4 wins l b
theorem xn7 (l:List GValue) (aa:Int) (hl:l.length<=maxLen):Pure prog 315 [.sl .ro (l.map GValue.row),.int .i64 aa] (.agg (zq4 aa l false).row):=by
 generalize hM:zq4 aa l false=M
 have ret: ∀(v:GValue) (σ:St),v=M->wret (some (.agg v.row)) 0 (fun r s=>r= .agg M.row/\s= []) σ:=fun v σ h=>by subst h;exact wR
 refine iV 0 func315 ntmps315 results315 fun c hc hb=> ?_
 refine zA ?_
 simp[go_sem]
 refine zI (S:=Nat×Bool) [1,4,5,8,9,10] (fun u=> [.int .i64 aa,.ptr 0 0,.bool u.2,.sl .ro (l.map GValue.row),.int .i64 l.length,.int .i64 u.1]) (fun _=> [.box [.int .i64 0,.int .i64 0,.str []]]) (fun u=>l.length - u.1)
  (fun u=>u.1<=l.length/\zq4 aa (l.drop u.1) u.2=M) hc hb (0,false) ⟨A7 _,hM⟩ ?_ ?_
 .exact aN 1 (by simp[ltOb,ltC,ltK])
 rintro⟨i,b⟩ ⟨hi,hinv⟩
 simp only at hi hinv
 by_cases q:i<l.length
 rotate_left
 .have e:l.drop i= []:=Ad om
  rw[e,zq4]at hinv
  refine zA ?_
  simp[go_sem,q]
  by_cases w1:b=true
  .rw[if_pos w1]at hinv
   simp[go_sem,w1]
   exact ret zeroV _ hinv
  .rw[if_neg w1]at hinv
   have ab:b=false:=by simpa using w1
   simp[go_sem,ab]
   refine pC (zK3 (aa==0)) ?_
   simp[go_sem]
   exact ret _ _ hinv
 have ei:=zS q (by unfold maxLen at hl;omega)
 obtain⟨r,hr⟩:=eX (l[i])
 rw[Aa q,zq4,hr]at hinv
 refine zA ?_
 simp[go_sem,q,hr]
 refine pC (yw7 r) ?_
 simp[go_sem]
 by_cases w1:r.kind=0
 .rw[if_pos w1]at hinv
  have ab:(r.kind==0)=true:=by simpa using w1
  simp[go_sem,ab,ei]
  exact zH (i+1,true) ⟨by simp only;omega,⟨q,hinv⟩,aN 1 (by simp[ltOb,ltC,ltK])⟩
 rw[if_neg w1]at hinv
 have ab:(r.kind==0)=false:=by simpa using w1
 by_cases w2:r.n=aa
 .rw[if_pos w2]at hinv
  have ad:(r.n==aa)=true:=by simpa using w2
  simp[go_sem,ab,ad]
  exact ret r _ hinv
 rw[if_neg w2]at hinv
 have ad:(r.n==aa)=false:=by simpa using w2
 simp[go_sem,ab,ad,ei]
 exact zH (i+1,b) ⟨by simp only;omega,⟨q,hinv⟩,aN 1 (by simp[ltOb,ltC,ltK])⟩
def cmpOps:List (List UInt8):= [[61],[60,62],[60],[60,61],[62],[62,61]]
def za0 (s:List UInt8) (l:List GValue):GValue×Int:=
 let x:=l.getD 0 zeroV
 let y:=l.getD 1 zeroV
 if s= [73,83,78,85,76,76]then(zp4 (x.kind==0),0)
 else if s= [78,79,84,78,85,76,76]then(zp4 (!(x.kind==0)),0)
 else if s= [65,78,68]then(zq4 0 l false,0)
 else if s= [79,82]then(zq4 1 l false,0)
 else if(l.any fun v=>v.kind==0)=true then(zeroV,0)
 else if s= [78,79,84]then(zp4 (!zk9 x),0)
 else if s= [78,69,71]then zu1 (rngF (-x.n))
 else if cmpOps.contains s=true then(zp4 (zD1 s (cmpV x y)),0)
 else zu1 (zp9 s x.n y.n)
theorem zo2 {x:GValue×Int} {M:GValue×Int} (h:x=M):wret (some (.tup [.agg x.1.row,.int .i64 x.2])) 0 (fun v s=>v=valP M/\s= []) σ:=by
 subst h
 exact wR
theorem xQ3 (s:List UInt8) (l:List GValue) (h1:1<=l.length) (h2:l.length<=2) (hn: ∀v∈l,okI v.n) (hs:l.length=1->s= [73,83,78,85,76,76]∨s= [78,79,84,78,85,76,76]∨s= [78,79,84]∨s= [78,69,71]):
  Pure prog 254 [.str s,.sl .ro (l.map GValue.row)] (valP (za0 s l)):=by
 obtain⟨x,hx⟩:=eX (l[0]'h1)
 have ag:l.getD 0 zeroV=x:=by rw[A9,A4 h1,hx];rfl
 have an:l[0]? =some x:=by rw[A4 h1,hx]
 have aa:0<l.length:=h1
 have ad:okI x.n:=hn x (hx▸Ac h1)
 generalize hM:za0 s l=M
 have ret: ∀(v:GValue) (e:Int) (σ:St),(v,e)=M->wret (some (.tup [.agg v.row,.int .i64 e])) 0 (fun r s=>r=valP M/\s= []) σ:=fun v e σ h=>zo2 h
 unfold za0 at hM
 simp only[ag]at hM
 refine iV 0 func254 ntmps254 results254 fun c hc hb=> ?_
 by_cases a1:s= [73,83,78,85,76,76]
 .rw[if_pos a1]at hM
  refine zA ?_
  simp[go_sem,a1,aa,hx]
  refine pC (yw7 x) ?_
  simp[go_sem]
  refine pC (zK3 (x.kind==0)) ?_
  simp[go_sem]
  exact ret _ _ _ hM
 by_cases a2:s= [78,79,84,78,85,76,76]
 .rw[if_neg a1,if_pos a2]at hM
  refine zA ?_
  simp[go_sem,a2,aa,hx]
  refine pC (yw7 x) ?_
  simp[go_sem]
  refine pC (zK3 (!(x.kind==0))) ?_
  simp[go_sem]
  exact ret _ _ _ hM
 by_cases a3:s= [65,78,68]
 .rw[if_neg a1,if_neg a2,if_pos a3]at hM
  refine zA ?_
  simp[go_sem,a3]
  refine pC (xn7 l 0 (by unfold maxLen;omega)) ?_
  simp[go_sem]
  exact ret _ _ _ hM
 by_cases a4:s= [79,82]
 .rw[if_neg a1,if_neg a2,if_neg a3,if_pos a4]at hM
  refine zA ?_
  simp[go_sem,a4]
  refine pC (xn7 l 1 (by unfold maxLen;omega)) ?_
  simp[go_sem]
  exact ret _ _ _ hM
 rw[if_neg a1,if_neg a2,if_neg a3,if_neg a4]at hM
 have b1:(s== [73,83,78,85,76,76])=false:=by simpa using a1
 have b2:(s== [78,79,84,78,85,76,76])=false:=by simpa using a2
 have b3:(s== [65,78,68])=false:=by simpa using a3
 have b4:(s== [79,82])=false:=by simpa using a4
 refine zA ?_
 simp[go_sem,b1,b2,b3,b4]
 refine zI (S:=Nat) [0,1,4,5,32,33,34] (fun i=> [.str s,.sl .ro (l.map GValue.row),.ptr 0 0,.int .i64 0,.sl .ro (l.map GValue.row),.int .i64 l.length,.int .i64 i]) (fun _=> [.box [.int .i64 0,.int .i64 0,.str []]]) (fun i=>l.length - i)
  (fun i=>i<=l.length/\((l.drop i).any fun v=>v.kind==0)=(l.any fun v=>v.kind==0)) hc hb 0 ⟨A7 _,rfl⟩ ?_ ?_
 .exact aN 1 (by simp[ltOb,ltC,ltK])
 rintro i ⟨hi,hinv⟩
 by_cases q:i<l.length
 .have ei:=zS q om
  obtain⟨r,hr⟩:=eX (l[i])
  rw[Aa q,List.any_cons,hr]at hinv
  refine zA ?_
  simp[go_sem,q,hr]
  refine pC (yw7 r) ?_
  simp[go_sem]
  by_cases w1:r.kind=0
  .have ab:(r.kind==0)=true:=by simpa using w1
   rw[ab,Dr]at hinv
   rw[if_pos hinv.symm]at hM
   simp[go_sem,ab]
   exact ret zeroV 0 _ hM
  .have ab:(r.kind==0)=false:=by simpa using w1
   rw[ab,Ce]at hinv
   simp[go_sem,ab,ei]
   exact zH (i+1) ⟨om,⟨q,hinv⟩,aN 1 (by simp[ltOb,ltC,ltK])⟩
 have e:l.drop i= []:=Ad om
 rw[e,List.any_nil]at hinv
 rw[if_neg (by rw[<-hinv];exact Bool.false_ne_true)]at hM
 by_cases a5:s= [78,79,84]
 .rw[if_pos a5]at hM
  refine zA ?_
  simp[go_sem,q,a5,aa,hx]
  refine pC (xz7 x) ?_
  simp[go_sem]
  refine pC (zK3 (!zk9 x)) ?_
  simp[go_sem]
  exact ret _ _ _ hM
 by_cases a6:s= [78,69,71]
 .rw[if_neg a5,if_pos a6]at hM
  refine zA ?_
  simp[go_sem,q,a6,aa,hx]
  refine pC (yw4 0 x.n dc ad) ?_
  simp[go_sem,wB]
  refine pC (yH6 (rngF (-x.n))) ?_
  simp[go_sem,valP]
  exact zo2 hM
 rw[if_neg a5,if_neg a6]at hM
 have h3:1<l.length:=by
  by_cases q:1<l.length
  .exact q
  .rcases hs om with h|h|h|h
   .exact absurd h a1
   .exact absurd h a2
   .exact absurd h a5
   .exact absurd h a6
 obtain⟨y,hy⟩:=eX (l[1]'h3)
 have ah:l.getD 1 zeroV=y:=by rw[A9,A4 h3,hy];rfl
 have ai:okI y.n:=hn y (hy▸Ac h3)
 rw[ah]at hM
 have b5:(s== [78,79,84])=false:=by simpa using a5
 have b6:(s== [78,69,71])=false:=by simpa using a6
 have aj:=ym5 x y
 have ae:=xF9 s (cmpV x y)
 have af:=zK3 (zD1 s (cmpV x y))
 have ak:=xx4 s x.n y.n ad ai
 have al:=yH6 (zp9 s x.n y.n)
 by_cases a7:cmpOps.contains s=true
 .rw[if_pos a7]at hM
  have a8:s= [61]∨s= [60,62]∨s= [60]∨s= [60,61]∨s= [62]∨s= [62,61]:=by
   simpa[cmpOps]using a7
  rcases a8 with a8|a8|a8|a8|a8|a8
  all_goals
   rw[a8]at ae af hM
   refine zA ?_
   simp[go_sem,q,a8]
   refine yV [(7,0),(8,0),(9,0)] 1 rfl kR kR ?_
   simp[go_sem,aa,hx,h3,hy]
   refine zG om ?_
   simp[go_sem]
   refine pD aj ?_
   simp[go_sem]
   refine pD ae ?_
   simp[go_sem]
   refine pD af ?_
   simp[go_sem]
   exact ret _ _ _ hM
 rw[if_neg a7]at hM
 have a8: ¬s= [61]/\ ¬s= [60,62]/\ ¬s= [60]/\ ¬s= [60,61]/\ ¬s= [62]/\ ¬s= [62,61]:=by
  simpa[cmpOps]using a7
 have c1:(s== [61])=false:=by simpa using a8.1
 have c2:(s== [60,62])=false:=by simpa using a8.2.1
 have c3:(s== [60])=false:=by simpa using a8.2.2.1
 have c4:(s== [60,61])=false:=by simpa using a8.2.2.2.1
 have c5:(s== [62])=false:=by simpa using a8.2.2.2.2.1
 have c6:(s== [62,61])=false:=by simpa using a8.2.2.2.2.2
 refine zA ?_
 simp[go_sem,q,b5,b6,c1,c2,c3,c4,c5,c6]
 refine yV [(9,0),(12,0)] 1 rfl kR kR ?_
 simp[go_sem,aa,hx,h3,hy]
 refine zG om ?_
 simp[go_sem]
 refine pD ak ?_
 simp[go_sem,wB]
 refine pD al ?_
 simp[go_sem,valP]
 exact zo2 hM
mutual
def evF (T:GTable) (row:List GValue):GExpr->GValue×Int
 | .mk k s v args=>
  if k=1 then(v,0)else if k=2 then(row.getD (colF T s).toNat zeroV,0)
  else if(evsF T row args).2≠0 then(zeroV,(evsF T row args).2)else za0 s (evsF T row args).1
def evsF (T:GTable) (row:List GValue):List GExpr->List GValue×Int
 | []=>([],0)
 |e::l=>if(evF T row e).2≠0 then([],(evF T row e).2)else((evF T row e).1::(evsF T row l).1,(evsF T row l).2)
end
theorem xq7 (T:GTable) (row:List GValue) (e:GExpr):evF T row e=
  if e.kind=1 then(e.v,0)else if e.kind=2 then(row.getD (colF T e.s).toNat zeroV,0)
  else if(evsF T row e.args).2≠0 then(zeroV,(evsF T row e.args).2)else za0 e.s (evsF T row e.args).1:=by cases e;rw[evF];rfl
structure VK (v:GValue) (k:Int):Prop where
 may:mayF v=true
 n:okI v.n
 kind:v.kind=k∨v.kind=0
theorem zK4 (k:Int):VK zeroV k:=⟨dc,dc,.inr rfl⟩
theorem zR1 (b:Bool):VK (zp4 b) 1:=by cases b<;>exact⟨dc,dc,.inl rfl⟩
theorem yx9 (n:Int):okI (rngF n).1:=by
 unfold rngF
 split
 .assumption
 .decide
theorem yR2 {s:List UInt8} {a b:Int} (ha:okI a) (hb:okI b):okI (zp9 s a b).1:=by
 unfold zp9
 repeat' split
 all_goals first|exact yx9 _|exact xK3 ha hb|decide
theorem yr9 {r:Int×Int} (h:okI r.1):VK (zu1 r).1 2:=by
 unfold zu1
 split
 .exact⟨rfl,h,.inl rfl⟩
 .exact zK4 2
theorem ya2 (w:Int): ∀(l:List GValue) (b:Bool),(∀v∈l,VK v 1)->VK (zq4 w l b) 1
 | [],b,_=>by
  rw[zq4]
  split
  .exact zK4 1
  .exact zR1 _
 |v::l,b,h=>by
  rw[zq4]
  split
  .exact ya2 w l true fun x hx=>h x (B1 _ hx)
  .split
   .exact h v (B8 ..)
   .exact ya2 w l b fun x hx=>h x (B1 _ hx)
theorem zB6 {m s:Bool} {k k':Int} (h:zQ7 m s k=(k',0)):m=true/\s=true/\k'=k:=by
 unfold zQ7 at h
 cases m<;>cases s<;>simp at h
 exact⟨rfl,rfl,h.symm⟩
inductive OpK (s:List UInt8) (ks:List Int) (k:Int):Prop
 |null (hs:s= [73,83,78,85,76,76]∨s= [78,79,84,78,85,76,76]) (hl:ks.length=1) (hk:k=1)
 |not (hs:s= [78,79,84]) (hl:ks.length=1) (ha:allK ks 1=true) (hk:k=1)
 |neg (hs:s= [78,69,71]) (hl:ks.length=1) (ha:allK ks 2=true) (hk:k=2)
 |both (hs:s= [79,82]∨s= [65,78,68]) (hl:ks.length=2) (ha:allK ks 1=true) (hk:k=1)
 |sum (hs:s= [43]∨s= [45]∨s= [42]∨s= [47]∨s= [37]) (hl:ks.length=2) (ha:allK ks 2=true) (hk:k=2)
 |cmp (hs:s= [61]∨s= [60,62]∨s= [60]∨s= [60,61]∨s= [62]∨s= [62,61]) (hl:ks.length=2) (hk:k=1)
theorem xw4 {s:List UInt8} {ks:List Int} {k:Int} (h:zw1 s ks=(k,0)):OpK s ks k:=by
 have one:((ks.length:Int)==1)=true->ks.length=1:=fun h=>by
   have:(ks.length:Int)=1:=by simpa using h
   omega
 have two:((ks.length:Int)==2)=true->ks.length=2:=fun h=>by
   have:(ks.length:Int)=2:=by simpa using h
   omega
 unfold zw1 at h
 split at h
 .obtain⟨h1,_,h3⟩:=zB6 h;exact .null (by assumption) (one h1) h3
 split at h
 .obtain⟨h1,h2,h3⟩:=zB6 h;exact .not (by assumption) (one h1) h2 h3
 split at h
 .obtain⟨h1,h2,h3⟩:=zB6 h;exact .neg (by assumption) (one h1) h2 h3
 split at h
 .obtain⟨h1,h2,h3⟩:=zB6 h;exact .both (by assumption) (two h1) h2 h3
 split at h
 .obtain⟨h1,h2,h3⟩:=zB6 h;exact .sum (by assumption) (two h1) h2 h3
 split at h
 .obtain⟨h1,_,h3⟩:=zB6 h;exact .cmp (by assumption) (two h1) h3
 .cases h
theorem yA8 {R:GValue->Int->Prop}: ∀{l:List GValue} {ks:List Int},All2 R l ks->l.length=ks.length
 | [],[],_=>rfl
 |_::_,_::_,⟨_,h⟩=>by rw[Al,Al,yA8 h]
theorem ys6 {k:Int}: ∀{l:List GValue} {ks:List Int},All2 VK l ks->allK ks k=true-> ∀v∈l,VK v k
 | [],[],_,_,v,hv=>by cases hv
 |x::l,y::ks,⟨h1,h2⟩,ha,v,hv=>by
  unfold allK at ha
  rw[Am,A8,Bn,beq_iff_eq,beq_iff_eq]at ha
  rcases Ak.1 hv with rfl|hv
  .exact⟨h1.may,h1.n,by
    rcases h1.kind with q|q
    .rcases ha.1 with r|r
     .exact .inl (q.trans r)
     .exact .inr (q.trans r)
    .exact .inr q⟩
  .exact ys6 h2 ha.2 v hv
theorem xm7 {R:GValue->Int->Prop} (hR: ∀v k,R v k->okI v.n): ∀{l:List GValue} {ks:List Int},All2 R l ks-> ∀v∈l,okI v.n
 | [],[],_,v,hv=>by cases hv
 |x::l,y::ks,⟨h1,h2⟩,v,hv=>by
  rcases Ak.1 hv with rfl|hv
  .exact hR _ _ h1
  .exact xm7 hR h2 v hv
theorem xf0 (l:List GValue):za0 [78,79,84] l=if(l.any fun v=>v.kind==0)=true then(zeroV,0)else(zp4 (!zk9 (l.getD 0 zeroV)),0):=rfl
theorem xe9 (l:List GValue):za0 [78,69,71] l=if(l.any fun v=>v.kind==0)=true then(zeroV,0)else zu1 (rngF (-(l.getD 0 zeroV).n)):=rfl
theorem xe8 {s:List UInt8} (hs:s= [61]∨s= [60,62]∨s= [60]∨s= [60,61]∨s= [62]∨s= [62,61]) (l:List GValue):
  za0 s l=if(l.any fun v=>v.kind==0)=true then(zeroV,0)else(zp4 (zD1 s (cmpV (l.getD 0 zeroV) (l.getD 1 zeroV))),0):=by
 rcases hs with rfl|rfl|rfl|rfl|rfl|rfl<;>rfl
theorem xf1 {s:List UInt8} (hs:s= [43]∨s= [45]∨s= [42]∨s= [47]∨s= [37]) (l:List GValue):
  za0 s l=if(l.any fun v=>v.kind==0)=true then(zeroV,0)else zu1 (zp9 s (l.getD 0 zeroV).n (l.getD 1 zeroV).n):=by
 rcases hs with rfl|rfl|rfl|rfl|rfl<;>rfl
theorem yW6 {s:List UInt8} {l:List GValue} {ks:List Int} {k:Int} (ho:zw1 s ks=(k,0)) (ha:All2 VK l ks):
  VK (za0 s l).1 k/\1<=l.length/\l.length<=2/\(∀v∈l,okI v.n)/\(l.length=1->s= [73,83,78,85,76,76]∨s= [78,79,84,78,85,76,76]∨s= [78,79,84]∨s= [78,69,71]):=by
 have hlen:=yA8 ha
 have hn:=xm7 (fun _ _ h=>VK.n h) ha
 have hx: ∀j,okI (l.getD j zeroV).n:=fun j=>by
  rw[A9]
  cases hj:l[j]? with
  |none=>decide
  |some v=>exact hn v (B5 hj)
 have ab: ∀n:Int,okI (rngF n).1:=yx9
 cases xw4 ho with
 |null hs hl hk=>
  subst hk
  refine⟨?_,om,om,hn,fun _=>by rcases hs with h|h<;>simp[h]⟩
  rcases hs with rfl|rfl<;>exact zR1 _
 |not hs hl aa hk=>
  subst hs hk
  refine⟨?_,om,om,hn,fun _=>sm⟩
  rw[xf0]
  split
  .exact zK4 1
  .exact zR1 _
 |neg hs hl aa hk=>
  subst hs hk
  refine⟨?_,om,om,hn,fun _=>sm⟩
  rw[xe9]
  split
  .exact zK4 2
  .exact yr9 (ab _)
 |both hs hl aa hk=>
  subst hk
  refine⟨?_,om,om,hn,fun h=>om⟩
  rcases hs with rfl|rfl
  .exact ya2 1 l false (ys6 ha aa)
  .exact ya2 0 l false (ys6 ha aa)
 |sum hs hl aa hk=>
  subst hk
  refine⟨?_,om,om,hn,fun h=>om⟩
  rw[xf1 hs]
  split
  .exact zK4 2
  .exact yr9 (yR2 (hx 0) (hx 1))
 |cmp hs hl hk=>
  subst hk
  refine⟨?_,om,om,hn,fun h=>om⟩
  rw[xe8 hs]
  split
  .exact zK4 1
  .exact zR1 _
structure RowOk (T:GTable) (row:List GValue):Prop where
 len:row.length=T.cols.length
 cell: ∀(j:Nat) (C:GCol) (v:GValue),T.cols[j]? =some C->row[j]? =some v->VK v C.kind
theorem yW8 {T:GTable} {row:List GValue} (hr:RowOk T row): ∀(n:Nat) (e:GExpr),wD e<=n->Good e->(zk0 T e).2=0->(evF T row e).2=0->VK (evF T row e).1 (zk0 T e).1
 |0,e,h,_,_,_=>by have:=zJ3 e;omega
 |n+1,e,h,hg,hk,he=>by
  have ih:=yW8 hr n
  have af:=zj7 e
  rw[xq7]at he⊢
  rw[yd8]at hk⊢
  by_cases q1:e.kind=1
  .rw[if_pos q1]at hk⊢
   rw[if_pos q1]
   by_cases w:e.s.isEmpty=false∨e.args.isEmpty=false∨mayF e.v=false
   .rw[if_pos w]at hk;cases hk
   .rw[if_neg w]
    refine⟨by
      cases hm:mayF e.v with
      |true=>rfl
      |false=>exact absurd (.inr (.inr hm)) w,⟨hg.v.n.1,hg.v.n.2⟩,.inl rfl⟩
  rw[if_neg q1]at hk he⊢
  rw[if_neg q1]
  by_cases q2:e.kind=2
  .rw[if_pos q2]at hk⊢
   rw[if_pos q2]
   by_cases w:colF T e.s<0
   .rw[if_pos w]at hk;cases hk
   rw[if_neg w]at hk⊢
   by_cases w2:e.args.isEmpty=false∨zs0 e.v=false
   .rw[if_pos w2]at hk;cases hk
   rw[if_neg w2]
   obtain⟨j,hj,aa⟩:=zO2 T e.s w
   have ab:j<row.length:=by rw[hr.len];exact aa
   simp only
   rw[hj,B6,A9,A4 ab]
   unfold colK
   rw[B6,A4 aa]
   exact hr.cell j _ _ (A4 aa) (A4 ab)
  rw[if_neg q2]at hk he⊢
  rw[if_neg q2]
  by_cases q3:e.kind=3
  rotate_left
  .rw[if_neg q3]at hk;cases hk
  rw[if_pos q3]at hk⊢
  have ad:=hg.sub
  have list: ∀args:List GExpr,(∀x∈args,x∈e.args)->(wL T args).2=0->(evsF T row args).2=0->All2 VK (evsF T row args).1 (wL T args).1:=by
   intro args
   induction args with
   |nil=>intro _ _ _;exact trivial
   |cons x l ae=>
    intro hm hk he
    rw[wL]at hk⊢
    rw[evsF]at he⊢
    by_cases w1:(zk0 T x).2=0
    rotate_left
    .rw[if_pos w1]at hk;exact absurd hk w1
    by_cases w2:(evF T row x).2=0
    rotate_left
    .rw[if_pos w2]at he;exact absurd he w2
    have n1: ¬(zk0 T x).2≠0:=fun h=>h w1
    have n2: ¬(evF T row x).2≠0:=fun h=>h w2
    rw[if_neg n1]at hk⊢
    rw[if_neg n2]at he⊢
    have hx:=hm x (B8 ..)
    have ag:=zl9 e.args x hx
    exact⟨ih x om (ad x hx) w1 w2,ae (fun y hy=>hm y (B1 _ hy)) hk he⟩
  by_cases w1:(wL T e.args).2=0
  rotate_left
  .rw[if_pos w1]at hk;exact absurd hk w1
  by_cases w2:(evsF T row e.args).2=0
  rotate_left
  .rw[if_pos w2]at he;exact absurd he w2
  have n1: ¬(wL T e.args).2≠0:=fun h=>h w1
  have n2: ¬(evsF T row e.args).2≠0:=fun h=>h w2
  rw[if_neg n1]at hk⊢
  rw[if_neg n2]at he⊢
  by_cases w3:zs0 e.v=false
  .rw[if_pos w3]at hk;cases hk
  rw[if_neg w3]at hk⊢
  exact(yW6 (Prod.ext rfl hk) (list e.args (fun _ h=>h) w1 w2)).1
theorem ye0 {T:GTable}: ∀{args:List GExpr},(wL T args).2=0-> ∀x∈args,(zk0 T x).2=0
 | [],_,x,hx=>by cases hx
 |y::l,h,x,hx=>by
  rw[wL]at h
  by_cases w:(zk0 T y).2=0
  .have n1: ¬(zk0 T y).2≠0:=fun h=>h w
   rw[if_neg n1]at h
   rcases Ak.1 hx with rfl|hx
   .exact w
   .exact ye0 h x hx
  .rw[if_pos w]at h;exact absurd h w
theorem xr2 {T:GTable} {row:List GValue} (hr:RowOk T row) (n:Nat): ∀{args:List GExpr},(∀x∈args,wD x<=n/\Good x)->(wL T args).2=0->(evsF T row args).2=0->All2 VK (evsF T row args).1 (wL T args).1
 | [],_,_,_=>trivial
 |x::l,hm,hk,he=>by
  rw[wL]at hk⊢
  rw[evsF]at he⊢
  by_cases w1:(zk0 T x).2=0
  rotate_left
  .rw[if_pos w1]at hk;exact absurd hk w1
  by_cases w2:(evF T row x).2=0
  rotate_left
  .rw[if_pos w2]at he;exact absurd he w2
  have n1: ¬(zk0 T x).2≠0:=fun h=>h w1
  have n2: ¬(evF T row x).2≠0:=fun h=>h w2
  rw[if_neg n1]at hk⊢
  rw[if_neg n2]at he⊢
  have hx:=hm x (B8 ..)
  exact⟨yW8 hr n x hx.1 hx.2 w1 w2,xr2 hr n (fun y hy=>hm y (B1 _ hy)) hk he⟩
theorem yO5 {T:GTable} {row:List GValue} (hr:RowOk T row) (hT:T.cols.length<=maxLen): ∀(n:Nat) (e:GExpr),wD e<=n->Wide e->Good e->(zk0 T e).2=0->Pure prog 178 [.agg T.row,.sl .ro (row.map GValue.row),.agg e.row] (valP (evF T row e))
 |0,e,h,_,_,_=>by have:=zJ3 e;omega
 |n+1,e,h,hw,hg,hk=>by
  have ih:=yO5 hr hT n
  have hok:= @xr2 _ _ hr n
  have av:=zj7 e
  have hlen:=hw.len
  have ai:=hw.sub
  have ak:=hg.sub
  have af:=ym0 T e.s hT
  rw[show ze8 (fun c:GCol=>c.name==e.s) T.cols 0=colF T e.s from rfl]at af
  obtain⟨M,hM⟩:=eX (evF T row e)
  rw[hM]
  rw[xq7]at hM
  rw[yd8]at hk
  have ret: ∀(v:GValue) (e:Int) (σ:St),(v,e)=M->wret (some (.tup [.agg v.row,.int .i64 e])) 0 (fun r s=>r=valP M/\s= []) σ:=fun v e σ h=>zo2 h
  refine iV 0 func178 ntmps178 results178 fun c hc hb=> ?_
  refine zA ?_
  simp[go_sem]
  by_cases q1:e.kind=1
  .have ag:(e.kind==1)=true:=by simpa using q1
   rw[if_pos q1]at hM
   simp[go_sem,ag]
   exact ret _ _ _ hM
  rw[if_neg q1]at hM hk
  have ag:(e.kind==1)=false:=by simpa using q1
  by_cases q2:e.kind=2
  .have al:(e.kind==2)=true:=by simpa using q2
   rw[if_pos q2]at hM hk
   by_cases w:colF T e.s<0
   .rw[if_pos w]at hk;cases hk
   obtain⟨j,hj,aw⟩:=zO2 T e.s w
   have ao:j<row.length:=by rw[hr.len];exact aw
   obtain⟨v,hv⟩:=eX (row[j])
   rw[hj,B6,A9,A4 ao,hv]at hM
   rw[hj]at af
   simp[go_sem,ag,al]
   refine zM af cB (zO sg rfl) rfl ?_
   simp[go_sem,ao,hv]
   exact ret _ _ _ hM
  rw[if_neg q2]at hM hk
  have al:(e.kind==2)=false:=by simpa using q2
  by_cases q3:e.kind=3
  rotate_left
  .rw[if_neg q3]at hk;cases hk
  rw[if_pos q3]at hk
  obtain⟨args,ab⟩:=eX e.args
  rw[ab]at av hlen ai ak hM hk
  by_cases w1:(wL T args).2=0
  rotate_left
  .rw[if_pos w1]at hk;exact absurd hk w1
  have n1: ¬(wL T args).2≠0:=fun h=>h w1
  rw[if_neg n1]at hk
  by_cases w3:zs0 e.v=false
  .rw[if_pos w3]at hk;cases hk
  rw[if_neg w3]at hk
  have ax:zw1 e.s (wL T args).1=((zw1 e.s (wL T args).1).1,0):=Prod.ext rfl hk
  have aq:=ye0 w1
  have aj:(evsF T row args).2=0->All2 VK (evsF T row args).1 (wL T args).1:=fun h=>
   hok (fun x hx=>⟨by have:=zl9 args x hx;omega,ak x hx⟩) w1 h
  obtain⟨K,hK⟩:=eX (evsF T row args)
  rw[hK]at hM aj
  simp[go_sem,ag,al,ab]
  refine zo3 8 3 dc sg ?_
  refine zI (S:=Nat×List GValue) [1,3,5,6,8,29,30,31] (fun u=> [.sl .ro (row.map GValue.row),.ptr 0 0,.ptr 1 0,.ptr 2 0,.sl (.app 3) (u.2.map GValue.row),.sl .ro (args.map GExpr.row),.int .i64 args.length,.int .i64 (u.1:Int)])
   (fun u=> [.box T.row,.box e.row,.box [.int .i64 0,.int .i64 0,.str []],.app u.2.length 3]) (fun u=>args.length - u.1)
   (fun u=>u.1<=args.length/\u.2.length=u.1/\(evsF T row (args.drop u.1)).2=K.2/\(K.2=0->u.2++(evsF T row (args.drop u.1)).1=K.1)) hc hb (0,[])
   ⟨A7 _,rfl,by simp only[Bh];rw[hK],fun _=>by simp only[Bh];rw[hK];rfl⟩ ?_ ?_
  .exact at_n 4 (by simp[go_sem,ab]) rfl (by simp[ltOb,ltC,ltK,GExpr.row_eq,GTable.row]) (A7 _) (zF sg rfl)
  rintro⟨i,l⟩ ⟨hi,hl,hinv,aa⟩
  simp only at hi hl hinv aa
  by_cases q:i<args.length
  rotate_left
  .rw[Ad om,evsF]at hinv aa
   have ae:K.2=0:=hinv.symm
   have ar:l=K.1:=by have:=aa ae;simpa using this
   have n2: ¬K.2≠0:=fun h=>h ae
   rw[if_neg n2,<-ar]at hM
   have hA:=aj ae
   rw[<-ar]at hA
   obtain⟨_,d1,d2,d3,d4⟩:=yW6 ax hA
   have au:=xQ3 e.s l d1 d2 d3 d4
   generalize za0 e.s l=o at au hM
   refine zA ?_
   simp[go_sem,q]
   refine pC au ?_
   simp[go_sem,valP]
   exact zo2 hM
  have ei:=zS q om
  obtain⟨x,hx⟩:=eX (args[i])
  have ah:x∈args:=hx▸Ac q
  have ay:=zl9 args x ah
  rw[Aa q,hx,evsF]at hinv aa
  have ad:=ih x om (ai x ah) (ak x ah) (aq x ah)
  generalize evF T row x=kx at ad hinv aa
  by_cases q4:kx.2=0
  .have n3: ¬kx.2≠0:=fun h=>h q4
   rw[if_neg n3]at hinv aa
   have an:(kx.2 !=0)=false:=by simpa using q4
   refine zA ?_
   simp[go_sem,q,hx]
   refine zM ad cB (zO sg (by rw[GExpr.row_eq];rfl)) rfl ?_
   simp[go_sem,valP,an]
   refine zG ⟨om,by unfold uni;simp⟩ ?_
   simp[go_sem,ei]
   refine zH (i+1,l++ [kx.1]) ⟨by simp only;omega,⟨by simp only;omega,by simp;omega,hinv,fun h=>by have:=aa h;simpa using this⟩, ?_⟩
   exact aN 4 (by simp[ltOb,ltC,ltK,GExpr.row_eq])
  .rw[if_pos q4]at hinv
   have an:(kx.2 !=0)=true:=by simpa using q4
   have ae:kx.2=K.2:=hinv
   rw[if_pos (by rw[<-ae];exact q4),<-ae]at hM
   refine zA ?_
   simp[go_sem,q,hx]
   refine zM ad cB (zO sg (by rw[GExpr.row_eq];rfl)) rfl ?_
   simp[go_sem,valP,an]
   exact ret zeroV _ _ hM
def noT:GTable:=⟨[],[],0,0,0,⟨[],[],[],0,0,0⟩⟩
theorem yZ9:RowOk noT []:=⟨rfl,fun j C v h=>by simp[noT]at h⟩
theorem xu9:noT.cols= []:=rfl
def evN (e:GExpr):GValue×Int:=if(zb2 noT e).2≠0 then(zeroV,(zb2 noT e).2)else evF noT [] e
theorem xQ7 {e:GExpr} (he:EOk e) (h:(evN e).2=0):VK (evN e).1 (zb2 noT e).1:=by
 unfold evN at h⊢
 by_cases q:(zb2 noT e).2=0
 rotate_left
 .rw[if_pos q]at h;exact absurd h q
 have n1: ¬(zb2 noT e).2≠0:=fun h=>h q
 rw[if_neg n1]at h⊢
 have hs:=he.size
 unfold zb2 at q⊢
 by_cases d:wD e<=64
 .rw[if_pos d]at q⊢
  exact yW8 yZ9 64 e d he.good q h
 .rw[if_neg d]at q;cases q
theorem xC6 (e:GExpr) (he:EOk e):Pure prog 106 [.agg noT.row,.sl .ro [],.agg e.row] (valP (evN e)):=by
 have ab:=ys5 noT (by simp[noT,maxLen]) e he
 have ad:=fun(d:wD e<=64) (k:(zk0 noT e).2=0)=>yO5 yZ9 (by simp[noT,maxLen]) 64 e d he.wide he.good k
 generalize hM:evN e=M
 unfold evN at hM
 have ret: ∀(v:GValue) (e:Int) (σ:St),(v,e)=M->wret (some (.tup [.agg v.row,.int .i64 e])) 0 (fun r s=>r=valP M/\s= []) σ:=fun v e σ h=>zo2 h
 refine iV 0 func106 ntmps106 results106 fun c hc hb=> ?_
 refine zA ?_
 simp[go_sem]
 refine zM ab cB (zO sg (by rw[GExpr.row_eq];rfl)) rfl ?_
 simp[go_sem,wB]
 by_cases q:(zb2 noT e).2=0
 rotate_left
 .have q':((zb2 noT e).2 !=0)=true:=by simpa using q
  rw[if_pos q]at hM
  simp[go_sem,q']
  exact ret zeroV _ _ hM
 have q':((zb2 noT e).2 !=0)=false:=by simpa using q
 have n1: ¬(zb2 noT e).2≠0:=fun h=>h q
 rw[if_neg n1]at hM
 have aa:Pure prog 178 [.agg noT.row,.sl .ro [],.agg e.row] (valP (evF noT [] e)):=by
  unfold zb2 at q
  by_cases d:wD e<=64
  .rw[if_pos d]at q;exact ad d q
  .rw[if_neg d]at q;cases q
 rw[hM]at aa
 simp[go_sem,q',xu9]
 refine zI (S:=Unit) [1,3,5,6,29,30,31] (fun _=> [.sl .ro [],.ptr 0 0,.ptr 1 0,.ptr 2 0,.sl .ro [],.int .i64 0,.int .i64 0])
   (fun _=> [.box noT.row,.box e.row,.box [.int .i64 0,.int .i64 0,.str []]]) (fun _=>0) (fun _=>True) hc hb () trivial ?_ ?_
 .exact at_n 3 (by simp[go_sem,noT]) rfl (by simp[ltOb,ltC,ltK,GExpr.row_eq,GTable.row]) (A7 _) (zF sg rfl)
 rintro u _
 refine zA ?_
 simp[go_sem]
 refine zM aa cB (zO sg (by rw[GExpr.row_eq];rfl)) rfl ?_
 simp[go_sem,valP]
 exact zo2 rfl
end Go.Proofs.YtefbicjgbaaieaaGreat
namespace Go.Proofs.YtefbicjgbaaieaaGreat.R
open Go Go.Vx Go.Proofs.Tryz
set_option maxRecDepth 100000
variable {cols:List GCol}
def zn6:List GCol->List GValue->Int
 |c::cs,v::vs=>if mayF v=false then 9 else if v.kind=0/\c.null=false then 16 else if v.kind≠0/\v.kind≠c.kind then 15 else zn6 cs vs
 |_,_=>0
def mayT (cols:List GCol) (row:List GValue):Int:=if row.length≠cols.length then 9 else zn6 cols row
theorem yA5 (t:GTable) (row:List GValue) (hr:row.length<=maxLen):Pure prog 149 [.agg t.row,.sl .ro (row.map GValue.row)] (.int .i64 (mayT t.cols row)):=by
 obtain⟨name,cols,key,place,region,zone⟩:=t
 refine iV 0 func149 ntmps149 results149 fun c hc hb=> ?_
 refine zA ?_
 have ret: ∀(r:Int) (σ:St),r=mayT cols row->wret (some (.int .i64 r)) 0 (fun r s=>r= .int .i64 (mayT cols row)/\s= []) σ:=fun r σ h=>by subst h;exact wR
 simp[go_sem]
 refine zR (fun h=> ?_) (fun h=> ?_)
 .have h:row.length≠cols.length:=by simp at h;omega
  simp[go_sem]
  exact ret _ _ (by rw[mayT,if_pos h])
 have h:row.length=cols.length:=by simp at h;omega
 rw[mayT,if_neg om]at ret⊢
 simp[go_sem]
 refine zI (S:=Nat) [2,13,14,15] (fun i=> [.ptr 0 0,.sl .ro (row.map GValue.row),.int .i64 row.length,.int .i64 i]) (fun _=> [.box (GTable.row ⟨name,cols,key,place,region,zone⟩)]) (fun i=>row.length - i) (fun i=>i<=row.length/\zn6 (cols.drop i) (row.drop i)=zn6 cols row) hc hb 0 ⟨A7 _,rfl⟩ ?_ ?_
 .exact aN 1 rfl
 rintro i ⟨hi,hinv⟩
 refine zA ?_
 simp[go_sem]
 refine zR (fun q=> ?_) (fun q=> ?_)
 .have q:i<row.length:=by simpa using q
  have q2:i<cols.length:=om
  have ei:=zS q (by unfold maxLen at hr;omega)
  rw[Aa q,Aa q2]at hinv
  obtain⟨⟨k,n,s⟩,hv⟩: ∃v,row[i]=v:=⟨_,rfl⟩
  obtain⟨⟨cn,ck,cb⟩,ab⟩: ∃v,cols[i]=v:=⟨_,rfl⟩
  rw[hv,ab,zn6]at hinv
  simp only at hinv
  simp[go_sem,q,hv]
  refine pC (ym1 ⟨k,n,s⟩) ?_
  simp[go_sem]
  refine zR (fun h1=> ?_) (fun h1=> ?_)
  .have h1:mayF ⟨k,n,s⟩=false:=by simpa using h1
   rw[if_pos h1]at hinv
   simp[go_sem]
   exact ret _ _ hinv
  have h1: ¬mayF ⟨k,n,s⟩=false:=by simpa using h1
  rw[if_neg h1]at hinv
  simp[go_sem]
  refine yW (fun h2=> ?_) (fun h2=> ?_)
  .have aa:k=0:=by simpa using h2
   simp[go_sem,h2,q2,ab]
   refine zR (fun h3=> ?_) (fun h3=> ?_)
   .have h3:cb=false:=by simpa using h3
    rw[if_pos ⟨aa,h3⟩]at hinv
    simp[go_sem]
    exact ret _ _ hinv
   have h3: ¬cb=false:=by simpa using h3
   rw[if_neg (fun w=>h3 w.2),if_neg (fun w=>w.1 aa)]at hinv
   simp[go_sem]
   refine yV [] 2 rfl kR kR ?_
   simp[go_sem,aa,q2,ab,ei]
   exact zH (i+1) ⟨om,⟨q,hinv⟩,aM 1 rfl (zF (by simp[go_sem,ei]) rfl)⟩
  .have aa: ¬k=0:=by simpa using h2
   rw[if_neg (fun w=>aa w.1)]at hinv
   simp[go_sem,h2]
   refine yV [] 2 rfl kR kR ?_
   have ad:(k !=0)=true:=by simpa using aa
   simp[go_sem,ad,q2,ab]
   refine zR (fun h4=> ?_) (fun h4=> ?_)
   .have h4: ¬k=ck:=by simpa using h4
    rw[if_pos ⟨aa,h4⟩]at hinv
    simp[go_sem]
    exact ret _ _ hinv
   have h4:k=ck:=by simpa using h4
   rw[if_neg (fun w=>w.2 h4)]at hinv
   simp[go_sem,ei]
   exact zH (i+1) ⟨om,⟨q,hinv⟩,aM 1 rfl (zF (by simp[go_sem,ei]) rfl)⟩
 .have q:i=row.length:=by
   have: ¬i<row.length:=by simpa using q
   omega
  subst q
  rw[Cy,h,Cy]at hinv
  simp[go_sem]
  exact ret _ _ hinv
def keyR (n j:Nat) (t:GTable) (row:List GValue) (rg:Int->Int×Int):Int×List UInt8×Int:=
 if mayT t.cols row≠0 then(0,[],mayT t.cols row)
 else
  let r:=rg (if t.place=0 then min (max (row.headD v0).n (-1)) 4 else 0)
  if r.2≠0 then(0,[],r.2)else(r.1,wY n j (row.getD t.key.toNat v0),0)
def keyV (r:Int×List UInt8×Int):V:= .tup [.int .i64 r.1,.str r.2.1,.int .i64 r.2.2]
theorem zP5 {r:Int×List UInt8×Int} {a e:Int} {s:List UInt8} {σ:St} (h:r=(a,s,e)):wret (some (.tup [.int .i64 a,.str s,.int .i64 e])) 0 (fun v s=>v=keyV r/\s= []) σ:=by
 subst h
 exact wR
theorem zk1 {row:List GValue} (h:mayT cols row=0):row.length=cols.length:=by
 unfold mayT at h
 split at h
 .cases h
 .rename_i h2;omega
theorem xm2 (ae:List (List V)) (ts:List GTable) (j:Nat) (hj:j<ts.length) (t:GTable) (ht:ts[j]=t) (row:List GValue) (hr:row.length<=maxLen) (hL:mayT t.cols row=0->LightR row) (hn:ts.length<=maxB) (hk:0<=t.key/\t.key<t.cols.length) (rg:Int->Int×Int)
  (ag: ∀r,-1<=r->r<=4->(t.place≠0->r=0)->Pure prog 62 [.agg [.sl .ro ae,.sl .ro (ts.map GTable.row)],.int .i64 j,.int .i64 r] (.tup [.int .i64 (rg r).1,.int .i64 (rg r).2])):
  Pure prog 88 [.agg [.sl .ro ae,.sl .ro (ts.map GTable.row)],.int .i64 j,.sl .ro (row.map GValue.row)] (keyV (keyR ts.length j t row rg)):=by
 have af:=yA5 t row hr
 have hbound: ∀v:GValue,v.ok->v.s.length<=500->_:=fun v h1 h2=>xC5 ae (ts.map GTable.row) j v (by simpa using hn) h1 h2
 simp only[Aw]at hbound
 generalize aa:keyR ts.length j t row rg=res
 unfold keyR at aa
 obtain⟨m,hm⟩:=eX (mayT t.cols row)
 have hlen:m=0->row.length=t.cols.length:=fun h=>zk1 (hm.trans h)
 rw[hm]at af hL aa
 obtain⟨name,cols,key,place,region,zone⟩:=t
 simp only at hk hlen aa
 obtain⟨q,rfl⟩: ∃q:Nat,key=q:=⟨key.toNat,om⟩
 refine iV 0 func88 ntmps88 results88 fun c hc hb=> ?_
 refine zA ?_
 simp[go_sem]
 refine pC (is_w ae (ts.map GTable.row) j) ?_
 simp[go_sem,hj,ht]
 refine zM af cB (zO sg rfl) rfl ?_
 simp[go_sem]
 refine zR (fun h=> ?_) (fun h=> ?_)
 .have h:m≠0:=by simpa using h
  simp[go_sem]
  exact zP5 (by rw[<-aa,if_pos h])
 have h:m=0:=by simpa using h
 have hl:=hlen h
 have hq:q<row.length:=om
 have h0:0<row.length:=om
 have ah:=hL h
 obtain⟨v,hv⟩:=eX (row[q])
 obtain⟨v1,ai⟩: ∃v,row[0]=v:=⟨_,rfl⟩
 have aj:v∈row:=hv▸Ac hq
 have e1:row.headD v0=v1:=by
  rw[<-ai]
  cases row with
  |nil=>simp at h0
  |cons a l=>rfl
 have e2:row.getD q v0=v:=by rw[A9,A4 hq,hv];rfl
 rw[if_neg om,e1,B6,e2]at aa
 have ak:=hbound v (ah.ok v aj) (ah.s v aj)
 have fin: ∀(x:Int) (σ:St),(if place=0 then min (max v1.n (-1)) 4 else 0)=x->((rg x).2≠0->res=(0,[],(rg x).2))/\((rg x).2=0->res=((rg x).1,wY ts.length j v,0)):=fun x σ hx=>by
  rw[hx]at aa
  exact⟨fun w=>by rw[<-aa];exact if_pos w,fun w=>by rw[<-aa];exact if_neg (fun q=>q w)⟩
 simp[go_sem]
 refine zR (fun hp=> ?_) (fun hp=> ?_)
 .have hp:place=0:=by simpa using hp
  simp[go_sem,h0,ai]
  obtain⟨x,hx⟩:=eX ((if 4<if v1.n< -1 then -1 else v1.n then 4 else if v1.n< -1 then -1 else v1.n))
  have al:x=min (max v1.n (-1)) 4:=by rw[<-hx];split<;>split<;>omega
  rw[hx]
  have ab:=fin x [] (by rw[if_pos hp,al])
  have ad:=ag x om om (fun w=>absurd hp w)
  revert ab ad
  generalize rg x=o
  obtain⟨oa,oe⟩:=o
  intro ab ad
  simp only at ab ad
  refine pC ad ?_
  simp[go_sem]
  refine zR (fun w=> ?_) (fun w=> ?_)
  .have w:oe≠0:=by simpa using w
   simp[go_sem]
   exact zP5 (ab.1 w)
  have w:oe=0:=by simpa using w
  simp[go_sem]
  refine yV [(8,0)] 2 rfl kR kR ?_
  simp[go_sem,hq,hv]
  refine pD ak ?_
  simp[go_sem]
  exact zP5 (ab.2 w)
 .have hp: ¬place=0:=by simpa using hp
  have ab:=fin 0 [] (by rw[if_neg hp])
  have ad:=ag 0 om om (fun _=>rfl)
  revert ab ad
  generalize rg 0=o
  obtain⟨oa,oe⟩:=o
  intro ab ad
  simp only at ab ad
  simp[go_sem]
  refine pC ad ?_
  simp[go_sem]
  refine zR (fun w=> ?_) (fun w=> ?_)
  .have w:oe≠0:=by simpa using w
   simp[go_sem]
   exact zP5 (ab.1 w)
  have w:oe=0:=by simpa using w
  simp[go_sem]
  refine yV [(8,0)] 2 rfl kR kR ?_
  simp[go_sem,hq,hv]
  refine pD ak ?_
  simp[go_sem]
  exact zP5 (ab.2 w)
theorem xO2 {n:Nat} (h:n<256):(UInt8.ofNat n).toNat=n:=by
 rw[Ej]
 exact C6 h
theorem wH: ∀a:List UInt8,Op.bytesLess a a=false
 | []=>rfl
 |a::l=>by simp[Op.bytesLess,wH l]
theorem zn1: ∀a b c:List UInt8,Op.bytesLess a b=true->Op.bytesLess b c=true->Op.bytesLess a c=true
 |_,[],_,h,_=>by simp[Op.bytesLess]at h
 |_,_::_,[],_,h=>by simp[Op.bytesLess]at h
 | [],_::_,_::_,_,_=>rfl
 |a::l,b::m,d::n,h1,h2=>by
  simp only[Op.bytesLess,Bn,decide_eq_true_eq,A8,beq_iff_eq]at*
  rcases h1 with h1|⟨rfl,h1⟩
  .rcases h2 with h2|⟨rfl,h2⟩
   .exact .inl (UInt8.lt_trans h1 h2)
   .exact .inl h1
  .rcases h2 with h2|⟨rfl,h2⟩
   .exact .inl h2
   .exact .inr ⟨rfl,zn1 l m n h1 h2⟩
theorem zn0: ∀a b:List UInt8,Op.bytesLess a b=true∨a=b∨Op.bytesLess b a=true
 | [],[]=> .inr (.inl rfl)
 | [],_::_=> .inl rfl
 |_::_,[]=> .inr (.inr rfl)
 |a::l,b::m=>by
  simp only[Op.bytesLess,Bn,decide_eq_true_eq,A8,beq_iff_eq,List.cons.injEq]
  by_cases h:a<b
  .exact .inl (.inl h)
  .by_cases h2:b<a
   .exact .inr (.inr (.inl h2))
   .have he:a=b:=UInt8.le_antisymm (UInt8.not_lt.1 h2) (UInt8.not_lt.1 h)
    subst he
    rcases zn0 l m with q|rfl|q
    .exact .inl (.inr ⟨rfl,q⟩)
    .exact .inr (.inl ⟨rfl,rfl⟩)
    .exact .inr (.inr (.inr ⟨rfl,q⟩))
theorem zU7: ∀(n i v:Nat) (rest:List UInt8),n<18446744073709551616->(n*128^i<18446744073709551616)->(0<i->0<n)->wS (varF n++rest) i v=(v+n*128^i,i+(varF n).length,0):=by
 intro n
 induction n using Nat.strongRecOn with
 |_ n ih=>
  intro i v rest hn hb h0
  have h9:i=9->n<=1:=fun h=>by
   subst h
   omega
  by_cases h:n<128
  .have e:(UInt8.ofNat n).toNat=n:=xO2 om
   rw[zR0 h]
   show wS (UInt8.ofNat n::rest) i v=_
   rw[wS,e,if_neg om,if_pos h,if_neg om,C6 h]
   rfl
  .have e:(UInt8.ofNat (n%128+128)).toNat=n%128+128:=xO2 om
   rw[ya1 h]
   show wS (UInt8.ofNat (n%128+128)::(varF (n/128)++rest)) i v=_
   rw[wS,e,if_neg om,if_neg om]
   have hdiv:n/128*128^(i+1)<=n*128^i:=by
    rw[Eo,Bo (128^i) 128,<-Ef]
    exact Ao _ (Nat.div_mul_le_self n 128)
   rw[ih (n/128) om (i+1) _ rest om om (fun _=>om)]
   have e2:(n%128+128)%128=n%128:=om
   rw[e2,Al]
   have e3:n%128*128^i+n/128*128^(i+1)=n*128^i:=by
    rw[Eo,Bo (128^i) 128,<-Ef,<-Ap]
    congr 1
    omega
   rw[C1,e3]
   congr 2
   omega
theorem xM0 (n:Int):zagF (zigF n)=n:=by
 unfold zagF zigF
 by_cases h:0<=n
 .rw[if_pos h,if_pos om]
  omega
 .rw[if_neg h,if_neg om]
  omega
theorem zv7 {v:GValue} (h:mayF v=true):(v.kind=0/\v.n=0/\v.s= [])∨(v.kind=1/\(v.n=0∨v.n=1)/\v.s= [])∨(v.kind=2/\v.s= [])∨(v.kind=3/\v.n=0/\v.s.length<=64):=by
 have hk:=yd9 h
 unfold mayF at h
 rcases hk with hk|hk|hk|hk<;>rw[hk]at h⊢ <;>simp at h⊢ <;>exact h
theorem yK9 {v:GValue} (h:mayF v=true) (ho:v.ok) (rest:List UInt8):zg9 (zb5 v++rest)=⟨v,(zb5 v).length,0⟩:=by
 have hp:=zv7 h
 have hi:=ho.n
 obtain⟨k,n,s⟩:=v
 simp only at hp hi
 unfold zb5
 rw[if_pos h]
 simp only
 rcases hp with ⟨rfl,rfl,rfl⟩|⟨rfl,hn,rfl⟩|⟨rfl,rfl⟩|⟨rfl,rfl,hl⟩
 .simp[zg9,zt1,v0]
 .rcases hn with rfl|rfl<;>simp[zg9,zt1,zg5]
 .have hz:=yA3 hi
  have:=zU7 (zigF n) 0 0 rest hz (by simpa using hz) (fun h=>om)
  simp[zg9,zt1,this,xM0]
  omega
 .have ht:=zU7 s.length 0 0 (s++rest) om om (fun h=>om)
  have aa:zc8 (varF s.length++(s++rest))=(s,(varF s.length).length+s.length,0):=by
   unfold zc8
   rw[ht]
   have e1:(varF s.length++(s++rest)).take ((varF s.length).length+s.length)=varF s.length++s:=by
    rw[<-C8,Cz sm,Az sm]
   unfold wI
   simp only[Af,Nat.pow_zero,Nat.mul_one,e1,List.drop_left]
   rw[if_neg sm,if_neg om,if_neg sm]
  have ab: ¬64<s.length:=om
  simp[zg9,zt1,aa,ab]
  omega
theorem yq5: ∀(l:List GValue),(∀v∈l,mayF v=true)->(∀v∈l,v.ok)->rowG l.length (l.flatMap zb5)=some l
 | [],_,_=>by simp[rowG]
 |v::l,h,ho=>by
  have h1:=yK9 (h v sm) (ho v sm) (l.flatMap zb5)
  have h2:=yq5 l (fun x hx=>h x (by simp[hx])) (fun x hx=>ho x (by simp[hx]))
  rw[Al,rowG,Bq,h1]
  simp[h2]
theorem zX0: ∀(cs:List GCol) (vs:List GValue),vs.length=cs.length->zn6 cs vs=0-> ∀i (hi:i<cs.length) (hj:i<vs.length),mayF vs[i]=true/\(cs[i].null=false->vs[i].kind=cs[i].kind)
 | [],[],_,_,i,hi,_=>by simp at hi
 |c::cs,v::vs,hl,h,i,hi,hj=>by
  unfold zn6 at h
  split at h
  .cases h
  .rename_i h1
   split at h
   .cases h
   .rename_i h2
    split at h
    .cases h
    .rename_i h3
     cases i with
     |zero=>
      refine⟨by simpa using h1,fun hn=> ?_⟩
      have hn:c.null=false:=hn
      have:v.kind≠0:=fun q=>h2 ⟨q,hn⟩
      exact Decidable.not_not.1 fun q=>h3 ⟨this,q⟩
     |succ i=>exact zX0 cs vs (by simpa using hl) h i (by simpa using hi) (by simpa using hj)
 | [],_::_,hl,_,_,_,_=>by simp at hl
 |_::_,[],hl,_,_,_,_=>by simp at hl
theorem xh2 {row:List GValue} (h:mayT cols row=0):zn6 cols row=0:=by
 unfold mayT at h
 split at h
 .cases h
 .exact h
theorem yG7 {row:List GValue} (h:mayT cols row=0): ∀v∈row,mayF v=true:=fun v hv=>by
 obtain⟨i,hi,rfl⟩:=List.mem_iff_getElem.1 hv
 exact(zX0 cols row (zk1 h) (xh2 h) i (by rw[<-zk1 h];exact hi) hi).1
theorem xx9 {row:List GValue} (h:mayT cols row=0) (hL:LightR row):rowC cols.length (yH row)=(row,0):=by
 have hl:=zk1 h
 have aa:=hL.len
 have ht:=zU7 row.length 0 0 (row.flatMap zb5) om om (fun h=>om)
 have hd:yH row=varF row.length++row.flatMap zb5:=by unfold yH zF1;rw[Dv]
 unfold rowC
 rw[hd,ht]
 simp[<-hl,yq5 row (yG7 h) hL.ok,rowR]
theorem yF2 {a b:GValue} (ha:mayF a=true) (hb:mayF b=true) (hk:a.kind=b.kind) (oa:a.ok) (ob:b.ok):Op.bytesLess (keyF a) (keyF b)=decide (yW1 a b<0):=by
 have pa:=zv7 ha
 have pb:=zv7 hb
 have ia:=oa.n
 have ib:=ob.n
 obtain⟨k,n,s⟩:=a
 obtain⟨k2,n2,s2⟩:=b
 simp only at pa pb hk ia ib
 subst hk
 unfold keyF yW1
 rw[if_pos ha,if_pos hb]
 simp only
 rw[zf1,if_neg (Nat.lt_irrefl _),if_neg (Nat.lt_irrefl _)]
 rcases pa with ⟨rfl,rfl,rfl⟩|⟨rfl,hn,rfl⟩|⟨rfl,rfl⟩|⟨rfl,rfl,hl⟩
 .simp at pb
  obtain⟨rfl,rfl⟩:=pb
  decide
 .simp at pb
  obtain⟨aa,rfl⟩:=pb
  rcases hn with rfl|rfl<;>rcases aa with rfl|rfl<;>decide
 .simp at pb
  subst pb
  simp only[show((2:Int)=1)=False from by simp,if_false,if_true]
  rw[yV1,C6 om,C6 om]
  by_cases h:n<n2
  .simp[h,Int.ne_of_lt h];omega
  .by_cases h2:n=n2
   .subst h2;simp
   .simp[h,h2];omega
 .simp at pb
  obtain⟨rfl,ab⟩:=pb
  simp only[show((3:Int)=1)=False from by simp,show((3:Int)=2)=False from by simp,if_false,if_true]
  rw[yD4]
  by_cases h:s=s2
  .subst h;simp[wH]
  .cases hq:Op.bytesLess s s2<;>simp[h]
end Go.Proofs.YtefbicjgbaaieaaGreat.R
namespace Go.Proofs.YtefbicjgbaaieaaGreat
open Go Go.Vx R Go.Proofs.Tryz
set_option maxRecDepth 100000
theorem xp0 (a b:GValue):yW1 a b=cmpV a b:=by
 unfold yW1 cmpV orL orL orL orL cmpI cmpS
 by_cases h1:a.kind=b.kind
 .rw[if_neg (fun h=>h h1),h1]
  by_cases h2:a.n=b.n
  .rw[if_neg (fun h=>h h2),h2]
   by_cases h3:a.s=b.s
   .rw[if_neg (fun h=>h h3),h3]
    simp[wH]
   .rw[if_pos h3]
    rcases zn0 a.s b.s with h|h|h
    .simp[h]
    .exact absurd h h3
    .have h':Op.bytesLess a.s b.s=false:=by
      cases hh:Op.bytesLess a.s b.s with
      |false=>rfl
      |true=>exact absurd (zn1 _ _ _ h hh) (by rw[wH];decide)
     simp[h,h']
  .rw[if_pos h2]
   by_cases h3:a.n<b.n<;>simp[h3]<;>omega
 .rw[if_pos h1]
  by_cases h3:a.kind<b.kind<;>simp[h3]<;>omega
end Go.Proofs.YtefbicjgbaaieaaGreat
namespace Go.Vx
open Go
end Go.Vx
namespace Go.Proofs.YtefbicjgbaaieaaGreat
open Go Go.Vx R Go.Proofs.Tryz
set_option maxRecDepth 100000
end Go.Proofs.YtefbicjgbaaieaaGreat
namespace Go.Proofs.YtefbicjgbaaieaaGreat
open Go Go.Vx R Go.Proofs.Tryz
set_option maxRecDepth 100000
def zV6 (v:GValue) (C:GCol):Bool:=mayF v&&(v.kind==0||v.kind==C.kind)
def zl5 (cs:List GCol) (row:List GValue):Bool:=decide (row.length=cs.length)&&(row.zip cs).all fun p=>zV6 p.1 p.2
theorem yp3 {T:GTable} {row:List GValue} (h:zl5 T.cols row=true) (hv: ∀v∈row,v.ok):RowOk T row:=by
 unfold zl5 at h
 rw[A8,decide_eq_true_eq]at h
 refine⟨h.1,fun j C v hC hV=> ?_⟩
 have hz:(row.zip T.cols)[j]? =some (v,C):=by rw[List.getElem?_zip_eq_some];exact⟨hV,hC⟩
 have h2:=Aj.1 h.2 _ (B5 hz)
 unfold zV6 at h2
 simp only[A8,Bn,beq_iff_eq]at h2
 have aa:=hv v (B5 hV)
 exact⟨h2.1,⟨aa.n.1,aa.n.2⟩,h2.2.elim .inr .inl⟩
def evR (T:GTable) (row:List GValue) (e:GExpr):GValue×Int:=if(zb2 T e).2≠0 then(zeroV,(zb2 T e).2)else if zl5 T.cols row=false then(zeroV,9)else evF T row e
theorem xr0 (e:GExpr):evR noT [] e=evN e:=rfl
section
variable {b:List V} {rows:List (List V)} {A:List Nat} {τ:St}
end
theorem xV0 {v:GValue} {k:Int} (h:VK v k):v.ok/\v.s.length<=500:=by
 have hm:=h.may
 have hn:=h.n
 unfold mayF at hm
 have:i64R v.kind/\v.s.length<=64:=by
  unfold i64R
  split at hm
  .rename_i q;rw[q];simp at hm;exact⟨dc,by rw[hm.2];decide⟩
  split at hm
  .rename_i q;rw[q];simp at hm;exact⟨dc,by rw[hm.2];decide⟩
  split at hm
  .rename_i q;rw[q];simp at hm;exact⟨dc,by rw[hm];decide⟩
  split at hm
  .rename_i q;rw[q];simp at hm;exact⟨dc,hm.2⟩
  .cases hm
 exact⟨⟨this.1,hn,by unfold maxLen;omega⟩,om⟩
end Go.Proofs.YtefbicjgbaaieaaGreat
