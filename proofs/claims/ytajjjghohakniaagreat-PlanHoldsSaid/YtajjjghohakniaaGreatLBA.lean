/-
  The kinds of expressions: how great one may be, in both texts, over trees (the library Vx); used by the theorem at the end of the claim.
  Conditions: as each theorem states them.
-/
import Derived.Test.YtajjjghohakniaaGreatLAZ
import Derived.Test.YtajjjghohakniaaGreatLAU
namespace Go.Proofs.YtajjjghohakniaaGreat
open Go Go.Vx
set_option maxRecDepth 100000
variable {L:List GToken}
def wAS:List UInt8:= [65,83]
def wOF:List UInt8:= [79,70]
def zM0:List UInt8:= [83,89,83,84,69,77]
def yu2:List UInt8:= [84,73,77,69]
def yC3:List UInt8:= [66,79,85,78,68]
def yB2:List (List UInt8):= [zT2,zT0,zT3,zz1]
def beg4 (L:List GToken) (s:RS):Bool:= !(anyF L s yB2).isEmpty
def zo6 (L:List GToken):Nat→List GStmt→RS→List GStmt×RS
 |0,l,s=>(l,s)
 |n+1,l,s=>
  if s.err=0 then
   if(zd8 L l.length 8 (beg4 L s) s).err=0 then
    if isT L [59] (zi2 L s).2=true then
     if isT L wAS (zM (zi2 L s).2)=true∨(tokF L (zM (zi2 L s).2)).kind=0 then(l++ [(zi2 L s).1],zM (zi2 L s).2)
     else zo6 L n (l++ [(zi2 L s).1]) (zM (zi2 L s).2)
    else(l++ [(zi2 L s).1],(zi2 L s).2)
   else(l,zd8 L l.length 8 (beg4 L s) s)
  else(l,s)
def asS (L:List GToken) (s:RS):RS:=yB L yu2 (yB L zM0 (yB L wOF (zM s)))
def asF (L:List GToken) (s:RS):(Int×Int)×RS:=
 if isT L wAS s=true then
  if isT L yC3 (asS L s)=true then((2,(numF L (zM (asS L s))).1),(numF L (zM (asS L s))).2)
  else((1,(numF L (asS L s)).1),(numF L (asS L s)).2)
 else((0,0),s)
def endF (L:List GToken) (s:RS):RS:=if s.err=0∧(tokF L s).kind≠0 then wQ 13 (tokF L s).place s else s
def rs0:RS:=⟨0,0,0,0⟩
def lot0:GLot:=⟨0,0,[]⟩
def yI1 (L:List GToken):GLot×Int×Int:=
 let x:=zo6 L 9 [] rs0
 let a:=asF L x.2
 let e:=endF L a.2
 if e.err=0 then(⟨a.1.1,a.1.2,x.1⟩,0,0)else(lot0,e.place,e.err)
def zr8 (s:List UInt8):GLot×Int×Int:=if(lexF s).2=0 then yI1 (lexF s).1 else(lot0,0,(lexF s).2)
theorem yf1 (hL:LIn L): ∀(n:Nat) (l:List GStmt) (s:RS),RIn L s→s.opn=0→UI L s (zo6 L n l s).2
 |0,_,_,h,_=>UI.refl h
 |n+1,l,s,h,ho=>by
  unfold zo6
  split
  ·split
   ·have h1:=yk0 hL h ho
    split
    ·have h2:=h1.trans (yW hL h1.rin ‹_›)
     split
     ·exact h2
     ·exact h2.trans (yf1 hL n _ _ h2.rin (h2.opn.trans ho))
    ·exact h1
   ·exact zk7 h
  ·exact UI.refl h
theorem yS7 (hL:LIn L) {s:RS} (h:RIn L s) (hi:isT L wAS s=true):UI L s (asS L s):=by
 unfold asS
 have h1:=yW hL h hi
 have h2:=h1.trans (yG hL wOF h1.rin)
 have h3:=h2.trans (yG hL zM0 h2.rin)
 exact h3.trans (yG hL yu2 h3.rin)
theorem xn6 (hL:LIn L) {s:RS} (h:RIn L s):UI L s (asF L s).2:=by
 unfold asF
 split
 ·rename_i hi
  have h1:=yS7 hL h hi
  split
  ·have h2:=h1.trans (yW hL h1.rin ‹_›)
   exact h2.trans (yy9 hL h2.rin)
  ·exact h1.trans (yy9 hL h1.rin)
 ·exact UI.refl h
def parV (x:GLot×Int×Int):V:= .tup [.agg x.1.row,.int .i64 x.2.1,.int .i64 x.2.2]
theorem zZ6 {g:Tag} {τ:St} {l:GLot} {p e:Int} {M:GLot×Int×Int} (h:(l,p,e)=M):wret (some (.tup [.agg [.int .i64 l.mode,.int .i64 l.n,.sl g (l.stmts.map GStmt.row)],.int .i64 p,.int .i64 e])) 0 (fun r σ=>r=parV M∧σ= []) τ:=by
 subst h
 exact zQ (r:= .tup [.agg [.int .i64 l.mode,.int .i64 l.n,.sl .ro (l.stmts.map GStmt.row)],.int .i64 p,.int .i64 e]) (zI9 ⟨yS6 ⟨zZ rfl,zZ rfl,wD,trivial⟩,zI8 rfl,zI8 rfl,trivial⟩) ⟨rfl,rfl⟩
def lotB (m n:Int) (l:List GStmt):Ob:= .box [.int .i64 m,.int .i64 n,.sl (.app 3) (l.map GStmt.row)]
def lotZ:Ob:= .box [.int .i64 0,.int .i64 0,.sl .full []]
set_option maxHeartbeats 4000000 in
theorem xf8 (s:List UInt8) (hl:s.length≤maxLen):Pure Tryz.prog 28 [.str s] (parV (zr8 s)):=by
 generalize hM:zr8 s=M
 unfold zr8 at hM
 have hlex:=xu7 s hl
 have hok:=yF9 (s:=s)
 generalize lexF s=x at hlex hok hM
 obtain⟨L,e⟩:=x
 simp only at hok hM
 refine VCalls.introV 0 Tryz.func28 Tryz.ntmps28 Tryz.results28 rfl rfl (Nat.le_of_ble_eq_true rfl) fun c hc hb=> ?_
 by_cases qe:e=0
 rotate_left
 ·rw[if_neg qe]at hM
  have qe':(e !=0)=true:=by simpa using qe
  refine zC ?_
  simp[go_sem]
  refine zD hlex Tryz.callB64 (zG rfl) rfl ?_
  simp[go_sem,lexV,qe']
  exact zZ6 (l:=lot0) hM
 obtain⟨_,hL,hG,hl1,hl2⟩:=hok qe
 rw[if_pos qe]at hM
 have qe':(e !=0)=false:=by simpa using qe
 have h0:RIn L rs0:=⟨by show 0<_;omega,by show(0:Int)≤0∧(0:Int)≤100000;omega⟩
 unfold yI1 at hM
 obtain⟨X,hX⟩: ∃X,zo6 L 9 [] rs0=X:=⟨_,rfl⟩
 rw[hX]at hM
 refine zc1 (zC ?_)
 simp[go_sem]
 refine zc1 (zC ?_)
 simp[go_sem]
 refine zD hlex Tryz.callB64 (zG rfl) rfl ?_
 simp[go_sem,lexV]
 refine zc1 (zC ?_)
 simp[go_sem,qe']
 refine zc1 (zC ?_)
 simp[go_sem]
 refine zc1 (zC ?_)
 simp[go_sem]
 refine zZ3 2 2 15 _ (by decide) rfl rfl ?_
 simp only[List.set_cons_succ,List.set_cons_zero]
 refine zq1 (S:=List GStmt×RS) [2,7,8] (fun _=> [.ptr 0 0,.ptr 1 0,.ptr 2 0]) (fun u=> [lotZ,rB L u.2,lotB 0 0 u.1,.app u.1.length 15]) (fun u=>RIn L u.2∧u.2.opn=0∧u=X) hc hb ?_ ?_
 ·refine zm2 ?_
  refine zN (S:=List GStmt×RS) [2,7,8] (fun _=> [.ptr 0 0,.ptr 1 0,.ptr 2 0]) (fun u=> [lotZ,rB L u.2,lotB 0 0 u.1,.app u.1.length 15]) (fun u=>9 - u.1.length) (fun u=>u.1.length≤8∧RIn L u.2∧u.2.opn=0∧zo6 L (9 - u.1.length) u.1 u.2=X) hc hb ([],rs0) ⟨Nat.zero_le _,h0,rfl,hX⟩ ?_ ?_
  ·exact at_n 4 (by simp[go_sem];exact⟨rfl,rfl,rfl⟩) rfl (by simp[rB,lotZ,lotB,ltOb,ltC,ltK]) (by decide) (zE (by simp[go_sem]) rfl)
  rintro⟨l,s1⟩ ⟨hll,hs,ho,hinv⟩
  simp only at hll hs ho hinv
  rw[show 9 - l.length=(8 - l.length)+1 by omega,zo6]at hinv
  by_cases q1:s1.err=0
  rotate_left
  ·rw[if_neg q1]at hinv
   have q1':(s1.err==0)=false:=by simpa using q1
   refine zC ?_
   simp[go_sem,rB,q1']
   exact zP (l,s1) ⟨⟨hs,ho,hinv⟩,at_n 4 (by simp[go_sem]) rfl (by simp[lotZ,lotB,ltOb,ltC,ltK]) (by decide) (zE (by simp[go_sem]) rfl)⟩
  have q1':(s1.err==0)=true:=by simpa using q1
  rw[if_pos q1]at hinv
  have hany:=zP5 L hL s1 hs yB2 (by decide)
  have hmore:=zW3 L hL s1 hs l.length 8 (beg4 L s1)
  have hme:=ze4 (L:=L) (n:=l.length) (most:=8) (b:=beg4 L s1) (s:=s1)
  have hmu:=zk7 (L:=L) (n:=l.length) (most:=8) (b:=beg4 L s1) hs
  unfold beg4 at hmore hme hmu hinv
  generalize anyF L s1 yB2=an at hany hmore hme hmu hinv
  generalize zd8 L l.length 8 (!an.isEmpty) s1=m at hmore hme hmu hinv
  by_cases q2:m.err=0
  rotate_left
  ·rw[if_neg q2]at hinv
   have q2':(m.err==0)=false:=by simpa using q2
   rw[q2']at hmore
   refine zC ?_
   simp[go_sem,rB,q1']
   refine wF hany Tryz.callB65 (za4 ⟨zW,trivial⟩) rfl ?_
   simp[go_sem,lotB]
   refine wF hmore Tryz.callB66 (za4 ⟨zA rfl,zA rfl,zA rfl,trivial⟩) rfl ?_
   simp[go_sem,rB]
   exact zP (l,m) ⟨⟨hmu.rin,hmu.opn.trans ho,hinv⟩,at_n 4 (by simp[go_sem]) rfl (by simp[lotZ,ltOb,ltC,ltK]) (by decide) (zE (by simp[go_sem]) rfl)⟩
  have q2':(m.err==0)=true:=by simpa using q2
  rw[q2']at hmore
  obtain⟨_,hl8,rfl⟩:=hme q2
  rw[if_pos q2]at hinv
  have hst:=xt6 L hL m hs ho
  have hsu:=yk0 hL hs ho
  generalize zi2 L m=x at hst hsu hinv
  obtain⟨st,s2⟩:=x
  simp only at hsu hinv
  have hs2:=hsu.rin
  have ho2:=hsu.opn.trans ho
  by_cases q3:isT L [59] s2=true
  rotate_left
  ·have q3:isT L [59] s2=false:=by simpa using q3
   rw[if_neg (by rw[q3];decide)]at hinv
   refine zC ?_
   simp[go_sem,rB,q1']
   refine wF hany Tryz.callB65 (za4 ⟨zW,trivial⟩) rfl ?_
   simp[go_sem,lotB]
   refine wF hmore Tryz.callB66 (za4 ⟨zA rfl,zA rfl,zA rfl,trivial⟩) rfl ?_
   simp[go_sem]
   refine wT [(3,3)] 2 4 (by simp) (by kernel_rfl) (by kernel_rfl) ?_
   simp[go_sem]
   refine yK1 hst Tryz.callB67 zX4 (zW6 _) ?_
   simp[go_sem]
   refine zO ⟨by omega,xD rfl⟩ ?_
   simp[go_sem]
   refine wF (wC L hL s2 hs2 _ q3) Tryz.callB68 (za4 ⟨zA rfl,trivial⟩) rfl ?_
   simp[go_sem,rB]
   exact zP (l++ [st],s2) ⟨⟨hs2,ho2,hinv⟩,at_n 4 (by simp[go_sem]) rfl (by simp[lotZ,ltOb,ltC,ltK]) (by decide) (zE (by simp[go_sem]) rfl)⟩
  rw[if_pos q3]at hinv
  have hs3:=hs2.next hL q3
  have his:=is_w L hL (zM s2) hs3 wAS
  have htk:=zn8 L hL (zM s2) hs3
  generalize isT L wAS (zM s2)=ba at his hinv
  generalize tokF L (zM s2)=tk at htk hinv
  refine zC ?_
  simp[go_sem,rB,q1']
  refine wF hany Tryz.callB65 (za4 ⟨zW,trivial⟩) rfl ?_
  simp[go_sem,lotB]
  refine wF hmore Tryz.callB66 (za4 ⟨zA rfl,zA rfl,zA rfl,trivial⟩) rfl ?_
  simp[go_sem]
  refine wT [(3,3)] 2 4 (by simp) (by kernel_rfl) (by kernel_rfl) ?_
  simp[go_sem]
  refine yK1 hst Tryz.callB67 zX4 (zW6 _) ?_
  simp[go_sem]
  refine zO ⟨by omega,xD rfl⟩ ?_
  simp[go_sem]
  refine wF (xM L hL s2 hs2 _ q3) Tryz.callB68 (za4 ⟨zA rfl,trivial⟩) rfl ?_
  simp[go_sem]
  refine wF his Tryz.callB69 (za4 ⟨zA rfl,trivial⟩) rfl ?_
  refine(Bool.eq_false_or_eq_true ba).elim (fun q4=> ?_) (fun q4=> ?_)
  ·rw[if_pos (.inl q4)]at hinv
   simp[go_sem,q4,rB]
   exact zP (l++ [st],zM s2) ⟨⟨hs3,ho2,hinv⟩,at_n 4 (by simp[go_sem]) rfl (by simp[lotZ,ltOb,ltC,ltK]) (by decide) (zE (by simp[go_sem]) rfl)⟩
  simp[go_sem,q4]
  refine wF htk Tryz.callB70 zX4 rfl ?_
  by_cases q5:tk.kind=0
  ·have q5':(tk.kind==0)=true:=by simpa using q5
   rw[if_pos (.inr q5)]at hinv
   simp[go_sem,q5',rB]
   exact zP (l++ [st],zM s2) ⟨⟨hs3,ho2,hinv⟩,at_n 4 (by simp[go_sem]) rfl (by simp[lotZ,ltOb,ltC,ltK]) (by decide) (zE (by simp[go_sem]) rfl)⟩
  ·have q5':(tk.kind==0)=false:=by simpa using q5
   rw[if_neg (by rw[q4];simp[q5])]at hinv
   simp[go_sem,q5',rB]
   refine zP (l++ [st],zM s2) ⟨by simp;omega,⟨by simp;omega,hs3,ho2,by simp only[List.length_append,List.length_singleton,show 9 - (l.length+1)=8 - l.length by omega];exact hinv⟩,at_n 4 (by simp[go_sem]) rfl (by simp[lotZ,ltOb,ltC,ltK]) (by decide) (zE (by simp[go_sem]) rfl)⟩
 ·rintro⟨l,s1⟩ ⟨hs,ho,hX2⟩
  simp only at hs ho
  rw[←hX2]at hM
  simp only at hM
  have hau:=xn6 hL hs
  refine zq1 (S:=(Int×Int)×RS) [2,7,8] (fun _=> [.ptr 0 0,.ptr 1 0,.ptr 2 0]) (fun u=> [lotZ,rB L u.2,lotB u.1.1 u.1.2 l,.app l.length 15]) (fun u=>u=asF L s1) hc hb ?_ ?_
  ·obtain⟨A,hA⟩: ∃A,asF L s1=A:=⟨_,rfl⟩
   rw[hA]
   unfold asF asS at hA
   by_cases q1:isT L wAS s1=true
   rotate_left
   ·have q1:isT L wAS s1=false:=by simpa using q1
    rw[if_neg (by rw[q1];decide)]at hA
    refine zC ?_
    simp[go_sem]
    refine wF (wC L hL s1 hs _ q1) Tryz.callB68 (za4 ⟨zA rfl,trivial⟩) rfl ?_
    simp[go_sem]
    exact zP ((0,0),s1) ⟨hA,at_n 4 (by simp[go_sem]) rfl (by simp[rB,lotZ,lotB,ltOb,ltC,ltK]) (by decide) (zE (by simp[go_sem]) rfl)⟩
   rw[if_pos q1]at hA
   have hn1:=hs.next hL q1
   have hm1:=zb7 L hL _ hn1 wOF
   have hi1:=zh9 hL (w:=wOF) hn1
   generalize yB L wOF (zM s1)=u1 at hm1 hi1 hA
   have hm2:=zb7 L hL _ hi1 zM0
   have hi2:=zh9 hL (w:=zM0) hi1
   generalize yB L zM0 u1=u2 at hm2 hi2 hA
   have hm3:=zb7 L hL _ hi2 yu2
   have hi3:=zh9 hL (w:=yu2) hi2
   generalize yB L yu2 u2=u3 at hm3 hi3 hA
   refine zC ?_
   simp[go_sem]
   refine wF (xM L hL s1 hs _ q1) Tryz.callB68 (za4 ⟨zA rfl,trivial⟩) rfl ?_
   simp[go_sem]
   refine wF hm1 Tryz.callB71 (za4 ⟨zA rfl,trivial⟩) rfl ?_
   simp[go_sem]
   refine wF hm2 Tryz.callB71 (za4 ⟨zA rfl,trivial⟩) rfl ?_
   simp[go_sem]
   refine wF hm3 Tryz.callB71 (za4 ⟨zA rfl,trivial⟩) rfl ?_
   simp[go_sem,lotB]
   by_cases q2:isT L yC3 u3=true
   ·rw[if_pos q2]at hA
    have hnu:=yd7 L hL _ (hi3.next hL q2)
    generalize numF L (zM u3)=nn at hnu hA
    refine wF (xM L hL u3 hi3 _ q2) Tryz.callB68 (za4 ⟨zA rfl,trivial⟩) rfl ?_
    simp[go_sem]
    refine wF hnu Tryz.callB72 zX4 rfl ?_
    simp[go_sem]
    exact zP ((2,nn.1),nn.2) ⟨hA,at_n 4 (by simp[go_sem]) rfl (by simp[rB,lotZ,ltOb,ltC,ltK]) (by decide) (zE (by simp[go_sem]) rfl)⟩
   ·have q2:isT L yC3 u3=false:=by simpa using q2
    rw[if_neg (by rw[q2];decide)]at hA
    have hnu:=yd7 L hL _ hi3
    generalize numF L u3=nn at hnu hA
    refine wF (wC L hL u3 hi3 _ q2) Tryz.callB68 (za4 ⟨zA rfl,trivial⟩) rfl ?_
    simp[go_sem]
    refine wF hnu Tryz.callB72 zX4 rfl ?_
    simp[go_sem]
    exact zP ((1,nn.1),nn.2) ⟨hA,at_n 4 (by simp[go_sem]) rfl (by simp[rB,lotZ,ltOb,ltC,ltK]) (by decide) (zE (by simp[go_sem]) rfl)⟩
  ·rintro _ rfl
   generalize asF L s1=A at hau hM
   obtain⟨⟨m,n⟩,s2⟩:=A
   simp only at hau hM
   have hs2:=hau.rin
   refine zq1 (S:=RS) [2,7,8] (fun _=> [.ptr 0 0,.ptr 1 0,.ptr 2 0]) (fun u=> [lotZ,rB L u,lotB m n l,.app l.length 15]) (fun u=>u=endF L s2) hc hb ?_ ?_
   ·have htk:=zn8 L hL s2 hs2
    have hf:=zA7 L s2 13 (tokF L s2).place
    obtain⟨E,hE⟩: ∃E,endF L s2=E:=⟨_,rfl⟩
    rw[hE]
    unfold endF at hE
    generalize tokF L s2=tk at htk hf hE
    generalize wQ 13 tk.place s2=f at hf hE
    refine zC ?_
    simp[go_sem,rB]
    by_cases q1:s2.err=0
    rotate_left
    ·have q1':(s2.err==0)=false:=by simpa using q1
     rw[if_neg (fun h=>q1 h.1)]at hE
     simp[go_sem,q1']
     exact zP s2 ⟨hE,at_n 4 (by simp[go_sem]) rfl (by simp[lotZ,lotB,ltOb,ltC,ltK]) (by decide) (zE (by simp[go_sem]) rfl)⟩
    have q1':(s2.err==0)=true:=by simpa using q1
    simp[go_sem,q1']
    refine wF htk Tryz.callB70 zX4 rfl ?_
    by_cases q2:tk.kind=0
    ·have q2':(tk.kind !=0)=false:=by simpa using q2
     rw[if_neg (fun h=>h.2 q2)]at hE
     simp[go_sem,q2',rB]
     exact zP s2 ⟨hE,at_n 4 (by simp[go_sem]) rfl (by simp[lotZ,lotB,ltOb,ltC,ltK]) (by decide) (zE (by simp[go_sem]) rfl)⟩
    ·have q2':(tk.kind !=0)=true:=by simpa using q2
     rw[if_pos ⟨q1,q2⟩]at hE
     simp[go_sem,q2']
     refine wF htk Tryz.callB70 zX4 rfl ?_
     simp[go_sem]
     refine wF hf Tryz.callB73 (za4 ⟨zA rfl,zA rfl,trivial⟩) rfl ?_
     simp[go_sem,rB]
     exact zP f ⟨hE,at_n 4 (by simp[go_sem]) rfl (by simp[lotZ,lotB,ltOb,ltC,ltK]) (by decide) (zE (by simp[go_sem]) rfl)⟩
   ·rintro _ rfl
    generalize endF L s2=E at hM
    refine zC ?_
    simp[go_sem,rB]
    by_cases q1:E.err=0
    ·have q1':(E.err !=0)=false:=by simpa using q1
     rw[if_pos q1]at hM
     simp[go_sem,q1',lotZ,lotB]
     exact zZ6 (l:=⟨m,n,l⟩) hM
    ·have q1':(E.err !=0)=true:=by simpa using q1
     rw[if_neg q1]at hM
     simp[go_sem,q1',lotZ,lotB]
     refine wT [(9,3)] 1 4 (by simp) (by kernel_rfl) (by kernel_rfl) ?_
     simp[go_sem]
     exact zZ6 (l:=lot0) hM
theorem yR9 (s:List UInt8) (hl:s.length≤maxLen):Pure Tryz.prog 11 [.str s] (.agg (zr8 s).1.row):=by
 have h:=xf8 s hl
 generalize zr8 s=x at h⊢
 refine VCalls.intro 0 Tryz.func11 Tryz.ntmps11 Tryz.results11 rfl rfl (Nat.le_of_ble_eq_true rfl) fun c hc hb=>zJ ?_
 simp[go_sem]
 refine zD h Tryz.callB28 (zG rfl) rfl ?_
 simp[go_sem,parV]
 exact zQ (zA rfl) ⟨rfl,rfl⟩
end Go.Proofs.YtajjjghohakniaaGreat
namespace Go.Proofs.YtajjjghohakniaaGreat
open Go Go.Vx
set_option maxRecDepth 100000
variable {L:List GToken}
structure EOk (e:GExpr):Prop where
 good:Good e
 wide:Wide e
 size:zg4 e≤4000
structure SOk (st:GStmt):Prop where
 kind:i64R st.kind
 table:st.table.length≤1048576
 items:st.items.length≤12∧ ∀x∈st.items,i64R x.kind∧EOk x.e
 rows:st.rows.length≤20∧ ∀r∈st.rows,r.length≤12∧ ∀e∈r,EOk e
 sets:st.sets.length≤12∧ ∀x∈st.sets,x.name.length≤1048576∧EOk x.e
 where_:EOk st.where_
 order:st.order.length≤1048576
 limit:i64R st.limit
structure LOk (l:GLot):Prop where
 mode:i64R l.mode
 n:i64R l.n
 stmts:l.stmts.length≤12∧ ∀st∈l.stmts,SOk st
theorem yG2:LOk lot0:=⟨by show i64R 0;unfold i64R;decide,by show i64R 0;unfold i64R;decide,Nat.zero_le _,fun st hst=>by cases hst⟩
structure ES (s:RS) (e:GExpr):Prop where
 good:Good e
 wide:Wide e
 size:s.err=0→zg4 e≤2001
theorem ES.mono {s s':RS} {e:GExpr} (h:ES s e) (u:UI L s s'):ES s' e:=⟨h.good,h.wide,fun q=>h.size (u.err q)⟩
theorem ES.ok {s:RS} {e:GExpr} (h:ES s e) (hs:s.err=0):EOk e:=⟨h.good,h.wide,by have:=h.size hs;omega⟩
theorem zJ3 (s:RS):ES s zeroE:=⟨yV9,xe3 rfl,fun _=>by rw[ye9 rfl];decide⟩
theorem yo5 (hL:LIn L) (hG:LGood L) (h2:L.length≤2001) {s:RS} (hs:RIn L s) (ho:s.opn=0):ES (exF L s).2 (exF L s).1:=by
 have h:=yV2 hL hs ho
 have k:=ex_j hL hG hs ho
 exact⟨k.good,h.wide,fun q=>by have:=k.size q;have:=h.rin.at_;omega⟩
theorem zW7 (hG:LGood L) {s:RS} (hs:RIn L s):i64R (numF L s).1:=by
 unfold numF i64R
 split
 ·have:=hG.num _ (zv9 hs);simp only;omega
 ·simp
structure SS (s:RS) (st:GStmt):Prop where
 kind:i64R st.kind
 table:st.table.length≤1048576
 items:st.items.length≤12∧ ∀x∈st.items,i64R x.kind∧ES s x.e
 rows:st.rows.length≤20∧ ∀r∈st.rows,r.length≤12∧ ∀e∈r,ES s e
 sets:st.sets.length≤12∧ ∀x∈st.sets,x.name.length≤1048576∧ES s x.e
 where_:ES s st.where_
 order:st.order.length≤1048576
 limit:i64R st.limit
theorem SS.mono {s s':RS} {st:GStmt} (h:SS s st) (u:UI L s s'):SS s' st:=
 ⟨h.kind,h.table,⟨h.items.1,fun x hx=>⟨(h.items.2 x hx).1,(h.items.2 x hx).2.mono u⟩⟩,⟨h.rows.1,fun r hr=>⟨(h.rows.2 r hr).1,fun e he=>((h.rows.2 r hr).2 e he).mono u⟩⟩,⟨h.sets.1,fun x hx=>⟨(h.sets.2 x hx).1,(h.sets.2 x hx).2.mono u⟩⟩,h.where_.mono u,h.order,h.limit⟩
theorem SS.ok {s:RS} {st:GStmt} (h:SS s st) (hs:s.err=0):SOk st:=
 ⟨h.kind,h.table,⟨h.items.1,fun x hx=>⟨(h.items.2 x hx).1,(h.items.2 x hx).2.ok hs⟩⟩,⟨h.rows.1,fun r hr=>⟨(h.rows.2 r hr).1,fun e he=>((h.rows.2 r hr).2 e he).ok hs⟩⟩,⟨h.sets.1,fun x hx=>⟨(h.sets.2 x hx).1,(h.sets.2 x hx).2.ok hs⟩⟩,h.where_.ok hs,h.order,h.limit⟩
theorem xh2 {s:RS} (h:(endF L s).err=0):s.err=0:=by
 unfold endF at h
 split at h
 ·exact absurd h (zj7 (by decide))
 ·exact h
section
variable (hL:LIn L) (hG:LGood L) (h2:L.length≤2001)
include hL hG h2
theorem xi4 {s:RS} (h:RIn L s) (ho:s.opn=0):i64R (zr2 L s).1.kind∧ES (zr2 L s).2 (zr2 L s).1.e:=by
 unfold zr2
 split
 ·exact⟨by unfold i64R;simp,zJ3 _⟩
 split
 ·rename_i hi
  have h1:=yW hL h hi
  have h3:=h1.trans (yG hL [40] h1.rin)
  have hx:=yo5 hL hG h2 h3.rin (h3.opn.trans ho)
  exact⟨by unfold i64R;simp,hx.mono (yG hL [41] (h3.trans (zF9 hL h3.rin (h3.opn.trans ho))).rin)⟩
 ·exact⟨by unfold i64R;simp,yo5 hL hG h2 h ho⟩
theorem yd0: ∀(n:Nat) (l:List GItem) (s:RS),RIn L s→s.opn=0→l.length≤6→(∀x∈l,i64R x.kind∧ES s x.e)→
  (zr3 L n l s).1.length≤12∧ ∀x∈(zr3 L n l s).1,i64R x.kind∧ES (zr3 L n l s).2 x.e
 |0,l,s,_,_,hl,hx=>⟨by simp only[zr3];omega,hx⟩
 |n+1,l,s,h,ho,hl,hx=>by
  unfold zr3
  split
  ·rename_i he
   obtain⟨_,h6,_⟩:=ze4 he
   have hu:=yi1 hL h ho
   have hi:=xi4 hL hG h2 h ho
   have hx2: ∀x∈l++ [(zr2 L s).1],i64R x.kind∧ES (zr2 L s).2 x.e:=fun x hx'=>by
    rw[List.mem_append]at hx'
    rcases hx' with hx'|hx'
    ·exact⟨(hx x hx').1,(hx x hx').2.mono hu⟩
    ·simp only[List.mem_cons,List.not_mem_nil,or_false]at hx'
     subst hx'
     exact hi
   split
   ·have hn:=yW hL hu.rin ‹_›
    exact yd0 n _ _ hn.rin ((hu.trans hn).opn.trans ho) (by simp;omega) (fun x hx'=>⟨(hx2 x hx').1,(hx2 x hx').2.mono hn⟩)
   ·exact⟨by simp;omega,hx2⟩
  ·exact⟨by simp only;omega,fun x hx'=>⟨(hx x hx').1,(hx x hx').2.mono (zk7 h)⟩⟩
theorem yW9 {s:RS} (h:RIn L s) (ho:s.opn=0):(zl7 L s).1.length≤12∧ ∀x∈(zl7 L s).1,i64R x.kind∧ES (zl7 L s).2 x.e:=by
 unfold zl7
 split
 ·refine⟨by simp,fun x hx=> ?_⟩
  simp only[List.mem_cons,List.not_mem_nil,or_false]at hx
  subst hx
  exact⟨by unfold i64R;simp,zJ3 _⟩
 ·exact yd0 hL hG h2 7 [] s h ho (by simp) (fun x hx=>by cases hx)
theorem xe2 {s:RS} (h:RIn L s) (ho:s.opn=0):ES (whS L s) (whE L s).2:=by
 unfold whS whE
 by_cases q:isT L zI6 s=true
 ·rw[if_pos q,if_pos q]
  exact yo5 hL hG h2 (h.next hL q) ho
 ·rw[if_neg q,if_neg q]
  exact zJ3 _
theorem yI6: ∀(n:Nat) (l:List GExpr) (s:RS),RIn L s→s.opn=0→l.length≤6→(∀e∈l,ES s e)→
  (rowL L n l s).2.1.length≤12∧ ∀e∈(rowL L n l s).2.1,ES (rowL L n l s).2.2 e
 |0,l,s,_,_,hl,hx=>⟨by simp only[rowL];omega,hx⟩
 |n+1,l,s,h,ho,hl,hx=>by
  unfold rowL
  split
  ·rename_i he
   obtain⟨_,h6,_⟩:=ze4 he
   have hu:=zF9 hL h ho
   have hi:=yo5 hL hG h2 h ho
   have hx2: ∀x∈l++ [(exF L s).1],ES (exF L s).2 x:=fun x hx'=>by
    rw[List.mem_append]at hx'
    rcases hx' with hx'|hx'
    ·exact(hx x hx').mono hu
    ·simp only[List.mem_cons,List.not_mem_nil,or_false]at hx'
     subst hx'
     exact hi
   split
   ·have hn:=yW hL hu.rin ‹_›
    exact yI6 n _ _ hn.rin ((hu.trans hn).opn.trans ho) (by simp;omega) (fun x hx'=>(hx2 x hx').mono hn)
   ·exact⟨by simp;omega,hx2⟩
  ·exact⟨by simp only;omega,fun x hx'=>(hx x hx').mono (zk7 h)⟩
theorem ys8: ∀(n:Nat) (R:List (List GExpr)) (s:RS),RIn L s→s.opn=0→R.length≤16→(∀r∈R,r.length≤12∧ ∀e∈r,ES s e)→
  (zz8 L n R s).1.length≤20∧ ∀r∈(zz8 L n R s).1,r.length≤12∧ ∀e∈r,ES (zz8 L n R s).2 e
 |0,R,s,_,_,hl,hx=>⟨by simp only[zz8];omega,hx⟩
 |n+1,R,s,h,ho,hl,hx=>by
  unfold zz8
  split
  ·rename_i he
   obtain⟨_,h6,_⟩:=ze4 he
   have hu1:=yG hL [40] h
   have hr:=yI6 hL hG h2 7 [] _ hu1.rin (hu1.opn.trans ho) (by simp) (fun e he=>by cases he)
   have hu2:=hu1.trans (yj6 hL 7 [] _ hu1.rin (hu1.opn.trans ho))
   generalize rowL L 7 [] (yB L [40] s)=r at hr hu2
   split
   ·have hu3:=yG hL [41] hu2.rin
    have hx2: ∀y∈R++ [r.2.1],y.length≤12∧ ∀e∈y,ES (yB L [41] r.2.2) e:=fun y hy=>by
     rw[List.mem_append]at hy
     rcases hy with hy|hy
     ·exact⟨(hx y hy).1,fun e he=>((hx y hy).2 e he).mono (hu2.trans hu3)⟩
     ·simp only[List.mem_cons,List.not_mem_nil,or_false]at hy
      subst hy
      exact⟨hr.1,fun e he=>(hr.2 e he).mono hu3⟩
    split
    ·have hn:=yW hL hu3.rin ‹_›
     exact ys8 n _ _ hn.rin (((hu2.trans hu3).trans hn).opn.trans ho) (by simp;omega) (fun y hy=>⟨(hx2 y hy).1,fun e he=>((hx2 y hy).2 e he).mono hn⟩)
    ·exact⟨by simp;omega,hx2⟩
   ·exact⟨by simp only;omega,fun y hy=>⟨(hx y hy).1,fun e he=>((hx y hy).2 e he).mono hu2⟩⟩
  ·exact⟨by simp only;omega,fun y hy=>⟨(hx y hy).1,fun e he=>((hx y hy).2 e he).mono (zk7 h)⟩⟩
theorem yt2: ∀(n:Nat) (l:List GAssign) (s:RS),RIn L s→s.opn=0→l.length≤6→(∀x∈l,x.name.length≤1048576∧ES s x.e)→
  (zv8 L n l s).2.1.length≤12∧ ∀x∈(zv8 L n l s).2.1,x.name.length≤1048576∧ES (zv8 L n l s).2.2 x.e
 |0,l,s,_,_,hl,hx=>⟨by simp only[zv8];omega,hx⟩
 |n+1,l,s,h,ho,hl,hx=>by
  unfold zv8
  split
  ·rename_i he
   obtain⟨_,h6,_⟩:=ze4 he
   have hn0:=zh1 hG h
   have hu1:=zb1 hL h
   have hu2:=hu1.trans (yG hL [61] hu1.rin)
   have hi:=yo5 hL hG h2 hu2.rin (hu2.opn.trans ho)
   have hu:=hu2.trans (zF9 hL hu2.rin (hu2.opn.trans ho))
   generalize exF L (yB L [61] (yX L s).2)=x at hi hu
   have hx2: ∀y∈l++ [⟨(yX L s).1,x.1⟩],y.name.length≤1048576∧ES x.2 y.e:=fun y hy=>by
    rw[List.mem_append]at hy
    rcases hy with hy|hy
    ·exact⟨(hx y hy).1,(hx y hy).2.mono hu⟩
    ·simp only[List.mem_cons,List.not_mem_nil,or_false]at hy
     subst hy
     exact⟨hn0,hi⟩
   split
   ·have hn:=yW hL hu.rin ‹_›
    exact yt2 n _ _ hn.rin ((hu.trans hn).opn.trans ho) (by simp;omega) (fun y hy=>⟨(hx2 y hy).1,(hx2 y hy).2.mono hn⟩)
   ·exact⟨by simp;omega,hx2⟩
  ·exact⟨by simp only;omega,fun x hx'=>⟨(hx x hx').1,(hx x hx').2.mono (zk7 h)⟩⟩
theorem yA7 {s:RS} (h:RIn L s) (ho:s.opn=0):SS (zi1 L s).2 (zi1 L s).1:=by
 unfold zi1
 simp only
 have hx:=yW9 hL hG h2 h ho
 have h1:=zV6 hL h ho
 generalize zl7 L s=x at hx h1
 have u2:=yG hL zw1 h1.rin
 have hnl:=zh1 hG (h1.trans u2).rin
 have u3:=zb1 hL (h1.trans u2).rin
 generalize yX L (yB L zw1 x.2)=n at hnl u3
 have hw:=xe2 hL hG h2 u3.rin ((h1.trans (u2.trans u3)).opn.trans ho)
 have u4:=yf9 hL u3.rin ((h1.trans (u2.trans u3)).opn.trans ho)
 have u5:=zX1 hL u4.rin
 have hon:(zB6 L (whS L n.2)).1.1.length≤1048576:=by
  unfold zB6
  split
  ·rename_i hi
   have v1:=yW hL u4.rin hi
   have v2:=v1.trans (yG hL wBY v1.rin)
   split
   ·exact zh1 hG v2.rin
   split
   ·exact zh1 hG v2.rin
   ·exact zh1 hG v2.rin
  ·exact Nat.zero_le _
 generalize zB6 L (whS L n.2)=o at u5 hon
 have u6:=yp9 hL u5.rin
 have hln:i64R (zB4 L o.2).1:=by
  unfold zB4
  split
  ·exact zW7 hG (u5.rin.next hL ‹_›)
  ·unfold i64R;simp
 generalize zB4 L o.2=l at u6 hln
 have u:=u2.trans (u3.trans (u4.trans (u5.trans u6)))
 exact⟨by unfold i64R;simp,hnl,⟨hx.1,fun x hx'=>⟨(hx.2 x hx').1,(hx.2 x hx').2.mono u⟩⟩,⟨Nat.zero_le _,fun r hr=>by cases hr⟩,⟨Nat.zero_le _,fun r hr=>by cases hr⟩,hw.mono (u5.trans u6),hon,hln⟩
theorem yx1 {s:RS} (h:RIn L s) (ho:s.opn=0):SS (zh8 L s).2 (zh8 L s).1:=by
 unfold zh8
 have u1:=yG hL zZ2 h
 have hnl:=zh1 hG u1.rin
 have u2:=u1.trans (zb1 hL u1.rin)
 generalize yX L (yB L zZ2 s)=n at hnl u2
 have u3:=u2.trans (yG hL zF0 u2.rin)
 have hr:=ys8 hL hG h2 17 [] _ u3.rin (u3.opn.trans ho) (by simp) (fun r hr=>by cases hr)
 exact⟨by unfold i64R;simp,hnl,⟨Nat.zero_le _,fun r hr=>by cases hr⟩,hr,⟨Nat.zero_le _,fun r hr=>by cases hr⟩,zJ3 _,Nat.zero_le _,by unfold i64R;simp⟩
theorem yC0 {s:RS} (h:RIn L s) (ho:s.opn=0):SS (zi3 L s).2 (zi3 L s).1:=by
 unfold zi3
 have hnl:=zh1 hG h
 have u2:=zb1 hL h
 generalize yX L s=n at hnl u2
 have u3:=u2.trans (yG hL wSET u2.rin)
 have hr:=yt2 hL hG h2 7 [] _ u3.rin (u3.opn.trans ho) (by simp) (fun r hr=>by cases hr)
 have u4:=u3.trans (zY2 hL 7 [] _ u3.rin (u3.opn.trans ho))
 simp only
 generalize zv8 L 7 [] (yB L wSET n.2)=r at hr u4
 split
 ·have hw:=xe2 hL hG h2 u4.rin (u4.opn.trans ho)
  have u5:=yf9 hL u4.rin (u4.opn.trans ho)
  exact⟨by unfold i64R;simp,hnl,⟨Nat.zero_le _,fun r hr=>by cases hr⟩,⟨Nat.zero_le _,fun r hr=>by cases hr⟩,⟨hr.1,fun x hx=>⟨(hr.2 x hx).1,(hr.2 x hx).2.mono u5⟩⟩,hw,Nat.zero_le _,by unfold i64R;simp⟩
 ·exact⟨by unfold i64R;simp,hnl,⟨Nat.zero_le _,fun r hr=>by cases hr⟩,⟨Nat.zero_le _,fun r hr=>by cases hr⟩,hr,zJ3 _,Nat.zero_le _,by unfold i64R;simp⟩
theorem xm0 {s:RS} (h:RIn L s) (ho:s.opn=0):SS (zi2 L s).2 (zi2 L s).1:=by
 unfold zi2
 split
 ·exact yA7 hL hG h2 (h.next hL ‹_›) ho
 split
 ·exact yx1 hL hG h2 (h.next hL ‹_›) ho
 split
 ·exact yC0 hL hG h2 (h.next hL ‹_›) ho
 ·have u1:=yG hL zz1 h
  have u2:=u1.trans (yG hL zw1 u1.rin)
  have hnl:=zh1 hG u2.rin
  have u3:=u2.trans (zb1 hL u2.rin)
  exact⟨by unfold i64R;simp,hnl,⟨Nat.zero_le _,fun r hr=>by cases hr⟩,⟨Nat.zero_le _,fun r hr=>by cases hr⟩,⟨Nat.zero_le _,fun r hr=>by cases hr⟩,xe2 hL hG h2 u3.rin (u3.opn.trans ho),Nat.zero_le _,by unfold i64R;simp⟩
theorem yf0: ∀(n:Nat) (l:List GStmt) (s:RS),RIn L s→s.opn=0→l.length≤8→(∀x∈l,SS s x)→
  (zo6 L n l s).1.length≤8∧ ∀x∈(zo6 L n l s).1,SS (zo6 L n l s).2 x
 |0,l,s,_,_,hl,hx=>⟨hl,hx⟩
 |n+1,l,s,h,ho,hl,hx=>by
  unfold zo6
  split
  ·split
   ·rename_i he
    obtain⟨_,h8,_⟩:=ze4 he
    have hu:=yk0 hL h ho
    have hi:=xm0 hL hG h2 h ho
    have hx2: ∀x∈l++ [(zi2 L s).1],SS (zi2 L s).2 x:=fun x hx'=>by
     rw[List.mem_append]at hx'
     rcases hx' with hx'|hx'
     ·exact(hx x hx').mono hu
     ·simp only[List.mem_cons,List.not_mem_nil,or_false]at hx'
      subst hx'
      exact hi
    have hl2:(l++ [(zi2 L s).1]).length≤8:=by simp;omega
    split
    ·have hn:=yW hL hu.rin ‹_›
     have hx3:=fun x hx'=>(hx2 x hx').mono hn
     split
     ·exact⟨hl2,hx3⟩
     ·exact yf0 n _ _ hn.rin ((hu.trans hn).opn.trans ho) hl2 hx3
    ·exact⟨hl2,hx2⟩
   ·exact⟨hl,fun x hx'=>(hx x hx').mono (zk7 h)⟩
  ·exact⟨hl,hx⟩
theorem xk5 (h1:1≤L.length):LOk (yI1 L).1:=by
 have h0:RIn L rs0:=⟨by show 0<_;omega,by show(0:Int)≤0∧(0:Int)≤100000;omega⟩
 unfold yI1
 simp only
 have hs:=yf0 hL hG h2 9 [] rs0 h0 rfl (Nat.zero_le _) (fun x hx=>by cases hx)
 have hu:=yf1 hL 9 [] rs0 h0 rfl
 generalize zo6 L 9 [] rs0=x at hs hu
 have ha:=xn6 hL hu.rin
 have hm:i64R (asF L x.2).1.1∧i64R (asF L x.2).1.2:=by
  unfold asF
  split
  ·rename_i hi
   have v1:=yS7 hL hu.rin hi
   split
   ·exact⟨by unfold i64R;simp,zW7 hG (v1.rin.next hL ‹_›)⟩
   ·exact⟨by unfold i64R;simp,zW7 hG v1.rin⟩
  ·exact⟨by unfold i64R;simp,by unfold i64R;simp⟩
 generalize asF L x.2=a at ha hm
 split
 ·rename_i he
  have h3:=ha.err (xh2 he)
  exact⟨hm.1,hm.2,by simp only;omega,fun st hst=>(hs.2 st hst).ok h3⟩
 ·exact yG2
end
theorem yr9 (s:List UInt8):LOk (zr8 s).1:=by
 unfold zr8
 split
 ·rename_i h
  obtain⟨_,hL,hG,h1,h2⟩:=yF9 h
  exact xk5 hL hG h2 h1
 ·exact yG2
end Go.Proofs.YtajjjghohakniaaGreat
namespace Go.Proofs.YtajjjghohakniaaGreat
open Go Go.Vx
set_option maxRecDepth 100000
theorem zQ9 (l:List GExpr) (i:Nat) (h:i<l.length):xZ (l.drop i)=zg4 l[i]+xZ (l.drop (i+1)):=by
 rw[List.drop_eq_getElem_cons h,xZ]
theorem zP9 (l:List GExpr) (i:Nat) (h:i<l.length):xL (l.drop i)=max (xA l[i]) (xL (l.drop (i+1))):=by
 rw[List.drop_eq_getElem_cons h,xL]
theorem zE7 (e:GExpr):1≤zg4 e:=by rw[zs5];omega
theorem zg8 (e:GExpr):1≤xA e:=by rw[wV];omega
def tooF (e:GExpr) (deep left:Int):Int×Bool:=if(xA e:Int)+deep≤65 then(left - zg4 e,false)else(0,true)
def tooV (p:Int×Bool):V:= .tup [.int .i64 p.1,.bool p.2]
theorem yk4 {a:Int} {b:Bool} {M:Int×Bool} {σ:St} (h:(a,b)=M):wret (some (.tup [.int .i64 a,.bool b])) 0 (fun r s=>r=tooV M∧s= []) σ:=by
 subst h
 exact zQ (zA rfl) ⟨rfl,rfl⟩
theorem yc6: ∀(n:Nat) (e:GExpr) (deep left:Int),xA e≤n→Wide e→(zg4 e:Int)≤left→left≤1000000→0≤deep→deep≤1000000→Pure Tryz.prog 92 [.agg e.row,.int .i64 deep,.int .i64 left] (tooV (tooF e deep left))
 |0,e,_,_,h,_,_,_,_,_=>by have:=zg8 e;omega
 |n+1,e,deep,left,h,hw,hs,hl,hd0,hd1=>by
  have ih:=yc6 n
  have hde:=wV e
  have hse:=zs5 e
  obtain⟨M,hM⟩: ∃M,tooF e deep left=M:=⟨_,rfl⟩
  rw[hM]
  unfold tooF at hM
  obtain⟨args,hargs⟩: ∃args,e.args=args:=⟨_,rfl⟩
  have hlen:=hw.len
  have hsub:=hw.sub
  rw[hargs]at hde hse hlen hsub
  have e1:IntKind.i64.wrap (left - 1)=left - 1:=i64_id (by omega) (by omega)
  have e2:IntKind.i64.wrap (deep+1)=deep+1:=i64_id (by omega) (by omega)
  refine VCalls.introV 0 Tryz.func92 Tryz.ntmps92 Tryz.results92 rfl rfl (Nat.le_of_ble_eq_true rfl) fun c hc hb=> ?_
  refine zC ?_
  simp[go_sem]
  by_cases q1:64<deep
  ·have q1':decide (64<deep)=true:=decide_eq_true q1
   rw[if_neg (by omega)]at hM
   simp[go_sem,q1']
   exact yk4 hM
  have q1':decide (64<deep)=false:=decide_eq_false q1
  have q2':decide (left≤0)=false:=decide_eq_false (by omega)
  simp[go_sem,q1',q2',e1]
  refine zN (S:=Nat×Int) [1,2,3,8] (fun u=> [.int .i64 deep,.int .i64 u.2,.ptr 0 0,.int .i64 (u.1:Int)]) (fun _=> [.box e.row]) (fun u=>args.length - u.1)
   (fun u=>u.1≤args.length∧(xZ (args.drop u.1):Int)≤u.2∧u.2≤1000000∧(if(xL (args.drop u.1):Int)+(deep+1)≤65 then(u.2 - xZ (args.drop u.1),false)else(0,true))=M) hc hb (0,left - 1)
   ⟨Nat.zero_le _,by simp only[List.drop_zero];omega,by simp only;omega,by
    rw[←hM,List.drop_zero]
    by_cases q:(xL args:Int)+(deep+1)≤65
    ·rw[if_pos q,if_pos (by omega)];congr 1;simp only;omega
    ·rw[if_neg q,if_neg (by omega)]⟩ ?_ ?_
  ·exact at_n 1 (by simp[go_sem]) rfl (by simp[ltOb,ltC,ltK,GExpr.row_eq]) (Nat.zero_le _) (zE (by simp[go_sem]) rfl)
  rintro⟨i,lf⟩ ⟨hi,hsz,hlf,hinv⟩
  simp only at hi hsz hlf hinv
  by_cases q:i<args.length
  rotate_left
  ·rw[List.drop_eq_nil_of_le (by omega)]at hinv
   have hinv:(lf,false)=M:=by rw[←hinv,xL,xZ,if_pos (by omega)];simp
   refine zC ?_
   simp[go_sem,q,hargs]
   exact yk4 hinv
  have ei:=zU q (by omega)
  have hsd:=zQ9 args i q
  have hdd:=zP9 args i q
  obtain⟨x,hx⟩: ∃x,args[i]=x:=⟨_,rfl⟩
  have hxm:x∈args:=hx▸List.getElem_mem q
  have hdx:=xX args x hxm
  rw[hx]at hsd hdd
  have hsz2:=hsz
  rw[hsd]at hsz
  have hcall:=ih x (deep+1) lf (by omega) (hsub x hxm) (by omega) (by omega) (by omega) (by omega)
  have hsx:=zE7 x
  unfold tooF at hcall
  rw[hsd,hdd]at hinv
  by_cases q3:(xA x:Int)+(deep+1)≤65
  ·rw[if_pos q3]at hcall
   refine zC ?_
   simp[go_sem,q,hargs,hx,e2]
   refine zD hcall Tryz.callB92 (zI (by simp[go_sem]) (by rw[GExpr.row_eq];rfl)) rfl ?_
   simp[go_sem,tooV,ei]
   refine zP (i+1,lf - zg4 x) ⟨by simp only;omega,⟨by simp only;omega,by simp only;omega,by simp only;omega, ?_⟩, ?_⟩
   ·rw[←hinv]
    by_cases q4:(xL (args.drop (i+1)):Int)+(deep+1)≤65
    ·rw[if_pos q4,if_pos (by omega)];congr 1;simp only;omega
    ·rw[if_neg q4,if_neg (by omega)]
   ·exact at_n 1 (by simp[go_sem,hargs]) rfl (by simp[ltOb,ltC,ltK,GExpr.row_eq]) (Nat.zero_le _) (zE (by simp[go_sem]) rfl)
  ·rw[if_neg q3]at hcall
   rw[if_neg (by omega)]at hinv
   refine zC ?_
   simp[go_sem,q,hargs,hx,e2]
   refine zD hcall Tryz.callB92 (zI (by simp[go_sem]) (by rw[GExpr.row_eq];rfl)) rfl ?_
   simp[go_sem,tooV]
   exact yk4 hinv
def xc3 (e:GExpr) (deep n:Int) (r:V) (σ:St):Prop:=r= .bool (decide ((xA e:Int)+deep≤65))∧ ∃m:Int,σ= [.box [.int .i64 m]]∧n≤m∧m≤n+zg4 e
theorem yI9: ∀(k:Nat) (e:GExpr) (deep n:Int),xA e≤k→Wide e→0≤n→n+zg4 e≤4096→0≤deep→deep≤1000000→VCalls Tryz.prog 172 [.agg e.row,.int .i64 deep,.ptr 0 0] [.box [.int .i64 n]] (xc3 e deep n)
 |0,e,_,_,h,_,_,_,_,_=>by have:=zg8 e;omega
 |k+1,e,deep,n,h,hw,hn0,hn1,hd0,hd1=>by
  have ih:=yI9 k
  have hde:=wV e
  have hse:=zs5 e
  obtain⟨M,hM⟩: ∃M,decide ((xA e:Int)+deep≤65)=M:=⟨_,rfl⟩
  unfold xc3
  rw[hM]
  obtain⟨args,hargs⟩: ∃args,e.args=args:=⟨_,rfl⟩
  have hlen:=hw.len
  have hsub:=hw.sub
  rw[hargs]at hde hse hlen hsub
  have e1:IntKind.i64.wrap (n+1)=n+1:=i64_id (by omega) (by omega)
  have e2:IntKind.i64.wrap (deep+1)=deep+1:=i64_id (by omega) (by omega)
  obtain⟨sz,hsz⟩: ∃sz,zg4 e=sz:=⟨_,rfl⟩
  rw[hsz]at hse hn1⊢
  have ret: ∀(b:Bool) (m:Int) (τ:St),b=M→n≤m→m≤n+sz→wret (some (.bool b)) 1 (fun r σ=>r= .bool M∧ ∃m:Int,σ= [.box [.int .i64 m]]∧n≤m∧m≤n+sz) (.box [.int .i64 m]::τ):=fun b m τ h1 h2 h3=>by
   subst h1
   exact zm3 1 rfl rfl (by rfl) (Nat.le_refl _) (zA rfl) ⟨rfl,m,rfl,h2,h3⟩
  refine VCalls.introV 1 Tryz.func172 Tryz.ntmps172 Tryz.results172 rfl rfl (Nat.le_of_ble_eq_true rfl) fun c hc hb=> ?_
  refine zC ?_
  simp[go_sem,e1]
  by_cases q1:64<deep
  ·have q1':decide (64<deep)=true:=decide_eq_true q1
   have hM:false=M:=by rw[←hM];exact(decide_eq_false (by omega)).symm
   simp[go_sem,q1']
   exact ret _ _ _ hM (by omega) (by omega)
  have q1':decide (64<deep)=false:=decide_eq_false q1
  have q2':decide (4096<n+1)=false:=decide_eq_false (by omega)
  simp[go_sem,q1',q2',hargs]
  refine zN (S:=Nat×Int) [1,2,23,24,25] (fun u=> [.int .i64 deep,.ptr 0 0,.sl .ro (args.map GExpr.row),.int .i64 args.length,.int .i64 (u.1:Int)]) (fun u=> [.box [.int .i64 u.2]]) (fun u=>args.length - u.1)
   (fun u=>u.1≤args.length∧n≤u.2∧u.2+xZ (args.drop u.1)≤n+sz∧decide ((xL (args.drop u.1):Int)+(deep+1)≤65)=M) hc hb (0,n+1)
   ⟨Nat.zero_le _,by simp only;omega,by simp only[List.drop_zero];omega,by rw[←hM,List.drop_zero];exact decide_eq_decide.2 (by omega)⟩ ?_ ?_
  ·exact at_n 1 (by simp[go_sem]) rfl (by rfl) (Nat.le_refl _) (zE (by simp[go_sem]) rfl)
  rintro⟨i,m⟩ ⟨hi,hm0,hm1,hinv⟩
  simp only at hi hm0 hm1 hinv
  by_cases q:i<args.length
  rotate_left
  ·rw[List.drop_eq_nil_of_le (by omega)]at hinv hm1
   have hinv:true=M:=by rw[←hinv,xL];exact(decide_eq_true (by omega)).symm
   refine zC ?_
   simp[go_sem,q]
   exact ret _ _ _ hinv hm0 (by rw[xZ]at hm1;omega)
  have ei:=zU q (by omega)
  have hsd:=zQ9 args i q
  have hdd:=zP9 args i q
  obtain⟨x,hx⟩: ∃x,args[i]=x:=⟨_,rfl⟩
  have hxm:x∈args:=hx▸List.getElem_mem q
  have hdx:=xX args x hxm
  rw[hx]at hsd hdd
  rw[hsd]at hm1
  rw[hdd]at hinv
  have hcall:=ih x (deep+1) m (by omega) (hsub x hxm) (by omega) (by omega) (by omega) (by omega)
  by_cases q3:(xA x:Int)+(deep+1)≤65
  ·refine zC ?_
   simp[go_sem,q,hx,e2]
   refine zm1 0 hcall Tryz.callB172 rfl (by rfl) ⟨.inl (by simp[go_sem,renS,renA,renC,renK]),zA rfl,.inl rfl,trivial⟩ (fun r σ h=>by
    obtain⟨_,m2,rfl,_⟩:=h
    exact⟨_,rfl,rfl⟩) ?_
   rintro r o2 ⟨rfl,m2,h1,h2,h3⟩
   obtain rfl:o2= .box [.int .i64 m2]:=by simpa using h1
   rw[decide_eq_true q3]
   simp[go_sem,ei]
   refine zP (i+1,m2) ⟨by simp only;omega,⟨by simp only;omega,by simp only;omega,by simp only;omega, ?_⟩, ?_⟩
   ·rw[←hinv]
    show decide ((xL (args.drop (i+1)):Int)+(deep+1)≤65)=_
    exact decide_eq_decide.2 (by omega)
   ·exact at_n 1 (by simp[go_sem]) rfl (by rfl) (Nat.le_refl _) (zE (by simp[go_sem]) rfl)
  ·have hinv:false=M:=by rw[←hinv];exact(decide_eq_false (by omega)).symm
   refine zC ?_
   simp[go_sem,q,hx,e2]
   refine zm1 0 hcall Tryz.callB172 rfl (by rfl) ⟨.inl (by simp[go_sem,renS,renA,renC,renK]),zA rfl,.inl rfl,trivial⟩ (fun r σ h=>by
    obtain⟨_,m2,rfl,_⟩:=h
    exact⟨_,rfl,rfl⟩) ?_
   rintro r o2 ⟨rfl,m2,h1,h2,h3⟩
   obtain rfl:o2= .box [.int .i64 m2]:=by simpa using h1
   rw[decide_eq_false q3]
   simp[go_sem]
   exact ret _ _ _ hinv (by omega) (by omega)
end Go.Proofs.YtajjjghohakniaaGreat
