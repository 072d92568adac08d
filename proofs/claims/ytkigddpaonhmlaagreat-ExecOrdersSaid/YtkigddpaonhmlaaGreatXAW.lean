/-
  Contracts of functions that the claimed statement reaches, each proved over trees (the library Vx); used by the theorem at the end of the claim.
  Conditions: as each theorem states them.
-/
import Derived.Test.YtkigddpaonhmlaaGreatXAV
import Derived.Test.YtkigddpaonhmlaaGreatXAS
import Derived.Test.YtkigddpaonhmlaaGreatXAO
import Derived.Test.YtkigddpaonhmlaaGreatXAN
import Derived.Test.YtkigddpaonhmlaaGreatXAM
set_option maxHeartbeats 8000000
namespace Go.Proofs.YtkigddpaonhmlaaGreat
open Go Go.Vx Go.Proofs.Tryz
set_option maxRecDepth 100000
variable {L:List GToken}
def wAS:List UInt8:= [65,83]
def wOF:List UInt8:= [79,70]
def zQ7:List UInt8:= [83,89,83,84,69,77]
def yL0:List UInt8:= [84,73,77,69]
def yT1:List UInt8:= [66,79,85,78,68]
def yR8:List (List UInt8):= [ya2,ya0,ya3,zD7]
def beg4 (L:List GToken) (s:RS):Bool:= !(anyF L s yR8).isEmpty
def zr0 (L:List GToken):Nat->List GStmt->RS->List GStmt×RS
 |0,l,s=>(l,s)
 |n+1,l,s=>
  if s.err=0 then
   if(zf1 L l.length 8 (beg4 L s) s).err=0 then
    if isT L [59] (zk1 L s).2=true then
     if isT L wAS (zO (zk1 L s).2)=true∨(tokF L (zO (zk1 L s).2)).kind=0 then(l++ [(zk1 L s).1],zO (zk1 L s).2)
     else zr0 L n (l++ [(zk1 L s).1]) (zO (zk1 L s).2)
    else(l++ [(zk1 L s).1],(zk1 L s).2)
   else(l,zf1 L l.length 8 (beg4 L s) s)
  else(l,s)
def asS (L:List GToken) (s:RS):RS:=yD L yL0 (yD L zQ7 (yD L wOF (zO s)))
def asF (L:List GToken) (s:RS):(Int×Int)×RS:=
 if isT L wAS s=true then
  if isT L yT1 (asS L s)=true then((2,(numF L (zO (asS L s))).1),(numF L (zO (asS L s))).2)
  else((1,(numF L (asS L s)).1),(numF L (asS L s)).2)
 else((0,0),s)
def endF (L:List GToken) (s:RS):RS:=if s.err=0/\(tokF L s).kind≠0 then wY 13 (tokF L s).place s else s
def rs0:RS:=⟨0,0,0,0⟩
def lot0:GLot:=⟨0,0,[]⟩
def yZ6 (L:List GToken):GLot×Int×Int:=
 let x:=zr0 L 9 [] rs0
 let a:=asF L x.2
 let e:=endF L a.2
 if e.err=0 then(⟨a.1.1,a.1.2,x.1⟩,0,0)else(lot0,e.place,e.err)
def zd5 (s:List UInt8):GLot×Int×Int:=if(lexF s).2=0 then yZ6 (lexF s).1 else(lot0,0,(lexF s).2)
theorem yr7 (hL:LIn L): ∀(n:Nat) (l:List GStmt) (s:RS),RIn L s->s.opn=0->UI L s (zr0 L n l s).2
 |0,_,_,h,_=>UI.refl h
 |n+1,l,s,h,ho=>by
  unfold zr0
  split
  .split
   .have h1:=yy4 hL h ho
    split
    .have h2:=h1.trans (yT hL h1.rin ‹_›)
     split
     .exact h2
     .exact h2.trans (yr7 hL n _ _ h2.rin (h2.opn.trans ho))
    .exact h1
   .exact zm5 h
  .exact UI.refl h
theorem xl7 (hL:LIn L) {s:RS} (h:RIn L s) (hi:isT L wAS s=true):UI L s (asS L s):=by
 unfold asS
 have h1:=yT hL h hi
 have h2:=h1.trans (yE hL wOF h1.rin)
 have h3:=h2.trans (yE hL zQ7 h2.rin)
 exact h3.trans (yE hL yL0 h3.rin)
theorem xK8 (hL:LIn L) {s:RS} (h:RIn L s):UI L s (asF L s).2:=by
 unfold asF
 split
 .rename_i hi
  have h1:=xl7 hL h hi
  split
  .have h2:=h1.trans (yT hL h1.rin ‹_›)
   exact h2.trans (yP4 hL h2.rin)
  .exact h1.trans (yP4 hL h1.rin)
 .exact UI.refl h
def parV (x:GLot×Int×Int):V:= .tup [.agg x.1.row,.int .i64 x.2.1,.int .i64 x.2.2]
theorem yk2 {g:Tag} {τ:St} {l:GLot} {p e:Int} {M:GLot×Int×Int} (h:(l,p,e)=M):wret (some (.tup [.agg [.int .i64 l.mode,.int .i64 l.n,.sl g (l.stmts.map GStmt.row)],.int .i64 p,.int .i64 e])) 0 (fun r σ=>r=parV M/\σ= []) τ:=by
 subst h
 exact zQ (r:= .tup [.agg [.int .i64 l.mode,.int .i64 l.n,.sl .ro (l.stmts.map GStmt.row)],.int .i64 p,.int .i64 e]) (xT ⟨zc5 ⟨zZ rfl,zZ rfl,yX,trivial⟩,za6 rfl,za6 rfl,trivial⟩) ⟨rfl,rfl⟩
def lotB (m n:Int) (l:List GStmt):Ob:= .box [.int .i64 m,.int .i64 n,.sl (.app 3) (l.map GStmt.row)]
def lotZ:Ob:= .box [.int .i64 0,.int .i64 0,.sl .full []]
theorem xB6 (s:List UInt8) (hl:s.length<=maxLen):Pure prog 23 [.str s] (parV (zd5 s)):=by
 generalize hM:zd5 s=M
 unfold zd5 at hM
 have hlex:=xT9 s hl
 have hok:=yX2 (s:=s)
 generalize lexF s=x at hlex hok hM
 obtain⟨L,e⟩:=x
 simp only at hok hM
 refine iV 0 func23 ntmps23 results23 fun c hc hb=> ?_
 by_cases qe:e=0
 rotate_left
 .rw[if_neg qe]at hM
  have qe':(e !=0)=true:=by simpa using qe
  refine zA ?_
  simp[go_sem]
  refine zD hlex cB (zH rfl) rfl ?_
  simp[go_sem,lexV,qe']
  exact yk2 (l:=lot0) hM
 obtain⟨_,hL,hG,hl1,hl2⟩:=hok qe
 rw[if_pos qe]at hM
 have qe':(e !=0)=false:=by simpa using qe
 have h0:RIn L rs0:=⟨by show 0<_;omega,by show(0:Int)<=0/\(0:Int)<=100000;omega⟩
 unfold yZ6 at hM
 obtain⟨X,hX⟩:=eX (zr0 L 9 [] rs0)
 rw[hX]at hM
 refine zS (zA ?_)
 simp[go_sem]
 refine zS (zA ?_)
 simp[go_sem]
 refine zD hlex cB (zH rfl) rfl ?_
 simp[go_sem,lexV]
 refine zS (zA ?_)
 simp[go_sem,qe']
 refine zS (zA ?_)
 simp[go_sem]
 refine zS (zA ?_)
 simp[go_sem]
 refine zH6 2 2 15 _ (by decide) rfl rfl ?_
 simp only[C6,D9]
 refine zc0 (S:=List GStmt×RS) [2,7,8] (fun _=> [.ptr 0 0,.ptr 1 0,.ptr 2 0]) (fun u=> [lotZ,rB L u.2,lotB 0 0 u.1,.app u.1.length 15]) (fun u=>RIn L u.2/\u.2.opn=0/\u=X) hc hb ?_ ?_
 .refine zg0 ?_
  refine zL (S:=List GStmt×RS) [2,7,8] (fun _=> [.ptr 0 0,.ptr 1 0,.ptr 2 0]) (fun u=> [lotZ,rB L u.2,lotB 0 0 u.1,.app u.1.length 15]) (fun u=>9 - u.1.length) (fun u=>u.1.length<=8/\RIn L u.2/\u.2.opn=0/\zr0 L (9 - u.1.length) u.1 u.2=X) hc hb ([],rs0) ⟨A3 _,h0,rfl,hX⟩ ?_ ?_
  .exact at_n 4 (by simp[go_sem];exact⟨rfl,rfl,rfl⟩) rfl (by simp[rB,lotZ,lotB,ltOb,ltC,ltK]) (by decide) (zG (by simp[go_sem]) rfl)
  rintro⟨l,s1⟩ ⟨hll,hs,ho,hinv⟩
  simp only at hll hs ho hinv
  rw[show 9 - l.length=(8 - l.length)+1 by omega,zr0]at hinv
  by_cases q1:s1.err=0
  rotate_left
  .rw[if_neg q1]at hinv
   have q1':(s1.err==0)=false:=by simpa using q1
   refine zA ?_
   simp[go_sem,rB,q1']
   exact zI (l,s1) ⟨⟨hs,ho,hinv⟩,aN 4 (by simp[lotZ,lotB,ltOb,ltC,ltK])⟩
  have q1':(s1.err==0)=true:=by simpa using q1
  rw[if_pos q1]at hinv
  have hany:=zU7 L hL s1 hs yR8 (by decide)
  have hmore:=yg4 L hL s1 hs l.length 8 (beg4 L s1)
  have hme:=zf5 (L:=L) (n:=l.length) (most:=8) (b:=beg4 L s1) (s:=s1)
  have hmu:=zm5 (L:=L) (n:=l.length) (most:=8) (b:=beg4 L s1) hs
  unfold beg4 at hmore hme hmu hinv
  generalize anyF L s1 yR8=an at hany hmore hme hmu hinv
  generalize zf1 L l.length 8 (!an.isEmpty) s1=m at hmore hme hmu hinv
  by_cases q2:m.err=0
  rotate_left
  .rw[if_neg q2]at hinv
   have q2':(m.err==0)=false:=by simpa using q2
   rw[q2']at hmore
   refine zA ?_
   simp[go_sem,rB,q1']
   refine wM hany cB (zb8 ⟨zX,trivial⟩) rfl ?_
   simp[go_sem,lotB]
   refine wM hmore cB (zb8 ⟨zC rfl,zC rfl,zC rfl,trivial⟩) rfl ?_
   simp[go_sem,rB]
   exact zI (l,m) ⟨⟨hmu.rin,hmu.opn.trans ho,hinv⟩,aN 4 (by simp[lotZ,ltOb,ltC,ltK])⟩
  have q2':(m.err==0)=true:=by simpa using q2
  rw[q2']at hmore
  obtain⟨_,hl8,rfl⟩:=hme q2
  rw[if_pos q2]at hinv
  have hst:=xS3 L hL m hs ho
  have hsu:=yy4 hL hs ho
  generalize zk1 L m=x at hst hsu hinv
  obtain⟨st,s2⟩:=x
  simp only at hsu hinv
  have hs2:=hsu.rin
  have ho2:=hsu.opn.trans ho
  by_cases q3:isT L [59] s2=true
  rotate_left
  .have q3:isT L [59] s2=false:=by simpa using q3
   rw[if_neg (by rw[q3];decide)]at hinv
   refine zA ?_
   simp[go_sem,rB,q1']
   refine wM hany cB (zb8 ⟨zX,trivial⟩) rfl ?_
   simp[go_sem,lotB]
   refine wM hmore cB (zb8 ⟨zC rfl,zC rfl,zC rfl,trivial⟩) rfl ?_
   simp[go_sem]
   refine za0 [(3,3)] 2 4 (by simp) (by kernel_rfl) (by kernel_rfl) ?_
   simp[go_sem]
   refine xb9 hst cB yh7 (yg7 _) ?_
   simp[go_sem]
   refine zJ ⟨by omega,yC rfl⟩ ?_
   simp[go_sem]
   refine wM (wH L hL s2 hs2 _ q3) cB (zb8 ⟨zC rfl,trivial⟩) rfl ?_
   simp[go_sem,rB]
   exact zI (l++ [st],s2) ⟨⟨hs2,ho2,hinv⟩,aN 4 (by simp[lotZ,ltOb,ltC,ltK])⟩
  rw[if_pos q3]at hinv
  have hs3:=hs2.next hL q3
  have his:=is_w L hL (zO s2) hs3 wAS
  have htk:=zq2 L hL (zO s2) hs3
  generalize isT L wAS (zO s2)=ba at his hinv
  generalize tokF L (zO s2)=tk at htk hinv
  refine zA ?_
  simp[go_sem,rB,q1']
  refine wM hany cB (zb8 ⟨zX,trivial⟩) rfl ?_
  simp[go_sem,lotB]
  refine wM hmore cB (zb8 ⟨zC rfl,zC rfl,zC rfl,trivial⟩) rfl ?_
  simp[go_sem]
  refine za0 [(3,3)] 2 4 (by simp) (by kernel_rfl) (by kernel_rfl) ?_
  simp[go_sem]
  refine xb9 hst cB yh7 (yg7 _) ?_
  simp[go_sem]
  refine zJ ⟨by omega,yC rfl⟩ ?_
  simp[go_sem]
  refine wM (xH L hL s2 hs2 _ q3) cB (zb8 ⟨zC rfl,trivial⟩) rfl ?_
  simp[go_sem]
  refine wM his cB (zb8 ⟨zC rfl,trivial⟩) rfl ?_
  refine(A7 ba).elim (fun q4=> ?_) (fun q4=> ?_)
  .rw[if_pos (.inl q4)]at hinv
   simp[go_sem,q4,rB]
   exact zI (l++ [st],zO s2) ⟨⟨hs3,ho2,hinv⟩,aN 4 (by simp[lotZ,ltOb,ltC,ltK])⟩
  simp[go_sem,q4]
  refine wM htk cB yh7 rfl ?_
  by_cases q5:tk.kind=0
  .have q5':(tk.kind==0)=true:=by simpa using q5
   rw[if_pos (.inr q5)]at hinv
   simp[go_sem,q5',rB]
   exact zI (l++ [st],zO s2) ⟨⟨hs3,ho2,hinv⟩,aN 4 (by simp[lotZ,ltOb,ltC,ltK])⟩
  .have q5':(tk.kind==0)=false:=by simpa using q5
   rw[if_neg (by rw[q4];simp[q5])]at hinv
   simp[go_sem,q5',rB]
   refine zI (l++ [st],zO s2) ⟨by simp;omega,⟨by simp;omega,hs3,ho2,by simp only[Aw,Bh,show 9 - (l.length+1)=8 - l.length by omega];exact hinv⟩,aN 4 (by simp[lotZ,ltOb,ltC,ltK])⟩
 .rintro⟨l,s1⟩ ⟨hs,ho,hX2⟩
  simp only at hs ho
  rw[<-hX2]at hM
  simp only at hM
  have hau:=xK8 hL hs
  refine zc0 (S:=(Int×Int)×RS) [2,7,8] (fun _=> [.ptr 0 0,.ptr 1 0,.ptr 2 0]) (fun u=> [lotZ,rB L u.2,lotB u.1.1 u.1.2 l,.app l.length 15]) (fun u=>u=asF L s1) hc hb ?_ ?_
  .obtain⟨A,hA⟩:=eX (asF L s1)
   rw[hA]
   unfold asF asS at hA
   by_cases q1:isT L wAS s1=true
   rotate_left
   .have q1:isT L wAS s1=false:=by simpa using q1
    rw[if_neg (by rw[q1];decide)]at hA
    refine zA ?_
    simp[go_sem]
    refine wM (wH L hL s1 hs _ q1) cB (zb8 ⟨zC rfl,trivial⟩) rfl ?_
    simp[go_sem]
    exact zI ((0,0),s1) ⟨hA,aN 4 (by simp[rB,lotZ,lotB,ltOb,ltC,ltK])⟩
   rw[if_pos q1]at hA
   have hn1:=hs.next hL q1
   have hm1:=zd4 L hL _ hn1 wOF
   have hi1:=zj5 hL (w:=wOF) hn1
   generalize yD L wOF (zO s1)=u1 at hm1 hi1 hA
   have hm2:=zd4 L hL _ hi1 zQ7
   have hi2:=zj5 hL (w:=zQ7) hi1
   generalize yD L zQ7 u1=u2 at hm2 hi2 hA
   have hm3:=zd4 L hL _ hi2 yL0
   have hi3:=zj5 hL (w:=yL0) hi2
   generalize yD L yL0 u2=u3 at hm3 hi3 hA
   refine zA ?_
   simp[go_sem]
   refine wM (xH L hL s1 hs _ q1) cB (zb8 ⟨zC rfl,trivial⟩) rfl ?_
   simp[go_sem]
   refine wM hm1 cB (zb8 ⟨zC rfl,trivial⟩) rfl ?_
   simp[go_sem]
   refine wM hm2 cB (zb8 ⟨zC rfl,trivial⟩) rfl ?_
   simp[go_sem]
   refine wM hm3 cB (zb8 ⟨zC rfl,trivial⟩) rfl ?_
   simp[go_sem,lotB]
   by_cases q2:isT L yT1 u3=true
   .rw[if_pos q2]at hA
    have hnu:=yq2 L hL _ (hi3.next hL q2)
    generalize numF L (zO u3)=nn at hnu hA
    refine wM (xH L hL u3 hi3 _ q2) cB (zb8 ⟨zC rfl,trivial⟩) rfl ?_
    simp[go_sem]
    refine wM hnu cB yh7 rfl ?_
    simp[go_sem]
    exact zI ((2,nn.1),nn.2) ⟨hA,aN 4 (by simp[rB,lotZ,ltOb,ltC,ltK])⟩
   .have q2:isT L yT1 u3=false:=by simpa using q2
    rw[if_neg (by rw[q2];decide)]at hA
    have hnu:=yq2 L hL _ hi3
    generalize numF L u3=nn at hnu hA
    refine wM (wH L hL u3 hi3 _ q2) cB (zb8 ⟨zC rfl,trivial⟩) rfl ?_
    simp[go_sem]
    refine wM hnu cB yh7 rfl ?_
    simp[go_sem]
    exact zI ((1,nn.1),nn.2) ⟨hA,aN 4 (by simp[rB,lotZ,ltOb,ltC,ltK])⟩
  .rintro _ rfl
   generalize asF L s1=A at hau hM
   obtain⟨⟨m,n⟩,s2⟩:=A
   simp only at hau hM
   have hs2:=hau.rin
   refine zc0 (S:=RS) [2,7,8] (fun _=> [.ptr 0 0,.ptr 1 0,.ptr 2 0]) (fun u=> [lotZ,rB L u,lotB m n l,.app l.length 15]) (fun u=>u=endF L s2) hc hb ?_ ?_
   .have htk:=zq2 L hL s2 hs2
    have hf:=zF8 L s2 13 (tokF L s2).place
    obtain⟨E,hE⟩:=eX (endF L s2)
    rw[hE]
    unfold endF at hE
    generalize tokF L s2=tk at htk hf hE
    generalize wY 13 tk.place s2=f at hf hE
    refine zA ?_
    simp[go_sem,rB]
    by_cases q1:s2.err=0
    rotate_left
    .have q1':(s2.err==0)=false:=by simpa using q1
     rw[if_neg (fun h=>q1 h.1)]at hE
     simp[go_sem,q1']
     exact zI s2 ⟨hE,aN 4 (by simp[lotZ,lotB,ltOb,ltC,ltK])⟩
    have q1':(s2.err==0)=true:=by simpa using q1
    simp[go_sem,q1']
    refine wM htk cB yh7 rfl ?_
    by_cases q2:tk.kind=0
    .have q2':(tk.kind !=0)=false:=by simpa using q2
     rw[if_neg (fun h=>h.2 q2)]at hE
     simp[go_sem,q2',rB]
     exact zI s2 ⟨hE,aN 4 (by simp[lotZ,lotB,ltOb,ltC,ltK])⟩
    .have q2':(tk.kind !=0)=true:=by simpa using q2
     rw[if_pos ⟨q1,q2⟩]at hE
     simp[go_sem,q2']
     refine wM htk cB yh7 rfl ?_
     simp[go_sem]
     refine wM hf cB (zb8 ⟨zC rfl,zC rfl,trivial⟩) rfl ?_
     simp[go_sem,rB]
     exact zI f ⟨hE,aN 4 (by simp[lotZ,lotB,ltOb,ltC,ltK])⟩
   .rintro _ rfl
    generalize endF L s2=E at hM
    refine zA ?_
    simp[go_sem,rB]
    by_cases q1:E.err=0
    .have q1':(E.err !=0)=false:=by simpa using q1
     rw[if_pos q1]at hM
     simp[go_sem,q1',lotZ,lotB]
     exact yk2 (l:=⟨m,n,l⟩) hM
    .have q1':(E.err !=0)=true:=by simpa using q1
     rw[if_neg q1]at hM
     simp[go_sem,q1',lotZ,lotB]
     refine za0 [(9,3)] 1 4 (by simp) (by kernel_rfl) (by kernel_rfl) ?_
     simp[go_sem]
     exact yk2 (l:=lot0) hM
theorem xk9 (s:List UInt8) (hl:s.length<=maxLen):Pure prog 13 [.str s] (.agg (zd5 s).1.row):=by
 have h:=xB6 s hl
 generalize zd5 s=x at h⊢
 refine iW 0 func13 ntmps13 results13 fun c hc hb=>zN ?_
 simp[go_sem]
 refine zD h cB (zH rfl) rfl ?_
 simp[go_sem,parV]
 exact zQ (zC rfl) ⟨rfl,rfl⟩
variable {L:List GToken}
structure EOk (e:GExpr):Prop where
 good:Good e
 wide:Wide e
 size:zm7 e<=4000
structure SOk (st:GStmt):Prop where
 kind:i64R st.kind
 table:st.table.length<=1048576
 items:st.items.length<=12/\ ∀x∈st.items,i64R x.kind/\EOk x.e
 rows:st.rows.length<=20/\ ∀r∈st.rows,r.length<=12/\ ∀e∈r,EOk e
 sets:st.sets.length<=12/\ ∀x∈st.sets,x.name.length<=1048576/\EOk x.e
 where_:EOk st.where_
 order:st.order.length<=1048576
 limit:i64R st.limit
structure LOk (l:GLot):Prop where
 mode:i64R l.mode
 n:i64R l.n
 stmts:l.stmts.length<=12/\ ∀st∈l.stmts,SOk st
theorem yX6:LOk lot0:=⟨by show i64R 0;unfold i64R;decide,by show i64R 0;unfold i64R;decide,A3 _,fun st hst=>by cases hst⟩
structure ES (s:RS) (e:GExpr):Prop where
 good:Good e
 wide:Wide e
 size:s.err=0->zm7 e<=2001
theorem ES.mono {s s':RS} {e:GExpr} (h:ES s e) (u:UI L s s'):ES s' e:=⟨h.good,h.wide,fun q=>h.size (u.err q)⟩
theorem ES.ok {s:RS} {e:GExpr} (h:ES s e) (hs:s.err=0):EOk e:=⟨h.good,h.wide,by have:=h.size hs;omega⟩
theorem zN8 (s:RS):ES s zeroE:=⟨xq6,xA1 rfl,fun _=>by rw[yr5 rfl];decide⟩
theorem yD6 (hL:LIn L) (hG:LGood L) (h2:L.length<=2001) {s:RS} (hs:RIn L s) (ho:s.opn=0):ES (exF L s).2 (exF L s).1:=by
 have h:=xp6 hL hs ho
 have k:=ex_j hL hG hs ho
 exact⟨k.good,h.wide,fun q=>by have:=k.size q;have:=h.rin.at_;omega⟩
theorem yg8 (hG:LGood L) {s:RS} (hs:RIn L s):i64R (numF L s).1:=by
 unfold numF i64R
 split
 .have:=hG.num _ (zA5 hs);simp only;omega
 .simp
structure SS (s:RS) (st:GStmt):Prop where
 kind:i64R st.kind
 table:st.table.length<=1048576
 items:st.items.length<=12/\ ∀x∈st.items,i64R x.kind/\ES s x.e
 rows:st.rows.length<=20/\ ∀r∈st.rows,r.length<=12/\ ∀e∈r,ES s e
 sets:st.sets.length<=12/\ ∀x∈st.sets,x.name.length<=1048576/\ES s x.e
 where_:ES s st.where_
 order:st.order.length<=1048576
 limit:i64R st.limit
theorem SS.mono {s s':RS} {st:GStmt} (h:SS s st) (u:UI L s s'):SS s' st:=
 ⟨h.kind,h.table,⟨h.items.1,fun x hx=>⟨(h.items.2 x hx).1,(h.items.2 x hx).2.mono u⟩⟩,⟨h.rows.1,fun r hr=>⟨(h.rows.2 r hr).1,fun e he=>((h.rows.2 r hr).2 e he).mono u⟩⟩,⟨h.sets.1,fun x hx=>⟨(h.sets.2 x hx).1,(h.sets.2 x hx).2.mono u⟩⟩,h.where_.mono u,h.order,h.limit⟩
theorem SS.ok {s:RS} {st:GStmt} (h:SS s st) (hs:s.err=0):SOk st:=
 ⟨h.kind,h.table,⟨h.items.1,fun x hx=>⟨(h.items.2 x hx).1,(h.items.2 x hx).2.ok hs⟩⟩,⟨h.rows.1,fun r hr=>⟨(h.rows.2 r hr).1,fun e he=>((h.rows.2 r hr).2 e he).ok hs⟩⟩,⟨h.sets.1,fun x hx=>⟨(h.sets.2 x hx).1,(h.sets.2 x hx).2.ok hs⟩⟩,h.where_.ok hs,h.order,h.limit⟩
theorem xD3 {s:RS} (h:(endF L s).err=0):s.err=0:=by
 unfold endF at h
 split at h
 .exact absurd h (zl6 (by decide))
 .exact h
section
variable (hL:LIn L) (hG:LGood L) (h2:L.length<=2001)
include hL hG h2
theorem xE7 {s:RS} (h:RIn L s) (ho:s.opn=0):i64R (zt9 L s).1.kind/\ES (zt9 L s).2 (zt9 L s).1.e:=by
 unfold zt9
 split
 .exact⟨by unfold i64R;simp,zN8 _⟩
 split
 .rename_i hi
  have h1:=yT hL h hi
  have h3:=h1.trans (yE hL [40] h1.rin)
  have hx:=yD6 hL hG h2 h3.rin (h3.opn.trans ho)
  exact⟨by unfold i64R;simp,hx.mono (yE hL [41] (h3.trans (zK3 hL h3.rin (h3.opn.trans ho))).rin)⟩
 .exact⟨by unfold i64R;simp,yD6 hL hG h2 h ho⟩
theorem yp3: ∀(n:Nat) (l:List GItem) (s:RS),RIn L s->s.opn=0->l.length<=6->(∀x∈l,i64R x.kind/\ES s x.e)->
  (zu0 L n l s).1.length<=12/\ ∀x∈(zu0 L n l s).1,i64R x.kind/\ES (zu0 L n l s).2 x.e
 |0,l,s,_,_,hl,hx=>⟨by simp only[zu0];omega,hx⟩
 |n+1,l,s,h,ho,hl,hx=>by
  unfold zu0
  split
  .rename_i he
   obtain⟨_,h6,_⟩:=zf5 he
   have hu:=yv5 hL h ho
   have hi:=xE7 hL hG h2 h ho
   have hx2: ∀x∈l++ [(zt9 L s).1],i64R x.kind/\ES (zt9 L s).2 x.e:=fun x hx'=>by
    rw[B4]at hx'
    rcases hx' with hx'|hx'
    .exact⟨(hx x hx').1,(hx x hx').2.mono hu⟩
    .simp only[Ag,Ba,or_false]at hx'
     subst hx'
     exact hi
   split
   .have hn:=yT hL hu.rin ‹_›
    exact yp3 n _ _ hn.rin ((hu.trans hn).opn.trans ho) (by simp;omega) (fun x hx'=>⟨(hx2 x hx').1,(hx2 x hx').2.mono hn⟩)
   .exact⟨by simp;omega,hx2⟩
  .exact⟨by simp only;omega,fun x hx'=>⟨(hx x hx').1,(hx x hx').2.mono (zm5 h)⟩⟩
theorem xr7 {s:RS} (h:RIn L s) (ho:s.opn=0):(zo0 L s).1.length<=12/\ ∀x∈(zo0 L s).1,i64R x.kind/\ES (zo0 L s).2 x.e:=by
 unfold zo0
 split
 .refine⟨by simp,fun x hx=> ?_⟩
  simp only[Ag,Ba,or_false]at hx
  subst hx
  exact⟨by unfold i64R;simp,zN8 _⟩
 .exact yp3 hL hG h2 7 [] s h ho (by simp) (fun x hx=>by cases hx)
theorem xA0 {s:RS} (h:RIn L s) (ho:s.opn=0):ES (whS L s) (whE L s).2:=by
 unfold whS whE
 by_cases q:isT L zN1 s=true
 .rw[if_pos q,if_pos q]
  exact yD6 hL hG h2 (h.next hL q) ho
 .rw[if_neg q,if_neg q]
  exact zN8 _
theorem xa3: ∀(n:Nat) (l:List GExpr) (s:RS),RIn L s->s.opn=0->l.length<=6->(∀e∈l,ES s e)->
  (rowL L n l s).2.1.length<=12/\ ∀e∈(rowL L n l s).2.1,ES (rowL L n l s).2.2 e
 |0,l,s,_,_,hl,hx=>⟨by simp only[rowL];omega,hx⟩
 |n+1,l,s,h,ho,hl,hx=>by
  unfold rowL
  split
  .rename_i he
   obtain⟨_,h6,_⟩:=zf5 he
   have hu:=zK3 hL h ho
   have hi:=yD6 hL hG h2 h ho
   have hx2: ∀x∈l++ [(exF L s).1],ES (exF L s).2 x:=fun x hx'=>by
    rw[B4]at hx'
    rcases hx' with hx'|hx'
    .exact(hx x hx').mono hu
    .simp only[Ag,Ba,or_false]at hx'
     subst hx'
     exact hi
   split
   .have hn:=yT hL hu.rin ‹_›
    exact xa3 n _ _ hn.rin ((hu.trans hn).opn.trans ho) (by simp;omega) (fun x hx'=>(hx2 x hx').mono hn)
   .exact⟨by simp;omega,hx2⟩
  .exact⟨by simp only;omega,fun x hx'=>(hx x hx').mono (zm5 h)⟩
theorem yI6: ∀(n:Nat) (R:List (List GExpr)) (s:RS),RIn L s->s.opn=0->R.length<=16->(∀r∈R,r.length<=12/\ ∀e∈r,ES s e)->
  (zE8 L n R s).1.length<=20/\ ∀r∈(zE8 L n R s).1,r.length<=12/\ ∀e∈r,ES (zE8 L n R s).2 e
 |0,R,s,_,_,hl,hx=>⟨by simp only[zE8];omega,hx⟩
 |n+1,R,s,h,ho,hl,hx=>by
  unfold zE8
  split
  .rename_i he
   obtain⟨_,h6,_⟩:=zf5 he
   have hu1:=yE hL [40] h
   have hr:=xa3 hL hG h2 7 [] _ hu1.rin (hu1.opn.trans ho) (by simp) (fun e he=>by cases he)
   have hu2:=hu1.trans (yx8 hL 7 [] _ hu1.rin (hu1.opn.trans ho))
   generalize rowL L 7 [] (yD L [40] s)=r at hr hu2
   split
   .have hu3:=yE hL [41] hu2.rin
    have hx2: ∀y∈R++ [r.2.1],y.length<=12/\ ∀e∈y,ES (yD L [41] r.2.2) e:=fun y hy=>by
     rw[B4]at hy
     rcases hy with hy|hy
     .exact⟨(hx y hy).1,fun e he=>((hx y hy).2 e he).mono (hu2.trans hu3)⟩
     .simp only[Ag,Ba,or_false]at hy
      subst hy
      exact⟨hr.1,fun e he=>(hr.2 e he).mono hu3⟩
    split
    .have hn:=yT hL hu3.rin ‹_›
     exact yI6 n _ _ hn.rin (((hu2.trans hu3).trans hn).opn.trans ho) (by simp;omega) (fun y hy=>⟨(hx2 y hy).1,fun e he=>((hx2 y hy).2 e he).mono hn⟩)
    .exact⟨by simp;omega,hx2⟩
   .exact⟨by simp only;omega,fun y hy=>⟨(hx y hy).1,fun e he=>((hx y hy).2 e he).mono hu2⟩⟩
  .exact⟨by simp only;omega,fun y hy=>⟨(hx y hy).1,fun e he=>((hx y hy).2 e he).mono (zm5 h)⟩⟩
theorem yJ4: ∀(n:Nat) (l:List GAssign) (s:RS),RIn L s->s.opn=0->l.length<=6->(∀x∈l,x.name.length<=1048576/\ES s x.e)->
  (zA3 L n l s).2.1.length<=12/\ ∀x∈(zA3 L n l s).2.1,x.name.length<=1048576/\ES (zA3 L n l s).2.2 x.e
 |0,l,s,_,_,hl,hx=>⟨by simp only[zA3];omega,hx⟩
 |n+1,l,s,h,ho,hl,hx=>by
  unfold zA3
  split
  .rename_i he
   obtain⟨_,h6,_⟩:=zf5 he
   have hn0:=zi3 hG h
   have hu1:=zc7 hL h
   have hu2:=hu1.trans (yE hL [61] hu1.rin)
   have hi:=yD6 hL hG h2 hu2.rin (hu2.opn.trans ho)
   have hu:=hu2.trans (zK3 hL hu2.rin (hu2.opn.trans ho))
   generalize exF L (yD L [61] (yW L s).2)=x at hi hu
   have hx2: ∀y∈l++ [⟨(yW L s).1,x.1⟩],y.name.length<=1048576/\ES x.2 y.e:=fun y hy=>by
    rw[B4]at hy
    rcases hy with hy|hy
    .exact⟨(hx y hy).1,(hx y hy).2.mono hu⟩
    .simp only[Ag,Ba,or_false]at hy
     subst hy
     exact⟨hn0,hi⟩
   split
   .have hn:=yT hL hu.rin ‹_›
    exact yJ4 n _ _ hn.rin ((hu.trans hn).opn.trans ho) (by simp;omega) (fun y hy=>⟨(hx2 y hy).1,(hx2 y hy).2.mono hn⟩)
   .exact⟨by simp;omega,hx2⟩
  .exact⟨by simp only;omega,fun x hx'=>⟨(hx x hx').1,(hx x hx').2.mono (zm5 h)⟩⟩
theorem yR3 {s:RS} (h:RIn L s) (ho:s.opn=0):SS (zk0 L s).2 (zk0 L s).1:=by
 unfold zk0
 simp only
 have hx:=xr7 hL hG h2 h ho
 have h1:=yf1 hL h ho
 generalize zo0 L s=x at hx h1
 have u2:=yE hL zA9 h1.rin
 have hnl:=zi3 hG (h1.trans u2).rin
 have u3:=zc7 hL (h1.trans u2).rin
 generalize yW L (yD L zA9 x.2)=n at hnl u3
 have hw:=xA0 hL hG h2 u3.rin ((h1.trans (u2.trans u3)).opn.trans ho)
 have u4:=ys7 hL u3.rin ((h1.trans (u2.trans u3)).opn.trans ho)
 have u5:=yh3 hL u4.rin
 have hon:(zG5 L (whS L n.2)).1.1.length<=1048576:=by
  unfold zG5
  split
  .rename_i hi
   have v1:=yT hL u4.rin hi
   have v2:=v1.trans (yE hL wBY v1.rin)
   split
   .exact zi3 hG v2.rin
   split
   .exact zi3 hG v2.rin
   .exact zi3 hG v2.rin
  .exact A3 _
 generalize zG5 L (whS L n.2)=o at u5 hon
 have u6:=yF2 hL u5.rin
 have hln:i64R (zG4 L o.2).1:=by
  unfold zG4
  split
  .exact yg8 hG (u5.rin.next hL ‹_›)
  .unfold i64R;simp
 generalize zG4 L o.2=l at u6 hln
 have u:=u2.trans (u3.trans (u4.trans (u5.trans u6)))
 exact⟨by unfold i64R;simp,hnl,⟨hx.1,fun x hx'=>⟨(hx.2 x hx').1,(hx.2 x hx').2.mono u⟩⟩,⟨A3 _,fun r hr=>by cases hr⟩,⟨A3 _,fun r hr=>by cases hr⟩,hw.mono (u5.trans u6),hon,hln⟩
theorem yO2 {s:RS} (h:RIn L s) (ho:s.opn=0):SS (zj2 L s).2 (zj2 L s).1:=by
 unfold zj2
 have u1:=yE hL yj7 h
 have hnl:=zi3 hG u1.rin
 have u2:=u1.trans (zc7 hL u1.rin)
 generalize yW L (yD L yj7 s)=n at hnl u2
 have u3:=u2.trans (yE hL zJ8 u2.rin)
 have hr:=yI6 hL hG h2 17 [] _ u3.rin (u3.opn.trans ho) (by simp) (fun r hr=>by cases hr)
 exact⟨by unfold i64R;simp,hnl,⟨A3 _,fun r hr=>by cases hr⟩,hr,⟨A3 _,fun r hr=>by cases hr⟩,zN8 _,A3 _,by unfold i64R;simp⟩
theorem yS9 {s:RS} (h:RIn L s) (ho:s.opn=0):SS (zk2 L s).2 (zk2 L s).1:=by
 unfold zk2
 have hnl:=zi3 hG h
 have u2:=zc7 hL h
 generalize yW L s=n at hnl u2
 have u3:=u2.trans (yE hL wSET u2.rin)
 have hr:=yJ4 hL hG h2 7 [] _ u3.rin (u3.opn.trans ho) (by simp) (fun r hr=>by cases hr)
 have u4:=u3.trans (yi5 hL 7 [] _ u3.rin (u3.opn.trans ho))
 simp only
 generalize zA3 L 7 [] (yD L wSET n.2)=r at hr u4
 split
 .have hw:=xA0 hL hG h2 u4.rin (u4.opn.trans ho)
  have u5:=ys7 hL u4.rin (u4.opn.trans ho)
  exact⟨by unfold i64R;simp,hnl,⟨A3 _,fun r hr=>by cases hr⟩,⟨A3 _,fun r hr=>by cases hr⟩,⟨hr.1,fun x hx=>⟨(hr.2 x hx).1,(hr.2 x hx).2.mono u5⟩⟩,hw,A3 _,by unfold i64R;simp⟩
 .exact⟨by unfold i64R;simp,hnl,⟨A3 _,fun r hr=>by cases hr⟩,⟨A3 _,fun r hr=>by cases hr⟩,hr,zN8 _,A3 _,by unfold i64R;simp⟩
theorem xI1 {s:RS} (h:RIn L s) (ho:s.opn=0):SS (zk1 L s).2 (zk1 L s).1:=by
 unfold zk1
 split
 .exact yR3 hL hG h2 (h.next hL ‹_›) ho
 split
 .exact yO2 hL hG h2 (h.next hL ‹_›) ho
 split
 .exact yS9 hL hG h2 (h.next hL ‹_›) ho
 .have u1:=yE hL zD7 h
  have u2:=u1.trans (yE hL zA9 u1.rin)
  have hnl:=zi3 hG u2.rin
  have u3:=u2.trans (zc7 hL u2.rin)
  exact⟨by unfold i64R;simp,hnl,⟨A3 _,fun r hr=>by cases hr⟩,⟨A3 _,fun r hr=>by cases hr⟩,⟨A3 _,fun r hr=>by cases hr⟩,xA0 hL hG h2 u3.rin (u3.opn.trans ho),A3 _,by unfold i64R;simp⟩
theorem yr6: ∀(n:Nat) (l:List GStmt) (s:RS),RIn L s->s.opn=0->l.length<=8->(∀x∈l,SS s x)->
  (zr0 L n l s).1.length<=8/\ ∀x∈(zr0 L n l s).1,SS (zr0 L n l s).2 x
 |0,l,s,_,_,hl,hx=>⟨hl,hx⟩
 |n+1,l,s,h,ho,hl,hx=>by
  unfold zr0
  split
  .split
   .rename_i he
    obtain⟨_,h8,_⟩:=zf5 he
    have hu:=yy4 hL h ho
    have hi:=xI1 hL hG h2 h ho
    have hx2: ∀x∈l++ [(zk1 L s).1],SS (zk1 L s).2 x:=fun x hx'=>by
     rw[B4]at hx'
     rcases hx' with hx'|hx'
     .exact(hx x hx').mono hu
     .simp only[Ag,Ba,or_false]at hx'
      subst hx'
      exact hi
    have hl2:(l++ [(zk1 L s).1]).length<=8:=by simp;omega
    split
    .have hn:=yT hL hu.rin ‹_›
     have hx3:=fun x hx'=>(hx2 x hx').mono hn
     split
     .exact⟨hl2,hx3⟩
     .exact yr6 n _ _ hn.rin ((hu.trans hn).opn.trans ho) hl2 hx3
    .exact⟨hl2,hx2⟩
   .exact⟨hl,fun x hx'=>(hx x hx').mono (zm5 h)⟩
  .exact⟨hl,hx⟩
theorem xG8 (h1:1<=L.length):LOk (yZ6 L).1:=by
 have h0:RIn L rs0:=⟨by show 0<_;omega,by show(0:Int)<=0/\(0:Int)<=100000;omega⟩
 unfold yZ6
 simp only
 have hs:=yr6 hL hG h2 9 [] rs0 h0 rfl (A3 _) (fun x hx=>by cases hx)
 have hu:=yr7 hL 9 [] rs0 h0 rfl
 generalize zr0 L 9 [] rs0=x at hs hu
 have ha:=xK8 hL hu.rin
 have hm:i64R (asF L x.2).1.1/\i64R (asF L x.2).1.2:=by
  unfold asF
  split
  .rename_i hi
   have v1:=xl7 hL hu.rin hi
   split
   .exact⟨by unfold i64R;simp,yg8 hG (v1.rin.next hL ‹_›)⟩
   .exact⟨by unfold i64R;simp,yg8 hG v1.rin⟩
  .exact⟨by unfold i64R;simp,by unfold i64R;simp⟩
 generalize asF L x.2=a at ha hm
 split
 .rename_i he
  have h3:=ha.err (xD3 he)
  exact⟨hm.1,hm.2,by simp only;omega,fun st hst=>(hs.2 st hst).ok h3⟩
 .exact yX6
end
theorem yh4 (s:List UInt8):LOk (zd5 s).1:=by
 unfold zd5
 split
 .rename_i h
  obtain⟨_,hL,hG,h1,h2⟩:=yX2 h
  exact xG8 hL hG h2 h1
 .exact yX6
theorem yJ5 (l:List GExpr) (i:Nat) (h:i<l.length):zi7 (l.drop i)=zm7 l[i]+zi7 (l.drop (i+1)):=by
 rw[A6 h,zi7]
theorem yC6 (l:List GExpr) (i:Nat) (h:i<l.length):xZ (l.drop i)=max (wB l[i]) (xZ (l.drop (i+1))):=by
 rw[A6 h,xZ]
theorem xi7 (e:GExpr):1<=zm7 e:=by rw[zH1];omega
theorem zI6 (e:GExpr):1<=wB e:=by rw[zj0];omega
def xx1 (e:GExpr) (deep n:Int) (r:V) (σ:St):Prop:=r= .bool (decide ((wB e:Int)+deep<=65))/\ ∃m:Int,σ= [.box [.int .i64 m]]/\n<=m/\m<=n+zm7 e
theorem xa8: ∀(k:Nat) (e:GExpr) (deep n:Int),wB e<=k->Wide e->0<=n->n+zm7 e<=4096->0<=deep->deep<=1000000->VCalls prog 164 [.agg e.row,.int .i64 deep,.ptr 0 0] [.box [.int .i64 n]] (xx1 e deep n)
 |0,e,_,_,h,_,_,_,_,_=>by have:=zI6 e;omega
 |k+1,e,deep,n,h,hw,hn0,hn1,hd0,hd1=>by
  have ih:=xa8 k
  have hde:=zj0 e
  have hse:=zH1 e
  obtain⟨M,hM⟩:=eX (decide ((wB e:Int)+deep<=65))
  unfold xx1
  rw[hM]
  obtain⟨args,hargs⟩:=eX e.args
  have hlen:=hw.len
  have hsub:=hw.sub
  rw[hargs]at hde hse hlen hsub
  have e1:IntKind.i64.wrap (n+1)=n+1:=i64_id (by omega) (by omega)
  have e2:IntKind.i64.wrap (deep+1)=deep+1:=i64_id (by omega) (by omega)
  obtain⟨sz,hsz⟩:=eX (zm7 e)
  rw[hsz]at hse hn1⊢
  have ret: ∀(b:Bool) (m:Int) (τ:St),b=M->n<=m->m<=n+sz->wret (some (.bool b)) 1 (fun r σ=>r= .bool M/\ ∃m:Int,σ= [.box [.int .i64 m]]/\n<=m/\m<=n+sz) (.box [.int .i64 m]::τ):=fun b m τ h1 h2 h3=>by
   subst h1
   exact xJ 1 rfl rfl (by rfl) (A2 _) (zC rfl) ⟨rfl,m,rfl,h2,h3⟩
  refine iV 1 func164 ntmps164 results164 fun c hc hb=> ?_
  refine zA ?_
  simp[go_sem,e1]
  by_cases q1:64<deep
  .have q1':decide (64<deep)=true:=decide_eq_true q1
   have hM:false=M:=by rw[<-hM];exact(decide_eq_false (by omega)).symm
   simp[go_sem,q1']
   exact ret _ _ _ hM (by omega) (by omega)
  have q1':decide (64<deep)=false:=decide_eq_false q1
  have q2':decide (4096<n+1)=false:=decide_eq_false (by omega)
  simp[go_sem,q1',q2',hargs]
  refine zL (S:=Nat×Int) [1,2,23,24,25] (fun u=> [.int .i64 deep,.ptr 0 0,.sl .ro (args.map GExpr.row),.int .i64 args.length,.int .i64 (u.1:Int)]) (fun u=> [.box [.int .i64 u.2]]) (fun u=>args.length - u.1)
   (fun u=>u.1<=args.length/\n<=u.2/\u.2+zi7 (args.drop u.1)<=n+sz/\decide ((xZ (args.drop u.1):Int)+(deep+1)<=65)=M) hc hb (0,n+1)
   ⟨A3 _,by simp only;omega,by simp only[Bd];omega,by rw[<-hM,Bd];exact decide_eq_decide.2 (by omega)⟩ ?_ ?_
  .exact aN 1 (by rfl)
  rintro⟨i,m⟩ ⟨hi,hm0,hm1,hinv⟩
  simp only at hi hm0 hm1 hinv
  by_cases q:i<args.length
  rotate_left
  .rw[A9 (by omega)]at hinv hm1
   have hinv:true=M:=by rw[<-hinv,xZ];exact(decide_eq_true (by omega)).symm
   refine zA ?_
   simp[go_sem,q]
   exact ret _ _ _ hinv hm0 (by rw[zi7]at hm1;omega)
  have ei:=zV q (by omega)
  have hsd:=yJ5 args i q
  have hdd:=yC6 args i q
  obtain⟨x,hx⟩:=eX (args[i])
  have hxm:x∈args:=hx▸A8 q
  have hdx:=zk9 args x hxm
  rw[hx]at hsd hdd
  rw[hsd]at hm1
  rw[hdd]at hinv
  have hcall:=ih x (deep+1) m (by omega) (hsub x hxm) (by omega) (by omega) (by omega) (by omega)
  by_cases q3:(wB x:Int)+(deep+1)<=65
  .refine zA ?_
   simp[go_sem,q,hx,e2]
   refine zl2 0 hcall cB rfl (by rfl) ⟨.inl (by simp[go_sem,renS,renA,renC,renK]),zC rfl,.inl rfl,trivial⟩ (fun r σ h=>by
    obtain⟨_,m2,rfl,_⟩:=h
    exact⟨_,rfl,rfl⟩) ?_
   rintro r o2 ⟨rfl,m2,h1,h2,h3⟩
   obtain rfl:o2= .box [.int .i64 m2]:=by simpa using h1
   rw[decide_eq_true q3]
   simp[go_sem,ei]
   refine zI (i+1,m2) ⟨by simp only;omega,⟨by simp only;omega,by simp only;omega,by simp only;omega, ?_⟩, ?_⟩
   .rw[<-hinv]
    show decide ((xZ (args.drop (i+1)):Int)+(deep+1)<=65)=_
    exact decide_eq_decide.2 (by omega)
   .exact aN 1 (by rfl)
  .have hinv:false=M:=by rw[<-hinv];exact(decide_eq_false (by omega)).symm
   refine zA ?_
   simp[go_sem,q,hx,e2]
   refine zl2 0 hcall cB rfl (by rfl) ⟨.inl (by simp[go_sem,renS,renA,renC,renK]),zC rfl,.inl rfl,trivial⟩ (fun r σ h=>by
    obtain⟨_,m2,rfl,_⟩:=h
    exact⟨_,rfl,rfl⟩) ?_
   rintro r o2 ⟨rfl,m2,h1,h2,h3⟩
   obtain rfl:o2= .box [.int .i64 m2]:=by simpa using h1
   rw[decide_eq_false q3]
   simp[go_sem]
   exact ret _ _ _ hinv (by omega) (by omega)
def yW6 (e:GExpr):Bool:=e.kind==3&&e.s== [65,78,68]&&e.args.length==2
def bfs:Nat->List GExpr->List GExpr->List GExpr
 |0,_,l=>l
 |_+1,[],l=>l
 |n+1,e::q,l=>if yW6 e=true then bfs n (q++e.args) l else bfs n q (l++ [e])
def zr4 (st:GStmt):List GExpr:=if st.filtered=true then bfs 4096 [st.where_] []else []
theorem yo0 (l:List GExpr):uni 6 (l.map GExpr.row):=zZ5 fun e=>by rw[GExpr.row_eq];rfl
theorem zU9 (st:GStmt):Pure prog 116 [.agg st.row] (.sl .ro ((zr4 st).map GExpr.row)):=by
 generalize hM:zr4 st=M
 have ret: ∀(r:List GExpr) (g:Tag) (σ:St),r=M->wret (some (.sl g (r.map GExpr.row))) 0 (fun r s=>r= .sl .ro (M.map GExpr.row)/\s= []) σ:=fun r g σ h=>by subst h;exact zQ zX ⟨rfl,rfl⟩
 unfold zr4 at hM
 refine iV 0 func116 ntmps116 results116 fun c hc hb=> ?_
 refine zv7 26 (by decide) ?_
 refine zA ?_
 simp[go_sem]
 by_cases hf:st.filtered=true
 rotate_left
 .have hf':st.filtered=false:=by simpa using hf
  rw[if_neg hf]at hM
  simp[go_sem,hf']
  exact ret [] _ _ hM
 rw[if_pos hf]at hM
 simp[go_sem,hf]
 refine xz6 4 6 [st.where_.row] (by decide) (yo0 [st.where_]) (by simp[go_sem]) ?_
 refine zn1 3 6 (by decide) (by simp[go_sem]) ?_
 refine zL (S:=Nat×List GExpr×List GExpr) [3,4,5,100026] (fun u=> [.sl (.app 1) (u.2.2.map GExpr.row),.sl (.app 0) (u.2.1.map GExpr.row),.int .i64 u.1,.tup []]) (fun u=> [.app u.2.1.length 6,.app u.2.2.length 6]) (fun u=>4096 - u.1)
  (fun u=>u.1<=4096/\u.2.1.length<=1+u.1/\u.2.2.length<=u.1/\bfs (4096 - u.1) u.2.1 u.2.2=M) hc hb (0,[st.where_],[]) ⟨A3 _,by simp,by simp,hM⟩ ?_ ?_
 .exact zI3 [1,2] (by decide) rfl ⟨by simp[go_sem,yN],by simp[go_sem,yN],trivial⟩ ⟨.inl (by simp[go_sem,renS,renA,renC,renK,ren]),.inl (by simp[go_sem,renS,renA,renC,renK,ren]),zC rfl,zC rfl,trivial⟩
 rintro⟨n,q,l⟩ ⟨hn,hql,hll,hinv⟩
 simp only at hn hql hll hinv
 cases q with
 |nil=>
  have hl:l=M:=by rw[<-hinv];cases h:4096 - n<;>rfl
  refine zA ?_
  simp[go_sem]
  exact ret l _ _ hl
 |cons e q=>
 by_cases hn2:n<4096
 rotate_left
 .have hl:l=M:=by rw[<-hinv,show 4096 - n=0 by omega];rfl
  have hd:decide ((n:Int)<4096)=false:=decide_eq_false (by omega)
  refine zA ?_
  simp[go_sem,hd]
  exact ret l _ _ hl
 have hd:decide ((n:Int)<4096)=true:=decide_eq_true (by omega)
 rw[show 4096 - n=(4096 - (n+1))+1 by omega,bfs]at hinv
 have ei:IntKind.i64.wrap ((n:Int)+1)=((n+1:Nat):Int):=by rw[i64_id (by omega) (by omega)];omega
 refine zA ?_
 simp[go_sem,hd]
 refine zJ (by omega) ?_
 simp[go_sem]
 by_cases hA:yW6 e=true
 .rw[if_pos hA]at hinv
  have hA':=hA
  unfold yW6 at hA'
  simp only[A4,beq_iff_eq]at hA'
  obtain⟨⟨q1,q2⟩,q3⟩:=hA'
  simp[go_sem,q1,q2,q3]
  refine zJ ⟨by simp at hql;omega,yo0 _⟩ ?_
  simp[go_sem,ei]
  refine zI (n+1,q++e.args,l) ⟨by simp only;omega,⟨by simp only;omega,by simp at hql⊢;omega,by simp only;omega,hinv⟩, ?_⟩
  exact zI3 [3,1] (by decide) rfl ⟨by simp[go_sem,yN,q3],by simp[go_sem,yN],trivial⟩ ⟨.inl (by simp[go_sem,renS,renA,renC,renK,ren]),.inl (by simp[go_sem,renS,renA,renC,renK,ren]),zC rfl,zC rfl,trivial⟩
 .have hA':(e.kind==3&&e.s== [65,78,68]&&e.args.length==2)=false:=by simpa[yW6]using hA
  rw[if_neg hA]at hinv
  have key:(e.kind==3)=false∨((e.kind==3)=true/\(e.s== [65,78,68])=false)∨((e.kind==3)=true/\(e.s== [65,78,68])=true/\((e.args.length:Int)==2)=false):=by
   revert hA'
   have e3:((e.args.length:Int)==2)=(e.args.length==2):=by
    rw[Dr];simp;omega
   rw[e3]
   cases e.kind==3<;>cases e.s== [65,78,68]<;>cases e.args.length==2<;>simp
  refine key.elim (fun q1=> ?_) fun key=>key.elim (fun q1=> ?_) fun q1=> ?_
  all_goals simp[go_sem,q1]
  all_goals refine zJ ⟨by omega,yC rfl⟩ ?_
  all_goals simp[go_sem,ei]
  all_goals refine zI (n+1,q,l++ [e]) ⟨by simp only;omega,⟨by simp only;omega,by simp at hql⊢;omega,by simp;omega,hinv⟩, ?_⟩
  all_goals exact zI3 [3,1] (by decide) rfl ⟨by simp[go_sem,yN],by simp[go_sem,yN],trivial⟩ ⟨.inl (by simp[go_sem,renS,renA,renC,renK,ren]),.inl (by simp[go_sem,renS,renA,renC,renK,ren]),zC rfl,zC rfl,trivial⟩
def yY5:V:= .tup [.str [],.agg [.int .i64 0,.int .i64 0,.str []],.bool false]
def zd7 (e:GExpr) (name:List UInt8):Option (List UInt8×GValue):=
 match e.kind==3,e.args with
 |true,[a,b]=>
  if b.kind=2 then(if b.s=name/\a.kind=1/\a.v.kind≠0 then some (xa9 e.s,a.v)else none)
  else if a.kind=2/\a.s=name/\b.kind=1/\b.v.kind≠0 then some (e.s,b.v)else none
 |_,_=>none
def cutV:Option (List UInt8×GValue)->V
 |none=>yY5
 |some (s,v)=> .tup [.str s,.agg v.row,.bool true]
theorem ym7 (e:GExpr) (name:List UInt8):Pure prog 117 [.agg e.row,.str name] (cutV (zd7 e name)):=by
 generalize hM:zd7 e name=M
 have no: ∀(σ:St),none=M->wret (some yY5) 0 (fun r s=>r=cutV M/\s= []) σ:=fun σ h=>by subst h;exact zQ (zC rfl) ⟨rfl,rfl⟩
 have yes: ∀(s:List UInt8) (v:GValue) (σ:St),some (s,v)=M->wret (some (.tup [.str s,.agg v.row,.bool true])) 0 (fun r s=>r=cutV M/\s= []) σ:=fun s v σ h=>by subst h;exact zQ (zC rfl) ⟨rfl,rfl⟩
 unfold zd7 at hM
 refine iW 0 func117 ntmps117 results117 fun c hc hb=>zN ?_
 simp[go_sem]
 by_cases q1:e.kind=3
 rotate_left
 .have q1':(e.kind !=3)=true:=by simpa using q1
  have q1'':(e.kind==3)=false:=by simpa using q1
  simp only[q1'']at hM
  simp[go_sem,q1']
  exact no _ hM
 have q1':(e.kind !=3)=false:=by simpa using q1
 have q1'':(e.kind==3)=true:=by simpa using q1
 simp only[q1'']at hM
 obtain⟨k,hk⟩:=eX e.kind
 simp[go_sem,q1']
 by_cases q2:e.args.length=2
 rotate_left
 .have q2':((e.args.length:Int) !=2)=true:=by simpa using (show ¬(e.args.length:Int)=2 by omega)
  simp[go_sem,q2']
  refine no _ ?_
  rw[<-hM]
  split
  .rename_i h;rw[h]at q2;exact absurd rfl q2
  .rfl
 have q2':((e.args.length:Int) !=2)=false:=by simpa using (show(e.args.length:Int)=2 by omega)
 simp[go_sem,q2']
 obtain⟨a,b,hab⟩: ∃a b,e.args= [a,b]:=by
  match e.args,q2 with
  | [a,b],_=>exact⟨a,b,rfl⟩
 simp only[hab]at hM
 refine xT3 [(12,3),(13,3)] 1 10 (by simp) (by kernel_rfl) (by rw[hc];exact A3 _) hb (by kernel_rfl) rfl (by repeat' (first|exact LtE.env0|refine LtE.upd ?_ (by simp[ltS,ltA,ltC,ltK]))) (by simp only[By,Dq];exact rfl) (by simp only[Dk,Bd];exact rfl) ?_
 simp[go_sem,hab]
 refine⟨by repeat' (first|exact LtE.env0|refine LtE.upd ?_ (by simp[ltS,ltA,ltC,ltK])), ?_⟩
 by_cases q3:b.kind=2
 .have q3':(b.kind==2)=true:=by simpa using q3
  rw[if_pos q3]at hM
  simp[go_sem,q3']
  refine zb7 [(0,2),(1,2),(3,0),(4,3),(5,3)] 2 (by simp) (by kernel_rfl) (by kernel_rfl) ?_
  simp[go_sem]
  refine zW (xy5 e.s) cB (fun _=>zH rfl) rfl ?_
  have q4:(b.kind !=2)=false:=by simpa using q3
  simp[go_sem,q4]
  repeat' (first
   |(refine yZ (fun q=> ?_) (fun q=> ?_)<;>simp[go_sem,q])
   |(refine zT (fun q=> ?_) (fun q=> ?_)<;>simp[go_sem,q])
   |(refine zb7 [(2,2),(4,3)] 1 (by simp) (by kernel_rfl) (by kernel_rfl) ?_;simp[go_sem]))
  all_goals first|exact no _ (by rw[<-hM];simp_all)|exact yes _ _ _ (by rw[<-hM];simp_all)
 .have q3':(b.kind==2)=false:=by simpa using q3
  rw[if_neg q3]at hM
  simp[go_sem,q3']
  repeat' (first
   |(refine yZ (fun q=> ?_) (fun q=> ?_)<;>simp[go_sem,q])
   |(refine zT (fun q=> ?_) (fun q=> ?_)<;>simp[go_sem,q])
   |(refine zb7 [(2,2),(4,3)] 1 (by simp) (by kernel_rfl) (by kernel_rfl) ?_;simp[go_sem]))
  all_goals first|exact no _ (by rw[<-hM];simp_all)|exact yes _ _ _ (by rw[<-hM];simp_all)
end Go.Proofs.YtkigddpaonhmlaaGreat
namespace Go.Proofs.YtkigddpaonhmlaaGreat.R
open Go Go.Vx Go.Proofs.Tryz
set_option maxRecDepth 100000
def bys (l:List UInt8):V:= .sl .ro (zP l)
theorem zU (l:List UInt8):(zP l).length=l.length:=by simp[zP]
theorem zk8 (l:List UInt8):uni 1 (zP l):=fun r hr=>by
 obtain⟨x,_,rfl⟩:=Ac.1 hr
 rfl
def byA (l:List UInt8):V:= .sl (.app 0) (zP l)
def stA (l:List UInt8):St:= [.app l.length 1]
abbrev maxB:Nat:=1000000000
theorem yQ9 (b:List UInt8) (n:Nat) (hb:b.length<=maxB) (hn:n<=maxB):VCalls prog 168 [bys b,.int .i64 n] [] fun r s=>r=byA b/\s=stA b:=by
 refine iW 0 func168 ntmps168 results168 fun c hc hb=>zN ?_
 simp[go_sem,bys,zU]
 have e1:IntKind.i64.wrap ((b.length:Int)+n)=((b.length+n:Nat):Int):=by rw[i64_id (by unfold maxB at*;omega) (by unfold maxB at*;omega)];omega
 simp[go_sem,e1]
 refine zJ ⟨by omega,by unfold maxB at*;omega⟩ ?_
 simp[go_sem,zU]
 refine zJ ⟨by unfold maxB at*;omega,zk8 b⟩ ?_
 simp[go_sem]
 exact zr3 1 rfl rfl (by omega) (zo4 rfl) ⟨rfl,rfl⟩
def varF (v:Nat):List UInt8:=if v<128 then [UInt8.ofNat v]else UInt8.ofNat (v%128+128)::varF (v/128)
termination_by v
decreasing_by omega
theorem zQ3 {v:Nat} (h:v<128):varF v= [UInt8.ofNat v]:=by rw[varF,if_pos h]
theorem zZ6 {v:Nat} (h: ¬v<128):varF v=UInt8.ofNat (v%128+128)::varF (v/128):=by rw[varF,if_neg h]
theorem xb7: ∀(k v:Nat),v<128^(k+1)->(varF v).length<=k+1
 |0,v,h=>by rw[zQ3 (by omega)];simp
 |k+1,v,h=>by
  by_cases hv:v<128
  .rw[zQ3 hv];simp
  .rw[zZ6 hv,Ah]
   have:=xb7 k (v/128) (by rw[Cj (by omega)];rwa [Em]at h)
   omega
theorem zQ2 {v:Nat} (h:v<18446744073709551616):(varF v).length<=10:=xb7 9 v (by omega)
structure VarS where
 out:List UInt8
 v:Nat
theorem u64_id {n:Int} (h:0<=n) (h2:n<=18446744073709551615):IntKind.u64.wrap n=n:=by
 unfold IntKind.wrap
 simp[IntKind.bits,IntKind.signed]
 omega
theorem zU1 (n:Nat):IntKind.u8.wrap (n:Int)=((UInt8.ofNat n).toNat:Int):=by
 unfold IntKind.wrap
 simp[IntKind.bits,IntKind.signed]
theorem xR5:((List.range 256).all fun m=>ze2 .or .u8 (m:Int) 128==((m%128+128:Nat):Int))=true:=by decide+kernel
theorem xX3 (v:Nat):ze2 .or .u8 (IntKind.u8.wrap (v:Int)) 128=((UInt8.ofNat (v%128+128)).toNat:Int):=by
 have h:=Af.1 xR5 (v%256) (C7.2 (by omega))
 have e:IntKind.u8.wrap (v:Int)=((v%256:Nat):Int):=by rw[zU1];simp
 rw[e,beq_iff_eq.1 h]
 simp
 omega
theorem xl1 (b:List UInt8) (v0:Nat) (hb0:b.length<=maxB) (hv:v0<18446744073709551616):VCalls prog 113 [bys b,.int .u64 v0] [] fun r s=>r=byA (b++varF v0)/\s=stA (b++varF v0):=by
 refine iV 0 func113 ntmps113 results113 fun c hc hb=> ?_
 refine zA ?_
 simp[go_sem]
 refine zH5 (yQ9 b 10 hb0 (by decide)) cB (zH rfl) ?_
 rintro r s ⟨rfl,rfl⟩
 simp[go_sem]
 refine zL (S:=VarS) [1,5] (fun s=> [.int .u64 s.v,byA s.out]) (fun s=>stA s.out) (fun s=>s.v) (fun s=>s.v<18446744073709551616/\s.out++varF s.v=b++varF v0) hc hb ⟨b,v0⟩ ⟨hv,rfl⟩ ?_ ?_
 .exact at_n 1 rfl rfl rfl (A3 _) (zG (by simp[go_sem]) rfl)
 rintro⟨out,v⟩ ⟨hv1,hs⟩
 simp only at hv1 hs
 have hlen:out.length<=maxB+10:=by
  have:=congrArg List.length hs
  have h10:=zQ2 hv
  simp only[Aw]at this
  omega
 refine zA ?_
 simp[go_sem,byA,stA]
 refine zT (fun h=> ?_) (fun h=> ?_)
 .have h: ¬v<128:=by have:=of_decide_eq_true h;omega
  have u1:=xX3 v
  simp[go_sem,u1]
  refine zJ ⟨zU out,by rw[zU];unfold maxB at*;omega,yC rfl⟩ ?_
  have e5:(v:Int).fdiv 128=(v:Int)/128:=Co _ (by omega)
  simp[go_sem,e5]
  rw[zZ6 h]at hs
  refine zI ⟨out++ [UInt8.ofNat (v%128+128)],v/128⟩ ⟨by simp only;omega,⟨by simp only;omega,by simpa using hs⟩,at_n 1 (by simp) rfl rfl (A3 _) (zG (by simp[go_sem,zP]) rfl)⟩
 .have h:v<128:=by have:=of_decide_eq_false h;omega
  simp[go_sem,zU,zU1]
  refine zJ ⟨by unfold maxB at*;omega,yC rfl⟩ ?_
  simp[go_sem]
  rw[zQ3 h]at hs
  have hs2:b.length+(varF v0).length=out.length+1:=by
   have:=congrArg List.length hs
   simpa using this.symm
  rw[<-hs]
  exact zr3 1 rfl rfl (by omega) (zo4 rfl) ⟨by simp[zP],by simp[hs2]⟩
theorem xN4 (b t:List UInt8) (hb0:b.length<=maxB) (ht:t.length<=maxB):VCalls prog 175 [bys b,bys t] [] fun r s=>r=byA (b++varF t.length++t)/\s=stA (b++varF t.length++t):=by
 refine iW 0 func175 ntmps175 results175 fun c hc hb=>zN ?_
 have e1:IntKind.u64.wrap (t.length:Int)=(t.length:Int):=u64_id (by omega) (by unfold maxB at*;omega)
 simp[go_sem,bys,zU,e1]
 refine zH5 (xl1 b t.length hb0 (by unfold maxB at*;omega)) cB (zH rfl) ?_
 rintro r s ⟨rfl,rfl⟩
 have h10:=zQ2 (v:=t.length) (by unfold maxB at*;omega)
 simp[go_sem,byA,stA,zU]
 refine zJ ⟨by unfold maxB at*;omega,zk8 t⟩ ?_
 simp[go_sem]
 exact zr3 1 rfl rfl (by omega) (zo4 rfl) ⟨by simp[zP],by simp[Bv]⟩
def zigF (n:Int):Nat:=if 0<=n then(2*n).toNat else(-2*n - 1).toNat
theorem yA2 {n:Int} (h:i64R n):zigF n<18446744073709551616:=by
 unfold zigF;unfold i64R at h
 split<;>omega
theorem xM3 (ek:Nat) (es:Option (List Pk)) (a b:Int):zr5 .shr ek es (.int .i64 a) (.int .u64 b)= .need (0<=b) (.int .i64 (a.fdiv (2^(min b.toNat 64)))):=rfl
theorem xX9 {x:Int} (h:0<=x) (h2:x<=18446744073709551615):ze2 .xor .u64 x 0=x:=by
 obtain⟨m,rfl⟩:=E5 h
 show IntKind.u64.wrap ((BitVec.ofInt 64 (m:Int)^^^BitVec.ofInt 64 0).toNat:Int)=m
 have e:BitVec.ofInt 64 (0:Int)=0#64:=rfl
 rw[e,BitVec.xor_zero,BitVec.ofInt_natCast,BitVec.toNat_ofNat,Ch (by omega)]
 exact u64_id (by omega) (by omega)
theorem xY0 {x:Int} (h:0<=x) (h2:x<=18446744073709551615):ze2 .xor .u64 x 18446744073709551615=18446744073709551615 - x:=by
 obtain⟨m,rfl⟩:=E5 h
 show IntKind.u64.wrap ((BitVec.ofInt 64 (m:Int)^^^BitVec.ofInt 64 18446744073709551615).toNat:Int)=_
 have e:BitVec.ofInt 64 (18446744073709551615:Int)=BitVec.allOnes 64:=by decide+kernel
 rw[e,BitVec.xor_allOnes,BitVec.ofInt_natCast,BitVec.toNat_not,BitVec.toNat_ofNat,Ch (by omega)]
 rw[u64_id (by omega) (by omega)]
 omega
theorem xU4 (n:Int) (hn:i64R n):Pure prog 174 [.int .i64 n] (.int .u64 (zigF n)):=by
 refine iW 0 func174 ntmps174 results174 fun c hc hb=>zN ?_
 unfold i64R at hn
 rcases Int.lt_or_le n 0 with h|h
 .have e1:IntKind.u64.wrap n=n+18446744073709551616:=by rw[IntKind.wrap_u64];omega
  have e2:IntKind.u64.wrap ((n+18446744073709551616)*2)=2*n+18446744073709551616:=by rw[IntKind.wrap_u64];omega
  have e3:n.fdiv 9223372036854775808= -1:=by rw[Co _ (by omega)];omega
  have e4:IntKind.u64.wrap (-1)=18446744073709551615:=by decide+kernel
  have e5:ze2 .xor .u64 (2*n+18446744073709551616) 18446744073709551615=((zigF n:Nat):Int):=by
   rw[xY0 (by omega) (by omega),zigF,if_neg (by omega)];omega
  simp[go_sem,e1,e2,xM3,e3,e4,e5]
  exact zQ (zC rfl) ⟨rfl,rfl⟩
 .have e1:IntKind.u64.wrap n=n:=u64_id h (by omega)
  have e2:IntKind.u64.wrap (n*2)=2*n:=by rw[u64_id (by omega) (by omega)];omega
  have e3:n.fdiv 9223372036854775808=0:=by rw[Co _ (by omega)];omega
  have e4:IntKind.u64.wrap 0=0:=u64_id (by omega) (by omega)
  have e5:ze2 .xor .u64 (2*n) 0=((zigF n:Nat):Int):=by
   rw[xX9 (by omega) (by omega),zigF,if_pos h];omega
  simp[go_sem,e1,e2,xM3,e3,e4,e5]
  exact zQ (zC rfl) ⟨rfl,rfl⟩
end Go.Proofs.YtkigddpaonhmlaaGreat.R
