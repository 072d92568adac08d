/-
  TxnPushes: who meets a lock asks its home, settles it, and asks again what it asked; used by the theorem at the end of the claim.
  Conditions: as each theorem states them.
-/
import Derived.Test.YtplackkccmeioaaGreatKCAH
import Derived.Test.YtplackkccmeioaaGreatKCAE
import Derived.Test.YtplackkccmeioaaGreatKCAR
set_option maxHeartbeats 8000000
namespace Go.Proofs.YtplackkccmeioaaGreat
open Go Go.Vx Go.Proofs.Tryz
set_option maxRecDepth 100000
theorem yK3 (a b:List ca) (ha:a.length<=100000) (ae:b.length<=100000):Pure prog 125 [.sl .ro (a.map ca.row),.sl .ro (b.map ca.row)] (.bool (decide (a=b))):=by
 obtain⟨M,hM⟩:=eX (decide (a=b))
 rw[hM]
 have ret: ∀(r:Bool) (I:St),r=M->cx (some (.bool r)) 0 (λr s=>r= .bool M/\s= []) I:=λr I h=>by subst h;exact wR
 refine iV 0 func125 ntmps125 results125 λc hc hb=> ?_
 by_cases ql:a.length=b.length
 rotate_left
 .have aa:((a.length:Int) !=b.length)=true:=by simp;omega
  refine zA ?_
  simp[go_sem,aa]
  exact ret _ _ (by rw[<-hM];exact(aiw λh=>ql (by rw[h])).symm)
 have aa:((a.length:Int) !=b.length)=false:=by simp;omega
 refine zA ?_
 simp[go_sem,aa]
 refine zH (S:=Nat) [0,1,12,13] (λi=> [.sl .ro (a.map ca.row),.sl .ro (b.map ca.row),.int .i64 a.length,.int .i64 (i:Int)]) (λ_=> []) (λi=>a.length - i) (λi=>i<=a.length/\a.take i=b.take i) hc hb 0 ⟨A3 _,sm⟩ ?_ ?_
 .exact aO
 rintro i ⟨hi,ht⟩
 by_cases q:i<a.length
 rotate_left
 .refine zA ?_
  simp[go_sem,q]
  exact ret _ _ (by rw[<-hM,Aa om,Aa om]at*;exact(aix ht).symm)
 have q2:i<b.length:=om
 have ei:=zQ q om
 obtain⟨x,hx⟩:=eX (a[i])
 obtain⟨y,hy⟩:=eX (b[i])
 by_cases e:x=y
 .have ab:a.take (i+1)=b.take (i+1):=by rw[Ai q,Ai q2,hx,hy,ht,e]
  subst e
  refine zA ?_
  simp[go_sem,q]
  refine yE [] 0 rfl kR kR ?_
  simp[go_sem,q,q2,hx,hy,ei]
  exact zI (i+1) ⟨om,⟨om,ab⟩,aO⟩
 .have ad:decide (a=b)=false:=aiw λh=>e (by subst h;rw[<-hx,<-hy])
  have e2:(x.lo==y.lo&&x.hi==y.hi)=false:=by
   obtain⟨x1,x2⟩:=x
   obtain⟨y1,y2⟩:=y
   simp at e⊢
   exact e
  refine zA ?_
  simp[go_sem,q]
  refine yE [] 0 rfl kR kR ?_
  simp[go_sem,q,q2,hx,hy,e2]
  exact ret _ _ (by rw[<-hM,ad])
theorem yz4 (a b:List dE) (ha:a.length<=100000) (ae:b.length<=100000):Pure prog 126 [.sl .ro (a.map dE.row),.sl .ro (b.map dE.row)] (.bool (decide (a=b))):=by
 obtain⟨M,hM⟩:=eX (decide (a=b))
 rw[hM]
 have ret: ∀(r:Bool) (I:St),r=M->cx (some (.bool r)) 0 (λr s=>r= .bool M/\s= []) I:=λr I h=>by subst h;exact wR
 refine iV 0 func126 ntmps126 results126 λc hc hb=> ?_
 by_cases ql:a.length=b.length
 rotate_left
 .have aa:((a.length:Int) !=b.length)=true:=by simp;omega
  refine zA ?_
  simp[go_sem,aa]
  exact ret _ _ (by rw[<-hM];exact(aiw λh=>ql (by rw[h])).symm)
 have aa:((a.length:Int) !=b.length)=false:=by simp;omega
 refine zA ?_
 simp[go_sem,aa]
 refine zH (S:=Nat) [0,1,12,13] (λi=> [.sl .ro (a.map dE.row),.sl .ro (b.map dE.row),.int .i64 a.length,.int .i64 (i:Int)]) (λ_=> []) (λi=>a.length - i) (λi=>i<=a.length/\a.take i=b.take i) hc hb 0 ⟨A3 _,sm⟩ ?_ ?_
 .exact aO
 rintro i ⟨hi,ht⟩
 by_cases q:i<a.length
 rotate_left
 .refine zA ?_
  simp[go_sem,q]
  exact ret _ _ (by rw[<-hM,Aa om,Aa om]at*;exact(aix ht).symm)
 have q2:i<b.length:=om
 have ei:=zQ q om
 obtain⟨x,hx⟩:=eX (a[i])
 obtain⟨y,hy⟩:=eX (b[i])
 by_cases e:x=y
 .have ab:a.take (i+1)=b.take (i+1):=by rw[Ai q,Ai q2,hx,hy,ht,e]
  subst e
  refine zA ?_
  simp[go_sem,q]
  refine yE [] 0 rfl kR kR ?_
  simp[go_sem,q,q2,hx,hy,ei]
  exact zI (i+1) ⟨om,⟨om,ab⟩,aO⟩
 .have ad:decide (a=b)=false:=aiw λh=>e (by subst h;rw[<-hx,<-hy])
  have e2:(x.key==y.key&&(x.drop==y.drop&&x.data==y.data))=false:=by
   obtain⟨x1,x2,x3⟩:=x
   obtain⟨y1,y2,y3⟩:=y
   simp at e⊢
   exact e
  refine zA ?_
  simp[go_sem,q]
  refine yE [] 0 rfl kR kR ?_
  simp[go_sem,q,q2,hx,hy,e2]
  exact ret _ _ (by rw[<-hM,ad])
theorem WL (rows:List (List V)) (hl:rows.length<=100000) (hu:eI 2 rows):Pure prog 76 [.sl .ro rows] (.sl .ro rows):=by
 refine iV 0 func76 ntmps76 results76 λc hc hb=> ?_
 refine zA ?_
 by_cases hp:0<rows.length
 .simp[go_sem,hp]
  refine zJ ⟨om,by simp[eI],hu⟩ ?_
  simp[go_sem]
  exact zW zK ⟨rfl,rfl⟩
 .obtain rfl:rows= []:=As om
  simp[go_sem]
  refine JB (λb=> ?_)
  cases b
  .simp[go_sem]
   refine zJ (λr h=>by cases h) ?_
   simp[go_sem]
   exact zW zK ⟨rfl,rfl⟩
  .simp[go_sem]
   exact zW zK ⟨rfl,rfl⟩
theorem WM (rows:List (List V)) (hl:rows.length<=100000) (hu:eI 3 rows):Pure prog 77 [.sl .ro rows] (.sl .ro rows):=by
 refine iV 0 func77 ntmps77 results77 λc hc hb=> ?_
 refine zA ?_
 by_cases hp:0<rows.length
 .simp[go_sem,hp]
  refine zJ ⟨om,by simp[eI],hu⟩ ?_
  simp[go_sem]
  exact zW zK ⟨rfl,rfl⟩
 .obtain rfl:rows= []:=As om
  simp[go_sem]
  refine JB (λb=> ?_)
  cases b
  .simp[go_sem]
   refine zJ (λr h=>by cases h) ?_
   simp[go_sem]
   exact zW zK ⟨rfl,rfl⟩
  .simp[go_sem]
   exact zW zK ⟨rfl,rfl⟩
theorem WN (rows:List (List V)) (hl:rows.length<=100000) (hu:eI 2 rows):Pure prog 81 [.sl .ro rows] (.sl .ro rows):=by
 refine iV 0 func81 ntmps81 results81 λc hc hb=> ?_
 refine zA ?_
 by_cases hp:0<rows.length
 .simp[go_sem,hp]
  refine zJ ⟨om,by simp[eI],hu⟩ ?_
  simp[go_sem]
  exact zW zK ⟨rfl,rfl⟩
 .obtain rfl:rows= []:=As om
  simp[go_sem]
  refine JB (λb=> ?_)
  cases b
  .simp[go_sem]
   refine zJ (λr h=>by cases h) ?_
   simp[go_sem]
   exact zW zK ⟨rfl,rfl⟩
  .simp[go_sem]
   exact zW zK ⟨rfl,rfl⟩
theorem xW8 (rows:List (List V)) (hl:rows.length<=100000) (hu:eI 3 rows):Pure prog 95 [.sl .ro rows] (.sl .ro rows):=by
 refine iV 0 func95 ntmps95 results95 λc hc hb=> ?_
 refine zA ?_
 by_cases hp:0<rows.length
 .simp[go_sem,hp]
  refine zJ ⟨om,by simp[eI],hu⟩ ?_
  simp[go_sem]
  exact zW zK ⟨rfl,rfl⟩
 .obtain rfl:rows= []:=As om
  simp[go_sem]
  refine JB (λb=> ?_)
  cases b
  .simp[go_sem]
   refine zJ (λr h=>by cases h) ?_
   simp[go_sem]
   exact zW zK ⟨rfl,rfl⟩
  .simp[go_sem]
   exact zW zK ⟨rfl,rfl⟩
def pG (c:iK):Prop:=c.cH.length<=100000/\c.writes.length<=100000
theorem xh3 (a b:iK) (ha:pG a) (aa:pG b):Pure prog 80 [.agg a.row,.agg b.row] (.bool (decide (a=b))):=by
 have h1:=yK3 a.cH b.cH ha.1 aa.1
 have h2:=yz4 a.writes b.writes ha.2 aa.2
 obtain⟨M,hM⟩:=eX (decide (a=b))
 rw[hM]
 have ret: ∀(r:Bool) (I:St),r=M->cx (some (.bool r)) 0 (λr s=>r= .bool M/\s= []) I:=λr I h=>by subst h;exact wR
 obtain⟨ak,ae,an,ah,⟨a1,a2,a3,a4⟩,⟨a5,a6⟩,aw,ay,ab,ad⟩:=a
 obtain⟨bk,be,bn,bh,⟨b1,b2,b3,b4⟩,⟨b5,b6⟩,bw,eO,af,ai⟩:=b
 simp only at h1 h2
 simp only[iK.mk.injEq,fy.mk.injEq,eZ.mk.injEq,Bool.decide_and]at hM
 generalize decide (ab=af)=d1 at h1 hM
 generalize decide (ad=ai)=d2 at h2 hM
 refine iW 0 func80 ntmps80 results80 λc hc hb=>zM ?_
 simp[go_sem]
 repeat' (first
  |(refine xD (λq=> ?_) (λq=> ?_)<;>simp[go_sem,q])
  |(refine pC h1 ?_;simp[go_sem])
  |(refine pC h2 ?_;simp[go_sem]))
 all_goals exact ret _ _ (by rw[<-hM];simp_all)
end Go.Proofs.YtplackkccmeioaaGreat
namespace Go.Proofs.YtplackkccmeioaaGreat
open Go Go.Vx R Go.Proofs.Tryz
set_option maxRecDepth 100000
theorem PE (e:bJ):gK (.agg e.row)=true:=by rw[bJ.bQ];rfl
theorem WO (e:bJ):gK (.agg e.row)=true/\oj (.agg e.row)=true/\e.row.map k5=e.row:=by rw[bJ.bQ];exact⟨rfl,rfl,rfl⟩
theorem WQ (e:bJ):e.row.length=6:=by rw[bJ.bQ];rfl
theorem PF: ∀(l:List bJ),l.length<=mW l
 | []=>A3 _
 |e::l=>by
  have h1:=PF l
  have h2:=KL e
  rw[mW,Ah]
  omega
theorem WR: ∀(n:Nat) (e:bJ),lW e<=n->n<=100000->Pure prog 50 [.agg e.row] (.agg e.row)
 |0,e,hn,_=>by
  have:=KL e
  omega
 |n+1,e,hn,h1=>by
  have ab:=Ee e
  have hlen:=PF e.args
  have aa:=WK 50 cB (e.args.map bJ.row) (by rw[Ag];omega) (mu WQ)
   (λr hr=>by obtain⟨x,_,rfl⟩:=Ac.1 hr;exact WO x)
   (λr hr=>by
    obtain⟨x,hx,rfl⟩:=Ac.1 hr
    have:=NT _ _ hx
    exact WR n x om om)
  obtain⟨L,hL⟩:=eX (e.args.map bJ.row)
  rw[bJ.bQ,hL]
  rw[hL]at aa
  refine iV 0 func50 ntmps50 results50 λc hc hb=> ?_
  refine zA ?_
  simp[go_sem]
  refine pC aa ?_
  simp[go_sem]
  exact wR
theorem LN (e:bJ) (he:ja e):Pure prog 50 [.agg e.row] (.agg e.row):=WR 4000 e he.size dC
theorem xf4 (x:cP) (hx:ja x.e):Pure prog 49 [.agg x.row] (.agg x.row):=by
 have h:=LN x.e hx
 refine iV 0 func49 ntmps49 results49 λc hc hb=> ?_
 refine zA ?_
 simp[go_sem]
 refine zL h cB ⟨by rw[bJ.bQ];exact zC rfl,tV⟩ (PE _) ?_
 simp[go_sem]
 exact wR
theorem xA8 (x:cp) (hx:ja x.e):Pure prog 55 [.agg x.row] (.agg x.row):=by
 have h:=LN x.e hx
 refine iV 0 func55 ntmps55 results55 λc hc hb=> ?_
 refine zA ?_
 simp[go_sem]
 refine zL h cB ⟨by rw[bJ.bQ];exact zC rfl,tV⟩ (PE _) ?_
 simp[go_sem]
 exact wR
theorem xA7 (l:List bJ) (hl:l.length<=100000) (hx: ∀x∈l,ja x):Pure prog 52 [.sl .ro (l.map bJ.row)] (.sl .ro (l.map bJ.row)):=by
 have aa:=WK 50 cB (l.map bJ.row) (by rw[Ag];exact hl) (mu WQ)
  (λr hr=>by obtain⟨x,_,rfl⟩:=Ac.1 hr;exact WO x)
  (λr hr=>by obtain⟨x,ab,rfl⟩:=Ac.1 hr;exact LN x (hx x ab))
 refine iV 0 func52 ntmps52 results52 λc hc hb=> ?_
 refine zA ?_
 simp[go_sem]
 refine pC aa ?_
 simp[go_sem]
 exact wR
theorem xf6 (st:bW) (hs:kM st):Pure prog 47 [.agg st.row] (.agg st.row):=by
 have h1:=yY7 49 cB (st.items.map cP.row) (by rw[Ag];have:=hs.items.1;omega) (mu λ_=>rfl)
  (λr hr=>by obtain⟨x,_,rfl⟩:=Ac.1 hr;exact⟨rfl,rfl,rfl⟩)
  (λr hr=>by obtain⟨x,hx,rfl⟩:=Ac.1 hr;exact xf4 x (hs.items.2 x hx).2)
 have h2:=yJ9 52 cB (st.rows.map λ(l:List bJ)=> [V.sl .ro (l.map bJ.row)]) (by rw[Ag];have:=hs.rows.1;omega) (mu λ_=>rfl)
  (λr hr=>by obtain⟨x,_,rfl⟩:=Ac.1 hr;exact⟨_,rfl⟩)
  (λr hr=>by obtain⟨x,hx,rfl⟩:=Ac.1 hr;exact xA7 x (by have:=(hs.rows.2 x hx).1;omega) (hs.rows.2 x hx).2)
 have h3:=yY6 55 cB (st.cD.map cp.row) (by rw[Ag];have:=hs.cD.1;omega) (mu λ_=>rfl)
  (λr hr=>by obtain⟨x,_,rfl⟩:=Ac.1 hr;exact⟨rfl,rfl,rfl⟩)
  (λr hr=>by obtain⟨x,hx,rfl⟩:=Ac.1 hr;exact xA8 x (hs.cD.2 x hx).2)
 have h4:=LN st.cA hs.cA
 refine iV 0 func47 ntmps47 results47 λc hc hb=> ?_
 refine zA ?_
 simp[go_sem]
 refine pC h1 ?_
 simp[go_sem]
 refine pC h2 ?_
 simp[go_sem]
 refine pC h3 ?_
 simp[go_sem]
 refine zL h4 cB ⟨by rw[bJ.bQ];exact zC rfl,tV⟩ (PE _) ?_
 simp[go_sem]
 exact wR
theorem WS (l:dU) (hl:kN l):Pure prog 21 [.agg l.row] (.agg l.row):=by
 have h1:=yY8 47 cB (l.stmts.map bW.row) (by rw[Ag];have:=hl.stmts.1;omega) (mu λ_=>rfl)
  (λr hr=>by obtain⟨x,_,rfl⟩:=Ac.1 hr;exact⟨rfl,rfl,rfl⟩)
  (λr hr=>by obtain⟨x,hx,rfl⟩:=Ac.1 hr;exact xf6 x (hl.stmts.2 x hx))
 refine iV 0 func21 ntmps21 results21 λc hc hb=> ?_
 refine zA ?_
 simp[go_sem]
 refine pC h1 ?_
 simp[go_sem]
 exact wR
def WT (a:LM):Prop:=a.2.2.length<=100000/\ ∀x∈a.2.2,x.rows.length<=100000/\ ∀r∈x.rows,r.length<=100000
theorem xA6 (o:Ot) (hl:o.rows.length<=100000/\ ∀r∈o.rows,r.length<=100000):Pure prog 93 [.agg o.row] (.agg o.row):=by
 have h1:=yY9 95 cB (o.rows.map λr=> [.sl .ro (r.map bK.row)]) (by rw[Ag];exact hl.1) (mu λ_=>rfl)
  (λr hr=>by obtain⟨x,_,rfl⟩:=Ac.1 hr;exact⟨_,rfl⟩)
  (λr hr=>by obtain⟨x,hx,rfl⟩:=Ac.1 hr;exact xW8 _ (by rw[Ag];exact hl.2 x hx) (mu λ_=>rfl))
 refine iV 0 func93 ntmps93 results93 λc hc hb=> ?_
 refine zA ?_
 simp[go_sem,Ot.row]
 refine pC h1 ?_
 simp[go_sem]
 exact wR
theorem WU (a:LM) (ha:WT a):Pure prog 45 [.agg (p7 a)] (.agg (p7 a)):=by
 have h1:=xt9 93 cB (a.2.2.map Ot.row) (by rw[Ag];exact ha.1) (mu λ_=>rfl)
  (λr hr=>by obtain⟨x,_,rfl⟩:=Ac.1 hr;exact⟨rfl,rfl,rfl⟩)
  (λr hr=>by obtain⟨x,hx,rfl⟩:=Ac.1 hr;exact xA6 x (ha.2 x hx))
 refine iV 0 func45 ntmps45 results45 λc hc hb=> ?_
 refine zA ?_
 simp[go_sem,p7]
 refine pC h1 ?_
 simp[go_sem]
 exact wR
theorem xA5 (l:ct) (hl:j5 l):Pure prog 124 [.agg l.row] (.agg l.row):=by
 have h1:=WL (l.cH.map ca.row) (by rw[Ag];exact hl.cH) (mu λ_=>rfl)
 have h2:=WM (l.writes.map dE.row) (by rw[Ag];exact hl.writes) (mu λ_=>rfl)
 have h3:=WN (l.cW.map fp.row) (by rw[Ag];have:=hl.cW.1;omega) (mu λ_=>rfl)
 refine iV 0 func124 ntmps124 results124 λc hc hb=> ?_
 refine zA ?_
 simp[go_sem]
 refine yE [(2,0),(5,0),(8,0)] 2 rfl kR kR ?_
 simp[go_sem]
 refine pD h1 ?_
 simp[go_sem]
 refine pD h2 ?_
 simp[go_sem]
 refine pD h3 ?_
 simp[go_sem]
 exact wR
theorem ur (n:Nat) (l:List ct):bS n (.cj (l.map ct.row) 11)=true:=by simp[bS,cN,cL,ct.row]
theorem IS (l:List ct):xI (l.map ct.row)=true:=by simp[xI,ct.row,pN]
theorem xt8 (l:List ct) (hl:l.length<=100000) (hg: ∀x∈l,j5 x):bN prog 123 [.sl .ro (l.map ct.row),.fn 124 []] [] (λr s=>r= .cM 0 11 l.length 0 l.length/\s= [.cj (l.map ct.row) 11]):=by
 refine iV 0 func123 ntmps123 results123 λc hc hb=> ?_
 refine zA ?_
 simp[go_sem]
 refine FQ 5 11 dC sg ?_
 refine zH (S:=Nat×List ct) [1,5,8,9,10] (λu=> [.fn 124 [],.cM 0 11 u.2.length 0 u.2.length,.sl .ro (l.map ct.row),.int .i64 l.length,.int .i64 u.1]) (λu=> [.cj (u.2.map ct.row) 11]) (λu=>l.length - u.1) (λu=>u.1<=l.length/\u.2=l.take u.1) hc hb (0,[]) ⟨A3 _,sm⟩ ?_ ?_
 .exact aN 1 rfl
 rintro⟨i,out⟩ ⟨hi,ho⟩
 simp only at hi ho
 have ad:out.length=i:=by rw[ho,Az];omega
 by_cases q:i<l.length
 rotate_left
 .have h2:out=l:=by rw[ho];exact Aa om
  refine zA ?_
  simp[go_sem,q]
  exact Hp sm ⟨by rw[h2],by rw[h2]⟩
 have ei:=zQ q om
 obtain⟨y,hy⟩:=eX (l[i])
 have aa:=xA5 y (hg y (hy▸A8 q))
 have ab:out++ [y]=l.take (i+1):=by rw[ho,Ai q,hy]
 refine zA ?_
 simp[go_sem,q,hy]
 refine pC aa ?_
 simp[go_sem,Ck]
 refine zJ ⟨zY rfl,om⟩ ?_
 simp[go_sem,ei]
 exact zI (i+1,out++ [y]) ⟨by show l.length - (i+1)<l.length - i;omega,⟨q,ab⟩,aN 1 (by rw[Bl,ur];rfl)⟩
theorem wf2 {P:Program} {c:Ctx} {I:St} {f:FuncId} {bY args cd:List V} {KV:V->St->Prop} {rows:List (List V)} {w n:Nat} (hc:bN P f cd [] λr s=>r= .cM 0 w n 0 n/\s= [.cj rows w]) (hb:xE P f) (ab:bS 0 (.cj rows w))
  (aa:bP (cT (cK [] I.length)) cd (args++bY)) (hK:KV (.cM I.length w n 0 n) (I++ [.cj rows w])):jm P c (.fn f bY) args I KV fx:=by
 refine VC.of hc hb [] C0 rfl sm aa λr s h _=> ?_
 obtain⟨rfl,rfl⟩:=h
 have e:yX [] I [.cj rows w]=I++ [.cj rows w]:=by
  simp only[yX,fI,Bh,Cs,Aj,Bq]
  rw[yY (n:=0) om ab]
 grind[dI,cK,dN,dj,du]
theorem xf5 (l:List ct) (hl:l.length<=100000) (hg: ∀x∈l,j5 x):bN prog 78 [.sl .ro (l.map ct.row)] [] (λr s=>r= .cM 0 11 l.length 0 l.length/\s= [.cj (l.map ct.row) 11]):=by
 have h:=xt8 l hl hg
 refine iV 0 func78 ntmps78 results78 λc hc hb=> ?_
 refine zA ?_
 simp[go_sem]
 refine wf2 h cB (ur 0 l) ⟨zK,zC rfl,tV⟩ ?_
 simp[go_sem]
 exact Hp sm ⟨rfl,rfl⟩
@[go_sem] def Tx.fP (t:Tx) (k:Nat):List V:= [.int .i64 t.id.node,.int .i64 t.id.eU,.int .i64 t.id.seq,.int .i64 t.id.attempt,.int .i64 t.cR.mode,.int .i64 t.cR.n,.sl .ro (t.cR.stmts.map bW.row),.int .i64 t.phase,.int .i64 t.at_.wall,.int .i64 t.at_.tie,.int .i64 t.bump,.int .i64 t.home,.cM k 11 t.bV.length 0 t.bV.length,.int .i64 t.jo.1,.int .i64 t.jo.2.1,.sl .ro (t.jo.2.2.map Ot.row)]
theorem xA9 (t:Tx) (ht:jH t):bN prog 31 [.agg t.row] [] (λr s=>r= .agg (t.fP 0)/\s= [.cj (t.bV.map ct.row) 11]):=by
 have h1:=WS t.cR ht.cR
 have h2:=WU t.jo ht.outs
 have h3:=xf5 t.bV (by have:=ht.bV;omega) ht.jW
 refine iV 0 func31 ntmps31 results31 λc hc hb=> ?_
 refine zA ?_
 simp[go_sem]
 refine yE [(2,0),(5,0),(8,3)] 2 rfl kR kR ?_
 simp[go_sem]
 refine pD h1 ?_
 simp[go_sem]
 refine pD h2 ?_
 simp[go_sem,p7]
 refine FN h3 cB ⟨zK,tV⟩ ?_
 have e:yA (cK [] 2) (.cj (t.bV.map ct.row) 11)= .cj (t.bV.map ct.row) 11:=yY (n:=0) (λi hi=>om) (ur 0 _)
 simp[go_sem,dI,dN,dj,du,GC,e]
 exact PB [2] sm rfl (s:= [.cj (t.bV.map ct.row) 11]) ⟨by simp[yY (n:=0) (ρ:=cK [2] 3) (λi hi=>om) (ur 0 t.bV)],tV⟩ (r:= .agg (t.fP 0)) (.inl (by simp[dI,dN,dj,du,cK,Tx.fP])) ⟨rfl,rfl⟩
theorem PG (t:Tx):Pure prog 22 [.agg t.row] (.agg (rE t).row):=by
 refine iV 0 func22 ntmps22 results22 λc hc hb=> ?_
 refine zA ?_
 simp[go_sem]
 exact zW (WJ (rE t) (g:= .full) (rows:= []) rfl) ⟨rfl,rfl⟩
theorem xE7 (t:Tx):Pure prog 30 [.agg t.row] (.agg (PD t).row):=by
 refine iV 0 func30 ntmps30 results30 λc hc hb=> ?_
 refine zA ?_
 simp[go_sem]
 exact zW (xD1 (PD t) (g:= .full) (k:= .full)) ⟨rfl,rfl⟩
theorem WV (t:Tx) (yes:Bool) (hl:t.bV.length<=100000):Pure prog 35 [.agg t.row,.bool yes] (.sl .ro ((GD t yes).map cU.row)):=by
 obtain⟨M,hM⟩:=eX (GD t yes)
 rw[hM]
 unfold GD at hM
 refine iV 0 func35 ntmps35 results35 λc hc hb=> ?_
 refine zA ?_
 simp[go_sem]
 refine lU 5 15 dC sg ?_
 refine zH (S:=Nat×List cU) [1,2,5,9,10,11] (λu=> [.bool yes,.ptr 0 0,.sl (.app 1) (u.2.map cU.row),.sl .ro (t.bV.map ct.row),.int .i64 t.bV.length,.int .i64 u.1]) (λu=> [.box t.row,.app u.2.length 15]) (λu=>t.bV.length - u.1) (λu=>u.1<=t.bV.length/\u.2=(t.bV.take u.1).map λx=>EH x.range t.id yes) hc hb (0,[]) ⟨A3 _,sm⟩ ?_ ?_
 .exact aN 2 (by simp[bS,cN,cL,Tx.row])
 rintro⟨i,out⟩ ⟨hi,ho⟩
 simp only at hi ho
 have ab:out.length=i:=by rw[ho,Ag,Az];omega
 by_cases q:i<t.bV.length
 rotate_left
 .have h2:out=M:=by rw[ho,<-hM,Aa om]
  refine zA ?_
  simp[go_sem,q]
  exact zW (by rw[h2];exact zK) ⟨rfl,rfl⟩
 have ei:=zQ q om
 obtain⟨y,hy⟩:=eX (t.bV[i])
 have aa:out++ [EH y.range t.id yes]=(t.bV.take (i+1)).map λx=>EH x.range t.id yes:=by rw[ho,Ai q,hy,C9];rfl
 refine zA ?_
 simp[go_sem,q,hy]
 refine zJ ⟨om,zY rfl⟩ ?_
 simp[go_sem,ei]
 exact zI (i+1,out++ [EH y.range t.id yes]) ⟨by show t.bV.length - (i+1)<t.bV.length - i;omega,⟨q,aa⟩,aM 2 (by simp[bS,cN,cL]) (zD (by simp[go_sem,EH]) rfl)⟩
def PH:cU:=⟨0,PC⟩
def lN (t:Tx) (l:ct):cU×Bool:=match jC t l with
 |some a=>(a,true)
 |none=>(PH,false)
theorem WW (t:Tx) (l:ct) (hl:j5 l):Pure prog 29 [.agg t.row,.agg l.row] (.cy [.agg (lN t l).1.row,.bool (lN t l).2]):=by
 have h1:=WL (l.cH.map ca.row) (by rw[Ag];exact hl.cH) (mu λ_=>rfl)
 have h2:=WM (l.writes.map dE.row) (by rw[Ag];exact hl.writes) (mu λ_=>rfl)
 obtain⟨a,hM⟩:=eX (lN t l)
 rw[hM]
 unfold lN jC at hM
 have ret: ∀(x:cU) (b:Bool) (I:St),(x,b)=a->cx (some (.cy [.agg x.row,.bool b])) 0 (λr s=>r= .cy [.agg a.1.row,.bool a.2]/\s= []) I:=λx b I h=>by
  subst h
  exact wR
 refine iV 0 func29 ntmps29 results29 λc hc hb=> ?_
 refine zA ?_
 by_cases s1:l.state=1
 .have aa:(l.state==1)=true:=sU s1
  rw[aiv s1]at hM
  simp[go_sem,aa]
  refine yE [(6,0)] 4 rfl kR kR ?_
  simp[go_sem]
  refine pD h1 ?_
  simp[go_sem]
  exact zW (by rw[<-hM];exact yW ⟨IP _ (g:= .ro) (k:= .full),xV rfl,tV⟩) ⟨rfl,rfl⟩
 have aa:(l.state==1)=false:=sU s1
 rw[aiu s1]at hM
 by_cases s2:l.state=2
 .have ab:(l.state==2)=true:=sU s2
  rw[aiv s2]at hM
  simp[go_sem,aa,ab]
  refine yE [(8,0)] 4 rfl kR kR ?_
  simp[go_sem]
  refine pD h2 ?_
  simp[go_sem]
  exact zW (by rw[<-hM];exact yW ⟨IP _ (g:= .full) (k:= .ro),xV rfl,tV⟩) ⟨rfl,rfl⟩
 have ab:(l.state==2)=false:=sU s2
 rw[aiu s2]at hM
 by_cases s3:l.state=3
 .have ad:(l.state==3)=true:=sU s3
  rw[aiv s3]at hM
  simp[go_sem,aa,ab,ad]
  exact zW (by rw[<-hM];exact yW ⟨IP _ (g:= .full) (k:= .full),xV rfl,tV⟩) ⟨rfl,rfl⟩
 have ad:(l.state==3)=false:=sU s3
 rw[aiu s3]at hM
 by_cases s4:l.state=4
 .have ae:(l.state==4)=true:=sU s4
  rw[aiv s4]at hM
  simp[go_sem,aa,ab,ad,ae]
  exact zW (by rw[<-hM];exact yW ⟨IP _ (g:= .full) (k:= .full),xV rfl,tV⟩) ⟨rfl,rfl⟩
 have ae:(l.state==4)=false:=sU s4
 rw[aiu s4]at hM
 simp[go_sem,aa,ab,ad,ae]
 exact zW (by rw[<-hM];exact yW ⟨IP _ (g:= .full) (k:= .full),xV rfl,tV⟩) ⟨rfl,rfl⟩
def BK (t:Tx) (l:List ct):List cU:=l.filterMap (jC t)
theorem xs5 (t:Tx) (l:ct):BK t [l]=if(lN t l).2=true then [(lN t l).1]else []:=by
 unfold BK lN
 rw[List.filterMap_cons]
 cases jC t l<;>simp
theorem PL (t:Tx) (hl:t.bV.length<=100000) (hg: ∀x∈t.bV,j5 x):Pure prog 11 [.agg t.row] (.sl .ro ((la t).map cU.row)):=by
 obtain⟨M,hM⟩:=eX (la t)
 rw[hM]
 unfold la at hM
 have ad:=xE7 t
 by_cases hp:t.phase=1\/t.phase=2
 .rw[aiv hp]at hM
  have ae: ∀i (h:i<t.bV.length),BK t (t.bV.take (i+1))=BK t (t.bV.take i)++BK t [t.bV[i]]:=λi h=>by
   unfold BK
   rw[Ai h,List.filterMap_append]
  have af:((t.phase==1)=true/\(t.phase==1)=true)\/((t.phase==1)=false/\(t.phase==2)=true):=by
   rcases hp with hp|hp<;>rw[hp]
   .exact .inl ⟨rfl,rfl⟩
   .exact .inr ⟨rfl,rfl⟩
  refine iV 0 func11 ntmps11 results11 λc hc hb=> ?_
  rcases af with ⟨h0,h1⟩|⟨h0,h1⟩
  all_goals
   refine zA ?_
   simp[go_sem,h0,h1]
   refine lU 3 15 dC sg ?_
   refine zH (S:=Nat×List cU) [1,3,14,15,16] (λu=> [.ptr 0 0,.sl (.app 1) (u.2.map cU.row),.sl .ro (t.bV.map ct.row),.int .i64 t.bV.length,.int .i64 u.1]) (λu=> [.box t.row,.app u.2.length 15]) (λu=>t.bV.length - u.1) (λu=>u.1<=t.bV.length/\u.2.length<=u.1/\u.2=BK t (t.bV.take u.1)) hc hb (0,[]) ⟨A3 _,A7 _,by simp[BK]⟩ ?_ ?_
   .exact aN 2 (by simp[bS,cN,cL,Tx.row])
   rintro⟨i,out⟩ ⟨hi,ah,ho⟩
   simp only at hi ah ho
   by_cases q:i<t.bV.length
   rotate_left
   .have h2:out=M:=by rw[ho,<-hM,Aa om];rfl
    refine zA ?_
    simp[go_sem,q]
    exact zW (by rw[h2];exact zK) ⟨rfl,rfl⟩
   have ei:=zQ q om
   have aa:=ae i q
   rw[<-ho]at aa
   obtain⟨y,hy⟩:=eX (t.bV[i])
   have ab:=WW t y (hg y (hy▸A8 q))
   rw[hy,xs5]at aa
   obtain⟨⟨a,b⟩,ai⟩: ∃p,lN t y=p:=⟨_,rfl⟩
   rw[ai]at ab aa
   simp only at ab aa
   refine zA ?_
   simp[go_sem,q,hy]
   refine pC ab ?_
   cases b with
   |true=>
    rw[aiv rfl]at aa
    simp[go_sem]
    refine zJ ⟨om,zY rfl⟩ ?_
    simp[go_sem,ei]
    exact zI (i+1,out++ [a]) ⟨by show t.bV.length - (i+1)<t.bV.length - i;omega,⟨q,by show(out++ [a]).length<=i+1;simp;omega,aa.symm⟩,aN 2 (by simp[bS,cN,cL])⟩
   |false=>
    rw[aiu dC,Ay]at aa
    simp[go_sem,ei]
    exact zI (i+1,out) ⟨by show t.bV.length - (i+1)<t.bV.length - i;omega,⟨q,by show out.length<=i+1;omega,aa.symm⟩,aN 2 (by simp[bS,cN,cL])⟩
 rw[aiu hp]at hM
 have h1:(t.phase==1)=false:=by simp;omega
 have h2:(t.phase==2)=false:=by simp;omega
 by_cases p3:t.phase=3
 .have h3:(t.phase==3)=true:=sU p3
  rw[aiv p3]at hM
  refine iV 0 func11 ntmps11 results11 λc hc hb=> ?_
  refine zA ?_
  simp[go_sem,h1,h2,h3]
  refine pC ad ?_
  simp[go_sem]
  refine zJ ⟨by simp[eI],zY rfl⟩ ?_
  simp[go_sem]
  exact zW (r:= .sl .ro (M.map cU.row)) (by rw[<-hM];exact zK) ⟨rfl,rfl⟩
 .have h3:(t.phase==3)=false:=sU p3
  rw[aiu p3]at hM
  refine iV 0 func11 ntmps11 results11 λc hc hb=> ?_
  refine zA ?_
  simp[go_sem,h1,h2,h3]
  exact zW (r:= .sl .ro (M.map cU.row)) (by rw[<-hM];exact zK) ⟨rfl,rfl⟩
theorem WX (a b:cU) (ha:pG a.cmd) (aa:pG b.cmd):Pure prog 34 [.agg a.row,.agg b.row] (.bool (decide (a=b))):=by
 have h:=xh3 a.cmd b.cmd ha aa
 have hM:decide (a=b)=(a.range==b.range&&decide (a.cmd=b.cmd)):=by
  obtain⟨a1,a2⟩:=a
  obtain⟨b1,b2⟩:=b
  simp
  rfl
 rw[hM]
 generalize decide (a.cmd=b.cmd)=d at h⊢
 obtain⟨M,hM⟩:=eX ((a.range==b.range&&d))
 rw[hM]
 have ret: ∀(r:Bool) (I:St),r=M->cx (some (.bool r)) 0 (λr s=>r= .bool M/\s= []) I:=λr I h=>by subst h;exact wR
 refine iW 0 func34 ntmps34 results34 λc hc hb=>zM ?_
 simp[go_sem]
 refine xD (λq=> ?_) (λq=> ?_)<;>simp[go_sem,q]
 .refine pC h ?_
  simp[go_sem]
  exact ret _ _ (by rw[<-hM];simp_all)
 .exact ret _ _ (by rw[<-hM];simp_all)
theorem IT (n:Nat) (a:cU):bS n (.box a.row)=true:=by simp[bS,cN,cL,cU.row]
theorem xO8 (a x:cU) (ha:pG a.cmd) (hx:pG x.cmd):bN prog 33 [.agg x.row,.ptr 0 0] [.box a.row] (λr I=>r= .bool (decide (x=a))/\I= [.box a.row]):=by
 have h:=WX x a hx ha
 refine iW 1 func33 ntmps33 results33 λc hc hb=>zM ?_
 simp[go_sem]
 refine pC h ?_
 simp[go_sem]
 exact yZ 1 rfl rfl (by simp[bS,cN,cL]) (A7 _) (zC rfl) ⟨rfl,rfl⟩
theorem xI7 (a:cU) (ha:pG a.cmd) (l:List cU) (hl:l.length<=100000) (hx: ∀x∈l,pG x.cmd):bN prog 79 [.sl .ro (l.map cU.row),.fn 33 [.ptr 0 0]] [.box a.row] (λr I=>r= .int .i64 (xU (λy=>decide (y=a)) l 0)/\I= [.box a.row]):=by
 generalize hM:xU (λy:cU=>decide (y=a)) l 0=M
 have ret: ∀(r:Int) (I:St),r=M->cx (some (.int .i64 r)) 1 (λr s=>r= .int .i64 M/\s= [.box a.row]) (.box a.row::I):=λr I h=>by subst h;exact yZ 1 rfl rfl (by simp[bS,cN,cL,cU.row]) (A7 _) (zC rfl) ⟨rfl,rfl⟩
 refine iV 1 func79 ntmps79 results79 λc hc hb=> ?_
 refine zA ?_
 simp[go_sem]
 refine zH (S:=Nat) [0,1,6,7,8] (λi=> [.sl .ro (l.map cU.row),.fn 33 [.ptr 0 0],.sl .ro (l.map cU.row),.int .i64 l.length,.int .i64 (i:Int)]) (λ_=> [.box a.row]) (λi=>l.length - i)
  (λi=>i<=l.length/\xU (λy=>decide (y=a)) (l.drop i) i=M) hc hb 0 ⟨A3 _,hM⟩ ?_ ?_
 .exact aN 1 (by simp[bS,cN,cL,cU.row])
 rintro i ⟨hi,hinv⟩
 by_cases q:i<l.length
 rotate_left
 .rw[A9 om]at hinv
  refine zA ?_
  simp[go_sem,q]
  exact ret _ _ hinv
 have ei:=zQ q om
 obtain⟨y,hy⟩:=eX (l[i])
 rw[A5 q,hy,xU]at hinv
 have aa:=xO8 a y ha (hx y (hy▸A8 q))
 generalize decide (y=a)=b at aa hinv
 refine zA ?_
 simp[go_sem,q,hy]
 refine mw 0 aa cB rfl (IT 0 a) ⟨zC rfl,.inl rfl,tV⟩ (λr I h=>⟨_,h.2,IT 0 a⟩) ?_
 rintro r o2 ⟨rfl,h2⟩
 obtain rfl:o2= .box a.row:=sU h2
 refine(A6 b).elim (λp=> ?_) (λp=> ?_)
 .rw[aiv p]at hinv
  simp[go_sem,p]
  exact ret _ _ hinv
 .rw[aiu (by rw[p];decide)]at hinv
  simp[go_sem,p,ei]
  exact zI (i+1) ⟨om,⟨om,hinv⟩,aN 1 (by simp[bS,cN,cL])⟩
theorem xI4 (a:cU) (ha:pG a.cmd) (l:List cU) (hl:l.length<=100000) (hx: ∀x∈l,pG x.cmd):bN prog 32 [.sl .ro (l.map cU.row),.fn 33 [.ptr 0 0]] [.box a.row] (λr I=>r= .bool (l.any λy=>decide (y=a))/\I= [.box a.row]):=by
 have h:=xI7 a ha l hl hx
 have hg:=Ev (λy:cU=>decide (y=a)) l 0
 rw[<-hg]
 generalize xU (λy:cU=>decide (y=a)) l 0=n at h⊢
 refine iW 1 func32 ntmps32 results32 λc hc hb=>zM ?_
 simp[go_sem]
 refine mw 0 h cB rfl (IT 0 a) ⟨zC rfl,.inl (by simp[dI,dN,dj,du,cK]),tV⟩ (λr I h=>⟨_,h.2,IT 0 a⟩) ?_
 rintro r o2 ⟨rfl,h2⟩
 obtain rfl:o2= .box a.row:=sU h2
 simp[go_sem]
 exact yZ 1 rfl rfl (by simp[bS,cN,cL]) (A7 _) (zC rfl) ⟨rfl,rfl⟩
theorem xO9 (x:ct):Pure prog 39 [.agg x.row] (.bool (x.state !=5)):=by
 refine iW 0 func39 ntmps39 results39 λc hc hb=>zM ?_
 simp[go_sem]
 exact wR
theorem xI8 (l:List ct) (hl:l.length<=100000):Pure prog 83 [.sl .ro (l.map ct.row),.fn 39 []] (.int .i64 (xU (λy=>y.state !=5) l 0)):=by
 generalize hM:xU (λy:ct=>y.state !=5) l 0=M
 have ret: ∀(r:Int) (I:St),r=M->cx (some (.int .i64 r)) 0 (λr s=>r= .int .i64 M/\s= []) I:=λr I h=>by subst h;exact wR
 refine iV 0 func83 ntmps83 results83 λc hc hb=> ?_
 refine zA ?_
 simp[go_sem]
 refine zH (S:=Nat) [0,1,6,7,8] (λi=> [.sl .ro (l.map ct.row),.fn 39 [],.sl .ro (l.map ct.row),.int .i64 l.length,.int .i64 (i:Int)]) (λ_=> []) (λi=>l.length - i)
  (λi=>i<=l.length/\xU (λy=>y.state !=5) (l.drop i) i=M) hc hb 0 ⟨A3 _,hM⟩ ?_ ?_
 .exact aN 0 sm
 rintro i ⟨hi,hinv⟩
 by_cases q:i<l.length
 rotate_left
 .rw[A9 om]at hinv
  refine zA ?_
  simp[go_sem,q]
  exact ret _ _ hinv
 have ei:=zQ q om
 obtain⟨y,hy⟩:=eX (l[i])
 rw[A5 q,hy,xU]at hinv
 have aa:=xO9 y
 generalize (y.state !=5)=b at aa hinv
 refine zA ?_
 simp[go_sem,q,hy]
 refine pC aa ?_
 refine(A6 b).elim (λp=> ?_) (λp=> ?_)
 .rw[aiv p]at hinv
  simp[go_sem,p]
  exact ret _ _ hinv
 .rw[aiu (by rw[p];decide)]at hinv
  simp[go_sem,p,ei]
  exact zI (i+1) ⟨om,⟨om,hinv⟩,aN 0 sm⟩
theorem xI5 (l:List ct) (hl:l.length<=100000):Pure prog 38 [.sl .ro (l.map ct.row),.fn 39 []] (.bool (l.any λy=>y.state !=5)):=by
 have h:=xI8 l hl
 have hg:=Ev (λy:ct=>y.state !=5) l 0
 rw[<-hg]
 generalize xU (λy:ct=>y.state !=5) l 0=n at h⊢
 refine iW 0 func38 ntmps38 results38 λc hc hb=>zM ?_
 simp[go_sem]
 refine pC h ?_
 simp[go_sem]
 exact wR
theorem PM (w n:Int) (hw:cI w) (hn:0<=n/\n<=100):Pure prog 82 [.int .i64 w,.int .i64 n] (.int .i64 (uo w n)):=by
 unfold cI at hw
 have e1:IntKind.i64.wrap (4611686018427387904 - n)=4611686018427387904 - n:=bX om om
 have e2:IntKind.i64.wrap (uo w n)=uo w n:=bX (by unfold uo mn;split<;>omega) (by unfold uo mn;split<;>omega)
 unfold uo mn at e2⊢
 refine iW 0 func82 ntmps82 results82 λc hc hb=>zM ?_
 simp[go_sem,e1]
 simp[e2]
 exact wR
theorem WY (t:Tx) (ht:jH t) (wall:Int):Pure prog 19 [.agg t.row,.int .i64 wall] (if t.phase=4/\t.at_.wall<=wall then .cy [.agg (p7 t.jo),.bool true]else .cy [.agg (p7 (0,0,[])),.bool false]):=by
 have h:=WU t.jo ht.outs
 obtain⟨M,hM⟩: ∃M,(if t.phase=4/\t.at_.wall<=wall then V.cy [.agg (p7 t.jo),.bool true]else .cy [.agg (p7 (0,0,[])),.bool false])=M:=⟨_,rfl⟩
 rw[hM]
 refine iV 0 func19 ntmps19 results19 λc hc hb=> ?_
 refine zA ?_
 by_cases q1:t.phase=4
 .have aa:(t.phase !=4)=false:=sU q1
  by_cases q2:t.at_.wall<=wall
  .have ab:decide (wall<t.at_.wall)=false:=by simp;omega
   rw[aiv ⟨q1,q2⟩]at hM
   simp[go_sem,aa,ab]
   refine pC h ?_
   simp[go_sem,p7]
   exact zW (r:=M) (by rw[<-hM];exact zC rfl) ⟨rfl,rfl⟩
  .have ab:decide (wall<t.at_.wall)=true:=by simp;omega
   rw[aiu (λh=>q2 h.2)]at hM
   simp[go_sem,aa,ab]
   exact zW (r:=M) (by rw[<-hM];exact yW ⟨wW ⟨zF rfl,zF rfl,zX,tV⟩,xV rfl,tV⟩) ⟨rfl,rfl⟩
 .have aa:(t.phase !=4)=true:=sU q1
  rw[aiu (λh=>q1 h.1)]at hM
  simp[go_sem,aa]
  exact zW (r:=M) (by rw[<-hM];exact yW ⟨wW ⟨zF rfl,zF rfl,zX,tV⟩,xV rfl,tV⟩) ⟨rfl,rfl⟩
structure fa (r:dm):Prop where
 cW:r.cW.length<=1000/\ ∀p∈r.cW,p.data.length<=cG
 wall:cI r.wall
 at_:cI r.at_.wall
def fR (t:Tx) (n:Nat) (l:List ct):St:= [.box (t.eH (.cM 1 11 n 0 n)),.cj (l.map ct.row) 11]
def EI (t:Tx) (l:List ct) (i:Nat) (x:dm) (o:ct×Int×Bool×Bool) (r:V) (I:St):Prop:=
 r= .cy [.int .i64 o.2.1,.bool o.2.2.1]/\I=(if o.2.2.2=true then [.box (rE {t with jo:=(x.err,0,[])}).row,.cj (l.map ct.row) 11]else fR t l.length (l.set i o.1))
theorem xZ9 (t:Tx) (n k:Nat) (l:List ct) (hk:2<=k):(fR t n l).all (bS k)=true:=by
 have:1<k:=om
 simp[fR,bS,cN,cL,ct.row,Tx.eH,this]
theorem xT3 (t:Tx) (n:Nat) (rows:List (List V)) (hr:bS 0 (.cj rows 11)):bN prog 22 [.agg (t.eH (.cM 0 11 n 0 n))] [.cj rows 11] (λr s=>r= .agg (rE t).row/\s= [.cj rows 11]):=by
 refine iV 1 func22 ntmps22 results22 λc hc hb=> ?_
 refine zA ?_
 simp[go_sem]
 exact yZ (s:= [.cj rows 11]) 1 rfl rfl (by simp only[Bl,D4,Db];exact J5 (A3 _) hr) (A7 _) (WJ (rE t) (g:= .full) (rows:= []) rfl) ⟨rfl,rfl⟩
theorem ws8 (t:Tx) (l:List ct) (i:Nat) (hi:i<l.length) (x:dm) (hx:fa x):
  bN prog 37 [.ptr 0 0,.iQ 1 11 l.length i 0,.agg x.row] (fR t l.length l) (EI t l i x (ig t.phase l[i] x)):=by
 have aw:=PM x.wall 1 hx.wall om
 have av:=PM x.wall 24 hx.wall om
 have ax:=PM x.at_.wall 1 hx.at_ om
 have ay:=WN (x.cW.map fp.row) (by rw[Ag];have:=hx.cW.1;omega) (mu λ_=>rfl)
 have az:=xT3 {t with jo:=(x.err,0,[])} l.length (l.map ct.row) (ur 0 l)
 obtain⟨y,hy⟩:=eX (l[i])
 rw[hy]
 have a1:(l.map ct.row)[i]? =some y.row:=by rw[B6,A0 hi,hy];rfl
 have a6:(l.map ct.row).getD i []=y.row:=by rw[Al,a1];rfl
 obtain⟨o,hM⟩:=eX (ig t.phase y x)
 rw[hM]
 unfold ig at hM
 have ret: ∀(b:Int) (g:Bool) (l':ct) (rows:List (List V)) (I:St),(l',b,g,false)=o->rows=(l.set i l').map ct.row->cx (some (.cy [.int .i64 b,.bool g])) 2 (EI t l i x o) (.box (t.eH (.cM 1 11 l.length 0 l.length)):: .cj rows 11::I):=λb g l' rows I h hr=>by
  subst h
  subst hr
  exact mV 2 rfl (xZ9 t l.length 2 (l.set i l') (A7 _)) (A7 _) (zC rfl) ⟨rfl,by rw[aiu sm];rfl⟩
 have same:l.map ct.row=(l.set i y).map ct.row:=by rw[<-hy,List.set_getElem_self]
 refine iV 2 func37 ntmps37 results37 λc hc hb=> ?_
 refine zA ?_
 by_cases s3:y.state=3
 .have ad:(y.state==3)=true:=sU s3
  have ae:(y.state==4)=false:=by rw[s3];rfl
  by_cases e0:x.err=0
  .have aa:(x.err==0)=true:=sU e0
   rw[aiv ⟨s3,e0⟩]at hM
   simp[go_sem,fR,hi,hy,ad,aa]
   refine wJ [(6,3),(9,3)] 2 3 sm kR kR ?_
   simp[go_sem,hi,hy]
   exact ret _ _ {y with state:=4,yes:=x.yes} _ _ hM (by simp[ct.row])
  .have aa:(x.err==0)=false:=sU e0
   rw[aiu (λh=>e0 h.2),aiu (λh=>e0 h.2),aiv (.inl s3)]at hM
   simp[go_sem,fR,hi,hy,ad,ae,aa]
   exact ret _ _ y _ _ hM same
 have ad:(y.state==3)=false:=sU s3
 rw[aiu (λh=>s3 h.1)]at hM
 by_cases s4:y.state=4
 .have ae:(y.state==4)=true:=sU s4
  by_cases e0:x.err=0
  .have aa:(x.err==0)=true:=sU e0
   rw[aiv ⟨s4,e0⟩]at hM
   by_cases p2:t.phase=2
   .have au:(t.phase==2)=true:=sU p2
    rw[aiv p2]at hM
    simp[go_sem,fR,hi,hy,ad,ae,aa,au]
    exact ret _ _ {y with state:=2,eO:=zT,home:=0,yes:=false} _ _ hM (by simp[ct.row,zT])
   .have au:(t.phase==2)=false:=sU p2
    rw[aiu p2]at hM
    simp[go_sem,fR,hi,hy,ad,ae,aa,au]
    exact ret _ _ {y with state:=1,eO:=zT,home:=0,yes:=false} _ _ hM (by simp[ct.row,zT])
  .have aa:(x.err==0)=false:=sU e0
   rw[aiu (λh=>e0 h.2),aiv (.inr s4)]at hM
   simp[go_sem,fR,hi,hy,ad,ae,aa]
   exact ret _ _ y _ _ hM same
 have ae:(y.state==4)=false:=sU s4
 rw[aiu (λh=>s4 h.1),aiu (λh=>h.elim s3 s4)]at hM
 by_cases al:x.err=20
 .have ab:(x.err==20)=true:=sU al
  rw[aiv al]at hM
  simp[go_sem,fR,hi,hy,ad,ae,ab]
  refine wJ [(9,3),(12,3),(15,3)] 2 3 sm kR kR ?_
  simp[go_sem,hi,hy]
  exact ret _ _ {y with state:=3,eO:=x.eO,home:=x.home} _ _ hM (by simp[ct.row])
 have ab:(x.err==20)=false:=sU al
 rw[aiu al]at hM
 by_cases e0:x.err=0
 .have aa:(x.err==0)=true:=sU e0
  rw[aiv e0]at hM
  by_cases s1:y.state=1
  .have af:(y.state==1)=true:=sU s1
   rw[aiv s1]at hM
   simp[go_sem,fR,hi,hy,ad,ae,ab,aa,af]
   refine pC ay ?_
   simp[go_sem,hi,hy]
   exact ret _ _ {y with state:=5,cW:=x.cW} _ _ hM (by simp[ct.row])
  .have af:(y.state==1)=false:=sU s1
   rw[aiu s1]at hM
   simp[go_sem,fR,hi,hy,ad,ae,ab,aa,af]
   exact ret _ _ {y with state:=5,cW:=y.cW} _ _ hM (by simp[ct.row])
 have aa:(x.err==0)=false:=sU e0
 rw[aiu e0]at hM
 by_cases s1:y.state=1
 .have af:(y.state==1)=true:=sU s1
  by_cases an:x.err=24
  .have aj:(x.err==24)=true:=sU an
   rw[aiv ⟨s1,an⟩]at hM
   simp[go_sem,fR,hi,hy,ad,ae,ab,aa,af,aj]
   refine pC aw ?_
   simp[go_sem]
   exact ret _ _ y _ _ hM same
  .have aj:(x.err==24)=false:=sU an
   rw[aiu (λh=>an h.2),aiv s1]at hM
   simp[go_sem,fR,hi,hy,ad,ae,ab,aa,af,aj]
   refine mw 1 az cB rfl (ur 0 l) ⟨wN ⟨zF rfl,zF rfl,zF rfl,zF rfl,zF rfl,zF rfl,zX,zF rfl,zF rfl,zF rfl,zF rfl,zF rfl,.inl rfl,zF rfl,zF rfl,zX,tV⟩,tV⟩ (λr I h=>⟨_,h.2,ur 0 l⟩) ?_
   rintro r o2 ⟨rfl,h2⟩
   obtain rfl:o2= .cj (l.map ct.row) 11:=sU h2
   simp[go_sem]
   subst hM
   exact mV 2 rfl (by simp[bS,cN,cL,ct.row]) (A7 _) (zC rfl) ⟨rfl,by rw[aiv rfl];rfl⟩
 have af:(y.state==1)=false:=sU s1
 rw[aiu (λh=>s1 h.1),aiu s1]at hM
 by_cases ao:x.err=21
 .have ah:(x.err==21)=true:=sU ao
  rw[aiv ao]at hM
  simp[go_sem,fR,hi,hy,ad,ae,ab,aa,af,ah]
  refine pC av ?_
  simp[go_sem]
  exact ret _ _ y _ _ hM same
 have ah:(x.err==21)=false:=sU ao
 rw[aiu ao]at hM
 by_cases aq:x.err=22
 .have ai:(x.err==22)=true:=sU aq
  rw[aiv aq]at hM
  simp[go_sem,fR,hi,hy,ad,ae,ab,aa,af,ah,ai]
  refine pC ax ?_
  simp[go_sem]
  exact ret _ _ y _ _ hM same
 have ai:(x.err==22)=false:=sU aq
 rw[aiu aq]at hM
 by_cases ar:x.err=26
 .have ak:(x.err==26)=true:=sU ar
  rw[aiv ar]at hM
  simp[go_sem,fR,hi,hy,ad,ae,ab,aa,af,ah,ai,ak]
  exact ret _ _ y _ _ hM same
 have ak:(x.err==26)=false:=sU ar
 rw[aiu ar]at hM
 simp[go_sem,fR,hi,hy,ad,ae,ab,aa,af,ah,ai,ak]
 exact ret _ _ y _ _ hM same
end Go.Proofs.YtplackkccmeioaaGreat
namespace Go.Vx
open Go
section
variable {P:Program} {c:Ctx} {n0:Kp} {I:St}
theorem PN {f:FuncId} {bY args cd:List V} {fi s1:St} {v:V} {KV:V->St->Prop} (hc:bN P f cd fi (λr s=>r=v/\s=s1)) (hb:xE P f) (dg:aj0) (ab:dg.Nodup) (hlen:fi.length=dg.length)
  (ad: ∀(i j:Nat) (o:Ob),dg[i]? =some j->fi[i]? =some o->I[j]? =some (yA (cK dg I.length) o)) (aa:bP (cT (cK dg I.length)) cd (args++bY))
  (hk:KV (dI (cK dg I.length) v) (yX dg I s1)):pQ P c n0 4 (.fn f bY) args I KV fx:=by
 refine⟨_,_, ?_,om,om,by grind[FL],hk⟩
 rw[aiu dC,aiu dC]
 refine VC.of hc hb dg ab hlen ad aa ?_
 simp
end
end Go.Vx
namespace Go.Proofs.YtplackkccmeioaaGreat
open Go Go.Vx R Go.Proofs.Tryz
set_option maxRecDepth 100000
def eM:List V:= [.sl .ro xJ,.sl .ro (bO.map bL.row)]
theorem xZ8 (p:Int) (l:ct) (r:dm) (h:(ig p l r).2.2.1):(ig p l r).2.2.2=false:=by
 revert h
 unfold ig
 repeat' split
 all_goals simp
theorem PO (p:Int) {l:ct} (hl:j5 l) {r:dm} (hr:fa r):j5 (ig p l r).1:=by
 obtain⟨h1,h2,h3,h4⟩:=hl
 have h5:=hr.cW
 unfold ig
 repeat' split
 all_goals first|exact⟨h1,h2,h3,h4⟩|exact⟨h1,h2,h3,h5⟩
theorem LO {t:Tx} (hg: ∀x∈t.bV,j5 x): ∀x∈la t,pG x.cmd:=λx hx=>by
 unfold la at hx
 split at hx
 .obtain⟨l,hl,aa⟩:=List.mem_filterMap.1 hx
  have h:=hg l hl
  unfold jC at aa
  repeat' split at aa
  all_goals first|(cases aa;exact⟨h.cH,A3 _⟩)|(cases aa;exact⟨A3 _,h.writes⟩)|(cases aa;exact⟨A3 _,A3 _⟩)|cases aa
 .split at hx
  .rw[B2]at hx
   subst hx
   exact⟨A3 _,A3 _⟩
  .cases hx
theorem WZ {t:Tx}:(la t).length<=t.bV.length+1:=by
 unfold la
 split
 .have:=List.length_filterMap_le (jC t) t.bV
  omega
 .split<;>simp
theorem we3 {ρ:Nat->Nat} (t:Tx) {g:Tag} {rows:List (List V)} (h:t.bV.map ct.row=rows):nk ρ (.agg t.row) (.agg (t.eH (.sl g rows))):=by
 subst h
 unfold Tx.row Tx.eH
 exact wW ⟨zF rfl,zF rfl,zF rfl,zF rfl,zF rfl,zF rfl,zX,zF rfl,zF rfl,zF rfl,zF rfl,zF rfl,zX,zF rfl,zF rfl,zX,tV⟩
theorem PQ (l:List ct):wX (l.map ct.row) 0 l.length=l.map ct.row:=by
 have:(λr:List V=>r.map k5)∘ct.row=ct.row:=funext λx=>rfl
 simp[wX,this]
 exact Aa sm
theorem wf4 {P:Program} {c:Ctx} {I:St} {t:Tx} {f:FuncId} {bY args cd:List V} {KV:V->St->Prop} (hc:bN P f cd [] λr s=>r= .agg (t.fP 0)/\s= [.cj (t.bV.map ct.row) 11]) (hb:xE P f)
  (aa:bP (cT (cK [] I.length)) cd (args++bY)) (hK:KV (.agg (t.eH (.cM I.length 11 t.bV.length 0 t.bV.length))) (I++ [.cj (t.bV.map ct.row) 11])):jm P c (.fn f bY) args I KV fx:=by
 refine VC.of hc hb [] C0 rfl sm aa λr s h _=> ?_
 obtain⟨rfl,rfl⟩:=h
 have e:yX [] I [.cj (t.bV.map ct.row) 11]=I++ [.cj (t.bV.map ct.row) 11]:=by
  simp only[yX,fI,Bh,Cs,Aj,Bq]
  rw[yY (n:=0) om (ur 0 _)]
 have e2:dI (cK [] I.length) (.agg (t.fP 0))= .agg (t.eH (.cM I.length 11 t.bV.length 0 t.bV.length)):=by
  simp[dI,dN,dj,du,cK,Tx.fP,Tx.eH]
 rw[e,e2]
 exact hK
def mR (t:Tx) (B:cU) (r:dm) (cur:List ct):St:= [.box eM,.box t.row,.box B.row,.box r.row,.box (t.eH (.cM 5 11 t.bV.length 0 t.bV.length)),.cj (cur.map ct.row) 11]
theorem IU (t:Tx) (B:cU) (r:dm) (cur:List ct):(mR t B r cur).all (bS 6)=true:=by
 simp[mR,bS,cN,cL,ct.row,Tx.eH,Tx.row,cU.row,dm.row,eM]
theorem W0 {a b c d u l x:Ob} (t:Tx) (n:Nat) (l2:List ct):yX [4,5] [a,b,c,d,u,l,x] (fR t n l2)= [a,b,c,d,.box (t.eH (.cM 5 11 n 0 n)),.cj (l2.map ct.row) 11,x]:=by
 have e1:yA (cK [4,5] 7) (.cj (l2.map ct.row) 11)= .cj (l2.map ct.row) 11:=yY (n:=0) (λi hi=>om) (ur 0 _)
 have e2:yA (cK [4,5] 7) (.box (t.eH (.cM 1 11 n 0 n)))= .box (t.eH (.cM 5 11 n 0 n)):=by simp[yA,dj,du,cK,Tx.eH]
 simp[yX,fI,fR,e1,e2]
theorem xd1 {a b c d u l x:Ob} (t:Tx) (l2:List ct):yX [4,5] [a,b,c,d,u,l,x] [.box t.row,.cj (l2.map ct.row) 11]= [a,b,c,d,.box t.row,.cj (l2.map ct.row) 11,x]:=by
 have e1:yA (cK [4,5] 7) (.cj (l2.map ct.row) 11)= .cj (l2.map ct.row) 11:=yY (n:=0) (λi hi=>om) (ur 0 _)
 have e2:yA (cK [4,5] 7) (.box t.row)= .box t.row:=by simp[yA,dj,du,Tx.row]
 simp[yX,fI,e1,e2]
theorem PS {a b c d x:Ob} (t:Tx) (n:Nat) (l:List ct) (i j:Nat) (o:Ob) (h1: [4,5][i]? =some j) (h2:(fR t n l)[i]? =some o): [a,b,c,d,.box (t.eH (.cM 5 11 n 0 n)),.cj (l.map ct.row) 11,x][j]? =some (yA (cK [4,5] 7) o):=by
 have e1:yA (cK [4,5] 7) (.cj (l.map ct.row) 11)= .cj (l.map ct.row) 11:=yY (n:=0) (λi hi=>om) (ur 0 _)
 have e2:yA (cK [4,5] 7) (.box (t.eH (.cM 1 11 n 0 n)))= .box (t.eH (.cM 5 11 n 0 n)):=by simp[yA,dj,du,cK,Tx.eH]
 rcases i with _|_|i
 .simp[fR]at h1 h2
  subst h1 h2
  rw[e2]
  rfl
 .simp[fR]at h1 h2
  subst h1 h2
  rw[e1]
  rfl
 .simp at h1
theorem xP0 (ag:Tx->Int->Int->Tx×List cU) (ru:Tx->Tx)
  (aS: ∀t bump bT,jH t->Pure prog 36 [dJ bO,.agg t.row,.int .i64 bump,.int .i64 bT] (.cy [.agg (ag t bump bT).1.row,.sl .ro ((ag t bump bT).2.map cU.row)]))
  (bc: ∀t,jH t->Pure prog 40 [dJ bO,.agg t.row] (.agg (ru t).row))
  (t:Tx) (ht:jH t) (a:cU) (ha:pG a.cmd) (r:dm) (hr:fa r) (bT:Int):
  Pure prog 14 [dJ bO,.agg t.row,.agg a.row,.agg r.row,.int .i64 bT] (.cy [.agg (BJ ag ru t a r bT).1.row,.sl .ro ((BJ ag ru t a r bT).2.map cU.row)]):=by
 have bd:=xA9 t ht
 have bq:=ht.bV
 have av:=PL t om ht.jW
 have ao:=xI4 (lL a) ha (la t) (by have:= @WZ t;omega) (LO ht.jW)
 have ab:=WV {t with phase:=4} true (by show t.bV.length<=100000;omega)
 have aw:=aS t 0 bT ht
 obtain⟨M,hM⟩:=eX (BJ ag ru t a r bT)
 rw[hM]
 unfold BJ at hM
 obtain⟨asked,af⟩: ∃b,((la t).any λy=>decide (y=lL a))=b:=⟨_,rfl⟩
 have aT:asked=true->t.phase≠3->(t.phase==4)=false:=λh1 h3=>by
  have h4:t.phase≠4:=λh4=>by
   rw[<-af]at h1
   unfold la at h1
   rw[aiu om,aiu h3]at h1
   cases h1
  simpa using h4
 rw[af]at hM ao
 clear af
 have au:=PQ t.bV
 obtain⟨B,hB⟩:=eX (lL a)
 have aH:B.row= [.int .i64 a.range,.int .i64 a.cmd.kind,.int .i64 0,.int .i64 a.cmd.node,.int .i64 a.cmd.home,.int .i64 a.cmd.eO.node,.int .i64 a.cmd.eO.eU,.int .i64 a.cmd.eO.seq,.int .i64 a.cmd.eO.attempt,.int .i64 a.cmd.at_.wall,.int .i64 a.cmd.at_.tie,.int .i64 a.cmd.wall,.bool a.cmd.yes,.sl .ro (a.cmd.cH.map ca.row),.sl .ro (a.cmd.writes.map dE.row)]:=by rw[<-hB];rfl
 rw[hB]at ao hM
 have ax:bS 0 (.box B.row):=IT 0 B
 refine iV 0 func14 ntmps14 results14 λc hc hb=> ?_
 refine zN (zA ?_)
 simp[go_sem,dJ]
 refine zN (zA ?_)
 simp[go_sem]
 refine wf4 bd cB ⟨zC rfl,tV⟩ ?_
 simp[go_sem]
 refine zN (zA ?_)
 simp[go_sem]
 refine zN (zA ?_)
 simp[go_sem]
 refine pC av ?_
 simp[go_sem]
 refine mw 2 ao cB (by rw[aH];rfl) ax ⟨zK,.inl (by simp[dI,dN,dj,du,cK]),tV⟩ (λr I h=>⟨_,h.2,ax⟩) ?_
 rintro r2 o2 ⟨rfl,h2⟩
 obtain rfl:o2= .box B.row:=sU h2
 simp[go_sem]
 have ret: ∀(x:Tx) (y:List cU) (g gy:Tag) (rows:List (List V)) (I:St),(x,y)=M->x.bV.map ct.row=rows->cx (some (.cy [.agg (x.eH (.sl g rows)),.sl gy (y.map cU.row)])) 0 (λr s=>r= .cy [.agg M.1.row,.sl .ro (M.2.map cU.row)]/\s= []) I:=λx y g gy rows I h hr=>by
  subst h
  exact zW (r:= .cy [.agg x.row,.sl .ro (y.map cU.row)]) (yW ⟨we3 x hr,uL,tV⟩) ⟨rfl,rfl⟩
 by_cases hE: ¬asked=true\/r.err=25\/r.err=27
 .rw[aiv hE]at hM
  refine FO 5 11 (t.bV.map ct.row) rfl (IS _) ?_
  refine zA ?_
  cases asked with
  |false=>
   simp[go_sem,gk,gj,gr,fX,jM,nq,au]
   exact ret t [] _ .full _ _ hM rfl
  |true=>
   by_cases ay:r.err=25
   .have aa:(r.err==25)=true:=sU ay
    simp[go_sem,gk,gj,gr,fX,jM,nq,au,aa]
    exact ret t [] _ .full _ _ hM rfl
   .have aa:(r.err==25)=false:=sU ay
    have ae:(r.err==27)=true:=by simp at hE;simpa using hE.resolve_left ay
    simp[go_sem,gk,gj,gr,fX,jM,nq,au,aa,ae]
    exact ret t [] _ .full _ _ hM rfl
 rw[aiu hE]at hM
 obtain⟨rfl,ay,bf⟩:asked=true/\ ¬r.err=25/\ ¬r.err=27:=sU hE
 have aa:(r.err==25)=false:=sU ay
 have ae:(r.err==27)=false:=sU bf
 by_cases p3:t.phase=3
 .have az:(t.phase==3)=true:=sU p3
  rw[aiv p3]at hM
  refine FO 5 11 (t.bV.map ct.row) rfl (IS _) ?_
  refine zA ?_
  by_cases e0:r.err=0
  .have aB:(r.err !=0)=false:=sU e0
   rw[aiu (λh=>h e0)]at hM
   by_cases hy:r.yes=true
   .rw[aiv hy]at hM
    simp[go_sem,gk,gj,gr,fX,jM,nq,au,aa,ae,az,aB,hy]
    refine yE [(2,0)] 6 rfl kR kR ?_
    simp[go_sem]
    refine pD ab ?_
    simp[go_sem]
    exact ret {t with phase:=4} _ _ _ _ _ hM rfl
   .have bg:r.yes=false:=sU hy
    rw[aiu hy]at hM
    obtain⟨G,hG⟩:=eX (ag t 0 bT)
    rw[hG]at hM aw
    simp[go_sem,gk,gj,gr,fX,jM,nq,au,aa,ae,az,aB,bg]
    refine pC aw ?_
    simp[go_sem]
    exact ret G.1 G.2 _ _ _ _ hM rfl
  .have aB:(r.err !=0)=true:=sU e0
   rw[aiv e0]at hM
   simp[go_sem,gk,gj,gr,fX,jM,nq,au,aa,ae,az,aB]
   exact ret t [] _ .full _ _ hM rfl
 have az:(t.phase==3)=false:=sU p3
 rw[aiu p3]at hM
 refine ov (S:=Unit) [4,5,6,7,8,10] (λ_=> [.int .i64 bT,.ptr 0 0,.ptr 1 0,.ptr 2 0,.ptr 3 0,.ptr 4 0]) (λ_=>mR t B r t.bV) (λ_=>True) hc hb ?_ ?_
 .refine zA ?_
  simp[go_sem,aa,ae,az]
  exact zI () ⟨tV,cc 6 (by simp[go_sem,mR,eM]) rfl (IU ..) dC (zD sg rfl)⟩
 rintro _ _
 obtain⟨a1,aC⟩:=eX (mQ t B r [] t.bV)
 rw[aC]at hM
 clear av ao ab aw
 refine zN (zA ?_)
 simp[go_sem,mR]
 refine zH (S:=Nat×List ct) [4,5,6,7,8,10,74,75] (λu=> [.int .i64 bT,.ptr 0 0,.ptr 1 0,.ptr 2 0,.ptr 3 0,.ptr 4 0,.int .i64 t.bV.length,.int .i64 u.1]) (λu=>mR t B r u.2) (λu=>t.bV.length - u.1)
  (λu=>u.1<=t.bV.length/\u.2.length=t.bV.length/\u.2.drop u.1=t.bV.drop u.1/\(∀x∈u.2,j5 x)/\mQ t B r (u.2.take u.1) (t.bV.drop u.1)=a1) hc hb (0,t.bV) ⟨A3 _,rfl,rfl,ht.jW,aC⟩ ?_ ?_
 .exact cc 6 (by simp[go_sem,mR]) rfl (IU ..) dC (zD sg rfl)
 rintro⟨i,cur⟩ ⟨hi,ai,a6,a7,hinv⟩
 simp only at hi ai a6 a7 hinv
 have aD:=PQ cur
 by_cases q:i<t.bV.length
 rotate_left
 .have bh:i=t.bV.length:=om
  subst bh
  rw[Cj,mQ,Aa om]at hinv
  subst hinv
  rw[IQ]at hM
  refine zN (zA ?_)
  simp[go_sem]
  have aI:jH {t with bV:=cur}:=⟨ht.cR,ht.lM,by show cur.length<=4;omega,a7,ht.outs⟩
  have aU:=xI5 cur om
  have aE:=bc {t with bV:=cur} aI
  unfold uq at hM
  obtain⟨dn,bj⟩:=eX (cur.any (λl=>l.state !=5))
  rw[bj]at hM aU
  rw[ai]at aD
  refine zN (zA ?_)
  simp[go_sem]
  refine FO 5 11 (cur.map ct.row) rfl (IS _) ?_
  refine zA ?_
  simp[go_sem,gk,gj,gr,fX,jM,nq,aD,ai,mR,eM]
  refine pC aU ?_
  cases dn with
  |true=>
   rw[aiv rfl]at hM
   simp[go_sem]
   exact ret {t with bV:=cur} [] _ .full _ _ hM rfl
  |false=>
   rw[aiu dC]at hM
   by_cases p1:t.phase=1
   .have aJ:(t.phase==1)=true:=sU p1
    rw[aiv p1]at hM
    obtain⟨G,hG⟩: ∃G,ru {t with bV:=cur}=G:=⟨_,rfl⟩
    rw[hG]at hM aE
    simp[go_sem,aJ]
    refine pC aE ?_
    simp[go_sem]
    exact ret G [] _ .full _ _ hM rfl
   .have aJ:(t.phase==1)=false:=sU p1
    rw[aiu p1]at hM
    simp[go_sem,aJ]
    exact ret {t with bV:=cur,phase:=3} [] _ .full _ _ hM rfl
 have aK:=A5 q
 have aV:=A5 (l:=cur) (i:=i) om
 obtain⟨y,hy⟩:=eX (t.bV[i])
 have aW:cur[i]=y:=by rw[aK,aV]at a6;exact(List.cons.inj a6).1.trans hy
 have aq:cur.drop (i+1)=t.bV.drop (i+1):=by rw[aK,aV]at a6;exact(List.cons.inj a6).2
 rw[aK,hy,mQ]at hinv
 have aL:=ht.jW y (hy▸A8 q)
 have a8:=WW t y aL
 have aP:=zQ q om
 have aj:lN t y=match jC t y with|some a=>(a,true)|none=>(PH,false):=rfl
 obtain⟨⟨ak,b⟩,bk⟩: ∃p,lN t y=p:=⟨_,rfl⟩
 rw[bk]at a8 aj
 simp only at a8
 refine zN (zA ?_)
 simp[go_sem,q]
 refine zN (zA ?_)
 simp[go_sem]
 refine zN (AD (zN (zA ?_)))
 simp[go_sem]
 refine zN (zN ?_)
 refine yE [(6,0)] 6 rfl kR kR ?_
 simp[go_sem,q,hy,mR]
 refine pD a8 ?_
 simp[go_sem]
 have aQ: ∀(l2:List ct),l2.length=t.bV.length->l2.drop (i+1)=t.bV.drop (i+1)->(∀x∈l2,j5 x)->mQ t B r (l2.take (i+1)) (t.bV.drop (i+1))=a1->(i+1<=t.bV.length/\l2.length=t.bV.length/\l2.drop (i+1)=t.bV.drop (i+1)/\(∀x∈l2,j5 x)/\mQ t B r (l2.take (i+1)) (t.bV.drop (i+1))=a1):=λl2 h1 h2 h3 h4=>⟨q,h1,h2,h3,h4⟩
 have aX:cur.take (i+1)=cur.take i++ [y]:=by rw[Ai om,aW]
 cases b with
 |false=>
  have bm:jC t y=none:=by
   cases hq:jC t y with
   |none=>rfl
   |some a=>rw[hq]at aj;cases aj
  rw[aiu (by rw[bm];simp),<-aX]at hinv
  refine zA ?_
  simp[go_sem]
  refine zA ?_
  simp[go_sem,aP]
  exact zI (i+1,cur) ⟨by show t.bV.length - (i+1)<t.bV.length - i;omega,aQ cur ai aq a7 hinv,aN 6 (IU ..)⟩
 |true=>
  have aY:jC t y=some ak:=by
   cases hq:jC t y with
   |none=>rw[hq]at aj;cases aj
   |some a=>rw[hq]at aj;cases aj;rfl
  rw[aY]at hinv
  have bn:pG ak.cmd:=by
   have h:ak∈ [ak]:=B2.2 rfl
   have:=LO (t:={t with phase:=1,bV:= [y]}) (λx hx=>by rw[B2.1 hx];exact aL) ak (by
    unfold la
    rw[aiv (.inl rfl)]
    exact List.mem_filterMap.2 ⟨y,B2.2 rfl,aY⟩)
   exact this
  have ah:=WX ak B bn (by rw[<-hB];exact ha)
  by_cases e:ak=B
  rotate_left
  .rw[aiw e]at ah
   rw[aiu (λh=>e (aiM h)),<-aX]at hinv
   refine zA ?_
   simp[go_sem]
   refine pC ah ?_
   simp[go_sem]
   refine zA ?_
   simp[go_sem,aP]
   exact zI (i+1,cur) ⟨by show t.bV.length - (i+1)<t.bV.length - i;omega,aQ cur ai aq a7 hinv,aN 6 (IU ..)⟩
  rw[aix e]at ah
  rw[aiv (by rw[e])]at hinv
  have ad:=ws8 t cur i om r hr
  rw[aW]at ad
  have hex:=xZ8 t.phase y r
  have aR:=PO t.phase aL hr
  obtain⟨⟨l',bump,ar,wt⟩,hO⟩: ∃o,ig t.phase y r=o:=⟨_,rfl⟩
  rw[hO]at ad hex aR hinv
  simp only at hinv hex aR
  refine zN (zA ?_)
  simp[go_sem]
  refine pC ah ?_
  simp[go_sem]
  refine zA ?_
  simp[go_sem]
  rw[ai]at ad
  have ab:(cur.set i l').length=t.bV.length:=by rw[List.length_set,ai]
  have al: ∀x∈cur.set i l',j5 x:=λx hx=>by
   rcases List.mem_or_eq_of_mem_set hx with hx|rfl
   .exact a7 x hx
   .exact aR
  have an:cur.set i l'=cur.take i++l'::t.bV.drop (i+1):=by
   rw[List.set_eq_take_append_cons_drop,aiv om,aq]
  cases wt with
  |true=>
   have bo:ar=false:=by
    cases ar with
    |false=>rfl
    |true=>exact absurd (hex rfl) dC
   subst bo
   rw[aiu dC,aiv rfl]at hinv
   subst hinv
   rw[IQ]at hM
   have aA:bN prog 37 [.ptr 0 0,.iQ 1 11 t.bV.length i 0,.agg r.row] (fR t t.bV.length cur) (λx s=>x= .cy [.int .i64 bump,.bool false]/\s= [.box (rE {t with jo:=(r.err,0,[])}).row,.cj (cur.map ct.row) 11]):=ad
   refine zN ?_
   refine yE [] 7 rfl kR kR ?_
   simp[go_sem]
   refine zJ q ?_
   simp[go_sem]
   refine PN aA cB [4,5] dC rfl (PS t t.bV.length cur) ⟨.inl rfl,.inl rfl,zC rfl,tV⟩ ?_
   rw[xd1]
   simp[go_sem]
   refine FO 5 11 (cur.map ct.row) rfl (IS _) ?_
   refine zA ?_
   simp[go_sem,gk,gj,gr,fX,jM,nq,rE]
   exact ret (rE {t with jo:=(r.err,0,[])}) [] _ .full _ _ hM rfl
  |false=>
   have aA:bN prog 37 [.ptr 0 0,.iQ 1 11 t.bV.length i 0,.agg r.row] (fR t t.bV.length cur) (λx s=>x= .cy [.int .i64 bump,.bool ar]/\s=fR t t.bV.length (cur.set i l')):=by
    unfold EI at ad
    rw[ai]at ad
    exact ad
   have aZ:(cur.set i l').drop (i+1)=t.bV.drop (i+1):=by rw[List.drop_set_of_lt om,aq]
   have ba:mQ t B r (cur.take i++ [l']) (t.bV.drop (i+1))=a1->mQ t B r ((cur.set i l').take (i+1)) (t.bV.drop (i+1))=a1:=λh=>by
    rw[an,List.take_append,Az,Aa (by rw[Az];omega),show i+1 - min i cur.length=1 by omega]
    exact h
   obtain⟨l2,bb⟩:=eX (cur.set i l')
   rw[bb]at aA aZ ba ab al an
   cases ar with
   |true=>
    rw[aiv rfl,<-an]at hinv
    subst hinv
    rw[IQ]at hM
    have aI:jH {t with bV:=l2}:=⟨ht.cR,ht.lM,by show l2.length<=4;omega,al,ht.outs⟩
    have aF:=aS {t with bV:=l2} bump bT aI
    obtain⟨G,hG⟩: ∃G,ag {t with bV:=l2} bump bT=G:=⟨_,rfl⟩
    rw[hG]at hM aF
    have aG:=PQ l2
    rw[ab]at aG
    refine zN ?_
    refine yE [] 7 rfl kR kR ?_
    simp[go_sem]
    refine zJ q ?_
    simp[go_sem]
    refine PN aA cB [4,5] dC rfl (PS t t.bV.length cur) ⟨.inl rfl,.inl rfl,zC rfl,tV⟩ ?_
    rw[W0]
    simp[go_sem]
    refine FO 5 11 (l2.map ct.row) rfl (IS _) ?_
    refine zA ?_
    simp[go_sem,gk,gj,gr,fX,jM,nq,aG,ab,eM]
    refine pC aF ?_
    simp[go_sem]
    exact ret G.1 G.2 _ _ _ _ hM rfl
   |false=>
    rw[aiu dC,aiu dC]at hinv
    have bp:=aT rfl p3
    refine zN ?_
    refine yE [] 7 rfl kR kR ?_
    simp[go_sem]
    refine zJ q ?_
    simp[go_sem]
    refine PN aA cB [4,5] dC rfl (PS t t.bV.length cur) ⟨.inl rfl,.inl rfl,zC rfl,tV⟩ ?_
    rw[W0]
    simp[go_sem]
    refine zA ?_
    simp[go_sem,bp]
    refine zA ?_
    simp[go_sem,aP]
    exact zI (i+1,l2) ⟨by show t.bV.length - (i+1)<t.bV.length - i;omega,aQ l2 ab aZ al (ba hinv),aN 6 (IU ..)⟩
end Go.Proofs.YtplackkccmeioaaGreat
namespace Go.Proofs.YtplackkccmeioaaGreat
open Go Go.Vx R Go.Proofs.Tryz
set_option maxRecDepth 100000
variable {t:Tx}
theorem W3 (cR:dU) (aa:List Ln):xv cR aa= .cy [.agg (p7 (fD cR aa).1),.sl .ro ((pB cR aa).map mN)]:=rfl
theorem wf1 {l:ct} (h:j5 l):uj (kZ l)= [.int .i64 l.range,.sl .ro (l.cW.map fp.row)]:=by
 have:=h.range
 unfold uj kZ
 simp only[Bg]
 rw[show((l.range.toNat:Nat):Int)=l.range by omega]
 rfl
theorem PT {l:List ct} (hl:l.length<=4) (hg: ∀x∈l,j5 x):(ku (l.map kZ)).length<=7500:=by
 have h1:=LK (n:=1000) (l:=l.map kZ) (f:=λx=>vt x.1 x.2) λx hx=>by
  obtain⟨y,hy,rfl⟩:=Ac.1 hx
  have:=(hg y hy).cW.1
  simpa[vt,kZ]using this
 unfold ku
 rw[Ag]at h1
 omega
theorem LP {cR:dU} (hl:kN cR) {vs:List Vw} (hN:(ku vs).length<=7500):WT (fD cR (lI vs)).1/\oh (pB cR (lI vs))/\ ∀q∈pB cR (lI vs),q.2.length<=100000:=by
 obtain⟨m,hT⟩:=Wi vs
 have hlen:(lI vs).length<=(ku vs).length:=hT.len
 have hk:oF (lI vs):=λx hx=>⟨hT.now.rows x hx,(hT.lines x hx).1⟩
 obtain⟨aa,ab⟩:=xv7 hl hT.now (by show(lI vs).length<=7500;omega)
 obtain⟨_,ad⟩:=xO1 hl hT.now hk (by show(lI vs).length<=7500;omega)
 exact⟨⟨aa,ab⟩,jf hl hT.now hk,ad⟩
theorem oh.four {Q:List (Int×List Wr)} (h:oh Q):Q.length<=4:=by
 have aa:(Q.map (·.1)).Nodup:=Da.2 (h.up.imp λab=>Int.ne_of_lt ab)
 have:=aa.length_le_of_subset (l₂:= [0,1,2,3]) λg hg=>by
  obtain⟨y,hy,rfl⟩:=Ac.1 hg
  have:=h.dy y hy
  simp only[Ae,Bf,aiJ]
  omega
 rw[Ag]at this
 exact this
def zx:List V:= [.int .i64 0,.int .i64 0,.int .i64 0,.int .i64 0,.int .i64 0,.int .i64 0,.sl .full [],.int .i64 0,.int .i64 0,.int .i64 0,.int .i64 0,.int .i64 0,.sl .full [],.int .i64 0,.int .i64 0,.sl .full []]
theorem W4 {g:Tag} {rows:List (List V)} {I:St} (M:Tx) (hM:t.eH (.sl .ro rows)=M.row):cx (some (.agg (t.eH (.sl g rows)))) 0 (λr s=>r= .agg M.row/\s= []) I:=
 zW (r:= .agg M.row) (by rw[<-hM];exact we4 t) ⟨rfl,rfl⟩
theorem W5 (t:Tx) (ht:jH t):Pure prog 40 [dJ bO,.agg t.row] (.agg (oG t).row):=by
 have hN:=PT ht.bV ht.jW
 have aa:=V7 t.cR ht.cR (t.bV.map kZ) (by rw[Ag];have:=ht.bV;omega) (λx hx=>by
  obtain⟨y,hy,rfl⟩:=Ac.1 hx
  have hg:=ht.jW y hy
  have h1:=hg.range
  have h2:=hg.cW
  refine⟨by show y.range.toNat<1000;omega,by show(y.cW.map _).length<=100000;rw[Ag];omega,λq hq=> ?_⟩
  obtain⟨p,hp,rfl⟩:=Ac.1 (show q∈y.cW.map (λp=>(p.key,p.data)) from hq)
  exact h2.2 p hp) hN
 rw[W3]at aa
 have ab:=(LP ht.cR hN).2
 obtain⟨M,hM⟩:=eX (oG t)
 rw[hM]
 unfold oG at hM
 obtain⟨A,hA⟩:=eX ((fD t.cR (lI (t.bV.map kZ))).1)
 obtain⟨P,hP⟩:=eX (pB t.cR (lI (t.bV.map kZ)))
 rw[hA]at aa hM
 rw[hP]at aa hM ab
 have ah: ∀i (h:i<t.bV.length),uj (kZ t.bV[i])= [.int .i64 t.bV[i].range,.sl .ro (t.bV[i].cW.map fp.row)]:=λi h=>wf1 (ht.jW _ (A8 h))
 have al:=ht.bV
 have an:=ab.1.four
 clear hA hP hN
 refine iV 0 func40 ntmps40 results40 λc hc hb=> ?_
 refine zN (zA ?_)
 simp[go_sem,dJ]
 refine zN (zA ?_)
 simp[go_sem]
 refine zN (zA ?_)
 simp[go_sem]
 refine lU 5 2 dC sg ?_
 refine zH (S:=Nat×List Vw) [2,3,4,5,13,14,15] (λu=> [.ptr 0 0,.ptr 1 0,.ptr 2 0,.sl (.app 3) (u.2.map uj),.sl .ro (t.bV.map ct.row),.int .i64 t.bV.length,.int .i64 u.1])
  (λu=> [.box eM,.box t.row,.box zx,.app u.2.length 2]) (λu=>t.bV.length - u.1) (λu=>u.1<=t.bV.length/\u.2=(t.bV.take u.1).map kZ) hc hb (0,[]) ⟨A3 _,sm⟩ ?_ ?_
 .exact cc 4 (by simp[go_sem,eM,zx]) rfl (by simp[bS,cN,cL,eM,zx,Tx.row]) dC (zD sg rfl)
 rintro⟨i,out⟩ ⟨hi,ho⟩
 simp only at hi ho
 have ao:out.length=i:=by rw[ho,Ag,Az];omega
 by_cases q:i<t.bV.length
 .have ei:=zQ q om
  have hv:=ah i q
  obtain⟨y,hy⟩:=eX (t.bV[i])
  rw[hy]at hv
  have ad:out++ [kZ y]=(t.bV.take (i+1)).map kZ:=by rw[ho,Ai q,hy,C9];rfl
  refine zA ?_
  simp[go_sem,q,hy]
  refine zJ ⟨om,zY rfl⟩ ?_
  simp[go_sem,ei]
  exact zI (i+1,out++ [kZ y]) ⟨by show t.bV.length - (i+1)<t.bV.length - i;omega,⟨q,ad⟩,cc 4 (by simp[go_sem,eM,zx]) rfl (by simp[bS,cN,cL,eM,zx]) dC (zD (by simp[go_sem,hv]) rfl)⟩
 have h2:out=t.bV.map kZ:=by rw[ho,Aa om]
 rw[<-h2]at aa
 clear ho ah h2
 refine zN (zA ?_)
 simp[go_sem,q]
 refine zN (zA ?_)
 simp[go_sem]
 refine zN (zA ?_)
 simp[go_sem,eM]
 refine pC aa ?_
 simp[go_sem]
 refine zN (zA ?_)
 simp[go_sem]
 by_cases ae:P= []
 .subst ae
  simp only at hM
  refine zA ?_
  simp[go_sem]
  exact W4 (t:={t with phase:=4,jo:=A,bV:= []}) (g:= .full) (rows:= []) M (by rw[<-hM];rfl)
 have ai:0<P.length:=List.length_pos_iff.2 ae
 obtain⟨p,hp⟩:=eX (P[0])
 have aj:{t with jo:=A,phase:=2,home:=p.1,bV:=P.map vw}=M:=by
  cases P with
  |nil=>cases ae rfl
  |cons x l=>simp only[List.getElem_cons_zero]at hp;subst hp;exact hM
 have ak:((P.length:Int)==0)=false:=by simp;omega
 clear aa ab hM
 obtain⟨tm,af⟩: ∃tm:Tx,{t with jo:=A,phase:=2,home:=p.1}=tm:=⟨_,rfl⟩
 refine zN (zA ?_)
 simp[go_sem,ak]
 refine zN ?_
 refine wJ [(5,3),(7,3)] 2 5 sm kR kR ?_
 simp[go_sem,ai,hp,mN]
 refine zN (zA ?_)
 simp[go_sem]
 refine DH 1 12 11 (tm.eH (.sl .full [])) dC (by rw[<-af];rfl) rfl ?_
 refine zH (S:=Nat×List ct) [3,4,50,51,52] (λu=> [.ptr 1 0,.ptr 2 0,.sl .ro (P.map mN),.int .i64 P.length,.int .i64 u.1])
  (λu=> [.box eM,.box (tm.eH (.sl (.app 5) (u.2.map ct.row))),.box zx,.app out.length 2,.box (p7 A),.app u.2.length 11]) (λu=>P.length - u.1) (λu=>u.1<=P.length/\u.2=(P.take u.1).map vw) hc hb (0,[]) ⟨A3 _,sm⟩ ?_ ?_
 .exact cc 6 (by simp[go_sem,eM,zx,<-af]) rfl (by simp[bS,cN,cL,eM,zx,Tx.eH,p7]) dC (zD sg rfl)
 rintro⟨j,bV⟩ ⟨hj,hl⟩
 simp only at hj hl
 have aq:bV.length=j:=by rw[hl,Ag,Az];omega
 by_cases qj:j<P.length
 rotate_left
 .have h2:bV=P.map vw:=by rw[hl,Aa om]
  refine zA ?_
  simp[go_sem,qj]
  refine zA ?_
  simp[go_sem,zx]
  exact W4 (t:=tm) (rows:=bV.map ct.row) M (by rw[<-aj,<-af,h2];rfl)
 have ej:=zQ qj om
 obtain⟨y,hy⟩:=eX (P[j])
 have ad:bV++ [vw y]=(P.take (j+1)).map vw:=by rw[hl,Ai qj,hy,C9];rfl
 refine zA ?_
 simp[go_sem,qj,hy,mN]
 refine zJ ⟨om,zY rfl⟩ ?_
 simp[go_sem,ej]
 exact zI (j+1,bV++ [vw y]) ⟨by show P.length - (j+1)<P.length - j;omega,⟨qj,ad⟩,cc 6 (by simp[go_sem];exact⟨rfl,rfl,rfl,rfl,by show _=(y.2.map wG).map dE.row;rw[Bg];rfl,rfl,rfl,rfl,rfl,rfl,rfl⟩) rfl (by simp[bS,cN,cL,eM,zx]) dC (zD sg rfl)⟩
theorem W6 (cR:dU):(mZ cR).length<=4:=by
 have aa:=(xx1 cR).sk
 have ab:((mZ cR).map (·.1)).Nodup:=aa.imp λad=>Int.ne_of_lt ad
 have:=ab.length_le_of_subset (l₂:= [0,1,2,3]) λg hg=>by
  obtain⟨y,hy,rfl⟩:=Ac.1 hg
  have:=PA cR y hy
  simp only[Ae,Bf,aiJ]
  omega
 rw[Ag]at this
 exact this
theorem xO3 {cR:dU} (hl:kN cR): ∀x∈(mZ cR).map um,j5 x:=λx hx=>by
 obtain⟨y,hy,rfl⟩:=Ac.1 hx
 have h1:=PA cR y hy
 have h2:=WH hl y hy
 exact⟨by show 0<=y.1/\y.1<1000;omega,by show y.2.length<=100000;omega,A3 _,A3 _,λp hp=>by cases hp⟩
theorem xN7 {Q:List (Int×List Wr)} (h:oh Q) (hw: ∀q∈Q,q.2.length<=100000): ∀x∈Q.map vw,j5 x:=λx hx=>by
 obtain⟨y,hy,rfl⟩:=Ac.1 hx
 have h1:=h.dy y hy
 have h2:=hw y hy
 exact⟨by show 0<=y.1/\y.1<1000;omega,A3 _,by show(y.2.map wG).length<=100000;rw[Ag];exact h2,A3 _,λp hp=>by cases hp⟩
theorem PU (ht:jH t):jH (oG t):=by
 obtain⟨h1,h2,h3⟩:=LP ht.cR (PT ht.bV ht.jW)
 unfold oG
 obtain⟨P,hP⟩:=eX (pB t.cR (lI (t.bV.map kZ)))
 rw[hP]at h2 h3⊢
 cases P with
 |nil=>exact⟨ht.cR,ht.lM,A3 _,λx hx=>(by cases hx),h1⟩
 |cons p l=>exact⟨ht.cR,ht.lM,by show((p::l).map vw).length<=4;rw[Ag];exact h2.four,xN7 h2 h3,h1⟩
theorem LQ (ht:jH t) (bT:Int):jH (xy t bT):=⟨ht.cR,ht.lM,by show((mZ t.cR).map um).length<=4;rw[Ag];exact W6 _,xO3 ht.cR,A3 _,λx hx=>by cases hx⟩
theorem W7 (ht:jH t) (bT:Int):jH (rF t bT):=by
 unfold rF
 split
 .exact PU (LQ ht bT)
 .exact LQ ht bT
def lO (t:Tx) (bT:Int) (v:V):List V:= [.int .i64 t.id.node,.int .i64 t.id.eU,.int .i64 t.id.seq,.int .i64 t.id.attempt,.int .i64 t.cR.mode,.int .i64 t.cR.n,.sl .ro (t.cR.stmts.map bW.row),.int .i64 1,.int .i64 (if bT<t.bump then t.bump else bT),.int .i64 (mP t.id),.int .i64 t.bump,.int .i64 0,v,.int .i64 0,.int .i64 0,.sl .full []]
theorem xW4 {ρ:Nat->Nat} (t:Tx) (bT:Int) {g:Tag} {rows:List (List V)} (h:((mZ t.cR).map um).map ct.row=rows):cT ρ (.agg (xy t bT).row) (.agg (lO t bT (.sl g rows))):=by
 subst h
 unfold Tx.row lO xy mx
 exact wN ⟨zF rfl,zF rfl,zF rfl,zF rfl,zF rfl,zF rfl,zX,zF rfl,zF rfl,zF rfl,zF rfl,zF rfl,zX,zF rfl,zF rfl,zX,tV⟩
theorem W8 (t:Tx) (ht:jH t) (bT:Int):Pure prog 25 [dJ bO,.agg t.row,.int .i64 bT] (.agg (rF t bT).row):=by
 have ad:=xL6 t.cR (by have:=ht.cR.stmts.1;omega) ht.cR.stmts.2
 have af:=wr5 t.id
 have h4:=W6 t.cR
 have ab:=W5 (xy t bT) (LQ ht bT)
 obtain⟨M,hM⟩:=eX (rF t bT)
 rw[hM]
 unfold rF at hM
 obtain⟨N,hN⟩:=eX (mZ t.cR)
 have ah: ∀(ρ:Nat->Nat) (g:Tag) (bV:List ct),bV=N.map um->cT ρ (.agg (xy t bT).row) (.agg (lO t bT (.sl g (bV.map ct.row)))):=λρ g bV h=>xW4 t bT (by rw[h,hN])
 obtain⟨tm,aj⟩:=eX (xy t bT)
 rw[hN]at ad h4 hM
 rw[aj]at ab hM ah
 clear hN aj
 obtain⟨te,ak⟩: ∃te:Int,(if GB t.id=true then(1:Int)else 0)=te:=⟨_,rfl⟩
 rw[ak]at af
 refine iV 0 func25 ntmps25 results25 λc hc hb=> ?_
 refine zN (zA ?_)
 simp[go_sem,dJ]
 refine zN (zA ?_)
 simp[go_sem]
 refine pC af ?_
 simp[go_sem]
 refine zN (zA ?_)
 simp[go_sem]
 refine zN (zA ?_)
 simp[go_sem]
 refine zN (zA ?_)
 simp[go_sem]
 refine pC ad ?_
 simp[go_sem]
 refine DH 1 12 11 _ dC rfl rfl ?_
 refine zH (S:=Nat×List ct) [3,4,6,42,43,44] (λu=> [.ptr 0 0,.ptr 1 0,.ptr 2 0,.sl .ro (N.map ph),.int .i64 N.length,.int .i64 u.1])
  (λu=> [.box eM,.box (lO t bT (.sl (.app 3) (u.2.map ct.row))),.box zx,.app u.2.length 11]) (λu=>N.length - u.1) (λu=>u.1<=N.length/\u.2=(N.take u.1).map um) hc hb (0,[]) ⟨A3 _,sm⟩ ?_ ?_
 .exact cc 4 (by simp[go_sem,eM,zx,lO]) rfl (by simp[bS,cN,cL,eM,zx,lO]) dC (zD sg rfl)
 rintro⟨i,bV⟩ ⟨hi,hl⟩
 simp only at hi hl
 have an:bV.length=i:=by rw[hl,Ag,Az];omega
 by_cases q:i<N.length
 rotate_left
 .have h2:bV=N.map um:=by rw[hl,Aa om]
  have aa:=λρ g=>ah ρ g bV h2
  unfold lO at aa
  refine zN (zA ?_)
  simp[go_sem,q]
  refine zN (zA ?_)
  simp[go_sem]
  by_cases ae:N= []
  .have ai:bV= []:=by rw[h2,ae];rfl
   rw[aiv ae]at hM
   rw[hM]at ab
   subst ai
   refine zA ?_
   simp[go_sem,lO,eM]
   refine zL ab cB ⟨zC rfl,aa _ _,tV⟩ rfl ?_
   simp[go_sem,zx]
   exact zW (r:= .agg M.row) (zC rfl) ⟨rfl,rfl⟩
  .have ai:((bV.length:Int)==0)=false:=by
    have:N.length≠0:=λh=>ae (As h)
    have:bV.length≠0:=by rw[h2,Ag];exact this
    simp
    exact λh=>this (by rw[h];rfl)
   rw[aiu ae]at hM
   rw[hM]at aa
   refine zA ?_
   simp[go_sem,lO,ai,zx]
   exact zW (r:= .agg M.row) (aa _ _) ⟨rfl,rfl⟩
 have ei:=zQ q om
 obtain⟨y,hy⟩:=eX (N[i])
 have al:bV++ [um y]=(N.take (i+1)).map um:=by rw[hl,Ai q,hy,C9];rfl
 refine zA ?_
 simp[go_sem,q,hy,lO]
 refine zJ ⟨om,zY rfl⟩ ?_
 simp[go_sem,ei]
 exact zI (i+1,bV++ [um y]) ⟨by show N.length - (i+1)<N.length - i;omega,⟨q,al⟩,cc 4 (by simp[go_sem];exact⟨rfl,rfl,rfl,rfl,rfl,rfl,rfl,rfl,rfl,rfl,rfl⟩) rfl (by simp[bS,cN,cL,eM,zx]) dC (zD sg rfl)⟩
theorem xV8 (t:Tx) (ht:jH t) (bump bT:Int):Pure prog 36 [dJ bO,.agg t.row,.int .i64 bump,.int .i64 bT] (.cy [.agg (vx t bump bT).1.row,.sl .ro ((vx t bump bT).2.map cU.row)]):=by
 have ab:=WV t false (by have:=ht.bV;omega)
 have af:=ht.lM
 have e1:IntKind.i64.wrap (t.id.attempt+1)=t.id.attempt+1:=bX om om
 obtain⟨M,hM⟩:=eX (vx t bump bT)
 rw[hM]
 unfold vx at hM
 obtain⟨tidy,aa⟩: ∃l,(if t.phase=1 then []else GD t false)=l:=⟨_,rfl⟩
 rw[aa]at hM
 have ae:([.box eM,.box t.row,.box zx]:St).all (bS 3)=true:=by simp[bS,cN,cL,eM,zx,Tx.row]
 refine iV 0 func36 ntmps36 results36 λc hc hb=> ?_
 refine zN (zA ?_)
 simp[go_sem,dJ]
 refine zN (zA ?_)
 simp[go_sem]
 refine ov (S:=Unit) [2,3,4,5,8,10] (λ_=> [.int .i64 bump,.int .i64 bT,.ptr 0 0,.ptr 1 0,.ptr 2 0,.sl .ro (tidy.map cU.row)]) (λ_=> [.box eM,.box t.row,.box zx]) (λ_=>True) hc hb ?_ ?_
 .by_cases p1:t.phase=1
  .have ad:(t.phase !=1)=false:=sU p1
   rw[aiv p1]at aa
   subst aa
   refine zA ?_
   simp[go_sem,ad]
   exact zI () ⟨tV,cc 3 (by simp[go_sem,eM,zx]) rfl ae dC ⟨zC rfl,zC rfl,xQ rfl,xQ rfl,xQ rfl,zK,tV⟩⟩
  .have ad:(t.phase !=1)=true:=sU p1
   rw[aiu p1]at aa
   rw[aa]at ab
   refine zA ?_
   simp[go_sem,ad]
   refine pC ab ?_
   simp[go_sem]
   exact zI () ⟨tV,cc 3 (by simp[go_sem,eM,zx]) rfl ae dC ⟨zC rfl,zC rfl,xQ rfl,xQ rfl,xQ rfl,zK,tV⟩⟩
 rintro _ _
 by_cases q:10<=t.id.attempt+1
 .have q':decide (10<=t.id.attempt+1)=true:=sU q
  rw[aiv q]at hM
  unfold mx at hM
  have hw:=PG {t with bump:=if t.bump<bump then bump else t.bump,id:={t.id with attempt:=t.id.attempt+1},jo:=(28,0,[])}
  obtain⟨W,hW⟩: ∃W,rE {t with bump:=if t.bump<bump then bump else t.bump,id:={t.id with attempt:=t.id.attempt+1},jo:=(28,0,[])}=W:=⟨_,rfl⟩
  rw[hW]at hw hM
  subst hM
  refine zA ?_
  simp[go_sem,e1,q',zx]
  refine zL hw cB ⟨wN ⟨zF rfl,zF rfl,zF rfl,zF rfl,zF rfl,zF rfl,zX,zF rfl,zF rfl,zF rfl,zF rfl,zF rfl,zX,zF rfl,zF rfl,zX,tV⟩,tV⟩ rfl ?_
  simp[go_sem]
  exact wR
 .have q':decide (10<=t.id.attempt+1)=false:=sU q
  rw[aiu q]at hM
  unfold mx at hM
  have hw:=W8 {t with bump:=if t.bump<bump then bump else t.bump,id:={t.id with attempt:=t.id.attempt+1}} ⟨ht.cR,by show 0<=t.id.attempt+1/\t.id.attempt+1<=10;omega,ht.bV,ht.jW,ht.outs⟩ bT
  obtain⟨W,hW⟩: ∃W,rF {t with bump:=if t.bump<bump then bump else t.bump,id:={t.id with attempt:=t.id.attempt+1}} bT=W:=⟨_,rfl⟩
  rw[hW]at hw hM
  subst hM
  refine zA ?_
  simp[go_sem,e1,q',zx,eM]
  refine pC hw ?_
  simp[go_sem]
  exact wR
theorem PV (ht:jH t) (h9:t.id.attempt<=9) (bump bT:Int):jH (vx t bump bT).1:=by
 have h0:=ht.lM
 unfold vx
 split
 .exact⟨ht.cR,by show 0<=t.id.attempt+1/\t.id.attempt+1<=10;omega,A3 _,λx hx=>(by cases hx),A3 _,λx hx=>by cases hx⟩
 .exact W7 (t:={t with bump:=mx t.bump bump,id:={t.id with attempt:=t.id.attempt+1}}) ⟨ht.cR,by show 0<=t.id.attempt+1/\t.id.attempt+1<=10;omega,ht.bV,ht.jW,ht.outs⟩ bT
theorem LR (t:Tx) (ht:jH t) (a:cU) (ha:pG a.cmd) (r:dm) (hr:fa r) (bT:Int):
  Pure prog 14 [dJ bO,.agg t.row,.agg a.row,.agg r.row,.int .i64 bT] (.cy [.agg (sr t a r bT).1.row,.sl .ro ((sr t a r bT).2.map cU.row)]):=
 xP0 vx oG (λt b l h=>xV8 t h b l) (λt h=>W5 t h) t ht a ha r hr bT
theorem W9 (id:fy) (l:dU) (hl:kN l) (bT:Int):Pure prog 8 [dJ bO,.agg id.row,.agg l.row,.int .i64 bT] (.agg (rG id l bT).row):=by
 have aj:=WS l hl
 have ae:=Un l hl
 have aa:=V7 l hl [] dC (λx hx=>by cases hx) dC
 rw[W3,show lI []= [] from rfl]at aa
 obtain⟨M,hM⟩:=eX (rG id l bT)
 rw[hM]
 unfold rG at hM
 obtain⟨A,hA⟩:=eX ((fD l []).1)
 obtain⟨uJ,hU⟩:=eX (pB l [])
 rw[hA]at aa hM
 rw[hU]at aa
 have af:=PG ⟨{id with attempt:=0},l,0,zS,0,0,[],(1,0,[])⟩
 have ah:=PG ⟨{id with attempt:=0},l,0,zS,0,0,[],A⟩
 have ai:=W8 ⟨{id with attempt:=0},l,0,zS,0,0,[],(0,0,[])⟩ ⟨hl,⟨E5 _,by show(0:Int)<=10;decide⟩,A3 _,λx hx=>(by cases hx),A3 _,λx hx=>by cases hx⟩ bT
 obtain⟨⟨ci,cr⟩,hP⟩: ∃P,oA l=P:=⟨_,rfl⟩
 rw[hP]at ae hM
 simp only at hM
 refine iV 0 func8 ntmps8 results8 λc hc hb=> ?_
 refine zN (zA ?_)
 simp[go_sem,dJ]
 refine zN (zA ?_)
 simp[go_sem]
 refine zN ?_
 refine yE [(2,0)] 4 rfl kR kR ?_
 simp[go_sem]
 refine pD aj ?_
 simp[go_sem]
 by_cases q1:l.mode=0
 rotate_left
 .have ab:(l.mode !=0)=true:=sU q1
  rw[aiv q1]at hM
  rw[show rE ⟨{id with attempt:=0},l,0,zS,0,0,[],(1,0,[])⟩=M from hM]at af
  refine zA ?_
  simp[go_sem,ab]
  refine zL af cB ⟨wN ⟨zF rfl,zF rfl,zF rfl,zF rfl,zF rfl,zF rfl,zX,zF rfl,zF rfl,zF rfl,zF rfl,zF rfl,zX,zF rfl,zF rfl,zX,tV⟩,tV⟩ rfl ?_
  simp[go_sem]
  exact zW (r:= .agg M.row) (zC rfl) ⟨rfl,rfl⟩
 have ab:(l.mode !=0)=false:=sU q1
 rw[aiu (λh=>h q1)]at hM
 refine zA ?_
 simp[go_sem,ab]
 refine pC ae ?_
 simp[go_sem,wI]
 by_cases q2:cr=0
 rotate_left
 .have ad:(cr !=0)=true:=sU q2
  rw[aiv q2]at hM
  rw[show rE ⟨{id with attempt:=0},l,0,zS,0,0,[],A⟩=M from hM]at ah
  simp[go_sem,ad]
  refine pC aa ?_
  simp[go_sem]
  refine zL ah cB ⟨wN ⟨zF rfl,zF rfl,zF rfl,zF rfl,zF rfl,zF rfl,zX,zF rfl,zF rfl,zF rfl,zF rfl,zF rfl,zX,zF rfl,zF rfl,zX,tV⟩,tV⟩ rfl ?_
  simp[go_sem]
  exact zW (r:= .agg M.row) (zC rfl) ⟨rfl,rfl⟩
 have ad:(cr !=0)=false:=sU q2
 rw[aiu (λh=>h q2)]at hM
 rw[hM]at ai
 simp[go_sem,ad]
 refine zL ai cB ⟨zC rfl,wN ⟨zF rfl,zF rfl,zF rfl,zF rfl,zF rfl,zF rfl,zX,zF rfl,zF rfl,zF rfl,zF rfl,zF rfl,zX,zF rfl,zF rfl,zX,tV⟩,zC rfl,tV⟩ rfl ?_
 simp[go_sem]
 exact zW (r:= .agg M.row) (zC rfl) ⟨rfl,rfl⟩
end Go.Proofs.YtplackkccmeioaaGreat
namespace Go.Proofs.YtplackkccmeioaaGreat.R
open Go Go.Vx Go.Proofs.Tryz
set_option maxRecDepth 100000
theorem xc7 (v:Nat) (hv:v<18446744073709551616):bN prog 248 [eD [],.int .u64 v,.int .i64 8] [] λr s=>r= .cy [gG (be v 8),.int .i64 0]/\s=gq (be v 8):=by
 refine iV 0 func248 ntmps248 results248 λc hc hb=> ?_
 refine uH 17 dC ?_
 refine zA ?_
 simp[go_sem,eD,zO]
 refine zH (S:=Nat×Nat) [0,1,8,9] (λu=> [eD [],.int .u64 u.2,.cM 0 1 8 0 8,.int .i64 (7 - (u.1:Int))]) (λu=> [.cj (gI v u.1) 1]) (λu=>8 - u.1) (λu=>u.1<=8/\u.2=v/256^u.1) hc hb (0,v) ⟨A3 _,sm⟩ ?_ ?_
 .exact cc 1 (by simp[gI,be,zO]) rfl (KY (Ge _ _) _) (A3 _) (zD (by simp[go_sem,eD,zO]) rfl)
 rintro⟨k,z⟩ ⟨hk,hz⟩
 simp only at hk hz
 have ah:z<=v:=hz▸Nat.div_le_self _ _
 have ab:=Tn (v:=v) hk
 refine zA ?_
 simp[go_sem]
 refine zV (λq=> ?_) (λq=> ?_)
 .have q:k+1<=8:=by simp at q;omega
  have e0:((7:Int) - k).toNat=7 - k:=om
  have e1:IntKind.i64.wrap (7 - (k:Int) - 1)=7 - ((k:Int)+1):=by rw[bX om om];omega
  have e2:IntKind.u64.wrap ((z:Int)/256)=((z/256:Nat):Int):=by rw[db om om];omega
  have e3:IntKind.u8.wrap ((z:Int).tmod 256)=((UInt8.ofNat z).toNat:Int):=by
   rw[Do om,show(z:Int)%256=((z%256:Nat):Int) by omega,tJ]
   simp
  have aa:=To (v:=v) q
  rw[<-hz]at aa
  simp[go_sem]
  refine zJ ⟨om,om⟩ ?_
  have ad: ∀h,(gI v k)[7 - k]'h= [.int .u8 0]:=λh=>by
   have:(gI v k)[7 - k]? =some [.int .u8 0]:=by
    unfold gI
    rw[Ao (by simp;omega),Dv,aiv om]
   exact(A4.1 this).2
  simp at aa
  simp[go_sem,ab,show 7 - k<8 by omega,ad,e1,e2,e3]
  refine zI (k+1,z/256) ⟨by simp only;omega,⟨q,by rw[hz,E4,Nat.div_div_eq_div_mul]⟩,cc 1 (by simp[aa]) rfl (KY (Ge _ _) _) (A3 _) (zD (by simp[go_sem,eD,zO]) rfl)⟩
 .have:k=8:=by simp at q;omega
  subst this
  have ae:z=0:=by rw[hz];exact Nat.div_eq_of_lt om
  subst ae
  simp[go_sem,eD,zO]
  refine zJ (λr h=>by cases h) ?_
  have af:wX (gI v 8) 0 8=zO (be v 8):=by
   rw[Tq]
   simp[wX,Aa,sf,zO,k5]
  simp[go_sem,ab,af]
  refine zJ ⟨Tp λr hr=>Ge v 8 r (B5 hr),by rw[zU,sf];decide,qZ _⟩ ?_
  simp[go_sem]
  exact PB [1] sm rfl (s:=gq (be v 8)) ⟨by simp[zU,sf,yA],tV⟩ (r:= .cy [gG (be v 8),.int .i64 0]) (.inl rfl) ⟨rfl,rfl⟩
theorem xr8 (v:Nat) (hv:v<18446744073709551616):bN prog 188 [.int .u64 v] [] λr s=>r=gG (be v 8)/\s=gq (be v 8):=by
 refine iW 0 func188 ntmps188 results188 λc hc hb=>zM ?_
 simp[go_sem]
 refine AH (xc7 v hv) cB ⟨wP rfl,zC rfl,zC rfl,tV⟩ ?_
 rintro r s ⟨rfl,rfl⟩
 simp[go_sem]
 exact mV 1 rfl rfl om (xQ rfl) ⟨rfl,rfl⟩
def nF (b:aiZ) (v:Int):aiZ:=b++eG (gH v)
def tF (b s:aiZ):aiZ:=b++eG s.length++s
def fF (b:aiZ) (x:Bool):aiZ:=b++ [if x then 1 else 0]
def sF (b:aiZ) (s:eZ):aiZ:=b++(be (s.wall+9223372036854775808).toNat 8++be (s.tie+9223372036854775808).toNat 8)
def yF (b:aiZ) (t:fy):aiZ:=nF (nF (nF (nF b t.node) t.eU) t.seq) t.attempt
theorem p9 (b:aiZ) (v:Int) (hv:cI v):(nF b v).length<=b.length+10:=by
 have:=xc (KP hv)
 simp[nF];omega
theorem GF (b s:aiZ) (hs:s.length<=1048576):(tF b s).length<=b.length+s.length+10:=by
 have:=xc (v:=s.length) om
 simp[tF];omega
theorem PX (b:aiZ) (x:Bool):(fF b x).length=b.length+1:=by simp[fF]
theorem wp3 (b:aiZ) (s:eZ):(sF b s).length=b.length+16:=by simp[sF,sf]
theorem wq7 (b:aiZ) (t:fy) (ht:t.ok):(yF b t).length<=b.length+40:=by
 have h1:=p9 b t.node ht.node
 have h2:=p9 (nF b t.node) t.eU ht.eU
 have h3:=p9 (nF (nF b t.node) t.eU) t.seq ht.seq
 have h4:=p9 (nF (nF (nF b t.node) t.eU) t.seq) t.attempt ht.attempt
 unfold yF;omega
theorem PY (b:aiZ) (v:Int) (aa:b.length<=cG) (hv:cI v):bN prog 87 [eD b,.int .i64 v] [] λr s=>r=gG (nF b v)/\s=gq (nF b v):=by
 refine iW 0 func87 ntmps87 results87 λc hc hb=>zM ?_
 simp[go_sem]
 refine pC (xO7 v hv) ?_
 simp[go_sem]
 refine AH (Ta b (gH v) aa (KP hv)) cB ⟨zC rfl,zC rfl,tV⟩ ?_
 rintro r s ⟨rfl,rfl⟩
 simp[go_sem]
 exact mV 1 rfl rfl om (xQ rfl) ⟨rfl,rfl⟩
theorem xz (b:aiZ) (v:Int) (aa:b.length<=cG) (hv:cI v):Pure prog 87 [eD b,.int .i64 v] (eD (nF b v)):=H3 (PY b v aa hv)
theorem Xa (b s:aiZ) (aa:b.length<=cG) (hs:s.length<=cG):bN prog 91 [eD b,.str s] [] λr st=>r=gG (tF b s)/\st=gq (tF b s):=by
 refine iW 0 func91 ntmps91 results91 λc hc hb=>zM ?_
 simp[go_sem]
 refine AH (xy5 b s aa hs) cB ⟨zC rfl,zC rfl,tV⟩ ?_
 rintro r st ⟨rfl,rfl⟩
 simp[go_sem]
 exact mV 1 rfl rfl om (xQ rfl) ⟨by simp[gG,tF],by simp[tF,gq]⟩
theorem PZ (b s:aiZ) (aa:b.length<=cG) (hs:s.length<=cG):Pure prog 91 [eD b,.str s] (eD (tF b s)):=H3 (Xa b s aa hs)
theorem Xb (b:aiZ) (x:Bool) (aa:b.length<=cG):bN prog 88 [gG b,.bool x] (gq b) λr s=>r=gG (fF b x)/\s=gq (fF b x):=by
 refine iW 1 func88 ntmps88 results88 λc hc hb=>zM ?_
 cases x
 .simp[go_sem,gG,gq,zU]
  refine zJ ⟨by unfold cG at*;omega,zY rfl⟩ ?_
  simp[go_sem]
  exact mV 1 rfl rfl om (xQ rfl) ⟨by simp[fF,zO],by simp[fF]⟩
 .simp[go_sem,gG,gq,zU]
  refine zJ ⟨by unfold cG at*;omega,zY rfl⟩ ?_
  simp[go_sem]
  exact mV 1 rfl rfl om (xQ rfl) ⟨by simp[fF,zO],by simp[fF]⟩
theorem xV0 (s:eZ) (hs:s.ok):Pure prog 130 [.agg s.row] (eD (be (s.wall+9223372036854775808).toNat 8++be (s.tie+9223372036854775808).toNat 8)):=by
 have h1:=hs.wall
 have h2:=hs.tie
 have l1:(s.wall+9223372036854775808).toNat<18446744073709551616:=om
 have l2:(s.tie+9223372036854775808).toNat<18446744073709551616:=om
 have r1:=Tl s.wall h1
 have r2:=Tl s.tie h2
 generalize (s.wall+9223372036854775808).toNat=o1 at l1 r1⊢
 generalize (s.tie+9223372036854775808).toNat=o2 at l2 r2⊢
 refine iW 0 func130 ntmps130 results130 λc hc hb=>zM ?_
 simp[go_sem]
 refine yE [(2,0),(3,3),(6,0),(7,0)] 1 rfl kR kR ?_
 simp[go_sem]
 refine pD r1 ?_
 simp[go_sem]
 refine FN (xr8 o1 l1) cB (yG rfl) ?_
 simp[go_sem,gG,gq]
 refine pD r2 ?_
 simp[go_sem]
 refine pD (xV1 o2 l2) ?_
 simp[go_sem,eD,sf,zU,yA,GC]
 refine zJ (qZ _) ?_
 simp[go_sem]
 have e:zO (be o1 8)++zO (be o2 8)=zO (be o1 8++be o2 8):=by simp[zO]
 rw[e]
 exact zW zK ⟨rfl,rfl⟩
theorem wv4 (b:aiZ) (t:fy) (aa:b.length<=cG - 40) (ht:t.ok):bN prog 90 [eD b,.agg t.row] [] λr s=>r=gG (yF b t)/\s=gq (yF b t):=by
 have h1:=p9 b t.node ht.node
 have h2:=p9 (nF b t.node) t.eU ht.eU
 have h3:=p9 (nF (nF b t.node) t.eU) t.seq ht.seq
 have c1:=xz b t.node om ht.node
 have c2:=xz (nF b t.node) t.eU (by unfold cG at*;omega) ht.eU
 have c3:=xz (nF (nF b t.node) t.eU) t.seq (by unfold cG at*;omega) ht.seq
 have c4:=PY (nF (nF (nF b t.node) t.eU) t.seq) t.attempt (by unfold cG at*;omega) ht.attempt
 unfold yF
 generalize nF b t.node=b1 at c1 c2 c3 c4 h1 h2 h3⊢
 generalize nF b1 t.eU=b2 at c2 c3 c4 h2 h3⊢
 generalize nF b2 t.seq=b3 at c3 c4 h3⊢
 refine iW 0 func90 ntmps90 results90 λc hc hb=>zM ?_
 simp[go_sem]
 refine yE [(3,0),(6,0),(9,0),(12,3)] 1 rfl kR kR ?_
 simp[go_sem]
 refine pD c1 ?_
 simp[go_sem]
 refine pD c2 ?_
 simp[go_sem]
 refine pD c3 ?_
 simp[go_sem]
 refine FN c4 cB (yG rfl) ?_
 simp[go_sem,gG,gq,yA,GC]
 exact PB [1] sm rfl (s:=gq (nF b3 t.attempt)) ⟨by simp[yA],tV⟩ (r:=gG (nF b3 t.attempt)) (.inl rfl) ⟨by simp[gG],by simp[gq]⟩
theorem s_w (b:aiZ) (s:eZ) (aa:b.length<=cG) (hs:s.ok):bN prog 89 [gG b,.agg s.row] (gq b) λr st=>r=gG (sF b s)/\st=gq (sF b s):=by
 have hl:(be (s.wall+9223372036854775808).toNat 8++be (s.tie+9223372036854775808).toNat 8).length=16:=by simp[sf]
 refine iW 1 func89 ntmps89 results89 λc hc hb=>zM ?_
 simp[go_sem]
 refine pC (xV0 s hs) ?_
 unfold sF
 generalize (be (s.wall+9223372036854775808).toNat 8++be (s.tie+9223372036854775808).toNat 8)=x at hl⊢
 simp[go_sem,gG,gq,eD,zU]
 refine zJ ⟨by unfold cG at*;omega,qZ _⟩ ?_
 simp[go_sem]
 exact mV 1 rfl rfl om (xQ rfl) ⟨by simp[zO],rfl⟩
def EJ (b:aiZ) (l:List ca):aiZ:=l.foldl (λb x=>tF (tF b x.lo) x.hi) b
def EK (b:aiZ) (l:List dE):aiZ:=l.foldl (λb x=>tF (fF (tF b x.key) x.drop) x.data) b
theorem Xc: ∀(l:List ca) (b:aiZ),(∀x∈l,x.lo.length<=2000/\x.hi.length<=2000)->(EJ b l).length<=b.length+4020*l.length
 | [],b,_=>by simp[EJ]
 |x::l,b,h=>by
  have h1:=h x sm
  have h2:=GF b x.lo om
  have h3:=GF (tF b x.lo) x.hi om
  have h4:=Xc l (tF (tF b x.lo) x.hi) λy hy=>h y (by simp[hy])
  simp only[EJ,Bn]at h4⊢
  simp only[Ah]
  omega
theorem Xd: ∀(l:List dE) (b:aiZ),(∀x∈l,x.key.length<=2000/\x.data.length<=20000)->(EK b l).length<=b.length+22030*l.length
 | [],b,_=>by simp[EK]
 |x::l,b,h=>by
  have h1:=h x sm
  have h2:=GF b x.key om
  have aa:=PX (tF b x.key) x.drop
  have h3:=GF (fF (tF b x.key) x.drop) x.data om
  have h4:=Xd l (tF (fF (tF b x.key) x.drop) x.data) λy hy=>h y (by simp[hy])
  simp only[EK,Bn]at h4⊢
  simp only[Ah]
  omega
structure EL (x:iK):Prop where
 s: ∀y∈x.cH,y.lo.length<=2000/\y.hi.length<=2000
 w: ∀y∈x.writes,y.key.length<=2000/\y.data.length<=20000
 ns:x.cH.length<=1000
 nw:x.writes.length<=20000
def iP (x:iK):aiZ:=nF (nF (nF (nF [1] x.kind) x.fq) x.node) x.home
def pH (x:iK):aiZ:=nF (fF (nF (sF (yF (iP x) x.eO) x.at_) x.wall) x.yes) x.cH.length
def pI (x:iK):aiZ:=nF (EJ (pH x) x.cH) x.writes.length
def IV (x:iK):aiZ:=EK (pI x) x.writes
theorem wq9 (x:iK) (hx:x.ok) (hs:EL x):Pure prog 44 [.agg x.row] (eD (IV x)):=by
 have a1:=p9 [1] x.kind hx.kind
 have a2:=p9 (nF [1] x.kind) x.fq hx.fq
 have a3:=p9 (nF (nF [1] x.kind) x.fq) x.node hx.node
 have a4:=p9 (nF (nF (nF [1] x.kind) x.fq) x.node) x.home hx.home
 have c1:=xz [1] x.kind (by unfold cG;simp) hx.kind
 have c2:=xz (nF [1] x.kind) x.fq (by unfold cG;simp at a1;omega) hx.fq
 have c3:=xz (nF (nF [1] x.kind) x.fq) x.node (by unfold cG;simp at a1;omega) hx.node
 have c4:=xz (nF (nF (nF [1] x.kind) x.fq) x.node) x.home (by unfold cG;simp at a1;omega) hx.home
 have aj:(iP x).length<=41:=by simp at a1;unfold iP;omega
 have e1:nF (nF (nF (nF [1] x.kind) x.fq) x.node) x.home=iP x:=rfl
 have ae:cI x.cH.length:=by have:=hs.ns;unfold cI;omega
 have af:cI x.writes.length:=by have:=hs.nw;unfold cI;omega
 have d1:=wv4 (iP x) x.eO (by unfold cG;omega) hx.eO
 have l1:=wq7 (iP x) x.eO hx.eO
 have d2:=s_w (yF (iP x) x.eO) x.at_ (by unfold cG;omega) hx.at_
 have l2:=wp3 (yF (iP x) x.eO) x.at_
 have d3:=PY (sF (yF (iP x) x.eO) x.at_) x.wall (by unfold cG;omega) hx.wall
 have l3:=p9 (sF (yF (iP x) x.eO) x.at_) x.wall hx.wall
 have d4:=Xb (nF (sF (yF (iP x) x.eO) x.at_) x.wall) x.yes (by unfold cG;omega)
 have l4:=PX (nF (sF (yF (iP x) x.eO) x.at_) x.wall) x.yes
 have d5:=xz (fF (nF (sF (yF (iP x) x.eO) x.at_) x.wall) x.yes) x.cH.length (by unfold cG;omega) ae
 have l5:=p9 (fF (nF (sF (yF (iP x) x.eO) x.at_) x.wall) x.yes) x.cH.length ae
 have e2:nF (fF (nF (sF (yF (iP x) x.eO) x.at_) x.wall) x.yes) x.cH.length=pH x:=rfl
 rw[e1]at c4
 rw[e2]at d5 l5
 have ak:(pH x).length<=200:=om
 clear a1 a2 a3 a4 e1 e2 l5
 generalize nF [1] x.kind=u1 at c1 c2 c3 c4
 generalize nF u1 x.fq=u2 at c2 c3 c4
 generalize nF u2 x.node=u3 at c3 c4
 generalize al:iP x=k1 at c4 d1 d2 d3 d4 d5 l1 l2 l3 l4
 generalize yF k1 x.eO=v1 at d1 d2 d3 d4 d5 l1 l2 l3 l4
 generalize sF v1 x.at_=v2 at d2 d3 d4 d5 l2 l3 l4
 generalize nF v2 x.wall=v3 at d3 d4 d5 l3 l4
 generalize fF v3 x.yes=v4 at d4 d5 l4
 refine iV 0 func44 ntmps44 results44 λc hc hb=> ?_
 refine zA ?_
 simp[go_sem]
 refine yE [(3,0),(6,0),(9,0),(12,0)] 1 rfl kR kR ?_
 simp[go_sem]
 refine wZ c1 cB (λ_=>⟨wP rfl,zC rfl,tV⟩) rfl ?_
 simp[go_sem]
 refine pD c2 ?_
 simp[go_sem]
 refine pD c3 ?_
 simp[go_sem]
 refine pD c4 ?_
 simp[go_sem]
 refine yE [(3,3),(6,3),(9,3),(12,3)] 1 rfl kR kR ?_
 simp[go_sem]
 refine FN d1 cB ⟨wP rfl,zC rfl,tV⟩ ?_
 simp[go_sem,gG,gq,yA,GC]
 refine FM d2 cB [1] sm rfl (λi j o hi ho=> ?_) ⟨.inl rfl,zC rfl,tV⟩ (.inr rfl) ?_
 .cases i with
  |zero=>simp at hi;subst hi;simp[gq]at ho;subst ho;rfl
  |succ i=>simp at hi
 simp[go_sem,yX,fI,yA,gG,gq]
 refine FN d3 cB ⟨wP rfl,zC rfl,tV⟩ ?_
 simp[go_sem,gG,gq,yA,GC]
 refine FM d4 cB [2] sm rfl (λi j o hi ho=> ?_) ⟨.inl rfl,zC rfl,tV⟩ (.inr rfl) ?_
 .cases i with
  |zero=>simp at hi;subst hi;simp[gq]at ho;subst ho;rfl
  |succ i=>simp at hi
 simp[go_sem,yX,fI,yA,gG,gq]
 refine zL d5 cB ⟨wP rfl,zC rfl,tV⟩ rfl ?_
 simp[go_sem]
 refine zH (S:=aiZ×Nat) [1,3,4] (λu=> [.ptr 0 0,eD u.1,.int .i64 u.2]) (λ_=> [.box x.row]) (λu=>x.cH.length - u.2) (λu=>u.2<=x.cH.length/\u.1=EJ (pH x) (x.cH.take u.2)) hc hb (pH x,0) ⟨A3 _,rfl⟩ ?_ ?_
 .exact aM 1 rfl ⟨.inl rfl,zC rfl,zC rfl,tV⟩
 rintro⟨b,i⟩ ⟨hi,aa⟩
 simp only at hi aa
 have ah:b.length<=100000000:=by
  have:=Xc (x.cH.take i) (pH x) λy hy=>hs.s y (B5 hy)
  have h2:=hs.ns
  have h3:(x.cH.take i).length<=1000:=by simp;omega
  rw[<-aa]at this
  omega
 refine zA ?_
 simp[go_sem]
 refine zV (λq=> ?_) (λq=> ?_)
 .have q:i<x.cH.length:=sU q
  have ai:=hs.s x.cH[i] (A8 _)
  have cQ:=(hx.cH.2 x.cH[i] (A8 _))
  have ad:EJ (pH x) (x.cH.take (i+1))=tF (tF b x.cH[i].lo) x.cH[i].hi:=by
   rw[Cp,A0 q,Option.toList_some,aa]
   unfold EJ
   rw[Cc]
   rfl
  have g1:=PZ b x.cH[i].lo (by unfold cG;omega) (by unfold cG;omega)
  have g2:=PZ (tF b x.cH[i].lo) x.cH[i].hi (by have:=GF b x.cH[i].lo om;unfold cG;omega) (by unfold cG;omega)
  obtain⟨sp,ab⟩:=eX (x.cH[i])
  rw[ab]at g1 g2 ad
  simp[go_sem]
  refine yE [(7,0),(14,0)] 1 rfl kR kR ?_
  simp[go_sem]
  refine zJ ⟨q,by simp[A0 q,ca.row]⟩ ?_
  simp[go_sem,q,ab]
  refine pD g1 ?_
  simp[go_sem]
  refine zJ ⟨q,by simp[A0 q,ca.row]⟩ ?_
  simp[go_sem,q,ab]
  refine pD g2 ?_
  simp[go_sem]
  refine zI (tF (tF b sp.lo) sp.hi,i+1) ⟨by simp only;omega,⟨q,ad.symm⟩,aM 1 rfl (zD (by simp[go_sem];rw[zQ (n:=100000) (by have:=hs.ns;omega) om];simp) rfl)⟩
 have q:i=x.cH.length:=by simp at q;omega
 subst q
 rw[List.take_length]at aa
 have l6:=p9 b x.writes.length af
 have d6:=xz b x.writes.length (by unfold cG;omega) af
 have e3:nF b x.writes.length=pI x:=by rw[aa];rfl
 rw[e3]at d6 l6
 simp[go_sem]
 refine zL d6 cB ⟨wP rfl,zC rfl,tV⟩ rfl ?_
 simp[go_sem]
 refine zH (S:=aiZ×Nat) [1,3,5] (λu=> [.ptr 0 0,eD u.1,.int .i64 u.2]) (λ_=> [.box x.row]) (λu=>x.writes.length - u.2) (λu=>u.2<=x.writes.length/\u.1=EK (pI x) (x.writes.take u.2)) hc hb (pI x,0) ⟨A3 _,rfl⟩ ?_ ?_
 .exact aM 1 rfl ⟨.inl rfl,zC rfl,zC rfl,tV⟩
 have an:(pI x).length<=100000010:=om
 clear aa ah hi l6 d6 e3
 rintro⟨b,i⟩ ⟨hi,aa⟩
 simp only at hi aa
 have ah:b.length<=600000000:=by
  have:=Xd (x.writes.take i) (pI x) λy hy=>hs.w y (B5 hy)
  have h2:=hs.nw
  have h3:(x.writes.take i).length<=20000:=by simp;omega
  rw[<-aa]at this
  omega
 refine zA ?_
 simp[go_sem]
 refine zV (λq=> ?_) (λq=> ?_)
 .have q:i<x.writes.length:=sU q
  have ai:=hs.w x.writes[i] (A8 _)
  have ad:EK (pI x) (x.writes.take (i+1))=tF (fF (tF b x.writes[i].key) x.writes[i].drop) x.writes[i].data:=by
   rw[Cp,A0 q,Option.toList_some,aa]
   unfold EK
   rw[Cc]
   rfl
  have m1:=GF b x.writes[i].key om
  have m2:=PX (tF b x.writes[i].key) x.writes[i].drop
  have g1:=Xa b x.writes[i].key (by unfold cG;omega) (by unfold cG;omega)
  have g2:=Xb (tF b x.writes[i].key) x.writes[i].drop (by unfold cG;omega)
  have g3:=PZ (fF (tF b x.writes[i].key) x.writes[i].drop) x.writes[i].data (by unfold cG;omega) (by unfold cG;omega)
  obtain⟨sp,ab⟩:=eX (x.writes[i])
  rw[ab]at g1 g2 g3 ad
  generalize tF b sp.key=w1 at g1 g2 g3 ad
  generalize fF w1 sp.drop=w2 at g2 g3 ad
  simp[go_sem]
  refine yE [(7,3),(14,3),(21,0)] 1 rfl kR kR ?_
  have hg:((Option.map dE.row x.writes[i]?).getD []).length=3:=by simp[A0 q,dE.row]
  simp[go_sem]
  refine zJ ⟨q,hg⟩ ?_
  simp[go_sem,q,ab]
  refine FN g1 cB (yG rfl) ?_
  simp[go_sem,gG,gq,yA,GC]
  refine zJ ⟨q,hg⟩ ?_
  simp[go_sem,q,ab]
  refine FM g2 cB [1] sm rfl (λi j o hi ho=> ?_) ⟨.inl rfl,zC rfl,tV⟩ (.inr rfl) ?_
  .cases i with
   |zero=>simp at hi;subst hi;simp[gq]at ho;subst ho;rfl
   |succ i=>simp at hi
  simp[go_sem,yX,fI,yA,gG,gq]
  refine zJ ⟨q,hg⟩ ?_
  simp[go_sem,q,ab]
  refine wZ g3 cB (λ_=>⟨wP rfl,zC rfl,tV⟩) rfl ?_
  simp[go_sem]
  refine zI (tF w2 sp.data,i+1) ⟨by simp only;omega,⟨q,ad.symm⟩,aM 1 rfl (zD (by simp[go_sem];rw[zQ (n:=100000) (by have:=hs.nw;omega) om];simp) rfl)⟩
 have q:i=x.writes.length:=by simp at q;omega
 subst q
 rw[List.take_length]at aa
 simp[go_sem]
 exact zW zK ⟨by rw[aa];rfl,rfl⟩
theorem l9 (x:iK) (hx:x.ok) (hs:EL x):Pure prog 17 [.agg x.row,.agg x.row] (.bool true):=by
 refine iW 0 func17 ntmps17 results17 λc hc hb=>zM ?_
 have h:=wq9 x hx hs
 generalize IV x=u at h
 simp[go_sem]
 refine yE [(1,0),(4,0)] 2 rfl kR kR ?_
 simp[go_sem]
 refine pD h ?_
 simp[go_sem,eD]
 refine zJ (xR u) ?_
 simp[go_sem]
 refine pD h ?_
 simp[go_sem,eD]
 refine zJ (xR u) ?_
 simp[go_sem]
 exact wR
end Go.Proofs.YtplackkccmeioaaGreat.R
namespace Go.Proofs.YtplackkccmeioaaGreat
open Go Go.Vx R Go.Proofs.Tryz
set_option maxRecDepth 100000
theorem LS (n:Nat) (t:Int) (v:bK):(nP n t v).length<=141:=by
 have:=Tu v
 unfold nP
 split<;>simp<;>omega
theorem yY3 {a s:aiZ} {b:aiZ×aiZ} (ha:a.length<=141) (hb:b.1.length<=142/\b.2.length<=142):(pf a s b).1.length<=142/\(pf a s b).2.length<=142:=by
 have h1:(a++ [0]).length<=142:=by simp;omega
 unfold pf nQ tN
 repeat' split
 all_goals (refine⟨?_, ?_⟩<;>(try simp only)<;>omega)
theorem Xe (n:Nat) (t:Int) (name:aiZ): ∀(l:List bJ) (b:aiZ×aiZ),(b.1.length<=142/\b.2.length<=142)->(tO n t name l b).1.length<=142/\(tO n t name l b).2.length<=142
 | [],b,h=>h
 |e::l,b,h=>by
  unfold tO
  rw[Bn]
  refine Xe n t name l _ ?_
  split
  .exact h
  .exact yY3 (LS ..) h
theorem yp5 (t:Int) (st:bW):(nR bO t st).1.length<=142/\(nR bO t st).2.length<=142:=by
 have aa:(lB bO.length t).1.length<=142/\(lB bO.length t).2.length<=142:=by
  unfold lB
  split<;>simp
 unfold nR
 split
 .split
  .exact aa
  .rename_i name _
   have h:=Xe bO.length t name (nK st) _ aa
   refine⟨h.1, ?_⟩
   simp only[nQ]
   split
   .exact h.1
   .exact h.2
 .exact aa
def vy (s:ca):Prop:=s.lo.length<=142/\s.hi.length<=142
theorem xz9 {st:bW}: ∀p∈pY st,vy p.2:=λp hp=>by
 unfold pY at hp
 split at hp
 .cases hp
 split at hp
 .obtain⟨r,_,hp⟩:=List.mem_flatMap.1 hp
  unfold pn at hp
  split at hp
  .cases hp
  split at hp
  .cases hp
  split at hp
  .cases hp
  split at hp
  .cases hp
  split at hp
  .cases hp
  .rw[B2.1 hp]
   refine⟨Aw (LS ..) dC, ?_⟩
   simp only[An,Bm]
   exact Nat.succ_le_succ (LS ..)
 .obtain⟨g,_,rfl⟩:=Ac.1 hp
  exact yp5 _ _
theorem wa3 {r:Int} {x:ca} {uJ:US} (hx:vy x) (hU: ∀y∈uJ,∀s∈y.2,vy s): ∀y∈lZ r x uJ,∀s∈y.2,vy s:=λy hy=>by
 unfold lZ at hy
 split at hy
 .exact hU y hy
 unfold jd at hy
 split at hy
 .obtain⟨i,hi⟩:=Ar.1 hy
  rw[List.getElem?_modify]at hi
  cases e:uJ[i]? with
  |none=>rw[e]at hi;cases hi
  |some z=>
   rw[e]at hi
   have hz:=hU z (Bk e)
   simp only[Option.map_eq_map,Bb,aiy]at hi
   rw[<-hi]
   split
   .split
    .exact hz
    .intro s hs
     rcases Af.1 hs with hs|hs
     .exact hz s hs
     .rw[B2.1 hs];exact hx
   .exact hz
 .rcases Af.1 hy with hy|hy
  .exact hU y (B5 hy)
  .rcases Ae.1 hy with rfl|hy
   .intro s hs
    rw[B2.1 hs];exact hx
   .exact hU y (Bx hy)
theorem Xf: ∀{ps:List (Int×ca)} {uJ:US},(∀p∈ps,vy p.2)->(∀y∈uJ,∀s∈y.2,vy s)-> ∀y∈nZ ps uJ,∀s∈y.2,vy s
 | [],_U,_,hU=>hU
 |p::ps,uJ,hp,hU=>Xf (ps:=ps) (uJ:=lZ p.1 p.2 uJ) (λq hq=>hp q (Ba _ hq)) (wa3 (hp p (B1 ..)) hU)
theorem yO8 (cR:dU): ∀y∈mZ cR,∀s∈y.2,vy s:=by
 have hU:mZ cR=nZ (cR.stmts.flatMap pY) []:=Is cR.stmts []
 rw[hU]
 exact Xf (λp hp=>by
  obtain⟨st,_,hp⟩:=List.mem_flatMap.1 hp
  exact xz9 p hp) (λy hy=>by cases hy)
theorem xy7 {k d:aiZ} {g:Int} (h:l7 g k d):k.length<=2000:=by
 obtain⟨_,_,h3⟩:=yM2 h
 unfold fm at h3
 split at h3
 .rename_i e;exact absurd (aiz (·.2.2) h3) e
 split at h3
 .exact absurd (aiz (·.2.2) h3) sm
 .have:=aiz (·.2.1) h3
  simp only at this
  rw[<-this]
  exact Aw (LS ..) dC
theorem xy4 {cR:dU} (hl:kN cR) {b:Mp aiZ} {aa:List Ln} (hn:cO b aa) (hk:oF aa) (hlen:aa.length<=7500): ∀q∈pB cR aa,q.2.length<=20000/\ ∀w∈q.2,w.p.2.length<=2000/\w.data.length<=20000:=by
 intro q hq
 unfold pB at hq
 by_cases e:(fD cR aa).1.1≠0
 .rw[aiv e]at hq;cases hq
 rw[aiu e]at hq
 obtain⟨⟨b',ab⟩,ad,ah⟩:=Py hl hn hk (sU e)
 obtain⟨now,hN⟩:=eX ((fD cR aa).2)
 rw[hN]at ab ad ah hq
 have ae:=Wj hn.rows ab.rows hn.jh ab.jh rfl
 obtain⟨hr,af⟩:=LB hn.jh ab.jh
 have ai:=Wo aa now
 obtain⟨W,hW⟩:=eX (jg aa now)
 rw[hW]at ae hr af ai hq
 rw[VF hr ae]at hq
 obtain⟨r,rfl⟩: ∃r:Int,q=(r,W.filter λw=>w.p.1==r):=by
  simp only[Af]at hq
  rcases hq with h|h|h|h<;>exact⟨_,(WI h).1⟩
 refine⟨Aw (Dl _ _) om,λw hw=> ?_⟩
 have aj:=(Bo.1 hw).1
 have key: ∀x:Ln,xp x->x.k.length<=2000/\(xL x.v).length<=20000:=λx hx=>⟨xy7 hx,yY5 (p:=x.at) hx⟩
 rcases(af w).1 aj with ⟨_,g2,⟨x,hx,ak⟩,_⟩|⟨_,x,hx,g2,g3,_⟩
 .exact⟨by rw[<-ak];exact(key x (hk x hx).2).1,by rw[g2];exact A3 _⟩
 .exact⟨by rw[<-g2];exact(key x (ad x hx).2).1,by rw[<-g3];exact(key x (ad x hx).2).2⟩
structure x7 (a:cU):Prop where
 ok:a.cmd.ok
 s:R.EL a.cmd
theorem xz0 (a:cU) (h:x7 a):Pure prog 18 [.agg a.row,.agg a.row] (.bool true):=by
 have aa:=R.l9 a.cmd h.ok h.s
 refine iW 0 func18 ntmps18 results18 λc hc hb=>zM ?_
 simp[go_sem]
 refine pC aa ?_
 simp[go_sem]
 exact wR
theorem xd6 (l:List cU) (hl:l.length<=100000) (h: ∀a∈l,x7 a):Pure prog 16 [.sl .ro (l.map cU.row),.sl .ro (l.map cU.row)] (.bool true):=by
 refine iV 0 func16 ntmps16 results16 λc hc hb=> ?_
 refine zA ?_
 simp[go_sem]
 refine zH (S:=Nat) [0,1,5] (λi=> [.sl .ro (l.map cU.row),.sl .ro (l.map cU.row),.int .i64 (i:Int)]) (λ_=> []) (λi=>l.length - i) (λi=>i<=l.length) hc hb 0 (A3 _) ?_ ?_
 .exact aO
 rintro i hi
 by_cases q:i<l.length
 rotate_left
 .refine zA ?_
  simp[go_sem,q]
  exact wR
 have ei:=zQ q om
 obtain⟨y,hy⟩:=eX (l[i])
 have hs:=xz0 y (h y (hy▸A8 q))
 refine zA ?_
 simp[go_sem,q]
 refine yE [(8,0)] 0 rfl kR kR ?_
 simp[go_sem,q,hy]
 refine pD hs ?_
 simp[go_sem,ei]
 exact zI (i+1) ⟨om,om,aO⟩
theorem IW {a b:List V} (ha:(a.all λv=>cN 2 v)) (hb:(b.all λv=>cN 2 v)):([.box a,.box b]:St).all (bS 2)=true:=by
 rw[Bl,Bl]
 show(a.all (cN 2)&&(b.all (cN 2)&&true))=true
 rw[show a.all (cN 2)=true from ha,show b.all (cN 2)=true from hb]
 rfl
theorem Xg: ∀(n:Nat) (e:bJ),lW e<=n->n<=100000->Pure prog 127 [.agg e.row,.agg e.row] (.bool true)
 |0,e,hn,_=>by
  have:=KL e
  omega
 |n+1,e,hn,h1=>by
  have ab:=Ee e
  have hlen:=PF e.args
  have ih: ∀x∈e.args,Pure prog 127 [.agg x.row,.agg x.row] (.bool true):=λx hx=>Xg n x (by have:=NT _ _ hx;omega) om
  have aa:([.box e.row,.box e.row]:St).all (bS 2)=true:=IW (by rw[bJ.bQ];rfl) (by rw[bJ.bQ];rfl)
  refine iV 0 func127 ntmps127 results127 λc hc hb=> ?_
  refine zA ?_
  simp[go_sem]
  refine zH (S:=Nat) [2,3,5] (λi=> [.ptr 0 0,.ptr 1 0,.int .i64 (i:Int)]) (λ_=> [.box e.row,.box e.row]) (λi=>e.args.length - i) (λi=>i<=e.args.length) hc hb 0 (A3 _) ?_ ?_
  .exact aN 2 aa
  rintro i hi
  by_cases q:i<e.args.length
  rotate_left
  .refine zA ?_
   simp[go_sem,q]
   exact wR
  have ei:=zQ q om
  obtain⟨y,hy⟩:=eX (e.args[i])
  have hs:=ih y (hy▸A8 q)
  refine zA ?_
  simp[go_sem,q]
  refine yE [(10,0)] 2 rfl kR kR ?_
  simp[go_sem,q,hy]
  refine wZ hs cB (λ_=>⟨by rw[bJ.bQ];exact zC rfl,by rw[bJ.bQ];exact zC rfl,tV⟩) rfl ?_
  simp[go_sem,ei]
  exact zI (i+1) ⟨om,om,aN 2 aa⟩
theorem LU (e:bJ) (he:ja e):Pure prog 127 [.agg e.row,.agg e.row] (.bool true):=Xg 4000 e he.size dC
theorem xd9 (st:bW) (hs:kM st):Pure prog 84 [.agg st.row,.agg st.row] (.bool true):=by
 have hw:=LU st.cA hs.cA
 have ae:=hs.items.1
 have af:=hs.rows.1
 have ah:=hs.cD.1
 have aa:([.box st.row,.box st.row]:St).all (bS 2)=true:=IW rfl rfl
 refine iV 0 func84 ntmps84 results84 λc hc hb=> ?_
 refine zN (zA ?_)
 simp[go_sem]
 refine zN (zA ?_)
 simp[go_sem]
 refine zL hw cB ⟨by rw[bJ.bQ];exact zC rfl,by rw[bJ.bQ];exact zC rfl,tV⟩ rfl ?_
 simp[go_sem]
 refine zA ?_
 simp[go_sem]
 refine zH (S:=Nat) [2,3,5] (λi=> [.ptr 0 0,.ptr 1 0,.int .i64 (i:Int)]) (λ_=> [.box st.row,.box st.row]) (λi=>st.items.length - i) (λi=>i<=st.items.length) hc hb 0 (A3 _) ?_ ?_
 .exact aN 2 aa
 rintro i hi
 by_cases q:i<st.items.length
 .have ei:=zQ q om
  obtain⟨y,hy⟩:=eX (st.items[i])
  have ab:=LU y.e (hs.items.2 y (hy▸A8 q)).2
  refine zA ?_
  simp[go_sem,q]
  refine yE [(26,0)] 2 rfl kR kR ?_
  simp[go_sem,q,hy]
  refine wZ ab cB (λ_=>⟨by rw[bJ.bQ];exact zC rfl,by rw[bJ.bQ];exact zC rfl,tV⟩) rfl ?_
  simp[go_sem,ei]
  exact zI (i+1) ⟨om,om,aN 2 aa⟩
 clear hi
 refine zA ?_
 simp[go_sem,q]
 refine zH (S:=Nat) [2,3,6] (λi=> [.ptr 0 0,.ptr 1 0,.int .i64 (i:Int)]) (λ_=> [.box st.row,.box st.row]) (λi=>st.rows.length - i) (λi=>i<=st.rows.length) hc hb 0 (A3 _) ?_ ?_
 .exact aN 2 aa
 rintro i2 hi
 by_cases q2:i2<st.rows.length
 .have ei:=zQ q2 om
  obtain⟨y,hy⟩:=eX (st.rows[i2])
  obtain⟨ai,ad⟩:=hs.rows.2 y (hy▸A8 q2)
  refine zA ?_
  simp[go_sem,q2]
  refine yE [] 2 rfl kR kR ?_
  simp[go_sem,q2,hy]
  refine zH (S:=Nat) [2,3,6,7] (λk=> [.ptr 0 0,.ptr 1 0,.int .i64 (i2:Int),.int .i64 (k:Int)]) (λ_=> [.box st.row,.box st.row]) (λk=>y.length - k) (λk=>k<=y.length) hc hb 0 (A3 _) ?_ ?_
  .exact aN 2 aa
  rintro k hk
  by_cases qk:k<y.length
  .have ek:=zQ qk om
   obtain⟨z,hz⟩:=eX (y[k])
   have ab:=LU z (ad z (hz▸A8 qk))
   refine zA ?_
   simp[go_sem,q2,hy,qk]
   refine yE [(16,0)] 2 rfl kR kR ?_
   simp[go_sem,q2,hy,qk,hz]
   refine wZ ab cB (λ_=>⟨by rw[bJ.bQ];exact zC rfl,by rw[bJ.bQ];exact zC rfl,tV⟩) rfl ?_
   simp[go_sem,ek]
   exact zI (k+1) ⟨om,om,aN 2 aa⟩
  refine zA ?_
  simp[go_sem,q2,hy,qk,ei]
  exact zI (i2+1) ⟨om,om,aN 2 aa⟩
 clear hi
 refine zA ?_
 simp[go_sem,q2]
 refine zH (S:=Nat) [2,3,8] (λi=> [.ptr 0 0,.ptr 1 0,.int .i64 (i:Int)]) (λ_=> [.box st.row,.box st.row]) (λi=>st.cD.length - i) (λi=>i<=st.cD.length) hc hb 0 (A3 _) ?_ ?_
 .exact aN 2 aa
 rintro i3 hi
 by_cases q3:i3<st.cD.length
 rotate_left
 .refine zA ?_
  simp[go_sem,q3]
  exact wR
 have ei:=zQ q3 om
 obtain⟨y,hy⟩:=eX (st.cD[i3])
 have ab:=LU y.e (hs.cD.2 y (hy▸A8 q3)).2
 refine zA ?_
 simp[go_sem,q3]
 refine yE [(26,0)] 2 rfl kR kR ?_
 simp[go_sem,q3,hy]
 refine wZ ab cB (λ_=>⟨by rw[bJ.bQ];exact zC rfl,by rw[bJ.bQ];exact zC rfl,tV⟩) rfl ?_
 simp[go_sem,ei]
 exact zI (i3+1) ⟨om,om,aN 2 aa⟩
theorem xz2 (l:dU) (hl:kN l):Pure prog 41 [.agg l.row,.agg l.row] (.bool true):=by
 have ad:=hl.stmts.1
 have aa:([.box l.row,.box l.row]:St).all (bS 2)=true:=IW rfl rfl
 refine iV 0 func41 ntmps41 results41 λc hc hb=> ?_
 refine zA ?_
 simp[go_sem]
 refine zH (S:=Nat) [2,3,5] (λi=> [.ptr 0 0,.ptr 1 0,.int .i64 (i:Int)]) (λ_=> [.box l.row,.box l.row]) (λi=>l.stmts.length - i) (λi=>i<=l.stmts.length) hc hb 0 (A3 _) ?_ ?_
 .exact aN 2 aa
 rintro i hi
 by_cases q:i<l.stmts.length
 rotate_left
 .refine zA ?_
  simp[go_sem,q]
  exact wR
 have ei:=zQ q om
 obtain⟨y,hy⟩:=eX (l.stmts[i])
 have ab:=xd9 y (hl.stmts.2 y (hy▸A8 q))
 refine zA ?_
 simp[go_sem,q]
 refine yE [(10,0)] 2 rfl kR kR ?_
 simp[go_sem,q,hy]
 refine pD ab ?_
 simp[go_sem,ei]
 exact zI (i+1) ⟨om,om,aN 2 aa⟩
theorem xX4 {t:Tx} (ht:jH t) {bV:List ct} (hl:bV.length<=4) (hg: ∀x∈bV,j5 x):jH (uq oG t bV):=by
 unfold uq
 split
 .exact⟨ht.cR,ht.lM,hl,hg,ht.outs⟩
 split
 .exact PU (t:={t with bV:=bV}) ⟨ht.cR,ht.lM,hl,hg,ht.outs⟩
 .exact⟨ht.cR,ht.lM,hl,hg,ht.outs⟩
def P0:p8->Prop
 | .done l=>l.length<=4/\ ∀x∈l,j5 x
 | .wait=>True
 | .again l _=>l.length<=4/\ ∀x∈l,j5 x
theorem LV {t:Tx} {a:cU} {r:dm} (hr:fa r): ∀{ls acc:List ct},acc.length+ls.length<=4->(∀x∈acc,j5 x)->(∀x∈ls,j5 x)->P0 (mQ t a r acc ls)
 | [],acc,hl,ha,_=>by rw[mQ];exact⟨hl,ha⟩
 |l::ls,acc,hl,ha,hg=>by
  have ab:=hg l (B1 ..)
  have ad: ∀x∈ls,j5 x:=λx hx=>hg x (Ba _ hx)
  rw[Ah]at hl
  have aa: ∀y:ct,j5 y-> ∀x∈acc++ [y],j5 x:=λy hy x hx=>by
   rcases Af.1 hx with hx|hx
   .exact ha x hx
   .rw[B2.1 hx];exact hy
  rw[mQ]
  split
  .split
   .refine⟨by simp;omega,λx hx=> ?_⟩
    rcases Af.1 hx with hx|hx
    .exact ha x hx
    .rcases Ae.1 hx with rfl|hx
     .exact PO _ ab hr
     .exact ad x hx
   split
   .trivial
   .exact LV hr (by simp;omega) (aa _ (PO _ ab hr)) ad
  .exact LV hr (by simp;omega) (aa _ ab) ad
theorem Xh {t:Tx} (ht:jH t) (h9:t.id.attempt<=9) (a:cU) {r:dm} (hr:fa r) (bT:Int):jH (sr t a r bT).1:=by
 unfold sr BJ
 split
 .exact ht
 split
 .split
  .exact ht
  split
  .exact⟨ht.cR,ht.lM,ht.bV,ht.jW,ht.outs⟩
  .exact PV ht h9 0 bT
 .have h:=LV (t:=t) (a:=lL a) hr (ls:=t.bV) (acc:= []) (by simpa using ht.bV) (λx hx=>by cases hx) ht.jW
  revert h
  generalize mQ t (lL a) r [] t.bV=L
  intro h
  cases L with
  |done l=>exact xX4 ht h.1 h.2
  |wait=>exact⟨ht.cR,ht.lM,A3 _,λx hx=>(by cases hx),A3 _,λx hx=>by cases hx⟩
  |again l b=>exact PV (t:={t with bV:=l}) ⟨ht.cR,ht.lM,h.1,h.2,ht.outs⟩ h9 b bT
theorem Xi {l:dU} (hl:kN l) (id:fy):jH ⟨{id with attempt:=0},l,0,zS,0,0,[],(0,0,[])⟩:=
 ⟨hl,⟨E5 _,by show(0:Int)<=10;decide⟩,A3 _,λx hx=>(by cases hx),A3 _,λx hx=>by cases hx⟩
theorem Xj {l:dU} (hl:kN l) (id:fy) (bT:Int):jH (rG id l bT):=by
 unfold rG
 split
 .exact⟨hl,⟨E5 _,by show(0:Int)<=10;decide⟩,A3 _,λx hx=>(by cases hx),A3 _,λx hx=>by cases hx⟩
 split
 .exact⟨hl,⟨E5 _,by show(0:Int)<=10;decide⟩,A3 _,λx hx=>(by cases hx),(LP hl (vs:= []) dC).1⟩
 .exact W7 (Xi hl id) bT
theorem Xk (t:Tx):(oG t).id=t.id/\(oG t).at_=t.at_:=by
 unfold oG
 split<;>exact⟨rfl,rfl⟩
theorem yy3 (t:Tx) (bT:Int):(rF t bT).id=t.id/\(rF t bT).at_=⟨mx bT t.bump,mP t.id⟩:=by
 unfold rF
 split
 .exact Xk _
 .exact⟨rfl,rfl⟩
theorem yX7 (id:fy) (l:dU) (bT:Int):(rG id l bT).id={id with attempt:=0}:=by
 unfold rG
 split
 .rfl
 split
 .rfl
 .exact(yy3 _ _).1
theorem Xl:Pure prog 7 [] (dJ bO):=by
 have aa:=xB9
 refine iV 0 func7 ntmps7 results7 λc hc hb=> ?_
 refine zA ?_
 simp[go_sem]
 refine pC aa ?_
 simp[go_sem,Er]
 exact zW (r:=dJ bO) xQ0 ⟨rfl,rfl⟩
def pJ:aiZ:= [83,69,76,69,67,84,32,42,32,70,82,79,77,32,71]
def GG:fy:=⟨1,1,1,0⟩
def r0:dm:=⟨0,[],zT,0,zS,0,false⟩
def oH:Tx:=rG GG (sa pJ).1 10
def a24:cU:=(la oH).getD 0 PH
theorem wt9:((la oH).length,a24.range,oH.at_.wall)=(1,2,10):=kR
theorem wp2:((sr oH a24 r0 20).1.phase,(sr oH a24 r0 20).1.at_.wall)=(4,10):=kR
theorem Xm:fa r0:=⟨⟨A3 _,λp hp=>by cases hp⟩,dC,dC⟩
theorem wb9 {ρ:Nat->Nat} (r:dm) {g:Tag}:cT ρ (.agg r.row) (.agg [.int .i64 r.err,.sl g (r.cW.map fp.row),.int .i64 r.eO.node,.int .i64 r.eO.eU,.int .i64 r.eO.seq,.int .i64 r.eO.attempt,.int .i64 r.home,.int .i64 r.at_.wall,.int .i64 r.at_.tie,.int .i64 r.wall,.bool r.yes]):=by
 unfold dm.row
 exact wN ⟨zF rfl,zX,zF rfl,zF rfl,zF rfl,zF rfl,zF rfl,zF rfl,zF rfl,zF rfl,zF rfl,tV⟩
theorem xs7 (l:dU) (hl:kN l) (bT:Int):jH (rG GG l bT)/\(rG GG l bT).id.attempt<=9:=⟨Xj hl GG bT,by rw[yX7];show(0:Int)<=9;decide⟩
theorem xs8:Pure prog 6 [] (.bool true):=by
 have hl:=SV pJ dC
 have ae:=S3 pJ
 have aa:=W9 GG (sa pJ).1 ae 10
 obtain⟨hT,h9⟩:=xs7 (sa pJ).1 ae 10
 have ab:=PL oH (by have:=hT.bV;show oH.bV.length<=_;unfold oH;omega) hT.jW
 have hr:=wt9
 have ah:=wp2
 obtain⟨a,ha⟩: ∃a,la oH= [a]:=by
  have h:=aiz Prod.fst hr
  simp only at h
  cases e:la oH with
  |nil=>rw[e]at h;cases h
  |cons x l=>cases l with
   |nil=>exact⟨x,rfl⟩
   |cons y l=>rw[e]at h;simp at h
 have ai:a24=a:=by unfold a24;rw[ha];rfl
 have aj:pG a.cmd:=LO hT.jW a (by show a∈la oH;rw[ha];exact B2.2 rfl)
 have af:=LR oH hT a aj r0 Xm 20
 have ad:=Xh (t:=oH) hT h9 a Xm 20
 rw[ai]at hr ah
 obtain⟨ar,ak⟩:=Prod.mk.inj (Prod.mk.inj hr).2
 obtain⟨al,au⟩:=Prod.mk.inj ah
 obtain⟨uJ,hU⟩:=eX (sr oH a r0 20)
 rw[hU]at af ad al au
 have an:=WY uJ.1 ad 10
 have ao:=WY uJ.1 ad 9
 rw[aiv ⟨al,om⟩]at an
 rw[aiu (λh=>by have:=h.2;omega)]at ao
 rw[ha]at ab
 change Pure prog 8 _ (.agg oH.row)at aa
 obtain⟨L,hL⟩:=eX ((sa pJ).1)
 rw[hL]at hl aa
 obtain⟨T,aq⟩:=eX oH
 rw[aq]at aa ab af ak
 have g1:(a.range !=2)=false:=by rw[ar];rfl
 have g2:(T.at_.wall !=10)=false:=by rw[ak];rfl
 have av:=Xl
 clear hr ah hU ad aj ai ha hL hT h9 ae aq
 unfold pJ at hl
 unfold GG at aa
 refine iV 0 func6 ntmps6 results6 λc hc hb=> ?_
 refine zA ?_
 simp[go_sem]
 refine pC av ?_
 simp[go_sem,dJ]
 refine yE [(2,0),(3,0)] 1 rfl kR kR ?_
 simp[go_sem]
 refine pD hl ?_
 simp[go_sem]
 refine pD aa ?_
 simp[go_sem]
 refine pC ab ?_
 simp[go_sem,g1,g2]
 refine yE [(6,0)] 2 rfl kR kR ?_
 simp[go_sem]
 refine wZ af cB (λ_=>⟨zC rfl,zC rfl,zC rfl,wb9 r0 (g:= .full),zC rfl,tV⟩) rfl ?_
 simp[go_sem]
 refine pC an ?_
 simp[go_sem,p7]
 refine pC ao ?_
 simp[go_sem,p7]
 exact wR
theorem oI:cI 0:=dC
theorem EM:zS.ok:=⟨dC,dC⟩
end Go.Proofs.YtplackkccmeioaaGreat
