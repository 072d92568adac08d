/-
  What the document lays of one range is that range's part of what is otherwise now. Used by the walk of the document's Run.
  Conditions: as each theorem states them.
-/
import Derived.Test.YtefbicjgbaaieaaGreatMAM
import Derived.Test.YtefbicjgbaaieaaGreatMAK
import Derived.Test.YtefbicjgbaaieaaGreatMAJ
import Derived.Test.YtefbicjgbaaieaaGreatMAF
import Derived.Test.YtefbicjgbaaieaaGreatMAG
set_option maxHeartbeats 8000000
namespace Go.Proofs.YtefbicjgbaaieaaGreat
open Go Go.Vx R Go.Proofs.Tryz
set_option maxRecDepth 100000
theorem Sx {T:bI}: ∀{args:List bH},(wQ T args).2=0-> ∀x∈args,(kW T x).2=0
 | [],_,x,hx=>by cases hx
 |y::l,h,x,hx=>by
  rw[wQ]at h
  by_cases w:(kW T y).2=0
  .have n1: ¬(kW T y).2≠0:=λh=>h w
   rw[afa n1]at h
   rcases Ae.1 hx with rfl|hx
   .exact w
   .exact Sx h x hx
  .rw[afb w]at h;exact absurd h w
theorem Sy {T:bI} {row:List bG} (hr:mS T row) (n:Nat): ∀{args:List bH},(∀x∈args,gF x<=n/\Good x)->(wQ T args).2=0->(fH T row args).2=0->bL VK (fH T row args).1 (wQ T args).1
 | [],_,_,_=>trivial
 |x::l,hm,hk,he=>by
  rw[wQ]at hk⊢
  rw[fH]at he⊢
  by_cases w1:(kW T x).2=0
  rotate_left
  .rw[afb w1]at hk;exact absurd hk w1
  by_cases w2:(mR T row x).2=0
  rotate_left
  .rw[afb w2]at he;exact absurd he w2
  have n1: ¬(kW T x).2≠0:=λh=>h w1
  have n2: ¬(mR T row x).2≠0:=λh=>h w2
  rw[afa n1]at hk⊢
  rw[afa n2]at he⊢
  have hx:=hm x (B1 ..)
  exact⟨JG hr n x hx.1 hx.2 w1 w2,Sy hr n (λy hy=>hm y (B7 _ hy)) hk he⟩
theorem M7 {T:bI} {row:List bG} (hr:mS T row) (hT:T.bW.length<=maxLen): ∀(n:Nat) (e:bH),gF e<=n->eU e->Good e->(kW T e).2=0->Pure prog 178 [.agg T.row,.sl .ro (row.map bG.row),.agg e.row] (eV (mR T row e))
 |0,e,h,_,_,_=>by have:=Jk e;omega
 |n+1,e,h,hw,hg,hk=>by
  have ih:=M7 hr hT n
  have cH:= @Sy _ _ hr n
  have av:=tm e
  have hlen:=hw.len
  have ai:=hw.sub
  have ak:=hg.sub
  have af:=EN T e.s hT
  rw[show jz (λc:eT=>c.name==e.s) T.bW 0=cy T e.s from rfl]at af
  obtain⟨M,hM⟩:=eX (mR T row e)
  rw[hM]
  rw[Sr]at hM
  rw[MU]at hk
  have ret: ∀(v:bG) (e:Int) (U:St),(v,e)=M->cj (some (.cm [.agg v.row,.int .i64 e])) 0 (λr s=>r=eV M/\s= []) U:=λv e U h=>vi h
  refine iV 0 func178 ntmps178 results178 λc hc hb=> ?_
  refine zA ?_
  simp[go_sem]
  by_cases q1:e.kind=1
  .have ag:(e.kind==1)=true:=sU q1
   rw[afb q1]at hM
   simp[go_sem,ag]
   exact ret _ _ _ hM
  rw[afa q1]at hM hk
  have ag:(e.kind==1)=false:=sU q1
  by_cases q2:e.kind=2
  .have al:(e.kind==2)=true:=sU q2
   rw[afb q2]at hM hk
   by_cases w:cy T e.s<0
   .rw[afb w]at hk;cases hk
   obtain⟨j,hj,aw⟩:=Jw T e.s w
   have ao:j<row.length:=by rw[hr.len];exact aw
   obtain⟨v,hv⟩:=eX (row[j])
   rw[hj,Ax,A9,A0 ao,hv]at hM
   rw[hj]at af
   simp[go_sem,ag,al]
   refine zM af cB (zN sg rfl) rfl ?_
   simp[go_sem,ao,hv]
   exact ret _ _ _ hM
  rw[afa q2]at hM hk
  have al:(e.kind==2)=false:=sU q2
  by_cases q3:e.kind=3
  rotate_left
  .rw[afa q3]at hk;cases hk
  rw[afb q3]at hk
  obtain⟨args,ab⟩:=eX e.args
  rw[ab]at av hlen ai ak hM hk
  by_cases w1:(wQ T args).2=0
  rotate_left
  .rw[afb w1]at hk;exact absurd hk w1
  have n1: ¬(wQ T args).2≠0:=λh=>h w1
  rw[afa n1]at hk
  by_cases w3:mM e.v=false
  .rw[afb w3]at hk;cases hk
  rw[afa w3]at hk
  have ax:nU e.s (wQ T args).1=((nU e.s (wQ T args).1).1,0):=Prod.ext rfl hk
  have aq:=Sx w1
  have aj:(fH T row args).2=0->bL VK (fH T row args).1 (wQ T args).1:=λh=>
   cH (λx hx=>⟨by have:=BJ args x hx;omega,ak x hx⟩) w1 h
  obtain⟨K,hK⟩:=eX (fH T row args)
  rw[hK]at hM aj
  simp[go_sem,ag,al,ab]
  refine rL 8 3 dc sg ?_
  refine zH (S:=Nat×List bG) [1,3,5,6,8,29,30,31] (λu=> [.sl .ro (row.map bG.row),.ptr 0 0,.ptr 1 0,.ptr 2 0,.sl (.app 3) (u.2.map bG.row),.sl .ro (args.map bH.row),.int .i64 args.length,.int .i64 (u.1:Int)])
   (λu=> [.box T.row,.box e.row,.box [.int .i64 0,.int .i64 0,.str []],.app u.2.length 3]) (λu=>args.length - u.1)
   (λu=>u.1<=args.length/\u.2.length=u.1/\(fH T row (args.drop u.1)).2=K.2/\(K.2=0->u.2++(fH T row (args.drop u.1)).1=K.1)) hc hb (0,[])
   ⟨A5 _,rfl,by simp only[Az];rw[hK],λ_=>by simp only[Az];rw[hK];rfl⟩ ?_ ?_
  .exact ca 4 (by simp[go_sem,ab]) rfl (by simp[bP,cK,cG,bH.bN,bI.row]) (A5 _) (zD sg rfl)
  rintro⟨i,l⟩ ⟨hi,hl,hinv,aa⟩
  simp only at hi hl hinv aa
  by_cases q:i<args.length
  rotate_left
  .rw[A8 om,fH]at hinv aa
   have ae:K.2=0:=hinv.symm
   have ar:l=K.1:=by have:=aa ae;simpa using this
   have n2: ¬K.2≠0:=λh=>h ae
   rw[afa n2,<-ar]at hM
   have hA:=aj ae
   rw[<-ar]at hA
   obtain⟨_,d1,d2,d3,d4⟩:=Sw ax hA
   have au:=xX6 e.s l d1 d2 d3 d4
   generalize sv e.s l=o at au hM
   refine zA ?_
   simp[go_sem,q]
   refine pC au ?_
   simp[go_sem,eV]
   exact vi hM
  have ei:=zR q om
  obtain⟨x,hx⟩:=eX (args[i])
  have ah:x∈args:=hx▸Aa q
  have ay:=BJ args x ah
  rw[A2 q,hx,fH]at hinv aa
  have ad:=ih x om (ai x ah) (ak x ah) (aq x ah)
  generalize mR T row x=kx at ad hinv aa
  by_cases q4:kx.2=0
  .have n3: ¬kx.2≠0:=λh=>h q4
   rw[afa n3]at hinv aa
   have an:(kx.2 !=0)=false:=sU q4
   refine zA ?_
   simp[go_sem,q,hx]
   refine zM ad cB (zN sg (by rw[bH.bN];rfl)) rfl ?_
   simp[go_sem,eV,an]
   refine zI ⟨om,by unfold eS;simp⟩ ?_
   simp[go_sem,ei]
   refine zG (i+1,l++ [kx.1]) ⟨by simp only;omega,⟨by simp only;omega,by simp;omega,hinv,λh=>by have:=aa h;simpa using this⟩, ?_⟩
   exact aN 4 (by simp[bP,cK,cG,bH.bN])
  .rw[afb q4]at hinv
   have an:(kx.2 !=0)=true:=sU q4
   have ae:kx.2=K.2:=hinv
   rw[afb (by rw[<-ae];exact q4),<-ae]at hM
   refine zA ?_
   simp[go_sem,q,hx]
   refine zM ad cB (zN sg (by rw[bH.bN];rfl)) rfl ?_
   simp[go_sem,eV,an]
   exact ret zeroV _ _ hM
def ep:bI:=⟨[],[],0,0,0,⟨[],[],[],0,0,0⟩⟩
theorem Sz:mS ep []:=⟨rfl,λj C v h=>by simp[ep]at h⟩
theorem xB3:ep.bW= []:=rfl
def yt (e:bH):bG×Int:=if(ia ep e).2≠0 then(zeroV,(ia ep e).2)else mR ep [] e
theorem xY0 {e:bH} (he:jL e) (h:(yt e).2=0):VK (yt e).1 (ia ep e).1:=by
 unfold yt at h⊢
 by_cases q:(ia ep e).2=0
 rotate_left
 .rw[afb q]at h;exact absurd h q
 have n1: ¬(ia ep e).2≠0:=λh=>h q
 rw[afa n1]at h⊢
 have hs:=he.size
 unfold ia at q⊢
 by_cases d:gF e<=64
 .rw[afb d]at q⊢
  exact JG Sz 64 e d he.dD q h
 .rw[afa d]at q;cases q
theorem xJ8 (e:bH) (he:jL e):Pure prog 106 [.agg ep.row,.sl .ro [],.agg e.row] (eV (yt e)):=by
 have ab:=Jx ep (by simp[ep,maxLen]) e he
 have ad:=λ(d:gF e<=64) (k:(kW ep e).2=0)=>M7 Sz (by simp[ep,maxLen]) 64 e d he.wide he.dD k
 generalize hM:yt e=M
 unfold yt at hM
 have ret: ∀(v:bG) (e:Int) (U:St),(v,e)=M->cj (some (.cm [.agg v.row,.int .i64 e])) 0 (λr s=>r=eV M/\s= []) U:=λv e U h=>vi h
 refine iV 0 func106 ntmps106 results106 λc hc hb=> ?_
 refine zA ?_
 simp[go_sem]
 refine zM ab cB (zN sg (by rw[bH.bN];rfl)) rfl ?_
 simp[go_sem,wJ]
 by_cases q:(ia ep e).2=0
 rotate_left
 .have q':((ia ep e).2 !=0)=true:=sU q
  rw[afb q]at hM
  simp[go_sem,q']
  exact ret zeroV _ _ hM
 have q':((ia ep e).2 !=0)=false:=sU q
 have n1: ¬(ia ep e).2≠0:=λh=>h q
 rw[afa n1]at hM
 have aa:Pure prog 178 [.agg ep.row,.sl .ro [],.agg e.row] (eV (mR ep [] e)):=by
  unfold ia at q
  by_cases d:gF e<=64
  .rw[afb d]at q;exact ad d q
  .rw[afa d]at q;cases q
 rw[hM]at aa
 simp[go_sem,q',xB3]
 refine zH (S:=Unit) [1,3,5,6,29,30,31] (λ_=> [.sl .ro [],.ptr 0 0,.ptr 1 0,.ptr 2 0,.sl .ro [],.int .i64 0,.int .i64 0])
   (λ_=> [.box ep.row,.box e.row,.box [.int .i64 0,.int .i64 0,.str []]]) (λ_=>0) (λ_=>True) hc hb () trivial ?_ ?_
 .exact ca 3 (by simp[go_sem,ep]) rfl (by simp[bP,cK,cG,bH.bN,bI.row]) (A5 _) (zD sg rfl)
 rintro u _
 refine zA ?_
 simp[go_sem]
 refine zM aa cB (zN sg (by rw[bH.bN];rfl)) rfl ?_
 simp[go_sem,eV]
 exact vi rfl
end Go.Proofs.YtefbicjgbaaieaaGreat
namespace Go.Proofs.YtefbicjgbaaieaaGreat.R
open Go Go.Vx Go.Proofs.Tryz
set_option maxRecDepth 100000
variable {bW:List eT}
def yu:List eT->List bG->Int
 |c::cs,v::vs=>if dO v=false then 9 else if v.kind=0/\c.null=false then 16 else if v.kind≠0/\v.kind≠c.kind then 15 else yu cs vs
 |_,_=>0
def eD (bW:List eT) (row:List bG):Int:=if row.length≠bW.length then 9 else yu bW row
theorem SA (t:bI) (row:List bG) (hr:row.length<=maxLen):Pure prog 149 [.agg t.row,.sl .ro (row.map bG.row)] (.int .i64 (eD t.bW row)):=by
 obtain⟨name,bW,key,place,region,lG⟩:=t
 refine iV 0 func149 ntmps149 results149 λc hc hb=> ?_
 refine zA ?_
 have ret: ∀(r:Int) (U:St),r=eD bW row->cj (some (.int .i64 r)) 0 (λr s=>r= .int .i64 (eD bW row)/\s= []) U:=λr U h=>by subst h;exact wR
 simp[go_sem]
 refine zS (λh=> ?_) (λh=> ?_)
 .have h:row.length≠bW.length:=by simp at h;omega
  simp[go_sem]
  exact ret _ _ (by rw[eD,afb h])
 have h:row.length=bW.length:=by simp at h;omega
 rw[eD,afa om]at ret⊢
 simp[go_sem]
 refine zH (S:=Nat) [2,13,14,15] (λi=> [.ptr 0 0,.sl .ro (row.map bG.row),.int .i64 row.length,.int .i64 i]) (λ_=> [.box (bI.row ⟨name,bW,key,place,region,lG⟩)]) (λi=>row.length - i) (λi=>i<=row.length/\yu (bW.drop i) (row.drop i)=yu bW row) hc hb 0 ⟨A5 _,rfl⟩ ?_ ?_
 .exact aN 1 rfl
 rintro i ⟨hi,hinv⟩
 refine zA ?_
 simp[go_sem]
 refine zS (λq=> ?_) (λq=> ?_)
 .have q:i<row.length:=sU q
  have q2:i<bW.length:=om
  have ei:=zR q (by unfold maxLen at hr;omega)
  rw[A2 q,A2 q2]at hinv
  obtain⟨⟨k,n,s⟩,hv⟩: ∃v,row[i]=v:=⟨_,rfl⟩
  obtain⟨⟨cn,ck,cb⟩,ab⟩: ∃v,bW[i]=v:=⟨_,rfl⟩
  rw[hv,ab,yu]at hinv
  simp only at hinv
  simp[go_sem,q,hv]
  refine pC (EJ ⟨k,n,s⟩) ?_
  simp[go_sem]
  refine zS (λh1=> ?_) (λh1=> ?_)
  .have h1:dO ⟨k,n,s⟩=false:=sU h1
   rw[afb h1]at hinv
   simp[go_sem]
   exact ret _ _ hinv
  have h1: ¬dO ⟨k,n,s⟩=false:=sU h1
  rw[afa h1]at hinv
  simp[go_sem]
  refine xD (λh2=> ?_) (λh2=> ?_)
  .have aa:k=0:=sU h2
   simp[go_sem,h2,q2,ab]
   refine zS (λh3=> ?_) (λh3=> ?_)
   .have h3:cb=false:=sU h3
    rw[afb ⟨aa,h3⟩]at hinv
    simp[go_sem]
    exact ret _ _ hinv
   have h3: ¬cb=false:=sU h3
   rw[afa (λw=>h3 w.2),afa (λw=>w.1 aa)]at hinv
   simp[go_sem]
   refine yV [] 2 rfl kR kR ?_
   simp[go_sem,aa,ei]
   exact zG (i+1) ⟨om,⟨q,hinv⟩,aM 1 rfl (zD (by simp[go_sem]) rfl)⟩
  .have aa: ¬k=0:=sU h2
   rw[afa (λw=>aa w.1)]at hinv
   simp[go_sem,h2]
   refine yV [] 2 rfl kR kR ?_
   have ad:(k !=0)=true:=sU aa
   simp[go_sem,ad,q2,ab]
   refine zS (λh4=> ?_) (λh4=> ?_)
   .have h4: ¬k=ck:=sU h4
    rw[afb ⟨aa,h4⟩]at hinv
    simp[go_sem]
    exact ret _ _ hinv
   have h4:k=ck:=sU h4
   rw[afa (λw=>w.2 h4)]at hinv
   simp[go_sem,ei]
   exact zG (i+1) ⟨om,⟨q,hinv⟩,aM 1 rfl (zD (by simp[go_sem]) rfl)⟩
 .have q:i=row.length:=by
   have: ¬i<row.length:=sU q
   omega
  subst q
  rw[Cd,h,Cd]at hinv
  simp[go_sem]
  exact ret _ _ hinv
def sx (n j:Nat) (t:bI) (row:List bG) (rg:Int->Int×Int):Int×afE×Int:=
 if eD t.bW row≠0 then(0,[],eD t.bW row)
 else
  let r:=rg (if t.place=0 then min (max (row.headD v0).n (-1)) 4 else 0)
  if r.2≠0 then(0,[],r.2)else(r.1,u9 n j (row.getD t.key.toNat v0),0)
def sy (r:Int×afE×Int):V:= .cm [.int .i64 r.1,.str r.2.1,.int .i64 r.2.2]
theorem GY {r:Int×afE×Int} {a e:Int} {s:afE} {U:St} (h:r=(a,s,e)):cj (some (.cm [.int .i64 a,.str s,.int .i64 e])) 0 (λv s=>v=sy r/\s= []) U:=by
 subst h
 exact wR
theorem vj {row:List bG} (h:eD bW row=0):row.length=bW.length:=by
 unfold eD at h
 split at h
 .cases h
 .rename_i h2;omega
theorem xs5 (ae:List (List V)) (ts:List bI) (j:Nat) (hj:j<ts.length) (t:bI) (ht:ts[j]=t) (row:List bG) (hr:row.length<=maxLen) (hL:eD t.bW row=0->iv row) (hn:ts.length<=cZ) (hk:0<=t.key/\t.key<t.bW.length) (rg:Int->Int×Int)
  (ag: ∀r,-1<=r->r<=4->(t.place≠0->r=0)->Pure prog 62 [.agg [.sl .ro ae,.sl .ro (ts.map bI.row)],.int .i64 j,.int .i64 r] (.cm [.int .i64 (rg r).1,.int .i64 (rg r).2])):
  Pure prog 88 [.agg [.sl .ro ae,.sl .ro (ts.map bI.row)],.int .i64 j,.sl .ro (row.map bG.row)] (sy (sx ts.length j t row rg)):=by
 have af:=SA t row hr
 have hbound: ∀v:bG,v.ok->v.s.length<=500->_:=λv h1 h2=>Z5 ae (ts.map bI.row) j v (sU hn) h1 h2
 simp only[Bb]at hbound
 generalize aa:sx ts.length j t row rg=res
 unfold sx at aa
 obtain⟨m,hm⟩:=eX (eD t.bW row)
 have hlen:m=0->row.length=t.bW.length:=λh=>vj (hm.trans h)
 rw[hm]at af hL aa
 obtain⟨name,bW,key,place,region,lG⟩:=t
 simp only at hk hlen aa
 obtain⟨q,rfl⟩: ∃q:Nat,key=q:=⟨key.toNat,om⟩
 refine iV 0 func88 ntmps88 results88 λc hc hb=> ?_
 refine zA ?_
 simp[go_sem]
 refine pC (iM ae (ts.map bI.row) j) ?_
 simp[go_sem,hj,ht]
 refine zM af cB (zN sg rfl) rfl ?_
 simp[go_sem]
 refine zS (λh=> ?_) (λh=> ?_)
 .have h:m≠0:=sU h
  simp[go_sem]
  exact GY (by rw[<-aa,afb h])
 have h:m=0:=sU h
 have hl:=hlen h
 have hq:q<row.length:=om
 have h0:0<row.length:=om
 have ah:=hL h
 obtain⟨v,hv⟩:=eX (row[q])
 obtain⟨v1,ai⟩: ∃v,row[0]=v:=⟨_,rfl⟩
 have aj:v∈row:=hv▸Aa hq
 have e1:row.headD v0=v1:=by
  rw[<-ai]
  cases row with
  |nil=>simp at h0
  |cons a l=>rfl
 have e2:row.getD q v0=v:=by rw[A9,A0 hq,hv];rfl
 rw[afa om,e1,Ax,e2]at aa
 have ak:=hbound v (ah.ok v aj) (ah.s v aj)
 have fin: ∀(x:Int) (U:St),(if place=0 then min (max v1.n (-1)) 4 else 0)=x->((rg x).2≠0->res=(0,[],(rg x).2))/\((rg x).2=0->res=((rg x).1,u9 ts.length j v,0)):=λx U hx=>by
  rw[hx]at aa
  exact⟨λw=>by rw[<-aa];exact afb w,λw=>by rw[<-aa];exact afa (λq=>q w)⟩
 simp[go_sem]
 refine zS (λhp=> ?_) (λhp=> ?_)
 .have hp:place=0:=sU hp
  simp[go_sem,h0,ai]
  obtain⟨x,hx⟩:=eX ((if 4<if v1.n< -1 then -1 else v1.n then 4 else if v1.n< -1 then -1 else v1.n))
  have al:x=min (max v1.n (-1)) 4:=by rw[<-hx];split<;>split<;>omega
  rw[hx]
  have ab:=fin x [] (by rw[afb hp,al])
  have ad:=ag x om om (λw=>absurd hp w)
  revert ab ad
  generalize rg x=o
  obtain⟨oa,oe⟩:=o
  intro ab ad
  simp only at ab ad
  refine pC ad ?_
  simp[go_sem]
  refine zS (λw=> ?_) (λw=> ?_)
  .have w:oe≠0:=sU w
   simp[go_sem]
   exact GY (ab.1 w)
  have w:oe=0:=sU w
  simp[go_sem]
  refine yV [(8,0)] 2 rfl kR kR ?_
  simp[go_sem,hq,hv]
  refine pD ak ?_
  simp[go_sem]
  exact GY (ab.2 w)
 .have hp: ¬place=0:=sU hp
  have ab:=fin 0 [] (by rw[afa hp])
  have ad:=ag 0 om om (λ_=>rfl)
  revert ab ad
  generalize rg 0=o
  obtain⟨oa,oe⟩:=o
  intro ab ad
  simp only at ab ad
  simp[go_sem]
  refine pC ad ?_
  simp[go_sem]
  refine zS (λw=> ?_) (λw=> ?_)
  .have w:oe≠0:=sU w
   simp[go_sem]
   exact GY (ab.1 w)
  have w:oe=0:=sU w
  simp[go_sem]
  refine yV [(8,0)] 2 rfl kR kR ?_
  simp[go_sem,hq,hv]
  refine pD ak ?_
  simp[go_sem]
  exact GY (ab.2 w)
theorem SB {n:Nat} (h:n<256):(UInt8.ofNat n).toNat=n:=by
 simp_all
theorem tO: ∀a:afE,Op.bytesLess a a=false
 | []=>rfl
 |a::l=>by simp[Op.bytesLess,tO l]
theorem yw: ∀a b c:afE,Op.bytesLess a b=true->Op.bytesLess b c=true->Op.bytesLess a c=true
 |_,[],_,h,_=>by grind[Op.bytesLess]
 |_,_::_,[],_,h=>by trivial
 | [],_::_,_::_,_,_=>rfl
 |a::l,b::m,d::n,h1,h2=>by
  simp only[Op.bytesLess,Bg,afe,A6,afh]at*
  rcases h1 with h1|⟨rfl,h1⟩
  .grind
  .rcases h2 with h2|⟨rfl,h2⟩
   .grind
   .exact .inr ⟨rfl,yw l m n h1 h2⟩
theorem GZ: ∀a b:afE,Op.bytesLess a b=true\/a=b\/Op.bytesLess b a=true
 | [],[]=>sm
 | [],_::_=> .inl rfl
 |_::_,[]=> .inr (.inr rfl)
 |a::l,b::m=>by
  simp only[Op.bytesLess,Bg,afe,A6,afh,List.cons.injEq]
  by_cases h:a<b
  .grind
  .by_cases h2:b<a
   .grind
   .have he:a=b:=(by grind)
    subst he
    rcases GZ l m with q|rfl|q
    all_goals grind
theorem M8: ∀(n i v:Nat) (rest:afE),n<18446744073709551616->(n*128^i<18446744073709551616)->(0<i->0<n)->gG (eP n++rest) i v=(v+n*128^i,i+(eP n).length,0):=by
 intro n
 induction n using Nat.strongRecOn with
 |_ n ih=>
  intro i v rest hn hb h0
  have h9:i=9->n<=1:=(by grind)
  by_cases h:n<128
  .have e:(UInt8.ofNat n).toNat=n:=SB om
   rw[GH h]
   show gG (UInt8.ofNat n::rest) i v=_
   rw[gG,e,afa om,afb h,afa om,Cm h]
   rfl
  .have e:(UInt8.ofNat (n%128+128)).toNat=n%128+128:=SB om
   rw[Jn h]
   show gG (UInt8.ofNat (n%128+128)::(eP (n/128)++rest)) i v=_
   rw[gG,e,afa om,afa om]
   have hdiv:n/128*128^(i+1)<=n*128^i:=by
    rw[afC,Dl (128^i) 128,<-Nat.mul_assoc]
    simp[Af,Nat.div_mul_le_self]
   rw[ih (n/128) om (i+1) _ rest om om om]
   have e2:(n%128+128)%128=n%128:=om
   rw[e2,Ab]
   have e3:n%128*128^i+n/128*128^(i+1)=n*128^i:=by
    rw[afC,Dl (128^i) 128,<-Nat.mul_assoc,<-B0]
    grind
   grind
theorem xT8 (n:Int):kh (iO n)=n:=by
 unfold kh iO
 grind
theorem M9 {v:bG} (h:dO v):(v.kind=0/\v.n=0/\v.s= [])\/(v.kind=1/\(v.n=0\/v.n=1)/\v.s= [])\/(v.kind=2/\v.s= [])\/(v.kind=3/\v.n=0/\v.s.length<=64):=by
 grind[dO]
theorem yO1 {v:bG} (h:dO v) (ho:v.ok) (rest:afE):kV (jT v++rest)=⟨v,(jT v).length,0⟩:=by
 have hp:=M9 h
 have hi:=ho.n
 obtain⟨k,n,s⟩:=v
 simp only at hp hi
 unfold jT
 rw[afb h]
 simp only
 rcases hp with ⟨rfl,rfl,rfl⟩|⟨rfl,hn,rfl⟩|⟨rfl,rfl⟩|⟨rfl,rfl,hl⟩
 .rfl
 .rcases hn with rfl|rfl<;>simp[kV,n9,tI]
 .grind[M8,iO,kV,n9,xT8]
 .have ht:=M8 s.length 0 0 (s++rest) om om (λh=>om)
  have aa:sd (eP s.length++(s++rest))=(s,(eP s.length).length+s.length,0):=by
   unfold sd
   rw[ht]
   have e1:(eP s.length++(s++rest)).take ((eP s.length).length+s.length)=eP s.length++s:=by
    grind
   simp_all[wN,afa];omega
  grind[kV,n9]
theorem SD: ∀(l:List bG),(∀v∈l,dO v=true)->(∀v∈l,v.ok)->gM l.length (l.flatMap jT)=some l
 | [],_,_=>by rfl
 |v::l,h,ho=>by
  have h1:=yO1 (h v sm) (ho v sm) (l.flatMap jT)
  have h2:=SD l (λx hx=>h x (by simp[hx])) (λx hx=>ho x (by simp[hx]))
  rw[Ab,gM,Ch,h1]
  simp[h2]
theorem SF: ∀(cs:List eT) (vs:List bG),vs.length=cs.length->yu cs vs=0-> ∀i (hi:i<cs.length) (hj:i<vs.length),dO vs[i]=true/\(cs[i].null=false->vs[i].kind=cs[i].kind)
 | [],[],_,_,i,hi,_=>by grind
 |c::cs,v::vs,hl,h,i,hi,hj=>by
  unfold yu at h
  split at h
  .cases h
  .rename_i h1
   split at h
   .cases h
   .rename_i h2
    split at h
    .cases h
    .rename_i h3
     cases i with
     |zero=>
      refine⟨by simpa using h1,λhn=> ?_⟩
      have hn:c.null=false:=hn
      have:v.kind≠0:=λq=>h2 ⟨q,hn⟩
      exact Decidable.not_not.1 λq=>h3 ⟨this,q⟩
     |succ i=>exact SF cs vs (sU hl) h i (sU hi) (sU hj)
 | [],_::_,hl,_,_,_,_=>by grind
 |_::_,[],hl,_,_,_,_=>by grind
theorem xn5 {row:List bG} (h:eD bW row=0):yu bW row=0:=by
 grind[eD]
theorem SG {row:List bG} (h:eD bW row=0): ∀v∈row,dO v=true:=λv hv=>by
 obtain⟨i,hi,rfl⟩:=List.mem_iff_getElem.1 hv
 exact(SF bW row (vj h) (xn5 h) i (by grind[vj]) hi).1
theorem xE8 {row:List bG} (h:eD bW row=0) (hL:iv row):jo bW.length (yP row)=(row,0):=by
 have hl:=vj h
 have aa:=hL.len
 have ht:=M8 row.length 0 0 (row.flatMap jT) om om (λh=>om)
 have hd:yP row=eP row.length++row.flatMap jT:=by grind[yP,qF]
 unfold jo
 rw[hd,ht]
 simp[<-hl,SD row (SG h) hL.ok,sf]
end Go.Proofs.YtefbicjgbaaieaaGreat.R
namespace Go.Proofs.YtefbicjgbaaieaaGreat
open Go Go.Vx R Go.Proofs.Tryz
set_option maxRecDepth 100000
end Go.Proofs.YtefbicjgbaaieaaGreat
namespace Go.Vx
open Go
end Go.Vx
namespace Go.Proofs.YtefbicjgbaaieaaGreat
open Go Go.Vx R Go.Proofs.Tryz
set_option maxRecDepth 100000
end Go.Proofs.YtefbicjgbaaieaaGreat
namespace Go.Proofs.YtefbicjgbaaieaaGreat
open Go Go.Vx R Go.Proofs.Tryz
set_option maxRecDepth 100000
def G0 (v:bG) (C:eT):Bool:=dO v&&(v.kind==0||v.kind==C.kind)
def CD (cs:List eT) (row:List bG):Bool:=decide (row.length=cs.length)&&(row.zip cs).all λp=>G0 p.1 p.2
theorem SH {T:bI} {row:List bG} (h:CD T.bW row) (hv: ∀v∈row,v.ok):mS T row:=by
 unfold CD at h
 rw[A6,afe]at h
 refine⟨h.1,λj C v hC hV=> ?_⟩
 have hz:(row.zip T.bW)[j]? =some (v,C):=by rw[List.getElem?_zip_eq_some];exact⟨hV,hC⟩
 have h2:=Ad.1 h.2 _ (Bh hz)
 unfold G0 at h2
 simp only[A6,Bg,afh]at h2
 have aa:=hv v (Bh hV)
 exact⟨h2.1,⟨aa.n.1,aa.n.2⟩,h2.2.elim .inr .inl⟩
def fX (T:bI) (row:List bG) (e:bH):bG×Int:=if(ia T e).2≠0 then(zeroV,(ia T e).2)else if CD T.bW row=false then(zeroV,9)else mR T row e
theorem Na (e:bH):fX ep [] e=yt e:=rfl
section
variable {b:List V} {rows:List (List V)} {A:afF} {τ:St}
end
theorem wc5 {v:bG} {k:Int} (h:VK v k):v.ok/\v.s.length<=500:=by
 have hm:=h.may
 have hn:=h.n
 unfold dO at hm
 have:db v.kind/\v.s.length<=64:=by
  unfold db
  split at hm
  .rename_i q;rw[q];simp at hm;exact⟨dc,by rw[hm.2];decide⟩
  split at hm
  .rename_i q;rw[q];simp at hm;exact⟨dc,by rw[hm.2];decide⟩
  split at hm
  .rename_i q;rw[q];simp at hm;exact⟨dc,by rw[hm];decide⟩
  split at hm
  .rename_i q;rw[q];simp at hm;exact⟨dc,hm.2⟩
  .cases hm
 exact⟨⟨this.1,hn,by unfold maxLen;omega⟩,om⟩
theorem Nb: ∀(n:Nat) (q l:List bH),(∀e∈q,Good e)->(∀e∈l,Good e)-> ∀e∈rZ n q l,Good e
 |0,_,_,_,hl=>hl
 |n+1,[],_,_,hl=>by rw[rZ];exact hl
 |n+1,x::q,l,hq,hl=>by
  have hx:=hq x (B1 ..)
  have aa: ∀e∈q,Good e:=λe he=>hq e (B7 _ he)
  rw[rZ]
  split
  .exact Nb n _ _ (λe he=>by
    rcases Ar.1 he with he|he
    .exact aa e he
    .exact hx.sub e he) hl
  .exact Nb n _ _ aa (λe he=>by
    rcases Ar.1 he with he|he
    .exact hl e he
    .rw[C4]at he;subst he;exact hx)
theorem xH5 {st:bQ} (h:Good st.ct):MZ st:=λe he name s v ha=>by
 have hg:Good e:=by
  unfold nv at he
  split at he
  .exact Nb 4096 [st.ct] [] (λe he=>by rw[C4]at he;subst he;exact h) (λe he=>by cases he) e he
  .cases he
 have aa: ∃a∈e.args,a.v=v:=by
  unfold n5 at ha
  split at ha
  .rename_i a b heq ab
   rw[ab]
   split at ha
   .split at ha
    .cases ha;exact⟨a,sm,rfl⟩
    .cases ha
   .split at ha
    .cases ha;exact⟨b,sm,rfl⟩
    .cases ha
  .cases ha
 obtain⟨a,ad,rfl⟩:=aa
 exact(hg.sub a ad).v
theorem xL0 {a b:afE} (h:Op.bytesLess a b):Op.bytesLess b a=false:=by
 cases q:Op.bytesLess b a with
 |false=>rfl
 |true=>grind[yw,tO]
def Nc (r:Int) (e:bH):Bool:=match n5 e [82]with|none=>true|some (s,v)=> !(s== [61]&&(v.kind==2&& !(v.n==r)))
theorem Nd: ∀(l:List bH) (rs:afH),jM l rs=rs.filter λr=>l.all (Nc r)
 | [],rs=>(D9.2 sm).symm
 |e::l,rs=>by
  have ih:=Nd l
  have h:jM (e::l) rs=jM l (match n5 e [82]with|none=>rs|some (s,v)=>if s= [61]/\v.kind=2 then kD v.n rs else rs):=rfl
  rw[h,ih]
  have h2:(match n5 e [82]with|none=>rs|some (s,v)=>if s= [61]/\v.kind=2 then kD v.n rs else rs)=rs.filter (Nc · e):=by
   unfold Nc
   cases n5 e [82]with
   |none=>exact(D9.2 sm).symm
   |some p=>
    obtain⟨s,v⟩:=p
    simp only
    by_cases q:s= [61]/\v.kind=2
    .rw[afb q]
     unfold kD
     grind
    .rw[afa q]
     refine(D9.2 λr _=> ?_).symm
     grind
  simp_all[Bool.and_comm]
def EY (tn:Nat) (row:List bG):Int:=if tn=0 then(row.getD 0 zeroV).n else if tn=1 then -1 else 1
def eW (tn:Nat) (T:bI) (row:List bG):Int×afE×Int:=
 if eD T.bW row≠0 then(0,[],eD T.bW row)else if tn=0/\ ¬((row.getD 0 zeroV).n=0\/(row.getD 0 zeroV).n=1)then(0,[],19)else((jU tn (EY tn row)).1,u9 3 tn (row.getD T.key.toNat zeroV),0)
end Go.Proofs.YtefbicjgbaaieaaGreat
namespace Go.Proofs.YtefbicjgbaaieaaGreat
open Go Go.Vx Go.Proofs.Tryz
set_option maxRecDepth 100000
variable {J:Type}
abbrev Pl:=Int×afE
def gB (p:Pl):V:= .agg [.int .i64 p.1,.str p.2]
abbrev sC:Kk:= .st [.i .i64,.s]
def fL {J:Type} (g:J->V):List (Pl×J)->List V
 | []=> []
 |e::W=>gB e.1::g e.2::fL g W
structure Mp (J:Type) where
 W:List (Pl×J)
 bs:afF
 cD:Nat
def Mp.ob (g:J->V) (m:Mp J):Ob:= .mp (fL g m.W) m.bs m.cD
structure Mp.ok {J:Type} (m:Mp J):Prop where
 len:m.bs.length=m.W.length
 nd:m.bs.Nodup
 lt: ∀b∈m.bs,b<m.cD
 keys:(m.W.map (·.1)).Nodup
def tP (J:Type):Mp J:=⟨[],[],0⟩
theorem SI (J:Type):(tP J).ok:=⟨rfl,Ca,λb hb=>(by cases hb),Ca⟩
def dw {J:Type} (p:Pl):List (Pl×J)->Option (Nat×J)
 | []=>none
 |e::W=>if e.1=p then some (0,e.2)else(dw p W).map λq=>(q.1+1,q.2)
def Mp.at (m:Mp J) (p:Pl):Option (Nat×J):=dw p m.W
def Mp.get (m:Mp J) (p:Pl):Option J:=(m.at p).map (·.2)
def Mp.put (m:Mp J) (p:Pl) (v:J):Mp J:=match m.at p with
 |some (i,_)=>⟨m.W.set i (p,v),m.bs,m.cD⟩
 |none=>⟨m.W++ [(p,v)],m.bs++ [m.cD],m.cD+1⟩
def Mp.del (m:Mp J) (p:Pl):Mp J:=match m.at p with
 |some (i,_)=>⟨m.W.eraseIdx i,m.bs.eraseIdx i,m.cD⟩
 |none=>m
theorem Nf (p q:Pl):jY sC (gB p) (gB q)=some (decide (p=q)):=by
 obtain⟨a,b⟩:=p
 obtain⟨c,d⟩:=q
 simp only[jY,gB,kJ,je,and_self,afj,Ao,Ba,Dq,afg]
 grind
theorem SJ (p:Pl):ma sC (gB p)=true:=by rfl
section
variable {J:Type} {g:J->V}
variable {m:Mp J}{p:Pl}{U:St}{z:J}{i:Nat}{r:Int}{k:afE}
theorem Ng (p:Pl): ∀(W:List (Pl×J)) (i:Nat),nf sC (gB p) (fL g W) i=some ((dw p W).map λq=>(i+q.1,g q.2))
 | [],_=>rfl
 |e::W,i=>by
  rw[fL,nf,Nf,dw]
  by_cases h:e.1=p
  .grind
  .rw[afa h]
   have:decide (p=e.1)=false:=(by grind)
   rw[this]
   simp only
   rw[Ng p W (i+1)]
   cases dw p W<;>grind
theorem SK (m:Mp J) (p:Pl):nf sC (gB p) (fL g m.W) 0=some ((m.at p).map λq=>(q.1,g q.2)):=by
 grind[Ng,Mp.at]
theorem vl {p:Pl} {i:Nat} {v:J}: ∀{W:List (Pl×J)},dw p W=some (i,v)->W[i]? =some (p,v)
 | [],h=>by trivial
 |e::W,h=>by
  rw[dw]at h
  by_cases q:e.1=p
  .grind
  .rw[afa q]at h
   simp only[Al,afl]at h
   obtain⟨⟨j,u⟩,h1,rfl,rfl⟩:=h
   simpa using vl h1
theorem JH {p:Pl}: ∀{W:List (Pl×J)},dw p W=none-> ∀e∈W,e.1≠p
 | [],_,e,he=>by cases he
 |e::W,h,x,hx=>by
  rw[dw]at h
  by_cases q:e.1=p
  .grind
  .rw[afa q]at h
   simp only[Option.map_eq_none_iff]at h
   rcases Ae.1 hx with rfl|hx
   .exact q
   .exact JH h x hx
theorem SL {p:Pl} {v:J}: ∀{W:List (Pl×J)},(W.map (·.1)).Nodup->(p,v)∈W-> ∃i,dw p W=some (i,v)
 | [],_,h=>by cases h
 |e::W,hn,h=>by
  rw[Ai,C0]at hn
  rw[dw]
  rcases Ae.1 h with rfl|h
  .simp
  .have:e.1≠p:=(by grind)
   obtain⟨i,hi⟩:=SL hn.2 h
   grind
theorem Mp.get_mem (hm:m.ok) {v:J}:m.get p=some v↔(p,v)∈m.W:=by
 constructor
 .intro h
  unfold Mp.get Mp.at at h
  rw[Al]at h
  obtain⟨⟨i,u⟩,h1,rfl⟩:=h
  exact Bh (vl h1)
 .intro h
  obtain⟨i,hi⟩:=SL hm.keys h
  unfold Mp.get Mp.at
  grind
theorem SM (W:List (Pl×J)) (p:Pl) (v:J):fL g W++ [gB p,g v]=fL g (W++ [(p,v)]):=by
 induction W with
 |nil=>rfl
 |cons e W ih=>rw[fL,Ap,Ap,ih];rfl
theorem SN (p:Pl) (v:J): ∀(W:List (Pl×J)) (i:Nat),pf (fL g W) i (gB p) (g v)=fL g (W.set i (p,v))
 | [],i=>by rfl
 |e::W,0=>by rfl
 |e::W,i+1=>by
  have ih:=SN p v W i
  unfold pf at ih⊢
  rw[show 2*(i+1)=2*i+1+1 by omega,fL]
  simp only[Bv]
  rw[ih]
  rfl
theorem Nh (v:J): ∀(W:List (Pl×J)) (i:Nat) (p:Pl) (u:J),W[i]? =some (p,u)->(fL g W).set (2*i+1) (g v)=fL g (W.set i (p,v))
 | [],i,_,_,h=>by rfl
 |e::W,0,p,u,h=>by grind[fL]
 |e::W,i+1,p,u,h=>by
  have ih:=Nh v W i p u (sU h)
  rw[show 2*(i+1)+1=2*i+1+1+1 by omega,fL]
  simp only[Bv]
  rw[ih]
  rfl
theorem SO: ∀(W:List (Pl×J)) (i:Nat),i<W.length->vS (fL g W) i=fL g (W.eraseIdx i)
 | [],i,h=>by grind
 |e::W,0,_=>by rfl
 |e::W,i+1,h=>by
  have ih:=SO W i (sU h)
  unfold vS at ih⊢
  rw[show 2*(i+1)=2*i+1+1 by omega,show 2*i+1+1+2=2*i+2+1+1 by omega,fL]
  simp only[Bl,Br,Ap]
  rw[ih]
  rfl
theorem JI {z:V} {id:Nat} (cv:U[id]? =some (m.ob g)) (p:Pl) (ok:Bool):
  xV (some (sC,z)) U (.mp id) (gB p) ok= .ok (match m.get p with
   |some v=>if ok then .cm [g v,.bool true]else g v
   |none=>if ok then .cm [z,.bool false]else z):=by
 unfold xV
 simp only[SJ,afj,cv,Mp.ob,SK]
 unfold Mp.get
 cases m.at p<;>rfl
def Mp.lV {J:Type} (m:Mp J) (p:Pl) (z:J):Mp J:=match m.at p with
 |some _=>m
 |none=>⟨m.W++ [(p,z)],m.bs++ [m.cD],m.cD+1⟩
def Mp.dI {J:Type} (m:Mp J) (p:Pl):Nat:=match m.at p with
 |some (i,_)=>m.bs.getD i 0
 |none=>m.cD
theorem SP {id:Nat} (hm:m.ok) (cv:U[id]? =some (m.ob g)) (p:Pl):
  wA (some (sC,g z)) U (.mp id) (gB p)=(match m.at p with
   |some (_,v)=> .ok (.cm [g v,.int .i64 (m.dI p:Int)])
   |none=> .st (.cm [g z,.int .i64 (m.dI p:Int)]) (U.set id ((m.lV p z).ob g))):=by
 unfold wA Mp.dI Mp.lV
 simp only[SJ,afj,cv,Mp.ob,SK]
 cases h:m.at p with
 |none=>grind[SM]
 |some q=>
  have:=(A1.1 (vl (W:=m.W) (i:=q.1) (v:=q.2) h)).1
  have hb:m.bs[q.1]? =some (m.bs.getD q.1 0):=by
   rw[A9,A0 (by rw[hm.len];omega)]
   rfl
  grind
theorem SQ {bs:afF} (hn:bs.Nodup) {b:Nat} (h:bs[i]? =some b):bs.findIdx? (λ(x:Nat)=>((x:Int)==(b:Int)))=some i:=by
 obtain⟨hi,rfl⟩:=A1.1 h
 rw[List.findIdx?_eq_some_iff_getElem]
 refine⟨hi,sm,λj hj=> ?_⟩
 intro q
 rw[afh]at q
 grind[Dm]
theorem SR {id:Nat} (hm:m.ok) (hg: ∀v,mq (g v)) (p:Pl) (cv:U[id]? =some ((m.lV p z).ob g)) (v:J):
  xL U (.mp id) (.int .i64 (m.dI p:Int)) (g v)= .st .u (U.set id ((m.put p v).ob g)):=by
 unfold xL
 simp only[hg,afj,cv]
 unfold Mp.ob Mp.lV Mp.dI Mp.put
 cases h:m.at p with
 |none=>
  have hf:(m.bs++ [m.cD]).findIdx? (λ(b:Nat)=>((b:Int)==(m.cD:Int)))=some m.W.length:=by
   refine SQ ?_ ?_
   .rw[Dv]
    refine⟨hm.nd,sm,λa ha b hb=> ?_⟩
    have:=hm.lt a ha
    grind
   .rw[<-hm.len];simp
  grind[Nh]
 |some q=>
  have h1:=vl (W:=m.W) (i:=q.1) (v:=q.2) h
  have hl:=(A1.1 h1).1
  have hb:m.bs[q.1]? =some (m.bs.getD q.1 0):=by
   rw[A9,A0 (by rw[hm.len];exact hl)]
   rfl
  simp only[SQ hm.nd hb]
  grind[Nh]
theorem Mp.lv (hm:m.ok) (p:Pl) (z:J):(m.lV p z).ok:=by
 unfold Mp.lV
 cases h:m.at p with
 |some q=>exact hm
 |none=>
  refine⟨by simp[hm.len], ?_,λb hb=> ?_, ?_⟩
  .rw[Dv]
   refine⟨hm.nd,sm,λa ha b hb=> ?_⟩
   have:=hm.lt a ha
   grind
  .rcases Ar.1 hb with hb|hb
   .have:=hm.lt b hb;grind
   grind
  .rw[Cr,Dv]
   refine⟨hm.keys,sm,λa ha b hb=> ?_⟩
   obtain⟨e,he,rfl⟩:=Ac.1 ha
   simp at hb
   subst hb
   exact JH h e he
theorem Mp.ko (hm:m.ok) (p:Pl) (v:J):(m.put p v).ok:=by
 unfold Mp.put
 cases h:m.at p with
 |some q=>
  have h1:=vl (W:=m.W) (i:=q.1) (v:=q.2) h
  have:((m.W.set q.1 (p,v)).map (·.1))=m.W.map (·.1):=by
   rw[afD]
   exact yE _ _ _ (by grind)
  exact⟨by simp[hm.len],hm.nd,hm.lt,by rw[this];exact hm.keys⟩
 |none=>
  have:=Mp.lv hm p v
  unfold Mp.lV at this
  grind
theorem Mp.CE (hm:m.ok) (p:Pl):(m.del p).ok:=by
 unfold Mp.del
 cases h:m.at p with
 |some q=>
  refine⟨?_,afm (by grind) hm.nd,λb hb=>hm.lt b (List.mem_of_mem_eraseIdx hb), ?_⟩
  .simp only[List.length_eraseIdx,hm.len]
  .exact afm (by grind) hm.keys
 |none=>exact hm
theorem Mp.sD {q:Nat×J} (h:m.at p=some q):m.lV p z=m:=by grind[Mp.lV]
theorem JJ {p:Pl} {v:J}: ∀{W:List (Pl×J)},dw p W=none->dw p (W++ [(p,v)])=some (W.length,v)
 | [],_=>by simp[dw]
 |e::W,h=>by
  rw[dw]at h
  by_cases q:e.1=p
  .grind
  .rw[afa q,Option.map_eq_none_iff]at h
   rw[Ap,dw,afa q,JJ h]
   rfl
theorem Mp.vm (h:m.at p=none):(m.lV p z).get p=some z:=by
 unfold Mp.get Mp.at Mp.lV
 rw[h]
 simp only
 unfold Mp.at at h
 rw[JJ h];rfl
theorem Mp.get_none (h:m.at p=none):m.get p=none:=by unfold Mp.get;grind
theorem Mp.get_some {v:J} (h:m.at p=some (i,v)):m.get p=some v:=by unfold Mp.get;grind
theorem xv8 {md:Option (Kk×V)} (hz:md=some (sC,g z)) (h:m.at p=none):xV md [(m.lV p z).ob g] (.mp 0) (gB p) false=xV md [m.ob g] (.mp 0) (gB p) false:=by
 subst hz
 rw[JI (m:=m.lV p z) rfl,JI (m:=m) rfl,Mp.vm h,Mp.get_none h]
 rfl
theorem SU {p:Pl} {v u:J}: ∀{W:List (Pl×J)} {i:Nat},dw p W=some (i,u)->dw p (W.set i (p,v))=some (i,v)
 | [],_,h=>by trivial
 |e::W,i,h=>by
  rw[dw]at h
  by_cases q:e.1=p
  .rw[afb q]at h
   simp only[afg,afl]at h
   obtain⟨rfl,rfl⟩:=h
   rw[Cl,dw,afb rfl]
  .rw[afa q,Al]at h
   obtain⟨⟨j,w⟩,h1,h2⟩:=h
   simp only[afl]at h2
   obtain⟨rfl,rfl⟩:=h2
   rw[Bv,dw,afa q,SU h1]
   rfl
theorem Mp.sE (m:Mp J) (p:Pl) (v:J): ∃i,dw p (m.put p v).W=some (i,v):=by
 unfold Mp.put
 cases h:m.at p with
 |none=>exact⟨_,JJ h⟩
 |some q=>exact⟨q.1,SU (u:=q.2) h⟩
theorem ot {W:List (Pl×J)}:nf (.st [.i .i64,.s]) (.agg [.int .i64 r,.str k]) (fL g W) 0=some ((dw (r,k) W).map λq=>(q.1,g q.2)):=by
 show nf sC (gB (r,k)) (fL g W) 0=_
 simp[Ng]
theorem SV {id:Nat} (hm:m.ok) (cv:U[id]? =some (m.ob g)) (h:m.at p=none):
  wA (some (sC,g z)) U (.mp id) (gB p)= .st (.cm [g z,.int .i64 (m.dI p:Int)]) (U.set id ((m.lV p z).ob g)):=by
 have:=SP hm (z:=z) cv p
 grind
theorem xv7 {id:Nat} (hm:m.ok) {v:J} (cv:U[id]? =some (m.ob g)) (h:m.at p=some (i,v)):
  wA (some (sC,g z)) U (.mp id) (gB p)= .ok (.cm [g v,.int .i64 (m.dI p:Int)]):=by
 have:=SP hm (z:=z) cv p
 grind
theorem SX {id:Nat} {m:Mp Int} (hm:m.ok) (h:m.at (r,k)=none) (cv:U[id]? =some (m.ob (V.int .i64))):
  wA (some (.st [.i .i64,.s],.int .i64 0)) U (.mp id) (.agg [.int .i64 r,.str k])= .st (.cm [.int .i64 0,.int .i64 (m.dI (r,k):Int)]) (U.set id ((m.lV (r,k) 0).ob (V.int .i64))):=SV (g:=V.int .i64) hm (z:=0) cv h
theorem SY {id:Nat} {m:Mp Int} {v:Int} (hm:m.ok) (h:m.at (r,k)=some (i,v)) (cv:U[id]? =some (m.ob (V.int .i64))):
  wA (some (.st [.i .i64,.s],.int .i64 0)) U (.mp id) (.agg [.int .i64 r,.str k])= .ok (.cm [.int .i64 v,.int .i64 (m.dI (r,k):Int)]):=xv7 (g:=V.int .i64) hm (z:=0) cv h
theorem JK {id:Nat} {m:Mp afE} (hm:m.ok) (h:m.at (r,k)=none) (cv:U[id]? =some (m.ob V.str)):
  wA (some (.st [.i .i64,.s],.str [])) U (.mp id) (.agg [.int .i64 r,.str k])= .st (.cm [.str [],.int .i64 (m.dI (r,k):Int)]) (U.set id ((m.lV (r,k) []).ob V.str)):=SV (g:=V.str) hm (z:= []) cv h
theorem SZ {id:Nat} {m:Mp Int} {v:Int} (hm:m.ok) (cv:U[id]? =some ((m.lV p 0).ob (V.int .i64))):
  xL U (.mp id) (.int .i64 (m.dI p:Int)) (.int .i64 v)= .st .u (U.set id ((m.put p v).ob (V.int .i64))):=SR (g:=V.int .i64) hm (λ_=>rfl) p cv v
theorem JL {id:Nat} {m:Mp afE} {v:afE} (hm:m.ok) (cv:U[id]? =some ((m.lV p []).ob V.str)):
  xL U (.mp id) (.int .i64 (m.dI p:Int)) (.str v)= .st .u (U.set id ((m.put p v).ob V.str)):=SR (g:=V.str) hm (λ_=>rfl) p cv v
theorem yu3 {id:Nat} {m:Mp Int} {q:Nat×Int} {v:Int} (hm:m.ok) (h:m.at p=some q) (cv:U[id]? =some (m.ob (V.int .i64))):
  xL U (.mp id) (.int .i64 (m.dI p:Int)) (.int .i64 v)= .st .u (U.set id ((m.put p v).ob (V.int .i64))):=(by grind[SZ,Mp.sD])
end
end Go.Proofs.YtefbicjgbaaieaaGreat
namespace Go.Proofs.YtefbicjgbaaieaaGreat
open Go Go.Vx R Go.Proofs.Tryz
set_option maxRecDepth 100000
structure Ln where
 r:Int
 k:afE
 v:List bG
variable {J:Type}{b:Mp afE}{W:List (Pl×J)}{bs:afF}{p:Pl}{seen:afF}{st:bQ}
@[go_sem] def Ln.row (x:Ln):List V:= [.int .i64 x.r,.str x.k,.sl .ro (x.v.map bG.row)]
def Ln.at (x:Ln):Pl:=(x.r,x.k)
def xW (a b:Pl):Bool:=decide (a.1<b.1)||(decide (a.1=b.1)&&Op.bytesLess a.2 b.2)
theorem G1 (a:Pl):xW a a=false:=by simp[xW,tO]
theorem G2 {a b c:Pl} (h:xW a b) (g:xW b c):xW a c=true:=by
 simp only[xW,Bg,A6,afe]at h g⊢
 rcases h with h|⟨h,h'⟩<;>rcases g with g|⟨g,g'⟩
 .exact .inl om
 .exact .inl om
 .exact .inl om
 .exact .inr ⟨om,yw _ _ _ h' g'⟩
theorem G3 (a b:Pl):xW a b=true\/a=b\/xW b a=true:=by
 simp only[xW,Bg,A6,afe]
 rcases afB a.1 b.1 with h|h|h
 .exact .inl (.inl h)
 .rcases GZ a.2 b.2 with g|g|g
  .exact .inl (.inr ⟨h,g⟩)
  .exact .inr (.inl (Prod.ext h g))
  .exact .inr (.inr (.inr ⟨h.symm,g⟩))
 .exact .inr (.inr (.inl h))
theorem Ni {a b:Pl} (h:xW a b):xW b a=false:=by
 cases q:xW b a
 .rfl
 .have:=G2 h q;rw[G1]at this;cases this
def fI (l:List Pl):Prop:=l.Pairwise λa b=>xW a b=true
def vo (l:List Ln) (x:Ln):List Ln:=l.takeWhile (λy=>xW y.at x.at)++x::l.dropWhile (λy=>xW y.at x.at)
def ib (l:List Ln) (p:Pl):Bool:=l.any λx=>x.at==p
def ou (t:Int) (st:bQ) (x:Ln):Bool:=
 (oh t st).any (λg=>(jU t g).1==x.r)&&(!Op.bytesLess x.k (tJ bM t st).1&&Op.bytesLess x.k (tJ bM t st).2)
def sF (T:bI) (st:bQ):List Ln->List Ln->List Ln×Int
 |acc,[]=>(acc,0)
 |acc,x::l=>if(fX T x.v st.ct).2≠0 then([],(fX T x.v st.ct).2)else sF T st (if CC (fX T x.v st.ct).1=true then acc++ [x]else acc) l
def fD (t:Int) (T:bI) (st:bQ) (l:List Ln):List Ln×Int:=
 if st.dq=true then sF T st [] (l.filter (ou t st))else(l.filter (ou t st),0)
def dP (T:bI) (row:List bG):List bH->List bG->List bG×Int
 | [],acc=>(acc,0)
 |e::l,acc=>if(fX T row e).2≠0 then([],(fX T row e).2)else dP T row l (acc++ [(fX T row e).1])
def fU (t:Nat) (T:bI):List (List bH)->List Ln->List Ln×Int
 | [],l=>(l,0)
 |r::rs,l=>
  if(dP ep [] r []).2≠0 then([],(dP ep [] r []).2)
  else if(eW t T (dP ep [] r []).1).2.2≠0 then([],(eW t T (dP ep [] r []).1).2.2)
  else if ib l ((eW t T (dP ep [] r []).1).1,(eW t T (dP ep [] r []).1).2.1)=true then([],18)
  else fU t T rs (vo l ⟨(eW t T (dP ep [] r []).1).1,(eW t T (dP ep [] r []).1).2.1,(dP ep [] r []).1⟩)
def fM (T:bI) (ny:List bG):List bY->List bG->List bG×Int
 | [],row=>(row,0)
 |x::l,row=>if(fX T ny x.e).2≠0 then([],(fX T ny x.e).2)else fM T ny l (row.set (cy T x.name).toNat (fX T ny x.e).1)
def iT (l:List Ln) (p:Pl) (row:List bG):List Ln:=l.map λy=>if y.at=p then⟨y.r,y.k,row⟩else y
def ga (T:bI) (cu:List bY):List Ln->List Ln->List Ln×Int
 | [],l=>(l,0)
 |x::m,l=>
  if(fM T x.v cu x.v).2≠0 then([],(fM T x.v cu x.v).2)
  else if eD T.bW (fM T x.v cu x.v).1≠0 then([],eD T.bW (fM T x.v cu x.v).1)
  else ga T cu m (iT l x.at (fM T x.v cu x.v).1)
def jr:List Ln->List Ln->List Ln
 | [],l=>l
 |x::m,l=>jr m (l.filter λy=> !decide (y.at=x.at))
def yx (items:List cx):Bool:=items.any λx=>x.kind==3||x.kind==4
def jN (T:bI) (e:bH):List Ln->bG->bG×Int
 | [],acc=>(acc,0)
 |x::l,acc=>
  if(fX T x.v e).2≠0 then(zeroV,(fX T x.v e).2)
  else if(fX T x.v e).1.kind=0 then jN T e l acc
  else if(eJ (acc.n+(fX T x.v e).1.n)).2≠0 then(zeroV,(eJ (acc.n+(fX T x.v e).1.n)).2)
  else jN T e l ⟨2,(eJ (acc.n+(fX T x.v e).1.n)).1,[]⟩
def pV (T:bI) (l:List Ln):List cx->List bG->List bG×Int
 | [],acc=>(acc,0)
 |x::xs,acc=>
  if x.kind=4 then(if(jN T x.e l zeroV).2≠0 then([],(jN T x.e l zeroV).2)else pV T l xs (acc++ [(jN T x.e l zeroV).1]))
  else pV T l xs (acc++ [⟨2,l.length,[]⟩])
def G4 (gt:Ln->Bool) (out:List Ln) (x:Ln):List Ln:=(out.reverse.dropWhile gt).reverse++x::(out.reverse.takeWhile gt).reverse
def pW (c:Nat) (down:Bool) (x y:Ln):Int:=if down=true then -(iS (x.v.getD c zeroV) (y.v.getD c zeroV))else iS (x.v.getD c zeroV) (y.v.getD c zeroV)
def ov (c:Nat) (down:Bool) (l:List Ln):List Ln:=l.foldl (λout x=>G4 (λy=>decide (0<pW c down y x)) out x) []
def kZ (dg:Int) (l:List Ln):List Ln:=if 0<=dg then l.take dg.toNat else l
def ow (T:bI) (items:List cx):List Ln->List (List bG)->List (List bG)×Int
 | [],acc=>(acc,0)
 |x::l,acc=>
  if(items.head?.map (·.kind))=some 1 then ow T items l (acc++ [x.v])
  else if(dP T x.v (items.map (·.e)) []).2≠0 then([],(dP T x.v (items.map (·.e)) []).2)
  else ow T items l (acc++ [(dP T x.v (items.map (·.e)) []).1])
structure Ot where
 count:Int
 rows:List (List bG)
def Ot.row (x:Ot):List V:= [.sl .ro (x.rows.map λr=> [.sl .ro (r.map bG.row)]),.int .i64 x.count]
def k5 (T:bI) (st:bQ) (l:List Ln):Ot×Int:=
 if yx st.items=true then(if(pV T l st.items []).2≠0 then(⟨0,[]⟩,(pV T l st.items []).2)else(⟨0,[(pV T l st.items []).1]⟩,0))
 else
  let m:=kZ st.dg (if 0<=cy T st.order then ov (cy T st.order).toNat st.down l else l)
  if(ow T st.items m []).2≠0 then(⟨0,[]⟩,(ow T st.items m []).2)else(⟨0,(ow T st.items m []).1⟩,0)
def iD (st:bQ) (l:List Ln):Ot×List Ln×Int:=
 let t:=(iR st.table).toNat
 let T:=bM.getD t ep
 if st.kind=2 then(if(fU t T st.rows l).2≠0 then(⟨0,[]⟩,[],(fU t T st.rows l).2)else(⟨st.rows.length,[]⟩,(fU t T st.rows l).1,0))
 else if(fD t T st l).2≠0 then(⟨0,[]⟩,[],(fD t T st l).2)
 else if st.kind=1 then((k5 T st (fD t T st l).1).1,l,(k5 T st (fD t T st l).1).2)
 else if st.kind=3 then
  (if(ga T st.cu (fD t T st l).1 l).2≠0 then(⟨0,[]⟩,[],(ga T st.cu (fD t T st l).1 l).2)else(⟨(fD t T st l).1.length,[]⟩,(ga T st.cu (fD t T st l).1 l).1,0))
 else(⟨(fD t T st l).1.length,[]⟩,jr (fD t T st l).1 l,0)
def eZ:List bQ->Nat->List Ot->List Ln->(Int×Int×List Ot)×List Ln
 | [],_,acc,l=>((0,0,acc),l)
 |x::ss,i,acc,l=>if(iD x l).2.2≠0 then(((iD x l).2.2,(i:Int),[]),[])else eZ ss (i+1) (acc++ [(iD x l).1]) (iD x l).2.1
def dd (dz:fj) (l:List Ln):(Int×Int×List Ot)×List Ln:=
 if(kY dz).2≠0 then(((kY dz).2,(kY dz).1,[]),l)else if(eZ dz.stmts 0 [] l).1.1≠0 then((eZ dz.stmts 0 [] l).1,l)else eZ dz.stmts 0 [] l
structure Wr where
 p:Pl
 drop:Bool
 data:afE
def kp (l:List Wr) (w:Wr):List Wr:=l.takeWhile (λy=>xW y.p w.p)++w::l.dropWhile (λy=>xW y.p w.p)
def gb (oT now:List Ln):List Wr:=
 (now.filter λx=> !(oT.any λy=>decide (y.at=x.at)&&decide (yP y.v=yP x.v))).foldl (λl x=>kp l ⟨x.at,false,yP x.v⟩)
  ((oT.filter λx=> !ib now x.at).foldl (λl x=>kp l ⟨x.at,true,[]⟩) [])
theorem EZ {bW:List eT} {row:List bG} (hc:bW.length<=20) (hv: ∀v∈row,v.ok) (h:eD bW row=0):iv row:=by
 have hl:=vj h
 refine⟨om,λv aa=> ?_,hv⟩
 rcases M9 (SG h v aa)with ⟨_,_,h3⟩|⟨_,_,h3⟩|⟨_,h3⟩|⟨_,_,h3⟩
 all_goals grind
theorem xm3 (tn:Nat) (T:bI) (hT:bM[tn]? =some T) (row:List bG):sx 3 tn T row (jU tn)=eW tn T row:=by
 unfold sx eW
 by_cases h:eD T.bW row≠0
 .rw[afb h,afb h]
 .rw[afa h,afa h]
  have hl:=vj (Classical.not_not.1 h)
  have e0:row.headD v0=row.getD 0 zeroV:=by cases row<;>rfl
  rw[e0]
  have ev:v0=zeroV:=rfl
  rw[ev]
  obtain⟨aa,ab⟩:=A1.1 hT
  have h3:tn<3:=aa
  unfold EY jU
  generalize row.getD 0 zeroV=x
  match tn,h3 with
  |0,_=>
   have hp:T.place=0:=by cases hT;decide
   simp only[hp,afj,true_and]
   by_cases q0:x.n=0
   .simp[q0,show min (max (0:Int) (-1)) 4=0 by decide]
   .by_cases q1:x.n=1
    .simp[q1,show min (max (1:Int) (-1)) 4=1 by decide]
    .have n0: ¬min (max x.n (-1)) 4=0:=om
     have n1: ¬min (max x.n (-1)) 4=1:=om
     simp[q0,q1,n0,n1]
  |1,_=>
   have hp: ¬T.place=0:=by cases hT;decide
   simp
  |2,_=>
   have hp: ¬T.place=0:=by cases hT;decide
   simp
theorem S0 (tn:Nat) (T:bI) (hT:bM[tn]? =some T) (row:List bG) (hr:row.length<=maxLen) (hv: ∀v∈row,v.ok):Pure prog 88 [dS bM,.int .i64 tn,.sl .ro (row.map bG.row)] (sy (eW tn T row)):=by
 obtain⟨aa,ab⟩:=A1.1 hT
 have hk:=(by decide: ∀T∈bM,0<=T.key/\T.key<T.bW.length/\T.bW.length<=20) T (by grind)
 rw[<-xm3 tn T hT row]
 exact xs5 xZ bM tn aa T ab row hr (EZ hk.2.2 hv) dc om (jU tn) λr h1 h2 h3=>by
  have ad:tn<3:=aa
  exact RH tn r om om
def fm:Ob:= .box [.sl .ro xZ,.sl .ro (bM.map bI.row),.mp 0,.mp 1,.mp 2]
def cM (a b:Mp afE) (c:Mp Int):St:= [a.ob .str,b.ob .str,c.ob (V.int .i64),fm]
theorem S3 {J:Type} {g:J->V} (hg: ∀v,j6 0 (g v)) (n:Nat): ∀W:List (Pl×J),(fL g W).all (j6 n)=true
 | []=>rfl
 |e::W=>by
  rw[fL,Aq,Aq,S3 hg n W,IB om (hg e.2)]
  rfl
theorem S4 {g:J->V} (hg: ∀v,j6 0 (g v)) (n:Nat) (m:Mp J):bP n (m.ob g)=true:=S3 hg n m.W
theorem xY (n:Nat) (h:3<=n) (a b:Mp afE) (c:Mp Int):(cM a b c).all (bP n)=true:=by
 have h0:decide (0<n)=true:=(by grind)
 have h1:decide (1<n)=true:=(by grind)
 have h2:decide (2<n)=true:=(by grind)
 simp only[cM,Aq,D6,Dq,S4 (g:=V.str) (λ_=>rfl),S4 (g:=V.int .i64) (λ_=>rfl),B2]
 simp_all[fm,bP,cK,cG]
def k6 (c:Mp Int) (p:Pl):Int:=(c.get p).getD 0
def mT (gC:Int) (key data:afE):Bool:=
 decide ((fp gC).2.2=0)&&(decide ((fu bM (fp gC).1 data).2=0)&&decide (eW (fp gC).1.toNat (bM.getD (fp gC).1.toNat ep) (fu bM (fp gC).1 data).1=(gC,key,0)))
def pX (m:Mp afE×Mp afE×Mp Int):St:=cM m.1 m.2.1 m.2.2
abbrev M3:=Mp afE×Mp afE×Mp Int
def yy (p:Pl) (data:afE) (m:M3):M3:=
 if k6 m.2.2 p=0/\mT p.1 p.2 data=true then(m.1.put p data,m.2.1.put p data,m.2.2.put p (k6 m.2.2 p+1))else(m.1,m.2.1,m.2.2.put p (k6 m.2.2 p+1))
theorem xJ4 {u:Nat} (h:u<18446744073709551616): -9223372036854775808<=kh u/\kh u<=9223372036854775807:=by
 grind[kh]
theorem S5:(v0:bG).ok:=⟨dc,dc,dc⟩
theorem Nj {k n:Int} {s:afE} (h1: -9223372036854775808<=k/\k<=9223372036854775807) (h2: -9223372036854775808<=n/\n<=9223372036854775807) (h3:s.length<=maxLen):(bG.mk k n s).ok:=⟨h1,h2,h3⟩
theorem xr1: ∀b:afE,(kV b).v.ok
 | []=>S5
 |c::rest=>by
  grind[kV,n9,S5,tI,Nj,xJ4,Jr,maxLen]
theorem S6: ∀(n:Nat) (b:afE) (l:List bG),gM n b=some l->l.length=n/\ ∀v∈l,v.ok
 |0,b,l,h=>by
  rw[gM]at h
  grind
 |n+1,b,l,h=>by
  rw[gM]at h
  split at h
  .rw[Al]at h
   obtain⟨l',h1,rfl⟩:=h
   obtain⟨h2,h3⟩:=S6 n _ l' h1
   refine⟨by grind,λv hv=> ?_⟩
   rcases Ae.1 hv with rfl|hv
   all_goals grind[xr1]
  grind
theorem S7 (t:Nat) (data:afE):(fu bM t data).1.length<=maxLen/\ ∀v∈(fu bM t data).1,v.ok:=by
 have h0:([]:List bG).length<=maxLen/\ ∀v∈([]:List bG),v.ok:=sm
 unfold fu
 split
 .rename_i h
  have hc:=(by decide: ∀T∈bM,T.bW.length<=maxLen) (bM[(t:Int).toNat]'om) sm
  unfold R.jo
  split
  .unfold sf
   grind[S6]
  omega
 omega
theorem wc2 (g:Nat) (hg:g<1000) (key data:afE) (hd:data.length<=cZ) (a b:Mp afE) (sn:Mp Int) (ha:a.ok) (ah:b.ok) (hs:sn.ok) (az:sn.at (g,key)=none->a.at (g,key)=none/\b.at (g,key)=none) (au: ∀i v,sn.at (g,key)=some (i,v)->1<=v/\v<=1000000):
  bK prog 41 [.ptr 3 0,.int .i64 g,.agg [.str key,.str data]] (cM a b sn) (λr s=>r= .cm []/\s=pX (yy (g,key) data (a,b,sn))):=by
 obtain⟨M,hM⟩:=eX (yy (g,key) data (a,b,sn))
 rw[hM]
 have ret: ∀(a' b':Mp afE) (ai:Mp Int) (Ul:St),M=(a',b',ai)->cj (some (.cm [])) 4 (λr s=>r= .cm []/\s=pX M) (a'.ob .str::b'.ob .str::ai.ob (V.int .i64):: .box [.sl .ro xZ,.sl .ro (bM.map bI.row),.mp 0,.mp 1,.mp 2]::Ul):=λa' b' ai Ul h=>by
  subst h
  exact xM 4 rfl rfl (xY 4 dc a' b' ai) om (zC rfl) (by trivial)
 have a1:=GK g hg
 refine iV 4 func41 ntmps41 results41 λc hc hb=> ?_
 refine zA ?_
 simp[go_sem,cM,fm]
 refine pC a1 ?_
 simp[go_sem,EM]
 obtain⟨ob,an⟩: ∃ob:Ob->R,ob=λo=>xV (some (sC,.int .i64 0)) [o] (.mp 0) (gB (g,key)) false:=⟨_,rfl⟩
 obtain⟨k1,av⟩:=eX (k6 sn (g,key))
 cases aa:sn.at (g,key)with
 |none=>
  have ad:=Mp.get_none aa
  have ae:k1=0:=by rw[<-av];unfold k6;grind
  subst ae
  refine LU [(5,1),(7,3)] ⟨0,6,[2],some (2,ob)⟩ sm (by rfl) kR ?_
  simp[go_sem]
  refine Qk (kv:=gB (g,key)) (id:=2) (n0:=⟨0,6,[2],some (2,ob)⟩) (by rfl) (by rfl) Tryz.oM an rfl sm (JI (m:=sn) rfl (g,key) false) ?_
  simp[go_sem,ad]
  refine IL ?_ ?_
  .simp[go_sem,SX hs aa]
   refine⟨sm,λ_=> .inr ?_⟩
   exact Kp.xj (k:=⟨0,6,[2],some (2,ob)⟩) (U:= [a.ob .str,b.ob .str,sn.ob (V.int .i64),fm,.box [.str key,.str data],.box [.int .i64 g,.str key]]) (id:=2) (o:=sn.ob (V.int .i64)) (o':=(sn.lV (g,key) 0).ob (V.int .i64)) rfl rfl (λq hq _=>by cases hq;rw[an];first|done|exact xv8 rfl aa)
  simp[go_sem,SX hs aa,SZ hs]
  obtain⟨i1,ao⟩:=Mp.sE sn (g,key) 1
  by_cases he:(fp g).2.2=0
  rotate_left
  .have ab:((fp g).2.2 !=0)=true:=by grind
   refine yV [] 6 sm (by rfl) kR ?_
   simp[go_sem,ab]
   exact ret a b _ _ (by grind[yy,mT])
  have ab:((fp g).2.2 !=0)=false:=by grind
  have e1:(sn.put (g,key) 1).ob (V.int .i64)= .mp (fL (V.int .i64) (sn.put (g,key) 1).W) (sn.put (g,key) 1).bs (sn.put (g,key) 1).cD:=rfl
  refine yV [] 6 sm (by rfl) kR ?_
  simp[go_sem,ab,e1,ot,ao,kL,lh]
  rw[<-e1]
  obtain⟨aw,ax⟩:=az aa
  obtain⟨tn,T,a6,hT⟩: ∃(tn:Nat) (T:bI),(fp g).1=(tn:Int)/\bM[tn]? =some T:=by
   unfold fp at he⊢
   split at he<;>rename_i q0
   .rw[afb q0];exact⟨0,_,rfl,rfl⟩
   .rw[afa q0]
    split at he<;>rename_i q1
    .rw[afb q1];exact⟨0,_,rfl,rfl⟩
    .rw[afa q1]
     split at he<;>rename_i q2
     .rw[afb q2];exact⟨1,_,rfl,rfl⟩
     .rw[afa q2]
      split at he<;>rename_i q3
      .rw[afb q3];exact⟨2,_,rfl,rfl⟩
      grind
  have aD:bM.getD tn ep=T:=by grind
  have ak:=RA xZ bM tn data hd dc
  have af:=S7 tn data
  obtain⟨rf,a7⟩:=eX (fu bM tn data)
  rw[a7]at ak af
  have al:=S0 tn T hT rf.1 af.1 af.2
  obtain⟨ks,a8⟩:=eX (eW tn T rf.1)
  rw[a8]at al
  have aA:mT g key data=(decide (rf.2=0)&&decide (ks=(((g:Nat):Int),key,0))):=by
   grind[mT]
  have aB:M=if mT g key data=true then(a.put (g,key) data,b.put (g,key) data,sn.put (g,key) 1)else(a,b,sn.put (g,key) 1):=by
   grind[yy]
  rw[aA]at aB
  obtain⟨kr,kk,ke⟩:=ks
  refine zA ?_
  refine yV [(7,0)] 6 sm (by rfl) kR ?_
  simp[go_sem,a6]
  refine pD ak ?_
  simp[go_sem,oc]
  by_cases r0:rf.2=0
  rotate_left
  .have aq:(rf.2 !=0)=true:=by grind
   simp[go_sem,aq]
   exact ret a b _ _ (by grind)
  have aq:(rf.2 !=0)=false:=by grind
  simp[go_sem,aq]
  refine pC al ?_
  simp[go_sem,sy]
  by_cases k0:ke=0
  rotate_left
  .have ag:(ke==0)=false:=by grind
   simp[go_sem,ag]
   exact ret a b _ _ (by grind)
  have ag:(ke==0)=true:=by grind
  by_cases k2:kr=((g:Nat):Int)
  rotate_left
  .have aj:(kr==((g:Nat):Int))=false:=by grind
   simp[go_sem,ag,aj]
   exact ret a b _ _ (by grind)
  have aj:(kr==((g:Nat):Int))=true:=by grind
  by_cases k3:kk=key
  rotate_left
  .have ar:(kk==key)=false:=by grind
   simp[go_sem,ag,aj,ar]
   exact ret a b _ _ (by grind)
  have ar:(kk==key)=true:=by grind
  simp[go_sem,ag,aj,ar]
  refine LU [(14,3),(16,3),(17,3),(19,3)] ⟨0,6,[0,1],none⟩ sm (by rfl) kR ?_
  simp[go_sem]
  have keep: ∀(τ:St) (i:Nat) (o o':Ob),([0,1]:afF).contains i=true->τ[i]? =some o->Kp.of ⟨0,6,[0,1],none⟩ (τ.set i o')=Kp.of ⟨0,6,[0,1],none⟩ τ:=(by grind[Kp.xj])
  refine IL ?_ ?_
  .simp[go_sem,JK ha aw]
   refine⟨sm,λ_=> .inr ?_⟩
   rfl
  simp[go_sem,JK ha aw]
  refine Qi ?_ ?_
  .simp[go_sem,JL ha]
   refine⟨sm,λ_=> .inr ?_⟩
   rfl
  simp[go_sem,JL ha]
  refine IL ?_ ?_
  .simp[go_sem,JK ah ax]
   refine⟨sm,λ_=> .inr ?_⟩
   rfl
  simp[go_sem,JK ah ax]
  refine Qi ?_ ?_
  .simp[go_sem,JL ah]
   refine⟨sm,λ_=> .inr ?_⟩
   rfl
  simp[go_sem,JL ah]
  exact ret (a.put (g,key) data) (b.put (g,key) data) _ _ (by grind)
 |some q=>
  obtain⟨i,v⟩:=q
  obtain⟨aE,aF⟩:=au i v aa
  have ad:=Mp.get_some aa
  have ae:k1=v:=by rw[<-av];unfold k6;grind
  subst ae
  have aC:IntKind.i64.wrap (k1+1)=k1+1:=(by grind[bR])
  have ay:M=(a,b,sn.put (g,key) (k1+1)):=by
   rw[<-hM];unfold yy;grind
  refine LU [(5,1),(7,3)] ⟨0,6,[2],some (2,ob)⟩ sm (by rfl) kR ?_
  simp[go_sem]
  refine Qk (kv:=gB (g,key)) (id:=2) (n0:=⟨0,6,[2],some (2,ob)⟩) (by rfl) (by rfl) Tryz.oM an rfl sm (JI (m:=sn) rfl (g,key) false) ?_
  simp[go_sem,ad,aC]
  refine IL ?_ ?_
  .simp[go_sem,SY hs aa]
   trivial
  simp[go_sem,SY hs aa,yu3 hs aa]
  obtain⟨i1,ao⟩:=Mp.sE sn (g,key) (k1+1)
  by_cases he:(fp g).2.2=0
  rotate_left
  .have ab:((fp g).2.2 !=0)=true:=by grind
   refine yV [] 6 sm (by rfl) kR ?_
   simp[go_sem,ab]
   exact ret a b _ _ ay
  have ab:((fp g).2.2 !=0)=false:=by grind
  have e1:(sn.put (g,key) (k1+1)).ob (V.int .i64)= .mp (fL (V.int .i64) (sn.put (g,key) (k1+1)).W) (sn.put (g,key) (k1+1)).bs (sn.put (g,key) (k1+1)).cD:=rfl
  have h1:decide (k1+1>1)=true:=(by grind)
  have aG:decide (1<k1+1)=true:=om
  refine yV [] 6 sm (by rfl) kR ?_
  simp[go_sem,ab,e1,ot,ao,kL,lh,h1]
  exact ret a b _ _ ay
structure eQ (x:Ln):Prop where
 iY: ∃(tn:Nat) (T:bI),(fp x.r).1=(tn:Int)/\bM[tn]? =some T/\eD T.bW x.v=0
 err:(fp x.r).2.2=0
 ok: ∀v∈x.v,v.ok
structure cw (b:Mp afE) (l:List Ln):Prop where
 ok:b.ok
 eK:fI (l.map Ln.at)
 perm:b.W.Perm (l.map λx=>(x.at,yP x.v))
 rows: ∀x∈l,eQ x
theorem fI.nodup {l:List Pl} (h:fI l):l.Nodup:=h.imp (by grind[G1])
theorem yz (l:List Ln) (x:Ln):(vo l x).Perm (x::l):=by
 grind[vo,Cg,Da]
theorem eE {l:List Ln}:ib l p=true↔p∈l.map Ln.at:=by
 grind[ib]
theorem S8 {p:Pl}: ∀{l:List Ln},fI (l.map Ln.at)->p∉l.map Ln.at-> ∀y∈l.dropWhile (λy=>xW y.at p),xW p y.at=true
 | [],_,_,y,hy=>by simp_all
 |z::l,hr,hn,y,hy=>by
  unfold fI at hr
  rw[Ai,By]at hr
  rw[afy]at hy
  by_cases q:xW z.at p=true
  .rw[afb q]at hy
   exact S8 (l:=l) hr.2 (by grind) y hy
  .rw[afa q]at hy
   have hz:xW p z.at:=by
    grind[G3]
   rcases Ae.1 hy with rfl|hy
   .exact hz
   .exact G2 hz (by grind)
theorem Nk {J:Type} {p:J->Bool}: ∀{l:List J},∀y∈l.takeWhile p,p y=true
 | [],y,hy=>by simp_all
 |z::l,y,hy=>by
  rw[afx]at hy
  by_cases q:p z=true
  .rw[afb q]at hy
   rcases Ae.1 hy with rfl|hy
   .exact q
   .exact Nk (l:=l) y hy
  grind
theorem yZ6 {l:List Ln} {x:Ln} (h:fI (l.map Ln.at)) (hn:ib l x.at=false):fI ((vo l x).map Ln.at):=by
 have aa:x.at∉l.map Ln.at:=λq=>by rw[eE.2 q]at hn;cases hn
 have hd:=S8 h aa
 have ht: ∀y∈l.takeWhile (λy:Ln=>xW y.at x.at),xW y.at x.at=true:=Nk
 have hl:=Cg (p:=λy:Ln=>xW y.at x.at) (l:=l)
 unfold vo
 rw[<-hl]at h
 revert hd ht h
 generalize l.takeWhile (λy:Ln=>xW y.at x.at)=t
 generalize l.dropWhile (λy:Ln=>xW y.at x.at)=d
 intro h hd ht
 unfold fI at h⊢
 rw[Cr,Co]at h
 rw[Cr,Ai,Co,By]
 grind
theorem cw.gu {l:List Ln} (h:cw b l):b.at p=none↔ib l p=false:=by
 constructor
 .intro q
  cases r:ib l p with
  |false=>rfl
  |true=>
   obtain⟨x,hx,he⟩:=Ac.1 (eE.1 r)
   have:(p,yP x.v)∈b.W:=h.perm.mem_iff.2 (by grind)
   exact absurd rfl (JH q _ this)
 .intro q
  cases r:b.at p with
  |none=>rfl
  |some w=>
   have hm:(p,w.2)∈b.W:=Bh (vl (W:=b.W) (i:=w.1) (v:=w.2) r)
   obtain⟨x,hx,he⟩:=Ac.1 (h.perm.mem_iff.1 hm)
   have:x.at=p:=(by grind)
   rw[eE.2 (by grind)]at q
   cases q
theorem cw.ins {l:List Ln} (h:cw b l) {x:Ln} (hx:eQ x) (hn:ib l x.at=false):cw (b.put x.at (yP x.v)) (vo l x):=by
 have hb:=h.gu.2 hn
 refine⟨Mp.ko h.ok _ _,yZ6 h.eK hn, ?_,λy hy=> ?_⟩
 .have e:(b.put x.at (yP x.v)).W=b.W++ [(x.at,yP x.v)]:=by grind[Mp.put]
  rw[e]
  have h1:=((yz l x).map λx:Ln=>(x.at,yP x.v)).symm
  refine List.Perm.trans ?_ h1
  rw[Ai]
  exact(List.perm_append_singleton _ _).trans (h.perm.cons _)
 .rcases Ae.1 ((yz l x).mem_iff.1 hy)with rfl|hy
  .exact hx
  .exact h.rows y hy
theorem JM: ∀(r:List bH) (acc:List bG),(∀e∈r,jL e)->(∀v∈acc,v.ok)->(dP ep [] r acc).2=0->(dP ep [] r acc).1.length=acc.length+r.length/\ ∀v∈(dP ep [] r acc).1,v.ok
 | [],acc,_,ha,_=>⟨rfl,ha⟩
 |e::r,acc,he,ha,h=>by
  rw[dP]at h⊢
  by_cases q:(fX ep [] e).2=0
  .rw[afa (λh=>h q)]at h⊢
   have hv:(fX ep [] e).1.ok:=by
    have:=xY0 (he e sm) (by rw[<-Na];exact q)
    rw[Na]
    exact(wc5 this).1
   have ih:=JM r (acc++ [(fX ep [] e).1]) (λx hx=>he x (by simp[hx])) (λv aa=>by
    rcases Ar.1 aa with h|h
    .exact ha v h
    .simp at h;subst h;exact hv) h
   exact⟨by rw[ih.1];simp;omega,ih.2⟩
  .rw[afb q]at h;exact absurd h q
def dE:List V:= [.sl .full [],.int .i64 0]
def G5 (a:Mp afE) (sn:Mp Int) (Nl:Int) (M:List Ln×Int) (r:V) (s:St):Prop:=
 ∃(b':Mp afE),s=cM a b' sn/\((M.2≠0/\r= .cm [.agg (Ot.row ⟨0,[]⟩),.int .i64 M.2])\/(M.2=0/\r= .cm [.agg (Ot.row ⟨Nl,[]⟩),.int .i64 0]/\cw b' M.1))
theorem xD9 {r:Int} {k d:afE} (h:b.at (r,k)=none):Ob.mp (fL V.str b.W++ [.agg [.int .i64 r,.str k],.str d]) (b.bs++ [b.cD]) (b.cD+1)=(b.put (r,k) d).ob V.str:=by
 unfold Mp.put Mp.ob
 rw[h]
 show _=Ob.mp (fL V.str (b.W++ [((r,k),d)])) _ _
 rw[<-SM]
 rfl
theorem JN (tn:Nat) (T:bI) (hT:bM[tn]? =some T) (row:List bG) (h:(eW tn T row).2.2=0):eD T.bW row=0/\(fp (eW tn T row).1).1=(tn:Int)/\(fp (eW tn T row).1).2.2=0:=by
 obtain⟨aa,_⟩:=A1.1 hT
 have h3:tn<3:=aa
 unfold eW at h⊢
 by_cases h1:eD T.bW row≠0
 .rw[afb h1]at h;exact absurd h h1
 .rw[afa h1]at h⊢
  refine⟨Classical.not_not.1 h1, ?_⟩
  unfold EY
  generalize row.getD 0 zeroV=x at h⊢
  match tn,h3 with
  |0,_=>
   by_cases h2:x.n=0\/x.n=1
   .rw[afa (λq=>q.2 h2)]
    rcases h2 with h2|h2
    .simp[jU,fp,h2]
    .simp[jU,fp,h2]
   .rw[afb ⟨rfl,h2⟩]at h;cases h
  |1,_=>simp[jU,fp]
  |2,_=>simp[jU,fp]
theorem yM6 (tn:Nat) (T:bI) (hT:bM[tn]? =some T) (st:bQ) (a1:kg st) (a b:Mp afE) (sn:Mp Int) (l:List Ln) (au:cw b l):
  bK prog 89 [.ptr 3 0,.int .i64 tn,.agg st.row] (cM a b sn) (G5 a sn st.rows.length (fU tn T st.rows l)):=by
 obtain⟨R,hR⟩:=eX st.rows
 obtain⟨a6,av⟩:=a1.rows
 rw[hR]at a6 av⊢
 generalize hM:fU tn T R l=M
 have bad: ∀(b':Mp afE) (e:Int) (Ul:St),M.2=e->e≠0->cj (some (.cm [.agg [.sl .full [],.int .i64 0],.int .i64 e])) 4 (G5 a sn R.length M) (a.ob .str::b'.ob .str::sn.ob (V.int .i64):: .box [.sl .ro xZ,.sl .ro (bM.map bI.row),.mp 0,.mp 1,.mp 2]::Ul):=λb' e Ul h1 h2=>
  xM 4 (s:=cM a b' sn) (r:= .cm [.agg (Ot.row ⟨0,[]⟩),.int .i64 e]) rfl rfl (xY 4 dc a b' sn) (A3 _) (wK ⟨oK ⟨yX,zU rfl,tV⟩,mf rfl,tV⟩) ⟨b',rfl,.inl ⟨by rw[h1];exact h2,by rw[h1]⟩⟩
 have an: ∀(b':Mp afE) (n:Nat),6<=n->([a.ob .str,b'.ob .str,sn.ob (V.int .i64),.box [.sl .ro xZ,.sl .ro (bM.map bI.row),.mp 0,.mp 1,.mp 2],.box st.row,.box dE]:St).all (bP n)=true:=λb' n hn=>by
  have h:=xY n om a b' sn
  simp only[cM,fm,Aq,D6,Dq]at h⊢
  rw[A6,A6,A6]at h⊢
  refine⟨h.1,h.2.1,h.2.2.1, ?_⟩
  rw[A6]
  exact⟨h.2.2.2,by simp[bP,cK,cG,bQ.row,dE]⟩
 have aj: ∀(b':Mp afE) (k:Nat),([a.ob .str,b'.ob .str,sn.ob (V.int .i64),.box [.sl .ro xZ,.sl .ro (bM.map bI.row),.mp 0,.mp 1,.mp 2],.box st.row,.box dE,.app k 3]:St).all (bP 7)=true:=λb' k=>by
  have h:=an b' 7 dc
  simp only[Aq,D6,Dq]at h⊢
  rw[show bP 7 (.app k 3)=true from rfl,Dq]
  exact h
 refine iV 4 func89 ntmps89 results89 λc hc hb=> ?_
 refine zA ?_
 simp[go_sem,cM,fm,hR]
 refine zH (S:=Nat×Mp afE×List Ln) [0,1,5,6,22,23,24] (λu=> [.ptr 3 0,.int .i64 tn,.ptr 4 0,.ptr 5 0,.sl .ro (R.map λ(l:List bH)=> [V.sl .ro (l.map bH.row)]),.int .i64 R.length,.int .i64 u.1])
  (λu=> [a.ob .str,u.2.1.ob .str,sn.ob (V.int .i64),.box [.sl .ro xZ,.sl .ro (bM.map bI.row),.mp 0,.mp 1,.mp 2],.box st.row,.box dE]) (λu=>R.length - u.1)
  (λu=>u.1<=R.length/\cw u.2.1 u.2.2/\fU tn T (R.drop u.1) u.2.2=M) hc hb (0,b,l) ⟨A5 _,au,hM⟩ ?_ ?_
 .exact ca 6 (by simp[go_sem,hR,dE]) rfl (an b 6 dc) dc (zD sg rfl)
 rintro⟨i,b1,l1⟩ ⟨hi,af,aa⟩
 simp only at hi af aa
 by_cases q:i<R.length
 rotate_left
 .rw[A8 om,fU]at aa
  subst aa
  refine zA ?_
  simp[go_sem,q,hR,dE]
  exact xM 4 (s:=cM a b1 sn) (r:= .cm [.agg (Ot.row ⟨R.length,[]⟩),.int .i64 0]) rfl rfl (xY 4 dc a b1 sn) (A3 _) (wK ⟨oK ⟨yX,zU rfl,tV⟩,mf rfl,tV⟩) ⟨b1,rfl,.inr ⟨rfl,rfl,af⟩⟩
 have ei:=zR q om
 obtain⟨x,hx⟩:=eX (R[i])
 obtain⟨aF,aw⟩:=av x (hx▸Aa q)
 have ax:=JM x [] aw (λv hv=>by cases hv)
 rw[A2 q,hx,fU]at aa
 obtain⟨E,hE⟩:=eX (dP ep [] x [])
 rw[hE]at aa ax
 refine zA ?_
 simp[go_sem,q,hx]
 refine rL 10 3 dc sg ?_
 refine zH (S:=Nat×List bG) [0,1,5,6,10,22,23,24,28,29,30] (λu=> [.ptr 3 0,.int .i64 tn,.ptr 4 0,.ptr 5 0,.sl (.app 6) (u.2.map bG.row),.sl .ro (R.map λ(l:List bH)=> [V.sl .ro (l.map bH.row)]),.int .i64 R.length,.int .i64 i,.sl .ro (x.map bH.row),.int .i64 x.length,.int .i64 u.1])
  (λu=> [a.ob .str,b1.ob .str,sn.ob (V.int .i64),.box [.sl .ro xZ,.sl .ro (bM.map bI.row),.mp 0,.mp 1,.mp 2],.box st.row,.box dE,.app u.2.length 3]) (λu=>x.length - u.1)
  (λu=>u.1<=x.length/\u.2.length<=u.1/\dP ep [] (x.drop u.1) u.2=E) hc hb (0,[]) ⟨A5 _,A3 _,hE⟩ ?_ ?_
 .exact ca 7 (by simp[go_sem,dE]) rfl (aj b1 _) dc (zD sg rfl)
 rintro⟨j,acc⟩ ⟨hj,a7,ab⟩
 simp only at hj a7 ab
 by_cases qj:j<x.length
 .have ej:=zR qj om
  obtain⟨e,he⟩:=eX (x[j])
  have a8:=aw e (he▸Aa qj)
  rw[A2 qj,he,dP,Na]at ab
  have ag:=xJ8 e a8
  obtain⟨kv,aA⟩:=eX (yt e)
  rw[aA]at ab ag
  refine zA ?_
  simp[go_sem,qj,he]
  refine zM ag cB ⟨xx ⟨zU rfl,yX,zU rfl,zU rfl,zU rfl,yX,yX,yX,zU rfl,zU rfl,zU rfl,tV⟩,zK,zN sg (by rw[bH.bN];rfl)⟩ rfl ?_
  simp[go_sem,eV]
  by_cases q2:kv.2=0
  rotate_left
  .have ao:(kv.2 !=0)=true:=sU q2
   rw[afb q2]at ab
   subst ab
   simp only at aa
   rw[afb q2]at aa
   simp[go_sem,ao,dE]
   exact bad b1 kv.2 _ (by rw[<-aa]) q2
  have ao:(kv.2 !=0)=false:=sU q2
  rw[afa (λh=>h q2)]at ab
  simp[go_sem,ao]
  refine zI ⟨om,zX rfl⟩ ?_
  simp[go_sem,ej]
  exact zG (j+1,acc++ [kv.1]) ⟨by show x.length - (j+1)<x.length - j;omega,⟨qj,by show(acc++ [kv.1]).length<=j+1;simp;omega,ab⟩,ca 7 (by simp[go_sem,dE]) rfl (aj b1 _) dc (zD sg rfl)⟩
 rw[A8 om,dP]at ab
 subst ab
 obtain⟨_,ai⟩:=ax rfl
 simp only at aa ai
 rw[afa (λh=>h rfl)]at aa
 have ak:=S0 tn T hT acc (by unfold maxLen;omega) ai
 have ah:=JN tn T hT acc
 obtain⟨⟨kr,kk,ke⟩,aB⟩: ∃ks,eW tn T acc=ks:=⟨_,rfl⟩
 rw[aB]at aa ak ah
 simp only at aa ah
 refine zA ?_
 simp[go_sem,qj]
 refine pC ak ?_
 simp[go_sem,sy]
 by_cases k0:ke=0
 rotate_left
 .have aq:(ke !=0)=true:=sU k0
  rw[afb k0]at aa
  simp[go_sem,aq,dE]
  exact bad b1 ke _ (by rw[<-aa]) k0
 have aq:(ke !=0)=false:=sU k0
 rw[afa (λh=>h k0)]at aa
 obtain⟨al,aC,aD⟩:=ah k0
 have aE:=EZ ((by decide: ∀T∈bM,T.bW.length<=20) T (Bh hT)) ai al
 have ar:=Rv acc aE
 have eB:b1.ob .str= .mp (fL .str b1.W) b1.bs b1.cD:=rfl
 simp[go_sem,aq]
 cases ae:b1.at (kr,kk)with
 |some w=>
  have hA:ib l1 (kr,kk)=true:=by
   cases r:ib l1 (kr,kk)with
   |true=>rfl
   |false=>rw[af.gu.2 r]at ae;cases ae
  rw[afb hA]at aa
  have ad:dw (kr,kk) b1.W=some w:=ae
  refine yV [] 8 sm kR kR ?_
  simp[go_sem,eB,ot,ad,kL,lh,dE]
  rw[<-eB]
  exact bad b1 18 _ (by rw[<-aa]) dc
 |none=>
  have hA:=af.gu.1 ae
  rw[afa (by rw[hA];decide)]at aa
  have ad:dw (kr,kk) b1.W=none:=ae
  have ay:=xD9 (d:=yP acc) ae
  have az:=af.ins (x:=⟨kr,kk,acc⟩) ⟨⟨tn,T,aC,hT,al⟩,aD,ai⟩ hA
  refine yV [] 8 sm kR kR ?_
  simp[go_sem,eB,ot,ad,kL,lh]
  refine zA ?_
  refine yV [(6,0)] 8 sm kR kR ?_
  simp[go_sem]
  refine pD ar ?_
  simp[go_sem,ot,ad,kL,lh,ay,ei]
  exact zG (i+1,b1.put (kr,kk) (yP acc),vo l1 ⟨kr,kk,acc⟩) ⟨by show R.length - (i+1)<R.length - i;omega,⟨q,az,aa⟩,ca 6 (by simp[go_sem,dE]) rfl (an _ 6 dc) dc (zD sg rfl)⟩
theorem S9 (l:List bG) (hl:l.length<=10000) (hz:l≠ []):bK prog 160 [.sl .ro (l.map bG.row)] [] (λr s=>r= .cJ 0 3 l.length 0 l.length/\s= [.cc (l.map bG.row) 3]):=by
 refine iV 0 func160 ntmps160 results160 λc hc hb=> ?_
 refine AR 7 dc ?_
 refine zA ?_
 have hp:0<l.length:=by cases l with
  |nil=>exact absurd rfl hz
  |cons a l=>simp
 have hu:eS 3 (l.map bG.row):=by
  intro r hr
  obtain⟨v,_,rfl⟩:=Ac.1 hr
  rfl
 simp[go_sem,hp]
 refine zI ⟨om,by simp[eS],hu⟩ ?_
 simp[go_sem]
 exact Lg sm ⟨rfl,rfl⟩
theorem JO (T:bI) (hT:T.bW.length<=maxLen) (row:List bG) (hv: ∀v∈row,v.ok) (e:bH) (he:jL e):Pure prog 106 [.agg T.row,.sl .ro (row.map bG.row),.agg e.row] (eV (fX T row e)):=by
 have an:=Jx T hT e he
 have cH:= @SH T row
 generalize hM:fX T row e=M
 unfold fX at hM
 have ret: ∀(v:bG) (e:Int) (U:St),(v,e)=M->cj (some (.cm [.agg v.row,.int .i64 e])) 0 (λr s=>r=eV M/\s= []) U:=λv e U h=>vi h
 refine iV 0 func106 ntmps106 results106 λc hc hb=> ?_
 refine zA ?_
 simp[go_sem]
 refine zM an cB (zN sg (by rw[bH.bN];rfl)) rfl ?_
 simp[go_sem,wJ]
 by_cases q:(ia T e).2=0
 rotate_left
 .have q':((ia T e).2 !=0)=true:=sU q
  rw[afb q]at hM
  simp[go_sem,q']
  exact ret zeroV _ _ hM
 have q':((ia T e).2 !=0)=false:=sU q
 have n1: ¬(ia T e).2≠0:=λh=>h q
 rw[afa n1]at hM
 by_cases hlen:row.length=T.bW.length
 rotate_left
 .have h1:((row.length:Int) !=T.bW.length)=true:=by simp;omega
  rw[afb (by unfold CD;rw[afc hlen,Dk])]at hM
  simp[go_sem,q',h1]
  exact ret zeroV 9 _ hM
 have h1:((row.length:Int) !=T.bW.length)=false:=by simp;omega
 obtain⟨mr,ai⟩:=eX (CD T.bW row)
 have aa:=ai
 unfold CD at aa
 rw[afd hlen,B2]at aa
 rw[ai]at hM cH
 simp[go_sem,q',h1]
 refine zH (S:=Nat×bG) [1,3,5,6,29,30,31] (λu=> [.sl .ro (row.map bG.row),.ptr 0 0,.ptr 1 0,.ptr 2 0,.sl .ro (row.map bG.row),.int .i64 row.length,.int .i64 u.1])
   (λu=> [.box T.row,.box e.row,.box u.2.row]) (λu=>row.length - u.1) (λu=>u.1<=row.length/\(((row.zip T.bW).drop u.1).all λp=>G0 p.1 p.2)=mr) hc hb (0,zeroV) ⟨A5 _,aa⟩ ?_ ?_
 .exact ca 3 (by simp[go_sem,zeroV]) rfl (by simp[bP,cK,cG,bH.bN,bI.row,bG.row]) (A5 _) (zD sg rfl)
 rintro⟨i,v0⟩ ⟨hi,hinv⟩
 simp only at hi hinv
 by_cases p:i<row.length
 rotate_left
 .rw[A8 (by rw[List.length_zip];omega)]at hinv
  have hm:mr:=hinv.symm
  rw[afa (by rw[hm];decide)]at hM
  have aj:=cH hm hv
  have ab:Pure prog 178 [.agg T.row,.sl .ro (row.map bG.row),.agg e.row] (eV (mR T row e)):=by
   unfold ia at q
   by_cases d:gF e<=64
   .rw[afb d]at q;exact M7 aj hT 64 e d he.wide he.dD q
   .rw[afa d]at q;cases q
  rw[hM]at ab
  refine zA ?_
  simp[go_sem,p]
  refine zM ab cB ⟨zC rfl,zK,ve e,tV⟩ rfl ?_
  simp[go_sem,eV]
  exact vi rfl
 have qc:i<T.bW.length:=om
 have ei:=zR p (by unfold maxLen at hT;omega)
 obtain⟨v,ak⟩:=eX (row[i])
 obtain⟨C,hC⟩:=eX (T.bW[i])
 have qz:i<(row.zip T.bW).length:=by rw[List.length_zip];omega
 rw[GN _ _ _ qz,List.getElem_zip,ak,hC]at hinv
 obtain⟨tl,af⟩: ∃tl,(((row.zip T.bW).drop (i+1)).all λp=>G0 p.1 p.2)=tl:=⟨_,rfl⟩
 rw[af]at hinv
 unfold G0 at hinv
 have al:=EJ v
 simp only at hinv
 generalize dO v=mv at al hinv
 refine zA ?_
 simp[go_sem,p,ak]
 refine yV [(1,0)] 4 sm kR kR ?_
 simp[go_sem]
 refine pD al ?_
 refine(A4 mv).elim (λp2=> ?_) (λp2=> ?_)
 rotate_left
 .have hm:mr=false:=by rw[<-hinv,p2];simp
  rw[afb hm]at hM
  simp[go_sem,p2]
  exact ret zeroV 9 _ hM
 rw[p2,B2]at hinv
 simp[go_sem,p2]
 by_cases k1:v.kind=C.kind
 .have ag:(v.kind !=C.kind)=false:=sU k1
  have ad:(v.kind==C.kind)=true:=sU k1
  rw[ad,Dy,B2]at hinv
  simp[go_sem,ag,qc,hC,ei]
  exact zG (i+1,v0) ⟨by show row.length - (i+1)<row.length - i;omega,⟨p,af.trans hinv⟩,ca 3 (by simp[go_sem,bH.bN]) rfl (by simp[bP,cK,cG,bH.bN]) dc (zD sg rfl)⟩
 have ag:(v.kind !=C.kind)=true:=sU k1
 have ad:(v.kind==C.kind)=false:=sU k1
 rw[ad,Bool.or_false]at hinv
 simp[go_sem,ag,qc,hC]
 by_cases k0:v.kind=0
 .have ah:(v.kind !=0)=false:=sU k0
  have ae:(v.kind==0)=true:=sU k0
  rw[ae,B2]at hinv
  simp[go_sem,ah,ei]
  exact zG (i+1,v0) ⟨by show row.length - (i+1)<row.length - i;omega,⟨p,af.trans hinv⟩,ca 3 (by simp[go_sem,bH.bN]) rfl (by simp[bP,cK,cG,bH.bN]) dc (zD sg rfl)⟩
 have ah:(v.kind !=0)=true:=sU k0
 have ae:(v.kind==0)=false:=sU k0
 rw[ae,Dk]at hinv
 rw[afb hinv.symm]at hM
 simp[go_sem,ah]
 exact ret zeroV 9 _ hM
theorem Ta {T:bI} {row:List bG} (hv: ∀v∈row,v.ok) {e:bH} (he:jL e) (h:(fX T row e).2=0):VK (fX T row e).1 (ia T e).1:=by
 unfold fX at h⊢
 by_cases q:(ia T e).2=0
 rotate_left
 .rw[afb q]at h;exact absurd h q
 have n1: ¬(ia T e).2≠0:=λh=>h q
 rw[afa n1]at h⊢
 cases hm:CD T.bW row with
 |false=>rw[hm]at h;simp at h
 |true=>
  rw[hm]at h
  simp only[Bool.true_eq_false,afs]at h⊢
  unfold ia at q⊢
  by_cases d:gF e<=64
  .rw[afb d]at q⊢
   exact JG (SH hm hv) 64 e d he.dD q h
  .rw[afa d]at q;cases q
theorem xR6 (T:bI) (e:bH) (x:Ln) (l:List Ln) (acc:bG):jN T e (x::l) acc=
  if(fX T x.v e).2≠0 then(zeroV,(fX T x.v e).2)
  else if(fX T x.v e).1.kind=0 then jN T e l acc
  else if(eJ (acc.n+(fX T x.v e).1.n)).2≠0 then(zeroV,(eJ (acc.n+(fX T x.v e).1.n)).2)
  else jN T e l ⟨2,(eJ (acc.n+(fX T x.v e).1.n)).1,[]⟩:=rfl
theorem xS1 (T:bI) (hT:T.bW.length<=maxLen) (e:bH) (he:jL e) (l:List Ln) (hl:l.length<=10000) (cH: ∀x∈l,∀v∈x.v,v.ok):bK prog 229 [.agg T.row,.agg e.row,.cJ 0 3 l.length 0 l.length] [.cc (l.map Ln.row) 3] (λr s=>r=eV (jN T e l zeroV)/\s= [.cc (l.map Ln.row) 3]):=by
 generalize hM:jN T e l zeroV=M
 have ret: ∀(v:bG) (er:Int) (U:St),(v,er)=M->U.take 1= [.cc (l.map Ln.row) 3]->cj (some (.cm [.agg v.row,.int .i64 er])) 1 (λr s=>r=eV M/\s= [.cc (l.map Ln.row) 3]) U:=by
  rintro v er U rfl h
  exact xM 1 h rfl (by simp[bP,cK,cG,Ln.row]) (A3 _) (zC rfl) ⟨rfl,rfl⟩
 refine iV 1 func229 ntmps229 results229 λc hc hb=> ?_
 refine zA ?_
 simp[go_sem]
 refine zH (S:=Nat×bG) [3,4,6,7,8,13,14,15] (λu=> [.ptr 1 0,.ptr 2 0,.ptr 3 0,.int .i64 0,.ptr 4 0,.cJ 0 3 l.length 0 l.length,.int .i64 l.length,.int .i64 u.1])
  (λu=> [.cc (l.map Ln.row) 3,.box T.row,.box e.row,.box zeroV.row,.box u.2.row]) (λu=>l.length - u.1)
  (λu=>u.1<=l.length/\fK u.2.n/\u.2.s= []/\jN T e (l.drop u.1) u.2=M) hc hb (0,zeroV) ⟨A5 _,dc,rfl,hM⟩ ?_ ?_
 .exact ca 5 (by simp[go_sem,zeroV,bH.bN]) rfl (by simp[bP,cK,cG,bH.bN,bI.row,bG.row,Ln.row]) dc (zD sg rfl)
 rintro⟨i,acc⟩ ⟨hi,ha,has,hinv⟩
 simp only at hi ha has hinv
 by_cases q:i<l.length
 rotate_left
 .rw[A8 om]at hinv
  refine zA ?_
  simp[go_sem,q]
  exact ret acc 0 _ hinv rfl
 have ei:=zR q om
 obtain⟨x,hx⟩:=eX (l[i])
 have ai:x∈l:=hx▸Aa q
 rw[A2 q,hx,xR6]at hinv
 have aa:=JO T hT x.v (cH x ai) e he
 have ad:=Ta (cH x ai) (T:=T) he
 obtain⟨⟨v,er⟩,hv⟩: ∃kv,fX T x.v e=kv:=⟨_,rfl⟩
 rw[hv]at hinv aa ad
 simp only at hinv ad
 refine zA ?_
 simp[go_sem,q,hx]
 refine zM aa cB ⟨zC rfl,zK,ve e,tV⟩ rfl ?_
 simp[go_sem,eV]
 by_cases q2:er=0
 rotate_left
 .have ae:(er !=0)=true:=sU q2
  rw[afb q2]at hinv
  simp[go_sem,ae]
  exact ret zeroV er _ hinv rfl
 have ae:(er !=0)=false:=sU q2
 rw[afa (λh=>h q2)]at hinv
 have aj:=ad q2
 simp[go_sem,ae]
 by_cases k0:v.kind=0
 .have af:(v.kind==0)=true:=sU k0
  rw[afb k0]at hinv
  simp[go_sem,af,ei]
  exact zG (i+1,acc) ⟨by show l.length - (i+1)<l.length - i;omega,⟨q,ha,has,hinv⟩,ca 5 (by simp[go_sem,zeroV,bH.bN]) rfl (by simp[bP,cK,cG,bH.bN,Ln.row]) dc (zD sg rfl)⟩
 have af:(v.kind==0)=false:=sU k0
 rw[afa k0]at hinv
 have ab:=M0 acc.n v.n ha aj.n
 have ag:=M5 (acc.n+v.n)
 obtain⟨⟨sn,se⟩,hs⟩: ∃s,eJ (acc.n+v.n)=s:=⟨_,rfl⟩
 rw[hs]at hinv ab ag
 simp only at hinv ag
 simp[go_sem,af]
 refine pC ab ?_
 simp[go_sem,wJ]
 by_cases q3:se=0
 rotate_left
 .have ah:(se !=0)=true:=sU q3
  rw[afb q3]at hinv
  simp[go_sem,ah]
  exact ret zeroV se _ hinv rfl
 have ah:(se !=0)=false:=sU q3
 rw[afa (λh=>h q3)]at hinv
 simp[go_sem,ah,ei]
 exact zG (i+1,⟨2,sn,[]⟩) ⟨by show l.length - (i+1)<l.length - i;omega,⟨q,ag,rfl,hinv⟩,ca 5 (by simp[go_sem,zeroV,bH.bN,has]) rfl (by simp[bP,cK,cG,bH.bN,Ln.row]) dc (zD sg rfl)⟩
def pY (r:List bG×Int):V:=if r.2=0 then .cm [.agg (Ot.row ⟨0,[r.1]⟩),.int .i64 0]else .cm [.agg (Ot.row ⟨0,[]⟩),.int .i64 r.2]
theorem wf4 (T:bI) (hT:T.bW.length<=maxLen) (st:bQ) (af:kg st) (l:List Ln) (hl:l.length<=10000) (cH: ∀x∈l,∀v∈x.v,v.ok):bK prog 155 [.agg T.row,.agg st.row,.cJ 0 3 l.length 0 l.length] [.cc (l.map Ln.row) 3] (λr s=>r=pY (pV T l st.items [])/\s= [.cc (l.map Ln.row) 3]):=by
 generalize hM:pV T l st.items []=M
 obtain⟨R,hR⟩:=eX st.items
 obtain⟨ag,ae⟩:=af.items
 rw[hR]at ag ae hM
 have bad: ∀(er:Int) (U:St),([],er)=M->er≠0->U.take 1= [.cc (l.map Ln.row) 3]->cj (some (.cm [.agg [.sl .full [],.int .i64 0],.int .i64 er])) 1 (λr s=>r=pY M/\s= [.cc (l.map Ln.row) 3]) U:=by
  rintro er U rfl h0 h
  refine xM 1 (r:= .cm [.agg (Ot.row ⟨0,[]⟩),.int .i64 er]) h rfl (by simp[bP,cK,cG,Ln.row]) (A3 _) (wK ⟨oK ⟨yX,zU rfl,tV⟩,mf rfl,tV⟩) ⟨?_,rfl⟩
  unfold pY
  rw[afa h0]
 have dD: ∀(acc:List bG) (U:St),(acc,0)=M->U.take 1= [.cc (l.map Ln.row) 3]->cj (some (.cm [.agg [.sl .full [[.sl .ro (acc.map bG.row)]],.int .i64 0],.int .i64 0])) 1 (λr s=>r=pY M/\s= [.cc (l.map Ln.row) 3]) U:=by
  rintro acc U rfl h
  exact xM 1 (r:= .cm [.agg (Ot.row ⟨0,[acc]⟩),.int .i64 0]) h rfl (by simp[bP,cK,cG,Ln.row]) (A3 _) (wK ⟨oK ⟨yX,zU rfl,tV⟩,mf rfl,tV⟩) ⟨rfl,rfl⟩
 refine iV 1 func155 ntmps155 results155 λc hc hb=> ?_
 refine zA ?_
 simp[go_sem,hR]
 refine rL 8 3 dc sg ?_
 refine zH (S:=Nat×List bG) [2,3,4,6,7,8,15,16,17] (λu=> [.cJ 0 3 l.length 0 l.length,.ptr 1 0,.ptr 2 0,.ptr 3 0,.int .i64 0,.sl (.app 4) (u.2.map bG.row),.sl .ro (R.map cx.row),.int .i64 R.length,.int .i64 u.1])
  (λu=> [.cc (l.map Ln.row) 3,.box T.row,.box st.row,.box [.sl .full [],.int .i64 0],.app u.2.length 3]) (λu=>R.length - u.1)
  (λu=>u.1<=R.length/\u.2.length<=u.1/\pV T l (R.drop u.1) u.2=M) hc hb (0,[]) ⟨A5 _,A3 _,hM⟩ ?_ ?_
 .exact ca 5 (by simp[go_sem,hR]) rfl (by simp[bP,cK,cG,bI.row,bQ.row,Ln.row]) dc (zD sg rfl)
 rintro⟨i,acc⟩ ⟨hi,ha,hinv⟩
 simp only at hi ha hinv
 by_cases q:i<R.length
 rotate_left
 .rw[A8 om]at hinv
  refine zA ?_
  simp[go_sem,q]
  exact dD acc _ hinv rfl
 have ei:=zR q om
 obtain⟨x,hx⟩:=eX (R[i])
 have ah:=(ae x (hx▸Aa q)).2
 rw[A2 q,hx,pV]at hinv
 refine zA ?_
 simp[go_sem,q,hx]
 by_cases k4:x.kind=4
 rotate_left
 .have ab:(x.kind==4)=false:=sU k4
  rw[afa k4]at hinv
  simp[go_sem,ab]
  refine zI ⟨om,zX rfl⟩ ?_
  simp[go_sem,ei]
  exact zG (i+1,acc++ [⟨2,l.length,[]⟩]) ⟨by show R.length - (i+1)<R.length - i;omega,⟨q,by show(acc++ [_]).length<=i+1;simp;omega,hinv⟩,aN 5 (by simp[bP,cK,cG,Ln.row])⟩
 have ab:(x.kind==4)=true:=sU k4
 rw[afb k4]at hinv
 simp[go_sem,ab]
 have aa:=xS1 T hT x.e ah l hl cH
 obtain⟨⟨v,er⟩,hv⟩: ∃kv,jN T x.e l zeroV=kv:=⟨_,rfl⟩
 rw[hv]at hinv aa
 simp only at hinv
 refine lF 0 aa cB rfl (by simp[bP,cK,cG,Ln.row]) ⟨zC rfl,ve x.e,.inl rfl,tV⟩ (by rintro r s ⟨rfl,rfl⟩;exact⟨_,rfl,by simp[bP,cK,cG,Ln.row]⟩) ?_
 rintro r o ⟨rfl,ho⟩
 cases ho
 simp[go_sem,eV]
 by_cases q2:er=0
 rotate_left
 .have ad:(er !=0)=true:=sU q2
  rw[afb q2]at hinv
  simp[go_sem,ad]
  exact bad er _ hinv q2 rfl
 have ad:(er !=0)=false:=sU q2
 rw[afa (λh=>h q2)]at hinv
 simp[go_sem,ad]
 refine zI ⟨om,zX rfl⟩ ?_
 simp[go_sem,ei]
 exact zG (i+1,acc++ [v]) ⟨by show R.length - (i+1)<R.length - i;omega,⟨q,by show(acc++ [_]).length<=i+1;simp;omega,hinv⟩,aN 5 (by simp[bP,cK,cG,Ln.row])⟩
theorem yZ5 (y:cx):Pure prog 228 [.agg y.row] (.bool (y.kind==3||y.kind==4)):=by
 refine iV 0 func228 ntmps228 results228 λc hc hb=> ?_
 refine zA ?_
 by_cases k:y.kind=3
 .have k':(y.kind==3)=true:=sU k
  simp[go_sem,k']
  exact wR
 .have k':(y.kind==3)=false:=sU k
  simp[go_sem,k']
  exact wR
theorem xZ0 (l:List cx) (hl:l.length<=12):Pure prog 290 [.sl .ro (l.map cx.row),.fn 228 []] (.int .i64 (kn (λy=>y.kind==3||y.kind==4) l 0)):=by
 generalize hM:kn (λy:cx=>y.kind==3||y.kind==4) l 0=M
 have ret: ∀(r:Int) (U:St),r=M->cj (some (.int .i64 r)) 0 (λr s=>r= .int .i64 M/\s= []) U:=λr U h=>by subst h;exact wR
 refine iV 0 func290 ntmps290 results290 λc hc hb=> ?_
 refine zA ?_
 simp[go_sem]
 refine zH (S:=Nat) [0,1,6,7,8] (λi=> [.sl .ro (l.map cx.row),.fn 228 [],.sl .ro (l.map cx.row),.int .i64 l.length,.int .i64 (i:Int)]) (λ_=> []) (λi=>l.length - i)
  (λi=>i<=l.length/\kn (λy=>y.kind==3||y.kind==4) (l.drop i) i=M) hc hb 0 ⟨A5 _,hM⟩ ?_ ?_
 .exact aN 0 sm
 rintro i ⟨hi,hinv⟩
 by_cases q:i<l.length
 rotate_left
 .rw[A8 om]at hinv
  refine zA ?_
  simp[go_sem,q]
  exact ret _ _ hinv
 have ei:=zR q om
 obtain⟨y,hy⟩:=eX (l[i])
 rw[A2 q,hy,kn]at hinv
 have aa:=yZ5 y
 generalize (y.kind==3||y.kind==4)=b at aa hinv
 refine zA ?_
 simp[go_sem,q,hy]
 refine pC aa ?_
 refine(A4 b).elim (λp=> ?_) (λp=> ?_)
 .rw[afb p]at hinv
  simp[go_sem,p]
  exact ret _ _ hinv
 .rw[afa (by rw[p];decide)]at hinv
  simp[go_sem,p,ei]
  exact zG (i+1) ⟨om,⟨om,hinv⟩,aN 0 sm⟩
theorem xY4 (l:List cx) (hl:l.length<=12):Pure prog 227 [.sl .ro (l.map cx.row),.fn 228 []] (.bool (yx l)):=by
 have h:=xZ0 l hl
 have hg:=GS (λy:cx=>y.kind==3||y.kind==4) l 0
 unfold yx
 rw[<-hg]
 generalize kn (λy:cx=>y.kind==3||y.kind==4) l 0=n at h⊢
 refine iW 0 func227 ntmps227 results227 λc hc hb=>zL ?_
 simp[go_sem]
 refine pC h ?_
 simp[go_sem]
 exact wR
theorem xT4 (st:bQ) (aa:kg st):Pure prog 154 [.agg st.row] (.bool (yx st.items)):=by
 have h:=xY4 st.items aa.items.1
 generalize yx st.items=b at h⊢
 refine iW 0 func154 ntmps154 results154 λc hc hb=>zL ?_
 simp[go_sem]
 refine pC h ?_
 simp[go_sem]
 exact wR
theorem Tb: ∀{W:List (Pl×J)},(∀e∈W,e.1≠p)->W.filter (λe=> !decide (e.1=p))=W:=fun{W} h=>
 D9.2 λe he=>by simp[h e he]
theorem Tc {J:Type} {p:Pl} {v:J}: ∀{W:List (Pl×J)} {i:Nat},(W.map (·.1)).Nodup->W[i]? =some (p,v)->W.eraseIdx i=W.filter (λe=> !decide (e.1=p))
 | [],i,_,h=>by simp at h
 |e::W,0,hn,h=>by
  simp only[List.getElem?_cons_zero,afg]at h
  subst h
  rw[Ai,C0]at hn
  rw[List.eraseIdx_cons_zero,Cw,afa sm]
  exact(Tb λe he q=>hn.1 (Ac.2 ⟨e,he,q⟩)).symm
 |e::W,i+1,hn,h=>by
  rw[Cc]at h
  rw[Ai,C0]at hn
  have aa:e.1≠p:=λq=>hn.1 (Ac.2 ⟨(p,v),Bh h,q.symm⟩)
  rw[List.eraseIdx_cons_succ,Cw,afb (by simp[aa]),Tc hn.2 h]
theorem we5 (hn:(b.W.map (·.1)).Nodup) (p:Pl):(b.del p).W=b.W.filter (λe=> !decide (e.1=p)):=by
 unfold Mp.del
 cases h:b.at p with
 |none=>exact(Tb (JH h)).symm
 |some q=>exact Tc hn (vl (i:=q.1) (v:=q.2) h)
theorem Td {J:Type} {p:Pl} {u v:J}: ∀{W:List (Pl×J)} {i:Nat},(W.map (·.1)).Nodup->W[i]? =some (p,u)->W.set i (p,v)=W.map (λe=>if e.1=p then(p,v)else e)
 | [],i,_,h=>by simp at h
 |e::W,0,hn,h=>by
  simp only[List.getElem?_cons_zero,afg]at h
  subst h
  rw[Ai,C0]at hn
  rw[Cl,Ai,afb rfl]
  congr 1
  refine(List.map_id _).symm.trans (Bq λe he=> ?_)
  rw[afa λq=>hn.1 (Ac.2 ⟨e,he,q⟩)];rfl
 |e::W,i+1,hn,h=>by
  rw[Cc]at h
  rw[Ai,C0]at hn
  have aa:e.1≠p:=λq=>hn.1 (Ac.2 ⟨(p,u),Bh h,q.symm⟩)
  rw[Bv,Ai,afa aa,Td hn.2 h]
theorem cw.keys {l:List Ln} (h:cw b l):(b.W.map (·.1)).Nodup:=by
 have h1:=h.perm.map (·.1)
 rw[Be]at h1
 exact h1.nodup_iff.2 h.eK.nodup
theorem cw.del {l:List Ln} (h:cw b l) (p:Pl):cw (b.del p) (l.filter λy=> !decide (y.at=p)):=by
 refine⟨Mp.CE h.ok _, ?_, ?_,λy hy=>h.rows y (C5.1 hy).1⟩
 .exact List.Pairwise.sublist ((C1).map _) h.eK
 .rw[we5 h.keys]
  have h1:=h.perm.filter (λe=> !decide (e.1=p))
  rw[List.filter_map]at h1
  exact h1
theorem cw.G6 {l:List Ln} (h:cw b l) (p:Pl) (row:List bG) (hp:ib l p) (aa:eQ ⟨p.1,p.2,row⟩):cw (b.put p (yP row)) (iT l p row):=by
 have ab:(iT l p row).map Ln.at=l.map Ln.at:=by
  unfold iT
  rw[Be]
  refine Bq λy _=> ?_
  by_cases q:y.at=p
  .simp only[Function.comp,afb q];rfl
  .simp only[Function.comp,afa q]
 refine⟨Mp.ko h.ok _ _, ?_, ?_,λy hy=> ?_⟩
 .rw[ab];exact h.eK
 .have e:(b.put p (yP row)).W=b.W.map (λe=>if e.1=p then(p,yP row)else e):=by
   unfold Mp.put
   cases r:b.at p with
   |none=>rw[h.gu.1 r]at hp;cases hp
   |some q=>exact Td h.keys (vl (i:=q.1) (v:=q.2) r)
  rw[e]
  have h1:=h.perm.map (λe=>if e.1=p then(p,yP row)else e)
  rw[Be]at h1
  refine h1.trans (afz ?_)
  unfold iT
  rw[Be]
  refine Bq λy _=> ?_
  by_cases q:y.at=p
  .simp only[Function.comp,afb q]
   show _=((y.r,y.k),yP row)
   rw[<-q];rfl
  .simp only[Function.comp,afa q]
 .unfold iT at hy
  obtain⟨z,hz,rfl⟩:=Ac.1 hy
  by_cases q:z.at=p
  .rw[afb q]
   subst q
   exact aa
  .rw[afa q];exact h.rows z hz
theorem VK.okV {v:bG} {k:Int} (h:VK v k):v.ok:=by
 have hm:=h.may
 have hn:=h.n
 rcases M9 hm with ⟨h1,_,h3⟩|⟨h1,_,h3⟩|⟨h1,h3⟩|⟨h1,_,h3⟩
 all_goals
  refine⟨by rw[h1];decide,hn, ?_⟩
  first|(rw[h3];decide)|(unfold maxLen;omega)
theorem JP {T:bI} {ny:List bG} (ho: ∀v∈ny,v.ok): ∀{cu:List bY} {row:List bG},(∀x∈cu,jL x.e)->(∀v∈row,v.ok)->(fM T ny cu row).2=0->(fM T ny cu row).1.length=row.length/\ ∀v∈(fM T ny cu row).1,v.ok
 | [],row,_,hr,_=>(by trivial)
 |x::l,row,hs,hr,h=>by
  rw[fM]at h⊢
  by_cases q:(fX T ny x.e).2=0
  .rw[afa om]at h⊢
   have hv:=(Ta ho (by grind) q).okV
   have h2:=JP ho (cu:=l) (row:=row.set (cy T x.name).toNat (fX T ny x.e).1) (by grind) (by grind) h
   grind
  grind
theorem Te {T:bI} {st:bQ}: ∀{l acc:List Ln},∀x∈(sF T st acc l).1,x∈acc\/x∈l
 | [],_,_,h=> .inl h
 |y::l,acc,x,h=>by
  rw[sF]at h
  by_cases q:(fX T y.v st.ct).2=0
  .rw[afa om]at h
   rcases Te (l:=l) x h with h|h
   all_goals grind
  grind
theorem JQ {t:Int} {T:bI} {l:List Ln}: ∀x∈(fD t T st l).1,x∈l/\(ou t st x)=true:=λx h=>by
 unfold fD at h
 have hf:x∈l.filter (ou t st):=by
  by_cases q:st.dq=true
  .rw[afb q]at h
   rcases Te x h with h|h
   all_goals grind
  grind
 grind
theorem xP8 (l:List Ln) (p:Pl) (row:List bG):(iT l p row).map Ln.at=l.map Ln.at:=by
 unfold iT
 rw[Be]
 refine Bq λy _=> ?_
 by_cases q:y.at=p
 .simp only[Function.comp,afb q];rfl
 grind
theorem Tf (l:List Ln) (p q:Pl) (row:List bG):ib (iT l p row) q=ib l q:=by
 rw[Bool.eq_iff_iff,eE,eE,xP8]
def kq (p q:Pl):Int:=su [gN p.1 q.1,iw p.2 q.2]
theorem Nn (p q:Pl):decide (kq p q<0)=xW p q:=by
 obtain⟨a,s⟩:=p
 obtain⟨b,t⟩:=q
 simp only[kq,su,gN,iw,xW]
 by_cases h1:a<b
 .simp[h1]
 .by_cases h2:a>b
  .have h3: ¬a=b:=om
   simp[h1,h2,h3]
  .have h3:a=b:=om
   subst h3
   by_cases h4:Op.bytesLess s t=true
   .simp[h4]
   .have aa:Op.bytesLess s t=false:=sU h4
    by_cases h5:Op.bytesLess t s=true
    .simp[aa,h5]
    .simp[aa,h5]
theorem Tg:Go.Sort.SWO λa b=>decide (kq a b<0):=by
 have e:(λa b=>decide (kq a b<0))=xW:=funext λa=>funext λb=>Nn a b
 rw[e]
 refine⟨G1,λx y z h g=>G2 h g,λx y z h g=> ?_⟩
 cases q:xW x z with
 |false=>rfl
 |true=>
  rcases G3 x y with r|r|r
  .rw[r]at h;cases h
  .subst r;rw[q]at g;cases g
  .have:=G2 r q;rw[this]at g;cases g
theorem xQ3 {X:Type} {kx:X->Pl} {l:List X} (h:l.Pairwise λa b=> ¬kq (kx b) (kx a)<0) (hn:(l.map kx).Nodup):fI (l.map kx):=by
 unfold fI
 rw[C3]
 rw[List.Nodup,C3]at hn
 refine(h.and hn).imp fun{a b} ⟨h1,h2⟩=> ?_
 rcases G3 (kx a) (kx b)with r|r|r
 .exact r
 .exact absurd r h2
 .rw[<-Nn]at r
  exact absurd (afk r) h1
theorem Th (p q:Pl):Pure prog 94 [gB p,gB q] (.int .i64 (kq p q)):=by
 have h:=GX [gN p.1 q.1,iw p.2 q.2] (by simp[maxLen])
 have h1:=Sd p.1 q.1
 have h2:=Si p.2 q.2
 unfold kq
 generalize su [gN p.1 q.1,iw p.2 q.2]=M at*
 refine iW 0 func94 ntmps94 results94 λc hc hb=>zL ?_
 simp[go_sem,gB]
 refine yV [(4,0),(9,0),(11,0)] 2 rfl kR kR ?_
 simp[go_sem]
 refine pD h1 ?_
 simp[go_sem]
 refine pD h2 ?_
 simp[go_sem]
 refine pD h ?_
 simp[go_sem]
 exact wR
theorem xD4 (p q:Pl):Pure prog 152 [.agg (.int .i64 p.1:: .str p.2::List.replicate (3 - 2) .u),.agg (.int .i64 q.1:: .str q.2::List.replicate (3 - 2) .u)] (.int .i64 (kq p q)):=by
 have h:=Th p q
 rw[gB,gB]at h
 show Pure prog 152 [.agg [.int .i64 p.1,.str p.2,.u],.agg [.int .i64 q.1,.str q.2,.u]] (.int .i64 (kq p q))
 refine iW 0 func152 ntmps152 results152 λc hc hb=>zL ?_
 simp[go_sem]
 refine pC h ?_
 simp[go_sem]
 exact wR
def jA (seen:afF) (W:List (Pl×J)) (bs:afF):List ((Pl×J)×Nat):=(W.zip bs).filter λp=> !seen.contains p.2
theorem Ti {J:Type} {g:J->V} {seen:afF}: ∀{W:List (Pl×J)} {bs:afF},vW seen (fL g W) bs=(jA seen W bs).map λp=>(gB p.1.1,g p.1.2,p.2)
 | [],bs=>by cases bs<;>rfl
 |e::W,[]=>rfl
 |e::W,b::bs=>by
  rw[fL,vW,Ti]
  unfold jA
  rw[Dr,Cw]
  cases h:seen.contains b
  .simp only[Ck,afs,Bool.not_false,afj,Ai]
  .simp only[afj,E0,Ck,afs]
theorem JR {J:Type} {g:J->V}: ∀{W:List (Pl×J)} {bs:afF} {p:(Pl×J)×Nat},bs.Nodup->p∈W.zip bs->CX p.2 (fL g W) bs=some (gB p.1.1,g p.1.2)
 | [],_,_,_,h=>by simp at h
 |e::W,[],_,_,h=>by simp at h
 |e::W,b::bs,p,hn,h=>by
  rw[C0]at hn
  rw[fL,CX]
  rw[Dr]at h
  rcases Ae.1 h with rfl|h
  .rw[afb rfl]
  .have:b≠p.2:=λq=>hn.1 (q▸(List.of_mem_zip h).2)
   rw[afa this]
   exact JR hn.2 h
theorem Tj {J:Type}: ∀{W:List J} {bs:afF},bs.Nodup->((W.zip bs).map (·.2)).Nodup
 | [],_,_=>by simp
 |e::W,[],_=>by simp
 |e::W,b::bs,h=>by
  rw[C0]at h
  rw[Dr,Ai,C0]
  refine⟨λq=> ?_,Tj h.2⟩
  obtain⟨p,hp,rfl⟩:=Ac.1 q
  exact h.1 (List.of_mem_zip hp).2
theorem Tk {J:Type} {p:J×Nat}: ∀{L:List (J×Nat)},(L.map (·.2)).Nodup->p∈L->L.Perm (p::L.filter λq=> !decide (q.2=p.2))
 | [],_,h=>by cases h
 |x::L,hn,h=>by
  rw[Ai,C0]at hn
  rcases Ae.1 h with rfl|h
  .have:(p::L).filter (λq=> !decide (q.2=p.2))=L:=by
    rw[Cw,afa sm]
    exact D9.2 λq hq=>by
     have:q.2≠p.2:=λe=>hn.1 (Ac.2 ⟨q,hq,e⟩)
     simp[this]
   rw[this]
  .have:x.2≠p.2:=λe=>hn.1 (Ac.2 ⟨p,h,e.symm⟩)
   rw[Cw,afb (by simp[this])]
   exact((Tk hn.2 h).cons x).trans (List.Perm.swap ..)
theorem JS (hn:bs.Nodup) {p:(Pl×J)×Nat} (hp:p∈jA seen W bs):(jA seen W bs).Perm (p::jA (seen++ [p.2]) W bs):=by
 have h1:((jA seen W bs).map (·.2)).Nodup:=afm ((C1).map _) (Tj hn)
 refine(Tk h1 hp).trans (afz ?_)
 congr 1
 unfold jA
 rw[List.filter_filter]
 refine List.filter_congr λq _=> ?_
 by_cases e:q.2=p.2
 .simp[e]
 .simp[e]
theorem JT {p:(Pl×J)×Nat} (hp:p∈jA seen W bs):p∈W.zip bs:=(C5.1 hp).1
theorem xO2 (h:bs.length=W.length):(jA [] W bs).map (·.1)=W:=by
 unfold jA
 rw[D9.2 λq _=>sm,List.map_fst_zip om]
def gD (seen:afF) (W:List (Pl×J)) (bs:afF) (D:List (Pl×J)):Prop:=(D++(jA seen W bs).map (·.1)).Perm W
theorem gD.start (h:bs.length=W.length):gD [] W bs []:=by
 unfold gD
 rw[xO2 h];exact List.Perm.refl _
theorem gD.next {D:List (Pl×J)} (hn:bs.Nodup) (h:gD seen W bs D) {p:(Pl×J)×Nat} (hp:p∈jA seen W bs):gD (seen++ [p.2]) W bs (D++ [p.1]):=by
 unfold gD at h⊢
 refine List.Perm.trans ?_ h
 rw[Bu]
 have h1:=(JS hn hp).map λx:(Pl×J)×Nat=>x.1
 rw[Ai]at h1
 exact List.Perm.append_left _ h1.symm
theorem gD.done {D:List (Pl×J)} (h:gD seen W bs D) (h0:jA seen W bs= []):D.Perm W:=by
 unfold gD at h
 rw[h0]at h
 simpa using h
theorem Tm {J:Type} {p q:J->Bool}: ∀{l:List J},(∀x∈l,p x=true->q x=false)->(l.filter p++l.filter q).Perm (l.filter λx=>p x||q x)
 | [],_=>List.Perm.refl _
 |x::l,h=>by
  have ih:=Tm (l:=l) λy hy=>h y (B7 _ hy)
  have hx:=h x (B1 ..)
  simp only[Cw]
  cases hp:p x with
  |true=>
   simp only[hx hp,D5,afj,Ck,afs,Ap]
   exact ih.cons x
  |false=>
   cases hq:q x with
   |true=>
    simp only[Bj,afj,Ck,afs]
    exact Da.trans (ih.cons x)
   |false=>
    simp only[Bj,Ck,afs]
    exact ih
theorem Tn {l:List Ln} {c:Ln->Bool} {rg:Int->Int}: ∀{G:afH},(G.map rg).Nodup->(G.flatMap λg=>l.filter λx=>(rg g==x.r)&&c x).Perm (l.filter λx=>(G.any λg=>rg g==x.r)&&c x)
 | [],_=>by simp
 |g::G,hn=>by
  rw[Ai,C0]at hn
  rw[Ch]
  refine(List.Perm.append_left _ (Tn (l:=l) (c:=c) hn.2)).trans ((Tm λx _ hp=> ?_).trans (afz (List.filter_congr λx _=> ?_)))
  .simp only[A6,afh]at hp
   have:(G.any λg=>rg g==x.r)=false:=by
    cases q:G.any λg=>rg g==x.r with
    |false=>rfl
    |true=>
     obtain⟨g',h1,h2⟩:=List.any_eq_true.1 q
     exact absurd (Ac.2 ⟨g',h1,(beq_iff_eq.1 h2).trans hp.1.symm⟩) hn.1
   rw[this,Dk]
  .rw[List.any_cons,Bool.and_or_distrib_right]
theorem xq8 {l m:List Ln} (hr:fI (l.map Ln.at)) (hp:m.Perm l) (hs:m.Pairwise λa b=>xW b.at a.at=false):m=l:=by
 have aa:(m.map Ln.at).Nodup:=(hp.map Ln.at).nodup_iff.2 hr.nodup
 have h1:l.Pairwise λa b=>xW a.at b.at=true:=C3.1 hr
 have h2:m.Pairwise λa b=>xW a.at b.at=true:=by
  refine(hs.and (C3.1 aa)).imp fun{a b} h=> ?_
  rcases G3 a.at b.at with q|q|q
  .exact q
  .exact absurd q h.2
  .rw[h.1]at q;cases q
 exact hp.eq_of_pairwise (λa b _ _ h g=>by rw[Ni h]at g;cases g) h2 h1
theorem Np (c:UInt8):UInt8.ofNat c.toNat=c:=sm
theorem To: ∀(l:afE) (i v u n:Nat),gG l i v=(u,n,0)-> ∃w k,u=v+w*128^i/\n=i+k/\l.take k=eP w/\k<=l.length/\(0<i->0<w)
 | [],i,v,u,n,h=>by grind[gG]
 |c::rest,i,v,u,n,h=>by
  rw[gG]at h
  split at h
  .grind
  .split at h
   .rename_i h2
    split at h
    .grind
    .rename_i h3
     simp only[afl]at h
     obtain⟨h4,h5,_⟩:=h
     refine⟨c.toNat,1, ?_,h5.symm, ?_,sm,λhi=> ?_⟩
     .grind
     .rw[GH h2,Np];rfl
     omega
   .rename_i h2
    obtain⟨w,k,h4,h5,h6,h7,h8⟩:=To rest (i+1) _ u n h
    have hw:=om
    have hc:=c.toNat_lt
    have e1:(c.toNat%128+128*w)%128=c.toNat%128:=om
    have e2:(c.toNat%128+128*w)/128=w:=om
    refine⟨c.toNat%128+128*w,k+1, ?_,om, ?_,by grind,om⟩
    .grind
    .rw[Jn om,e1,e2,Bl,h6]
     grind[Np]
theorem xT9 (u:Nat):iO (kh u)=u:=by
 grind[iO,kh]
theorem Nq {l:afE} {u n:Nat} (h:gG l 0 0=(u,n,0)):l.take n=eP u/\n<=l.length:=by
 grind[To]
theorem yO0: ∀{b:afE},(kV b).e=0->b.take (kV b).n=jT (kV b).v/\(kV b).n<=b.length/\0<(kV b).n
 | [],h=>by trivial
 |c::rest,h=>by
  have hc:=Np c
  rw[kV]at h⊢
  revert h
  unfold n9
  split
  .grind[jT,dO,v0]
  .split
   .rename_i _ h1
    rw[h1]at hc
    unfold tI
    cases rest with
    |nil=>simp
    |cons d rest=>
     simp only[Ab,List.getD_cons_succ,List.getD_cons_zero]
     rw[afa om]
     split
     .simp
     .intro _
      rename_i hd
      refine⟨?_,sm,sm⟩
      have hm:dO ⟨1,(d.toNat:Int),[]⟩=true:=by
       grind[dO]
      simp_all[jT]
   .split
    .rename_i _ _ h2
     rw[h2]at hc
     obtain⟨⟨u,n,e⟩,hg⟩: ∃g,gG rest 0 0=g:=⟨_,rfl⟩
     rw[hg]
     simp only
     split
     all_goals simp_all[Nq,jT,dO,Dw,xT9]
    .split
     .rename_i _ _ _ h3
      rw[h3]at hc
      obtain⟨⟨u,n,e⟩,hg⟩: ∃g,gG rest 0 0=g:=⟨_,rfl⟩
      unfold sd wN
      rw[hg]
      by_cases he:e=0
      rotate_left
      .grind
      subst he
      by_cases h5:1048576<u
      .grind
      by_cases h6:rest.length - n<u
      .grind
      obtain⟨h7,h8⟩:=Nq hg
      have aa:((rest.take (n+u)).drop n).length=u:=by
       grind
      simp only[h5,h6,afs,ne_eq,afu,aa]
      by_cases hl:64<u
      .grind
      rw[afa hl]
      intro _
      refine⟨?_,by grind,by grind⟩
      have hm:dO ⟨3,0,(rest.take (n+u)).drop n⟩=true:=by
       grind[dO]
      unfold jT
      rw[afb hm]
      simp only
      rw[afa dc,afa dc,afb True.intro,aa,<-h7]
      rw[Dw 1 (n+u),Bl]
      show c::_=UInt8.ofNat 3::_
      rw[hc]
      congr 1
      grind[B9]
     simp
theorem Tp: ∀(n:Nat) (b:afE) (l:List bG),gM n b=some l->l.flatMap jT=b/\l.length=n
 |0,b,l,h=>by
  rw[gM]at h
  grind
 |n+1,b,l,h=>by
  rw[gM]at h
  split at h
  .rename_i he
   rw[Al]at h
   obtain⟨l',h1,rfl⟩:=h
   obtain⟨h2,h3⟩:=Tp n _ l' h1
   obtain⟨h4,_,_⟩:=yO0 he
   refine⟨?_,by simp[h3]⟩
   rw[Ch,h2,<-h4,B9]
  grind
theorem yX1 {nc:Nat} {data:afE} (h:(R.jo nc data).2=0):yP (R.jo nc data).1=data:=by
 revert h
 unfold R.jo
 split
 .rename_i h0
  intro h
  obtain⟨⟨u,n,e⟩,hg⟩: ∃g,gG data 0 0=g:=⟨_,rfl⟩
  rw[hg]at h h0⊢
  obtain⟨h1,h2⟩:=h0
  simp only at h1 h2 h⊢
  rw[h1]at hg
  subst h2
  obtain⟨h3,_⟩:=Nq hg
  cases hr:gM u (data.drop n)with
  |none=>grind[sf]
  |some l=>
   obtain⟨h5,h6⟩:=Tp _ _ _ hr
   show yP l=data
   unfold yP qF
   grind[B9]
 omega
theorem eQ.read {x:Ln} (h:eQ x):fu bM (fp x.r).1 (yP x.v)=(x.v,0):=by
 obtain⟨tn,T,e,hT,hm⟩:=h.iY
 obtain⟨aa,ab⟩:=A1.1 hT
 have hL:=EZ ((by decide: ∀T∈bM,T.bW.length<=20) T (by grind)) h.ok hm
 simp_all[fu,xE8]
def tQ (t:Int) (e:Pl×afE):Ln:=⟨e.1.1,e.1.2,(fu bM t e.2).1⟩
def oU (gC:Int) (lo hi:afE) (e:Pl×afE):Bool:=(e.1.1==gC)&&(!Op.bytesLess e.1.2 lo&&Op.bytesLess e.1.2 hi)
def G7 (gC:Int) (lo hi:afE) (x:Ln):Bool:=(gC==x.r)&&(!Op.bytesLess x.k lo&&Op.bytesLess x.k hi)
theorem yL7 {l:List Ln} (h:cw b l) {D:List (Pl×afE)} (hD:D.Perm b.W) {t gC:Int} (hr:(fp gC).1=t) (lo hi:afE):
  ((D.filter (oU gC lo hi)).map (tQ t)).Perm (l.filter (G7 gC lo hi)):=by
 have h1:=((hD.trans h.perm).filter (oU gC lo hi)).map (tQ t)
 refine h1.trans (afz ?_)
 rw[List.filter_map,Be]
 have e1:l.filter (oU gC lo hi∘λx=>(x.at,yP x.v))=l.filter (G7 gC lo hi):=List.filter_congr λx _=>by
  show((x.r==gC)&&_)=((gC==x.r)&&_)
  rw[Bool.beq_comm]
  rfl
 rw[e1]
 refine(Bq λx hx=> ?_).trans (List.map_id _)
 obtain⟨ad,aa⟩:=C5.1 hx
 unfold G7 at aa
 rw[A6,afh]at aa
 have ab:=(h.rows x ad).read
 rw[<-aa.1,hr]at ab
 show tQ t (x.at,yP x.v)=x
 unfold tQ
 rw[ab]
 rfl
theorem yW6 (j:Nat) (hj:j<3) (st:bQ):((oh (j:Int) st).map λg=>(jU j g).1).Nodup:=by
 match j,hj with
 |0,_=>
  have e:oh ((0:Nat):Int) st=jM (nv st) [0,1]:=rfl
  rw[e,Nd]
  exact afm ((C1).map _) (by decide:([0,1].map λg=>(jU ((0:Nat):Int) g).1).Nodup)
 |1,_=>exact(by decide:([-1].map λg=>(jU ((1:Nat):Int) g).1).Nodup)
 |2,_=>exact(by decide:([1].map λg=>(jU ((2:Nat):Int) g).1).Nodup)
theorem Tq (j:Nat) (hj:j<3) {g:Int} (hg:g∈oh (j:Int) st):(g= -1\/g=0\/g=1)/\(jU j g).2=0/\fp (jU j g).1=((j:Int),g,0):=by
 match j,hj with
 |0,_=>
  have e:oh ((0:Nat):Int) st=jM (nv st) [0,1]:=rfl
  rw[e,Nd]at hg
  have:=(C5.1 hg).1
  simp at this
  rcases this with rfl|rfl
  all_goals decide
 |1,_=>
  have e:oh ((1:Nat):Int) st= [-1]:=rfl
  rw[e]at hg
  simp at hg
  subst hg
  decide
 |2,_=>
  have e:oh ((2:Nat):Int) st= [1]:=rfl
  rw[e]at hg
  simp at hg
  subst hg
  decide
theorem yx7 (j:Nat) (hj:j<3) (st:bQ) (l:List Ln):((oh (j:Int) st).flatMap λg=>l.filter (G7 (jU j g).1 (tJ bM j st).1 (tJ bM j st).2)).Perm (l.filter (ou j st)):=
 Tn (l:=l) (c:=λx=> !Op.bytesLess x.k (tJ bM j st).1&&Op.bytesLess x.k (tJ bM j st).2) (rg:=λg=>(jU j g).1) (yW6 j hj st)
theorem yV0 {j:Nat} {l m:List Ln} (hr:fI (l.map Ln.at)) (hp:m.Perm (l.filter (ou j st))) (hs:m.Pairwise λa b=> ¬kq b.at a.at<0):m=l.filter (ou j st):=by
 refine xq8 (List.Pairwise.sublist ((C1).map _) hr) hp (hs.imp fun{a b} h=> ?_)
 rw[<-Nn]
 grind
def ox (l:List Wr):Prop:=l.Pairwise λa b=>xW a.p b.p=true
theorem Nr (l:List Wr) (x:Wr):(kp l x).Perm (x::l):=by
 unfold kp
 refine Da.trans (List.Perm.cons _ (afz ?_))
 simp
theorem Tr {x:Wr}: ∀{l:List Wr},ox l->(∀y∈l,y.p≠x.p)-> ∀y∈l.dropWhile (λy=>xW y.p x.p),xW x.p y.p=true
 | [],_,_,y,hy=>by simp_all
 |z::l,hr,hn,y,hy=>by
  rw[ox,By]at hr
  rw[afy]at hy
  by_cases q:xW z.p x.p=true
  .rw[afb q]at hy
   exact Tr hr.2 (by grind) y hy
  .rw[afa q]at hy
   have hz:xW x.p z.p:=by
    grind[G3]
   rcases Ae.1 hy with rfl|hy
   all_goals grind[G2]
theorem xl3 {l:List Wr} {x:Wr} (h:ox l) (hn: ∀y∈l,y.p≠x.p):ox (kp l x):=by
 have hd:=Tr h hn
 have ht: ∀y∈l.takeWhile (λy=>xW y.p x.p),xW y.p x.p:=Nk
 unfold ox at h
 rw[<-Cg (p:=λy:Wr=>xW y.p x.p) (l:=l),Co]at h
 unfold kp ox
 rw[Co,By]
 grind
theorem Ns {f:Ln->Wr} (hf: ∀x,(f x).p=x.at): ∀{m:List Ln} {l:List Wr},ox l->(l.map (·.p)++m.map Ln.at).Nodup->ox (m.foldl (λl x=>kp l (f x)) l)/\(m.foldl (λl x=>kp l (f x)) l).Perm (l++m.map f)
 | [],l,h,_=>(by simp_all)
 |x::m,l,h,hn=>by
  have hx: ∀y∈l,y.p≠(f x).p:=(by grind)
  have h2:((kp l (f x)).map (·.p)++m.map Ln.at).Nodup:=by
   have hp:((kp l (f x)).map (·.p)++m.map Ln.at).Perm (l.map (·.p)++(x::m).map Ln.at):=by
    refine(((Nr l (f x)).map (·.p)).append_right _).trans ?_
    rw[Ai,Ai,hf]
    exact Da.symm
   exact hp.nodup_iff.2 hn
  obtain⟨h3,h4⟩:=Ns hf (m:=m) (xl3 h hx) h2
  refine⟨h3,h4.trans ?_⟩
  refine((Nr l (f x)).append_right _).trans ?_
  rw[Ai]
  exact Da.symm
theorem yW9 {l m:List Wr} (h:ox l) (g:ox m) (e: ∀x,x∈l↔x∈m):l=m:=by
 have nd: ∀{l:List Wr},ox l->l.Nodup:=λh=>h.imp (by grind[G1])
 exact((Dg (nd h) (nd g)).2 om).eq_of_pairwise (by grind[Ni]) h g
def isW (oT now:List Ln) (w:Wr):Prop:=
 (w.drop=true/\w.data= []/\(∃x∈oT,x.at=w.p)/\ib now w.p=false)\/(w.drop=false/\ ∃x∈now,x.at=w.p/\yP x.v=w.data/\ ∀y∈oT,y.at=x.at->yP y.v≠yP x.v)
theorem JU {aa now:List Ln} (hw:fI (aa.map Ln.at)) (hn:fI (now.map Ln.at)):ox (gb aa now)/\ ∀w,w∈gb aa now↔isW aa now w:=by
 obtain⟨h1,h2⟩:=Ns (f:=λx=>⟨x.at,true,[]⟩) sm (m:=aa.filter λx=> !ib now x.at) (l:= []) List.Pairwise.nil (by
  simp only[Bk,Bp]
  exact afm ((C1).map _) hw.nodup)
 rw[Bp]at h2
 obtain⟨h3,h4⟩:=Ns (f:=λx=>⟨x.at,false,yP x.v⟩) sm (m:=now.filter λx=> !(aa.any λy=>decide (y.at=x.at)&&decide (yP y.v=yP x.v))) h1 (by
  have hp:=(h2.map (·.p)).append_right ((now.filter λx=> !(aa.any λy=>decide (y.at=x.at)&&decide (yP y.v=yP x.v))).map Ln.at)
  refine hp.nodup_iff.2 ?_
  rw[Be,Dv]
  refine⟨afm ((C1).map _) hw.nodup,afm ((C1).map _) hn.nodup,λa ha b hb e=> ?_⟩
  obtain⟨x,hx,rfl⟩:=Ac.1 ha
  obtain⟨y,hy,rfl⟩:=Ac.1 hb
  grind[ib])
 refine⟨h3,λw=> ?_⟩
 have h5:=(h4.trans (h2.append_right _)).mem_iff (a:=w)
 rw[Ar,Ac,Ac]at h5
 refine h5.trans (or_congr ⟨?_, ?_⟩ ⟨?_, ?_⟩)
 .grind
 .rintro⟨e1,e2,⟨x,hx,e3⟩,e4⟩
  refine⟨x,(by grind), ?_⟩
  obtain⟨p,d,b⟩:=w
  grind
 .grind
 .rintro⟨e1,x,hx,e2,e3,e4⟩
  refine⟨x,C5.2 ⟨hx, ?_⟩, ?_⟩
  .grind
  .obtain⟨p,d,b⟩:=w
   grind
def iy (out:List (Int×List Wr)) (w:Wr):List (Int×List Wr):=
 match out.getLast? with
 |some q=>if q.1=w.p.1 then out.dropLast++ [(q.1,q.2++ [w])]else out++ [(w.p.1,[w])]
 |none=> [(w.p.1,[w])]
def k7 (l:List Wr):List (Int×List Wr):=l.foldl iy []
theorem wa1 {g:Int} (he:(fp g).2.2=0): ∃(tn:Nat) (T:bI),(fp g).1=(tn:Int)/\bM[tn]? =some T:=by
 unfold fp at he⊢
 split at he<;>rename_i q0
 .rw[afb q0];exact⟨0,_,rfl,rfl⟩
 .rw[afa q0]
  split at he<;>rename_i q1
  .rw[afb q1];exact⟨0,_,rfl,rfl⟩
  .rw[afa q1]
   split at he<;>rename_i q2
   .rw[afb q2];exact⟨1,_,rfl,rfl⟩
   .rw[afa q2]
    split at he<;>rename_i q3
    .rw[afb q3];exact⟨2,_,rfl,rfl⟩
    grind
def CF (x:Ln):Prop:=mT x.r x.k (yP x.v)=true
theorem Ts {data:afE} (h:mT p.1 p.2 data):eQ ⟨p.1,p.2,(fu bM (fp p.1).1 data).1⟩/\yP (fu bM (fp p.1).1 data).1=data:=by
 unfold mT at h
 simp only[A6,afe]at h
 obtain⟨h1,h2,h3⟩:=h
 obtain⟨tn,T,aa,hT⟩:=wa1 h1
 have ab:bM.getD tn ep=T:=by grind
 have cH:=S7 tn data
 rw[aa]at h2 h3⊢
 rw[Ax,ab]at h3
 have hk:=JN tn T hT (fu bM tn data).1 (by rw[h3])
 rw[h3]at hk
 refine⟨⟨(by grind),h1,cH.2⟩, ?_⟩
 obtain⟨hl,ad⟩:=A1.1 hT
 simp_all[fu,yX1]
theorem Tt {J:Type} {p q:Pl} {v:J} (h:q≠p): ∀{W:List (Pl×J)},dw p (W++ [(q,v)])=dw p W
 | []=>by grind[dw]
 |e::W=>by
  rw[Ap,dw,dw,Tt h]
theorem Tu {J:Type} {p q:Pl} {v:J}: ∀{W:List (Pl×J)} {i:Nat} {u:J},dw p W=some (i,u)->(dw q (W.set i (p,v))).map (·.2)=if q=p then some v else(dw q W).map (·.2)
 | [],i,u,h=>by trivial
 |e::W,i,u,h=>by
  rw[dw]at h
  by_cases c:e.1=p
  .rw[afb c]at h
   simp only[afg,afl]at h
   obtain⟨rfl,rfl⟩:=h
   rw[Cl,dw,dw]
   grind
  .rw[afa c,Al]at h
   obtain⟨⟨j,w⟩,h1,h2⟩:=h
   simp only[afl]at h2
   obtain⟨rfl,rfl⟩:=h2
   rw[Bv,dw,dw]
   by_cases d:e.1=q
   .grind
   .rw[afa d,afa d,Option.map_map,Option.map_map]
    exact Tu h1
theorem Nt (m:Mp J) (p q:Pl) (v:J):(m.put p v).get q=if q=p then some v else m.get q:=by
 unfold Mp.get Mp.put Mp.at
 cases h:dw p m.W with
 |none=>
  simp only
  by_cases d:q=p
  .subst d
   rw[JJ h,afb rfl];rfl
  .rw[Tt (by grind),afa d]
 |some w=>grind[Tu]
theorem ku {m:Mp J}:m.get p=none↔m.at p=none:=by
 grind[Mp.get,Option.map_eq_none_iff]
def oy (s:List (Pl×afE)×List Ln) (q:Pl×afE):List (Pl×afE)×List Ln:=
 if(s.1.any λe=>e.1==q.1)=true then s else(s.1++ [q],if mT q.1.1 q.1.2 q.2=true then vo s.2 ⟨q.1.1,q.1.2,(fu bM (fp q.1.1).1 q.2).1⟩else s.2)
structure nz (n:Nat) (s:List (Pl×afE)×List Ln) (m:M3):Prop where
 same:m.1=m.2.1
 now:cw m.2.1 s.2
 sn:m.2.2.ok
 seen: ∀p,m.2.2.get p=none↔(s.1.any λe=>e.1==p)=false
 Nl: ∀p v,m.2.2.get p=some v->1<=v/\v<=n
 lines: ∀x∈s.2,CF x/\(x.at,yP x.v)∈s.1
 rows: ∀q∈s.1,mT q.1.1 q.1.2 q.2=true-> ∃x∈s.2,x.at=q.1/\yP x.v=q.2
 len:s.2.length<=n
theorem nz.step {n:Nat} {s:List (Pl×afE)×List Ln} {m:M3} (h:nz n s m) (q:Pl×afE):nz (n+1) (oy s q) (yy q.1 q.2 m):=by
 obtain⟨p,data⟩:=q
 obtain⟨a,b,c⟩:=m
 obtain⟨se,out⟩:=s
 obtain⟨h1,h2,h3,h4,h6,h5,h7,h8⟩:=h
 simp only at h1 h2 h3 h4 h5 h6 h7 h8
 subst h1
 have aa: ∀w:Int,1<=w->w<=(n:Int)+1-> ∀q v,(c.put p w).get q=some v->1<=v/\v<=((n+1:Nat):Int):=(by grind[Nt])
 unfold oy yy
 simp only
 cases hs:se.any λe=>e.1==p with
 |true=>
  have hc:c.get p≠none:=(by grind)
  obtain⟨v,hv⟩:=Option.ne_none_iff_exists'.1 hc
  have ad:k6 c p=v:=by unfold k6;grind
  have af:=h6 p v hv
  rw[afb rfl,afa om,ad]
  refine⟨rfl,h2,Mp.ko h3 _ _,λq=> ?_,aa _ om om,h5,h7,by grind⟩
  grind[Nt]
 |false=>
  have hg:=(h4 p).2 hs
  have ad:k6 c p=0:=by unfold k6;grind
  have ab: ∀q,(c.put p (0+1)).get q=none↔((se++ [(p,data)]).any λe=>e.1==q)=false:=(by grind[Nt])
  rw[afa sm,ad]
  by_cases hr:mT p.1 p.2 data=true
  .rw[afb hr,afb (by grind)]
   obtain⟨hl,hd⟩:=Ts hr
   have ha:ib out p=false:=by
    cases e:ib out p with
    |false=>rfl
    |true=>
     obtain⟨x,hx,ag⟩:=Ac.1 (eE.1 e)
     grind
   have hn:=h2.ins hl ha
   rw[show(Ln.mk p.1 p.2 (fu bM (fp p.1).1 data).1).at=p from rfl,hd]at hn
   refine⟨rfl,hn,Mp.ko h3 _ _,ab,aa _ om om,λx hx=> ?_,λq hq ae=> ?_, ?_⟩
   .rcases Ae.1 ((yz _ _).mem_iff.1 hx)with rfl|hx
    .refine⟨?_,List.mem_append_right _ (C4.2 ?_)⟩
     .show mT p.1 p.2 (yP _)=true
      grind
     .show(p,yP _)=(p,data)
      rw[hd]
    grind
   .rcases Ar.1 hq with hq|hq
    .grind[yz]
    .rw[C4]at hq
     subst hq
     exact⟨_,(yz _ _).mem_iff.2 (B1 ..),rfl,hd⟩
   .rw[(yz _ _).length_eq]
    grind
  .rw[afa hr,afa (by grind)]
   refine⟨rfl,h2,Mp.ko h3 _ _,ab,aa _ om om,(by grind),λq hq ae=> ?_,by grind⟩
   grind
theorem Tv:nz 0 ([],[]) (tP _,tP _,tP _):=by
 refine⟨rfl,⟨SI _,List.Pairwise.nil,List.Perm.nil,sm⟩,SI _,λp=> ?_,λp v h=> ?_,sm,sm,sm⟩
 .exact⟨λ_=>rfl,λ_=>rfl⟩
 trivial
end Go.Proofs.YtefbicjgbaaieaaGreat
