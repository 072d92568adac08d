/-
  What the document lays of one range is that range's part of what is otherwise now. Used by the walk of the document's Run.
  Conditions: as each theorem states them.
-/
import Derived.Test.YtefbicjgbaaieaaGreatKAU
import Derived.Test.YtefbicjgbaaieaaGreatKAT
import Derived.Test.YtefbicjgbaaieaaGreatKAJ
set_option maxHeartbeats 8000000
namespace Go.Proofs.YtefbicjgbaaieaaGreat
open Go Go.Vx R Go.Proofs.Tryz
set_option maxRecDepth 100000
variable {α:Type}{W:List (Pl×α)}{bs:List Nat}{seen:List Nat}{l:List Ln}{p:(Pl×α)×Nat}
def ordP (p q:Pl):Int:=orL [cmpI p.1 q.1,cmpS p.2 q.2]
theorem yC6 (p q:Pl):decide (ordP p q<0)=xB p q:=by
 obtain⟨a,s⟩:=p
 obtain⟨b,t⟩:=q
 simp only[ordP,orL,cmpI,cmpS,xB]
 by_cases h1:a<b
 .simp[h1]
 .by_cases h2:a>b
  .have h3: ¬a=b:=om
   simp[h1,h2,h3]
  .have h3:a=b:=om
   subst h3
   by_cases h4:Op.bytesLess s t=true
   .simp[h4]
   .have aa:Op.bytesLess s t=false:=by simpa using h4
    by_cases h5:Op.bytesLess t s=true
    .simp[aa,h5]
    .simp[aa,h5]
theorem yO2:Go.Sort.SWO fun a b=>decide (ordP a b<0):=by
 have e:(fun a b=>decide (ordP a b<0))=xB:=funext fun a=>funext fun b=>yC6 a b
 rw[e]
 refine⟨zL7,fun x y z h g=>zI2 h g,fun x y z h g=> ?_⟩
 cases q:xB x z with
 |false=>rfl
 |true=>
  rcases zB1 x y with r|r|r
  .rw[r]at h;cases h
  .subst r;rw[q]at g;cases g
  .have:=zI2 r q;rw[this]at g;cases g
theorem xR8 {X:Type} {kx:X->Pl} {l:List X} (h:l.Pairwise fun a b=> ¬ordP (kx b) (kx a)<0) (hn:(l.map kx).Nodup):Rise (l.map kx):=by
 unfold Rise
 rw[C2]
 rw[List.Nodup,C2]at hn
 refine(h.and hn).imp fun{a b} ⟨h1,h2⟩=> ?_
 rcases zB1 (kx a) (kx b)with r|r|r
 .exact r
 .exact absurd r h2
 .rw[<-yC6]at r
  exact absurd (of_decide_eq_true r) h1
theorem xh2 (p q:Pl):Pure prog 94 [plV p,plV q] (.int .i64 (ordP p q)):=by
 have h:=or_w [cmpI p.1 q.1,cmpS p.2 q.2] (by simp[maxLen])
 have h1:=ye4 p.1 q.1
 have h2:=yH8 p.2 q.2
 unfold ordP
 generalize orL [cmpI p.1 q.1,cmpS p.2 q.2]=M at*
 refine iW 0 func94 ntmps94 results94 fun c hc hb=>zL ?_
 simp[go_sem,plV]
 refine yS [(4,0),(9,0),(11,0)] 2 rfl kR kR ?_
 simp[go_sem]
 refine pD h1 ?_
 simp[go_sem]
 refine pD h2 ?_
 simp[go_sem]
 refine pD h ?_
 simp[go_sem]
 exact wR
theorem xE5 (p q:Pl):Pure prog 152 [.agg (.int .i64 p.1:: .str p.2::List.replicate (3 - 2) .u),.agg (.int .i64 q.1:: .str q.2::List.replicate (3 - 2) .u)] (.int .i64 (ordP p q)):=by
 have h:=xh2 p q
 rw[plV,plV]at h
 show Pure prog 152 [.agg [.int .i64 p.1,.str p.2,.u],.agg [.int .i64 q.1,.str q.2,.u]] (.int .i64 (ordP p q))
 refine iW 0 func152 ntmps152 results152 fun c hc hb=>zL ?_
 simp[go_sem]
 refine pC h ?_
 simp[go_sem]
 exact wR
def ze4 (seen:List Nat) (W:List (Pl×α)) (bs:List Nat):List ((Pl×α)×Nat):=(W.zip bs).filter fun p=> !seen.contains p.2
theorem xe6 {α:Type} {g:α->V} {seen:List Nat}: ∀{W:List (Pl×α)} {bs:List Nat},zI1 seen (kvE g W) bs=(ze4 seen W bs).map fun p=>(plV p.1.1,g p.1.2,p.2)
 | [],bs=>by cases bs<;>rfl
 |e::W,[]=>rfl
 |e::W,b::bs=>by
  rw[kvE,zI1,xe6]
  unfold ze4
  rw[Em,Ck]
  cases h:seen.contains b
  .simp only[D0,if_false,Bool.not_false,if_true,Aj]
  .simp only[if_true,Bool.not_true,D0,if_false]
theorem yy1 {α:Type} {g:α->V}: ∀{W:List (Pl×α)} {bs:List Nat} {p:(Pl×α)×Nat},bs.Nodup->p∈W.zip bs->yq7 p.2 (kvE g W) bs=some (plV p.1.1,g p.1.2)
 | [],_,_,_,h=>by simp at h
 |e::W,[],_,_,h=>by simp at h
 |e::W,b::bs,p,hn,h=>by
  rw[C9]at hn
  rw[kvE,yq7]
  rw[Em]at h
  rcases Ae.1 h with rfl|h
  .rw[if_pos rfl]
  .have:b≠p.2:=fun q=>hn.1 (q▸(List.of_mem_zip h).2)
   rw[if_neg this]
   exact yy1 hn.2 h
theorem xk7 {α:Type}: ∀{W:List α} {bs:List Nat},bs.Nodup->((W.zip bs).map (·.2)).Nodup
 | [],_,_=>by simp
 |e::W,[],_=>by simp
 |e::W,b::bs,h=>by
  rw[C9]at h
  rw[Em,Aj,C9]
  refine⟨fun q=> ?_,xk7 h.2⟩
  obtain⟨p,hp,rfl⟩:=Ac.1 q
  exact h.1 (List.of_mem_zip hp).2
theorem yR2 {α:Type} {p:α×Nat}: ∀{L:List (α×Nat)},(L.map (·.2)).Nodup->p∈L->L.Perm (p::L.filter fun q=> !decide (q.2=p.2))
 | [],_,h=>by cases h
 |x::L,hn,h=>by
  rw[Aj,C9]at hn
  rcases Ae.1 h with rfl|h
  .have:(p::L).filter (fun q=> !decide (q.2=p.2))=L:=by
    rw[Ck,if_neg sm]
    exact Dw.2 fun q hq=>by
     have:q.2≠p.2:=fun e=>hn.1 (Ac.2 ⟨q,hq,e⟩)
     simp[this]
   rw[this]
  .have:x.2≠p.2:=fun e=>hn.1 (Ac.2 ⟨p,h,e.symm⟩)
   rw[Ck,if_pos (by simp[this])]
   exact((yR2 hn.2 h).cons x).trans (List.Perm.swap ..)
theorem zE1 (hn:bs.Nodup) (hp:p∈ze4 seen W bs):(ze4 seen W bs).Perm (p::ze4 (seen++ [p.2]) W bs):=by
 have h1:((ze4 seen W bs).map (·.2)).Nodup:=List.Nodup.sublist ((C5).map _) (xk7 hn)
 refine(yR2 h1 hp).trans (List.Perm.of_eq ?_)
 congr 1
 unfold ze4
 rw[E9]
 refine Ed fun q _=> ?_
 by_cases e:q.2=p.2
 .simp[e]
 .simp[e]
theorem zL6 (hp:p∈ze4 seen W bs):p∈W.zip bs:=(Aw.1 hp).1
theorem xP5 (h:bs.length=W.length):(ze4 [] W bs).map (·.1)=W:=by
 unfold ze4
 rw[Dw.2 fun q _=>sm,List.map_fst_zip om]
def MetD (seen:List Nat) (W:List (Pl×α)) (bs:List Nat) (D:List (Pl×α)):Prop:=(D++(ze4 seen W bs).map (·.1)).Perm W
theorem MetD.start (h:bs.length=W.length):MetD [] W bs []:=by
 unfold MetD
 rw[xP5 h];exact List.Perm.refl _
theorem MetD.next {D:List (Pl×α)} (hn:bs.Nodup) (h:MetD seen W bs D) (hp:p∈ze4 seen W bs):MetD (seen++ [p.2]) W bs (D++ [p.1]):=by
 unfold MetD at h⊢
 refine List.Perm.trans ?_ h
 rw[Cy]
 have h1:=(zE1 hn hp).map fun x:(Pl×α)×Nat=>x.1
 rw[Aj]at h1
 exact List.Perm.append_left _ h1.symm
theorem MetD.done {D:List (Pl×α)} (h:MetD seen W bs D) (h0:ze4 seen W bs= []):D.Perm W:=by
 unfold MetD at h
 rw[h0]at h
 simpa using h
theorem zH7 {α:Type} {p q:α->Bool}: ∀{l:List α},(∀x∈l,p x=true->q x=false)->(l.filter p++l.filter q).Perm (l.filter fun x=>p x||q x)
 | [],_=>List.Perm.refl _
 |x::l,h=>by
  have ih:=zH7 (l:=l) fun y hy=>h y (An _ hy)
  have hx:=h x (Au ..)
  simp only[Ck]
  cases hp:p x with
  |true=>
   simp only[hx hp,Dx,if_true,D0,if_false,Bz]
   exact ih.cons x
  |false=>
   cases hq:q x with
   |true=>
    simp only[Cb,if_true,D0,if_false]
    exact E0.trans (ih.cons x)
   |false=>
    simp only[Cb,D0,if_false]
    exact ih
theorem zR3 {l:List Ln} {c:Ln->Bool} {rg:Int->Int}: ∀{G:List Int},(G.map rg).Nodup->(G.flatMap fun g=>l.filter fun x=>(rg g==x.r)&&c x).Perm (l.filter fun x=>(G.any fun g=>rg g==x.r)&&c x)
 | [],_=>by simp
 |g::G,hn=>by
  rw[Aj,C9]at hn
  rw[C1]
  refine(List.Perm.append_left _ (zR3 (l:=l) (c:=c) hn.2)).trans ((zH7 fun x _ hp=> ?_).trans (List.Perm.of_eq (Ed fun x _=> ?_)))
  .simp only[A6,beq_iff_eq]at hp
   have:(G.any fun g=>rg g==x.r)=false:=by
    cases q:G.any fun g=>rg g==x.r with
    |false=>rfl
    |true=>
     obtain⟨g',h1,h2⟩:=Cn.1 q
     exact absurd (Ac.2 ⟨g',h1,(beq_iff_eq.1 h2).trans hp.1.symm⟩) hn.1
   rw[this,Eh]
  .rw[List.any_cons,Bool.and_or_distrib_right]
theorem xr4 {m:List Ln} (hr:Rise (l.map Ln.at)) (hp:m.Perm l) (hs:m.Pairwise fun a b=>xB b.at a.at=false):m=l:=by
 have aa:(m.map Ln.at).Nodup:=(hp.map Ln.at).nodup_iff.2 hr.nodup
 have h1:l.Pairwise fun a b=>xB a.at b.at=true:=C2.1 hr
 have h2:m.Pairwise fun a b=>xB a.at b.at=true:=by
  refine(hs.and (C2.1 aa)).imp fun{a b} h=> ?_
  rcases zB1 a.at b.at with q|q|q
  .exact q
  .exact absurd q h.2
  .rw[h.1]at q;cases q
 exact hp.eq_of_pairwise (fun a b _ _ h g=>by rw[zO6 h]at g;cases g) h2 h1
theorem zE3 (c:UInt8):UInt8.ofNat c.toNat=c:=sm
theorem ya0: ∀(l:List UInt8) (i v u n:Nat),wP l i v=(u,n,0)-> ∃w k,u=v+w*128^i/\n=i+k/\l.take k=varF w/\k<=l.length/\(0<i->0<w)
 | [],i,v,u,n,h=>by simp[wP]at h
 |c::rest,i,v,u,n,h=>by
  rw[wP]at h
  split at h
  .simp at h
  .split at h
   .rename_i h2
    split at h
    .simp at h
    .rename_i h3
     simp only[Prod.mk.injEq]at h
     obtain⟨h4,h5,_⟩:=h
     refine⟨c.toNat,1, ?_,h5.symm, ?_,sm,fun hi=> ?_⟩
     .rw[<-h4,Ct h2]
     .rw[zT6 h2,zE3];rfl
     .exact Nat.pos_of_ne_zero fun q=>h3 ⟨q,hi⟩
   .rename_i h2
    obtain⟨w,k,h4,h5,h6,h7,h8⟩:=ya0 rest (i+1) _ u n h
    have hw:=h8 (Nat.succ_pos _)
    have hc:=c.toNat_lt
    have e1:(c.toNat%128+128*w)%128=c.toNat%128:=om
    have e2:(c.toNat%128+128*w)/128=w:=om
    refine⟨c.toNat%128+128*w,k+1, ?_,om, ?_,by simp;omega,fun _=>om⟩
    .rw[h4,Ex,B4,Ds,Dh (128^i) 128,<-El,Dh w 128]
    .rw[yd0 om,e1,e2,C8,h6]
     have:c.toNat%128+128=c.toNat:=om
     rw[this,zE3]
theorem xV6 (u:Nat):zigF (zagF u)=u:=by
 unfold zigF zagF
 split<;>split<;>omega
theorem yZ6 {l:List UInt8} {u n:Nat} (h:wP l 0 0=(u,n,0)):l.take n=varF u/\n<=l.length:=by
 obtain⟨w,k,h1,h2,h3,h4,_⟩:=ya0 l 0 0 u n h
 simp at h1 h2
 subst h1;subst h2
 exact⟨h3,h4⟩
theorem yR0: ∀{b:List UInt8},(zg6 b).e=0->b.take (zg6 b).n=zb1 (zg6 b).v/\(zg6 b).n<=b.length/\0<(zg6 b).n
 | [],h=>by simp[zg6]at h
 |c::rest,h=>by
  have hc:=zE3 c
  rw[zg6]at h⊢
  revert h
  unfold zt0
  split
  .rename_i h0
   intro _
   refine⟨?_,sm,sm⟩
   rw[h0]at hc
   simp[zb1,mayF,v0,<-hc]
  .split
   .rename_i _ h1
    rw[h1]at hc
    unfold zg1
    cases rest with
    |nil=>intro h;simp at h
    |cons d rest=>
     simp only[Ag,List.getD_cons_succ,List.getD_cons_zero]
     rw[if_neg om]
     split
     .intro h;simp at h
     .intro _
      rename_i hd
      refine⟨?_,sm,sm⟩
      have hm:mayF ⟨1,(d.toNat:Int),[]⟩=true:=by
       simp only[mayF]
       have:d.toNat=0∨d.toNat=1:=om
       rcases this with q|q<;>rw[q]<;>decide
      unfold zb1
      rw[if_pos hm]
      simp[<-hc]
   .split
    .rename_i _ _ h2
     rw[h2]at hc
     obtain⟨⟨u,n,e⟩,hg⟩: ∃g,wP rest 0 0=g:=⟨_,rfl⟩
     rw[hg]
     simp only
     split
     .rename_i he
      intro h;exact absurd h he
     .rename_i he
      intro _
      have he:e=0:=Classical.not_not.1 he
      rw[he]at hg
      obtain⟨h3,h4⟩:=yZ6 hg
      refine⟨?_,by simp;omega,by simp;omega⟩
      unfold zb1
      rw[if_pos (by simp[mayF]),Ei 1 n,C8,h3]
      simp only
      simp[xV6,<-hc]
    .split
     .rename_i _ _ _ h3
      rw[h3]at hc
      obtain⟨⟨u,n,e⟩,hg⟩: ∃g,wP rest 0 0=g:=⟨_,rfl⟩
      unfold zc5 wH
      rw[hg]
      by_cases he:e=0
      rotate_left
      .intro h;simp[he]at h
      subst he
      by_cases h5:1048576<u
      .intro h;simp[h5]at h
      by_cases h6:rest.length - n<u
      .intro h;simp[h5,h6]at h
      obtain⟨h7,h8⟩:=yZ6 hg
      have aa:((rest.take (n+u)).drop n).length=u:=by
       rw[De,Bi];omega
      simp only[h5,h6,if_false,ne_eq,not_true_eq_false,aa]
      by_cases hl:64<u
      .intro h;simp[hl]at h
      rw[if_neg hl]
      intro _
      refine⟨?_,by simp;omega,by simp;omega⟩
      have hm:mayF ⟨3,0,(rest.take (n+u)).drop n⟩=true:=by
       simp only[mayF,aa]
       simp;omega
      unfold zb1
      rw[if_pos hm]
      simp only
      rw[if_neg dC,if_neg dC,if_pos True.intro,aa,<-h7]
      rw[Ei 1 (n+u),C8]
      show c::_=UInt8.ofNat 3::_
      rw[hc]
      congr 1
      conv=>lhs;rw[<-Bf n (rest.take (n+u))]
      rw[E4,Cj om]
     .intro h;simp at h
theorem yj4: ∀(n:Nat) (b:List UInt8) (l:List GValue),rowG n b=some l->l.flatMap zb1=b/\l.length=n
 |0,b,l,h=>by
  rw[rowG]at h
  split at h
  .rename_i hb
   cases h;exact⟨hb.symm,rfl⟩
  .cases h
 |n+1,b,l,h=>by
  rw[rowG]at h
  split at h
  .rename_i he
   rw[B0]at h
   obtain⟨l',h1,rfl⟩:=h
   obtain⟨h2,h3⟩:=yj4 n _ l' h1
   obtain⟨h4,_,_⟩:=yR0 he
   refine⟨?_,by simp[h3]⟩
   rw[C1,h2,<-h4,Bf]
  .cases h
theorem yY2 {nc:Nat} {data:List UInt8} (h:(R.rowC nc data).2=0):yO (R.rowC nc data).1=data:=by
 revert h
 unfold R.rowC
 split
 .rename_i h0
  intro h
  obtain⟨⟨u,n,e⟩,hg⟩: ∃g,wP data 0 0=g:=⟨_,rfl⟩
  rw[hg]at h h0⊢
  obtain⟨h1,h2⟩:=h0
  simp only at h1 h2 h⊢
  rw[h1]at hg
  subst h2
  obtain⟨h3,_⟩:=yZ6 hg
  cases hr:rowG u (data.drop n)with
  |none=>rw[hr]at h;simp[rowR]at h
  |some l=>
   obtain⟨h5,h6⟩:=yj4 _ _ _ hr
   show yO l=data
   unfold yO zG0
   rw[Dz,h6,h5,<-h3,Bf]
 .intro h;simp at h
theorem LnOk.read {x:Ln} (h:LnOk x):rowF tabsS (ofS x.r).1 (yO x.v)=(x.v,0):=by
 obtain⟨tn,T,e,hT,hm⟩:=h.tab
 obtain⟨ab,aa⟩:=A3.1 hT
 have hL:=zB2 ((by decide: ∀T∈tabsS,T.cols.length<=20) T (As hT)) h.ok hm
 rw[e]
 unfold rowF
 rw[dif_pos ⟨om,om⟩]
 simp only[Ay,aa]
 exact xF7 hm hL
def lnE (t:Int) (e:Pl×List UInt8):Ln:=⟨e.1.1,e.1.2,(rowF tabsS t e.2).1⟩
def inE (rng:Int) (lo hi:List UInt8) (e:Pl×List UInt8):Bool:=(e.1.1==rng)&&(!Op.bytesLess e.1.2 lo&&Op.bytesLess e.1.2 hi)
def inL (rng:Int) (lo hi:List UInt8) (x:Ln):Bool:=(rng==x.r)&&(!Op.bytesLess x.k lo&&Op.bytesLess x.k hi)
theorem yP0 {b:Mp (List UInt8)} (h:NowOk b l) {D:List (Pl×List UInt8)} (hD:D.Perm b.W) {t rng:Int} (hr:(ofS rng).1=t) (lo hi:List UInt8):
  ((D.filter (inE rng lo hi)).map (lnE t)).Perm (l.filter (inL rng lo hi)):=by
 have h1:=((hD.trans h.perm).filter (inE rng lo hi)).map (lnE t)
 refine h1.trans (List.Perm.of_eq ?_)
 rw[List.filter_map,Bk]
 have e1:l.filter (inE rng lo hi∘fun x=>(x.at,yO x.v))=l.filter (inL rng lo hi):=Ed fun x _=>by
  show((x.r==rng)&&_)=((rng==x.r)&&_)
  rw[Bool.beq_comm]
  rfl
 rw[e1]
 refine(B6 fun x hx=> ?_).trans (List.map_id _)
 obtain⟨ad,aa⟩:=Aw.1 hx
 unfold inL at aa
 rw[A6,beq_iff_eq]at aa
 have ab:=(h.rows x ad).read
 rw[<-aa.1,hr]at ab
 show lnE t (x.at,yO x.v)=x
 unfold lnE
 rw[ab]
 rfl
theorem yX8 (j:Nat) (hj:j<3) (st:GStmt):((xS (j:Int) st).map fun g=>(yV j g).1).Nodup:=by
 match j,hj with
 |0,_=>
  have e:xS ((0:Nat):Int) st=cutR (zs5 st) [0,1]:=rfl
  rw[e,yx8]
  exact List.Nodup.sublist ((C5).map _) (by decide:([0,1].map fun g=>(yV ((0:Nat):Int) g).1).Nodup)
 |1,_=>exact(by decide:([-1].map fun g=>(yV ((1:Nat):Int) g).1).Nodup)
 |2,_=>exact(by decide:([1].map fun g=>(yV ((2:Nat):Int) g).1).Nodup)
theorem xh8 (j:Nat) (hj:j<3) {st:GStmt} {g:Int} (hg:g∈xS (j:Int) st):(g= -1∨g=0∨g=1)/\(yV j g).2=0/\ofS (yV j g).1=((j:Int),g,0):=by
 match j,hj with
 |0,_=>
  have e:xS ((0:Nat):Int) st=cutR (zs5 st) [0,1]:=rfl
  rw[e,yx8]at hg
  have:=(Aw.1 hg).1
  simp at this
  rcases this with rfl|rfl
  .exact⟨.inr (.inl rfl),rfl,rfl⟩
  .exact⟨.inr (.inr rfl),rfl,rfl⟩
 |1,_=>
  have e:xS ((1:Nat):Int) st= [-1]:=rfl
  rw[e]at hg
  simp at hg
  subst hg
  exact⟨.inl rfl,rfl,rfl⟩
 |2,_=>
  have e:xS ((2:Nat):Int) st= [1]:=rfl
  rw[e]at hg
  simp at hg
  subst hg
  exact⟨.inr (.inr rfl),rfl,rfl⟩
theorem yC9 (j:Nat) (hj:j<3) (st:GStmt) (l:List Ln):((xS (j:Int) st).flatMap fun g=>l.filter (inL (yV j g).1 (zg4 tabsS j st).1 (zg4 tabsS j st).2)).Perm (l.filter (zi8 j st)):=
 zR3 (l:=l) (c:=fun x=> !Op.bytesLess x.k (zg4 tabsS j st).1&&Op.bytesLess x.k (zg4 tabsS j st).2) (rg:=fun g=>(yV j g).1) (yX8 j hj st)
theorem yW1 {j:Nat} {st:GStmt} {m:List Ln} (hr:Rise (l.map Ln.at)) (hp:m.Perm (l.filter (zi8 j st))) (hs:m.Pairwise fun a b=> ¬ordP b.at a.at<0):m=l.filter (zi8 j st):=by
 refine xr4 (List.Pairwise.sublist ((C5).map _) hr) hp (hs.imp fun{a b} h=> ?_)
 rw[<-yC6]
 exact decide_eq_false h
def zA2 (l:List Wr):Prop:=l.Pairwise fun a b=>xB a.p b.p=true
theorem zV9 (l:List Wr) (x:Wr):(insW l x).Perm (x::l):=by
 unfold insW
 refine E0.trans (List.Perm.cons _ (List.Perm.of_eq ?_))
 exact Ce
theorem zY5 {x:Wr}: ∀{l:List Wr},zA2 l->(∀y∈l,y.p≠x.p)-> ∀y∈l.dropWhile (fun y=>xB y.p x.p),xB x.p y.p=true
 | [],_,_,y,hy=>by simp at hy
 |z::l,hr,hn,y,hy=>by
  rw[zA2,Bw]at hr
  rw[List.dropWhile_cons]at hy
  by_cases q:xB z.p x.p=true
  .rw[if_pos q]at hy
   exact zY5 hr.2 (fun y hy=>hn y (An _ hy)) y hy
  .rw[if_neg q]at hy
   have hz:xB x.p z.p=true:=by
    rcases zB1 z.p x.p with r|r|r
    .exact absurd r q
    .exact absurd r (hn z (Au ..))
    .exact r
   rcases Ae.1 hy with rfl|hy
   .exact hz
   .exact zI2 hz (hr.1 _ hy)
theorem xm5 {l:List Wr} {x:Wr} (h:zA2 l) (hn: ∀y∈l,y.p≠x.p):zA2 (insW l x):=by
 have hd:=zY5 h hn
 have ht: ∀y∈l.takeWhile (fun y=>xB y.p x.p),xB y.p x.p=true:=zz9
 unfold zA2 at h
 rw[<-Ce (p:=fun y:Wr=>xB y.p x.p) (l:=l),Cd]at h
 unfold insW zA2
 rw[Cd,Bw]
 refine⟨h.1,⟨hd,h.2.1⟩,fun y hy z hz=> ?_⟩
 rcases Ae.1 hz with rfl|hz
 .exact ht y hy
 .exact h.2.2 y hy z hz
theorem xy8 {f:Ln->Wr} (hf: ∀x,(f x).p=x.at): ∀{m:List Ln} {l:List Wr},zA2 l->(l.map (·.p)++m.map Ln.at).Nodup->zA2 (m.foldl (fun l x=>insW l (f x)) l)/\(m.foldl (fun l x=>insW l (f x)) l).Perm (l++m.map f)
 | [],l,h,_=>⟨h,sm⟩
 |x::m,l,h,hn=>by
  have hx: ∀y∈l,y.p≠(f x).p:=fun y hy e=>by
   rw[Co]at hn
   exact hn.2.2 y.p (Ac.2 ⟨y,hy,rfl⟩) x.at sm (by rw[e,hf])
  have h2:((insW l (f x)).map (·.p)++m.map Ln.at).Nodup:=by
   have hp:((insW l (f x)).map (·.p)++m.map Ln.at).Perm (l.map (·.p)++(x::m).map Ln.at):=by
    refine(((zV9 l (f x)).map (·.p)).append_right _).trans ?_
    rw[Aj,Aj,hf]
    exact E0.symm
   exact hp.nodup_iff.2 hn
  obtain⟨h3,h4⟩:=xy8 hf (m:=m) (xm5 h hx) h2
  refine⟨h3,h4.trans ?_⟩
  refine((zV9 l (f x)).append_right _).trans ?_
  rw[Aj]
  exact E0.symm
theorem yj2 {l m:List Wr} (h:zA2 l) (g:zA2 m) (e: ∀x,x∈l↔x∈m):l=m:=by
 have nd: ∀{l:List Wr},zA2 l->l.Nodup:=fun h=>h.imp fun{a b} aa q=>by subst q;rw[zL7]at aa;cases aa
 exact((List.perm_ext_iff_of_nodup (nd h) (nd g)).2 (fun x=>e x)).eq_of_pairwise (fun a b _ _ h g=>by rw[zO6 h]at g;cases g) h g
def isW (was now:List Ln) (w:Wr):Prop:=
 (w.drop=true/\w.data= []/\(∃x∈was,x.at=w.p)/\atF now w.p=false)∨(w.drop=false/\ ∃x∈now,x.at=w.p/\yO x.v=w.data/\ ∀y∈was,y.at=x.at->yO y.v≠yO x.v)
theorem zQ5 {aa now:List Ln} (hw:Rise (aa.map Ln.at)) (hn:Rise (now.map Ln.at)):zA2 (chgF aa now)/\ ∀w,w∈chgF aa now↔isW aa now w:=by
 obtain⟨h1,h2⟩:=xy8 (f:=fun x=>⟨x.at,true,[]⟩) (fun _=>rfl) (m:=aa.filter fun x=> !atF now x.at) (l:= []) List.Pairwise.nil (by
  simp only[Bx,Cs]
  exact List.Nodup.sublist ((C5).map _) hw.nodup)
 rw[Cs]at h2
 obtain⟨h3,h4⟩:=xy8 (f:=fun x=>⟨x.at,false,yO x.v⟩) (fun _=>rfl) (m:=now.filter fun x=> !(aa.any fun y=>decide (y.at=x.at)&&decide (yO y.v=yO x.v))) h1 (by
  have hp:=(h2.map (·.p)).append_right ((now.filter fun x=> !(aa.any fun y=>decide (y.at=x.at)&&decide (yO y.v=yO x.v))).map Ln.at)
  refine hp.nodup_iff.2 ?_
  rw[Bk,Co]
  refine⟨List.Nodup.sublist ((C5).map _) hw.nodup,List.Nodup.sublist ((C5).map _) hn.nodup,fun a ha b hb e=> ?_⟩
  obtain⟨x,hx,rfl⟩:=Ac.1 ha
  obtain⟨y,hy,rfl⟩:=Ac.1 hb
  have ab:=(Aw.1 hx).2
  have:atF now x.at=true:=atF_iff.2 (Ac.2 ⟨y,(Aw.1 hy).1,e.symm⟩)
  rw[this]at ab;cases ab)
 refine⟨h3,fun w=> ?_⟩
 have h5:=(h4.trans (h2.append_right _)).mem_iff (a:=w)
 rw[Av,Ac,Ac]at h5
 refine h5.trans (or_congr ⟨?_, ?_⟩ ⟨?_, ?_⟩)
 .rintro⟨x,hx,rfl⟩
  obtain⟨ad,ab⟩:=Aw.1 hx
  exact⟨rfl,rfl,⟨x,ad,rfl⟩,by simpa using ab⟩
 .rintro⟨e1,e2,⟨x,hx,e3⟩,e4⟩
  refine⟨x,Aw.2 ⟨hx,by rw[e3,e4];rfl⟩, ?_⟩
  obtain⟨p,d,b⟩:=w
  simp only at e1 e2 e3
  rw[e1,e2,e3]
 .rintro⟨x,hx,rfl⟩
  obtain⟨ad,ab⟩:=Aw.1 hx
  refine⟨rfl,x,ad,rfl,rfl,fun y hy e1 e2=> ?_⟩
  have:(aa.any fun y=>decide (y.at=x.at)&&decide (yO y.v=yO x.v))=true:=Cn.2 ⟨y,hy,by simp[e1,e2]⟩
  rw[this]at ab;cases ab
 .rintro⟨e1,x,hx,e2,e3,e4⟩
  refine⟨x,Aw.2 ⟨hx, ?_⟩, ?_⟩
  .cases q:aa.any fun y=>decide (y.at=x.at)&&decide (yO y.v=yO x.v)with
   |false=>rfl
   |true=>
    obtain⟨y,hy,h⟩:=Cn.1 q
    simp only[A6,decide_eq_true_eq]at h
    exact absurd h.2 (e4 y hy h.1)
  .obtain⟨p,d,b⟩:=w
   simp only at e1 e2 e3
   rw[e1,e2,e3]
def grpS (out:List (Int×List Wr)) (w:Wr):List (Int×List Wr):=
 match out.getLast? with
 |some q=>if q.1=w.p.1 then out.dropLast++ [(q.1,q.2++ [w])]else out++ [(w.p.1,[w])]
 |none=> [(w.p.1,[w])]
def grpF (l:List Wr):List (Int×List Wr):=l.foldl grpS []
theorem wb9 {g:Int} (he:(ofS g).2.2=0): ∃(tn:Nat) (T:GTable),(ofS g).1=(tn:Int)/\tabsS[tn]? =some T:=by
 unfold ofS at he⊢
 split at he<;>rename_i q0
 .rw[if_pos q0];exact⟨0,_,rfl,rfl⟩
 .rw[if_neg q0]
  split at he<;>rename_i q1
  .rw[if_pos q1];exact⟨0,_,rfl,rfl⟩
  .rw[if_neg q1]
   split at he<;>rename_i q2
   .rw[if_pos q2];exact⟨1,_,rfl,rfl⟩
   .rw[if_neg q2]
    split at he<;>rename_i q3
    .rw[if_pos q3];exact⟨2,_,rfl,rfl⟩
    .exact absurd he dC
def LnK (x:Ln):Prop:=zq7 x.r x.k (yO x.v)=true
theorem yP4 {p:Pl} {data:List UInt8} (h:zq7 p.1 p.2 data=true):LnOk ⟨p.1,p.2,(rowF tabsS (ofS p.1).1 data).1⟩/\yO (rowF tabsS (ofS p.1).1 data).1=data:=by
 unfold zq7 at h
 simp only[A6,decide_eq_true_eq]at h
 obtain⟨h1,h2,h3⟩:=h
 obtain⟨tn,T,aa,hT⟩:=wb9 h1
 have ab:tabsS.getD tn noT=T:=by rw[A7,hT];rfl
 have hok:=xi2 tn data
 rw[aa]at h2 h3⊢
 rw[Ay,ab]at h3
 have hk:=yc0 tn T hT (rowF tabsS tn data).1 (by rw[h3])
 rw[h3]at hk
 refine⟨⟨⟨tn,T,aa,hT,hk.1⟩,h1,hok.2⟩, ?_⟩
 obtain⟨hl,ad⟩:=A3.1 hT
 unfold rowF at h2⊢
 rw[dif_pos ⟨om,om⟩]at h2⊢
 exact yY2 h2
theorem yg5 {α:Type} {p q:Pl} {v:α} (h:q≠p): ∀{W:List (Pl×α)},idxW p (W++ [(q,v)])=idxW p W
 | []=>by simp[idxW,h]
 |e::W=>by
  rw[Bz,idxW,idxW,yg5 h]
theorem yK3 {α:Type} {p q:Pl} {v:α}: ∀{W:List (Pl×α)} {i:Nat} {u:α},idxW p W=some (i,u)->(idxW q (W.set i (p,v))).map (·.2)=if q=p then some v else(idxW q W).map (·.2)
 | [],i,u,h=>by simp[idxW]at h
 |e::W,i,u,h=>by
  rw[idxW]at h
  by_cases c:e.1=p
  .rw[if_pos c]at h
   simp only[Option.some.injEq,Prod.mk.injEq]at h
   obtain⟨rfl,rfl⟩:=h
   rw[Dc,idxW,idxW]
   by_cases d:q=p
   .subst d;simp
   .rw[if_neg (fun x=>d x.symm),if_neg (fun x:e.1=q=>d (x.symm.trans c)),if_neg d]
  .rw[if_neg c,B0]at h
   obtain⟨⟨j,w⟩,h1,h2⟩:=h
   simp only[Prod.mk.injEq]at h2
   obtain⟨rfl,rfl⟩:=h2
   rw[Cg,idxW,idxW]
   by_cases d:e.1=q
   .rw[if_pos d,if_pos d,if_neg (fun x=>c (d.trans x))]
   .rw[if_neg d,if_neg d,Option.map_map,Option.map_map]
    exact yK3 h1
theorem yA2 (m:Mp α) (p q:Pl) (v:α):(m.put p v).get q=if q=p then some v else m.get q:=by
 unfold Mp.get Mp.put Mp.at
 cases h:idxW p m.W with
 |none=>
  simp only
  by_cases d:q=p
  .subst d
   rw[zy0 h,if_pos rfl];rfl
  .rw[yg5 (fun x=>d x.symm),if_neg d]
 |some w=>exact yK3 (i:=w.1) (u:=w.2) h
theorem get_isNone {m:Mp α} {p:Pl}:m.get p=none↔m.at p=none:=by
 unfold Mp.get
 rw[Option.map_eq_none_iff]
def zv3 (s:List (Pl×List UInt8)×List Ln) (q:Pl×List UInt8):List (Pl×List UInt8)×List Ln:=
 if(s.1.any fun e=>e.1==q.1)=true then s else(s.1++ [q],if zq7 q.1.1 q.1.2 q.2=true then zC5 s.2 ⟨q.1.1,q.1.2,(rowF tabsS (ofS q.1.1).1 q.2).1⟩else s.2)
structure TkI (n:Nat) (s:List (Pl×List UInt8)×List Ln) (m:M3):Prop where
 same:m.1=m.2.1
 now:NowOk m.2.1 s.2
 sn:m.2.2.ok
 seen: ∀p,m.2.2.get p=none↔(s.1.any fun e=>e.1==p)=false
 cnt: ∀p v,m.2.2.get p=some v->1<=v/\v<=n
 lines: ∀x∈s.2,LnK x/\(x.at,yO x.v)∈s.1
 rows: ∀q∈s.1,zq7 q.1.1 q.1.2 q.2=true-> ∃x∈s.2,x.at=q.1/\yO x.v=q.2
 len:s.2.length<=n
theorem TkI.step {n:Nat} {s:List (Pl×List UInt8)×List Ln} {m:M3} (h:TkI n s m) (q:Pl×List UInt8):TkI (n+1) (zv3 s q) (ya1 q.1 q.2 m):=by
 obtain⟨p,data⟩:=q
 obtain⟨a,b,c⟩:=m
 obtain⟨se,out⟩:=s
 obtain⟨h1,h2,h3,h4,h6,h5,h7,h8⟩:=h
 simp only at h1 h2 h3 h4 h5 h6 h7 h8
 subst h1
 have aa: ∀w:Int,1<=w->w<=(n:Int)+1-> ∀q v,(c.put p w).get q=some v->1<=v/\v<=((n+1:Nat):Int):=fun w ah ai q v hv=>by
  rw[yA2]at hv
  split at hv
  .cases hv;omega
  .have:=h6 q v hv;omega
 unfold zv3 ya1
 simp only
 cases hs:se.any fun e=>e.1==p with
 |true=>
  have hc:c.get p≠none:=fun e=>by rw[(h4 p).1 e]at hs;cases hs
  obtain⟨v,hv⟩:=Option.ne_none_iff_exists'.1 hc
  have ad:cntP c p=v:=by unfold cntP;rw[hv];rfl
  have aj:=h6 p v hv
  rw[if_pos rfl,if_neg (fun e=>by rw[ad]at e;omega),ad]
  refine⟨rfl,h2,Mp.put_ok h3 _ _,fun q=> ?_,aa _ om om,h5,h7,by show out.length<=_;omega⟩
  rw[yA2]
  split
  .rename_i e;subst e;simp[hs]
  .exact h4 q
 |false=>
  have hg:=(h4 p).2 hs
  have ad:cntP c p=0:=by unfold cntP;rw[hg];rfl
  have ab: ∀q,(c.put p (0+1)).get q=none↔((se++ [(p,data)]).any fun e=>e.1==q)=false:=fun q=>by
   rw[yA2,List.any_append]
   split
   .rename_i e;subst e;simp
   .rename_i e
    have e':((p,data).1==q)=false:=beq_eq_false_iff_ne.2 fun x=>e x.symm
    rw[h4 q];simp[e']
  rw[if_neg sm,ad]
  by_cases hr:zq7 p.1 p.2 data=true
  .rw[if_pos hr,if_pos ⟨rfl,hr⟩]
   obtain⟨hl,hd⟩:=yP4 hr
   have ha:atF out p=false:=by
    cases e:atF out p with
    |false=>rfl
    |true=>
     obtain⟨x,hx,af⟩:=Ac.1 (atF_iff.1 e)
     have:(se.any fun e=>e.1==p)=true:=Cn.2 ⟨_,(h5 x hx).2,by simp[af]⟩
     rw[this]at hs;cases hs
   have hn:=h2.ins hl ha
   rw[show(Ln.mk p.1 p.2 (rowF tabsS (ofS p.1).1 data).1).at=p from rfl,hd]at hn
   refine⟨rfl,hn,Mp.put_ok h3 _ _,ab,aa _ om om,fun x hx=> ?_,fun q hq ae=> ?_, ?_⟩
   .rcases Ae.1 ((zd7 _ _).mem_iff.1 hx)with rfl|hx
    .refine⟨?_,Ea _ (Bl.2 ?_)⟩
     .show zq7 p.1 p.2 (yO _)=true
      rw[hd];exact hr
     .show(p,yO _)=(p,data)
      rw[hd]
    .exact⟨(h5 x hx).1,D3 _ (h5 x hx).2⟩
   .rcases Av.1 hq with hq|hq
    .obtain⟨x,hx,ag⟩:=h7 q hq ae
     exact⟨x,(zd7 _ _).mem_iff.2 (An _ hx),ag⟩
    .rw[Bl]at hq
     subst hq
     exact⟨_,(zd7 _ _).mem_iff.2 (Au ..),rfl,hd⟩
   .rw[(zd7 _ _).length_eq]
    show out.length+1<=n+1
    omega
  .rw[if_neg hr,if_neg (fun e=>hr e.2)]
   refine⟨rfl,h2,Mp.put_ok h3 _ _,ab,aa _ om om,fun x hx=>⟨(h5 x hx).1,D3 _ (h5 x hx).2⟩,fun q hq ae=> ?_,by show out.length<=_;omega⟩
   rcases Av.1 hq with hq|hq
   .exact h7 q hq ae
   .rw[Bl]at hq
    subst hq
    exact absurd ae hr
theorem xX7:TkI 0 ([],[]) (mp0 _,mp0 _,mp0 _):=by
 refine⟨rfl,⟨xC1 _,List.Pairwise.nil,List.Perm.nil,fun x hx=>(by cases hx)⟩,xC1 _,fun p=> ?_,fun p v h=> ?_,fun x hx=>(by cases hx),fun x hx=>(by cases hx),A5 _⟩
 .exact⟨fun _=>rfl,fun _=>rfl⟩
 .cases h
end Go.Proofs.YtefbicjgbaaieaaGreat
