/-
  What the document lays of one range is that range's part of what is otherwise now. Used by the walk of the document's Run.
  Conditions: as each theorem states them.
-/
import Derived.Test.YtefbicjgbaaieaaGreatJAN
import Derived.Test.YtefbicjgbaaieaaGreatJAG
set_option maxHeartbeats 8000000
namespace Go.Proofs.YtefbicjgbaaieaaGreat
open Go Go.Vx R Go.Proofs.Tryz
set_option maxRecDepth 100000
variable {α:Type}{W:List (Pl×α)}{bs:List Nat}{seen:List Nat}{l:List Ln}{p:(Pl×α)×Nat}
def ordP (p q:Pl):Int:=orL [cmpI p.1 q.1,cmpS p.2 q.2]
theorem yB3 (p q:Pl):decide (ordP p q<0)=xW p q:=by
 obtain⟨a,s⟩:=p
 obtain⟨b,t⟩:=q
 simp only[ordP,orL,cmpI,cmpS,xW]
 by_cases h1:a<b
 .simp[h1]
 .by_cases h2:a>b
  .have h3: ¬a=b:=om
   simp[h1,h2,h3]
  .have h3:a=b:=om
   subst h3
   by_cases h4:Op.bytesLess s t=true
   .simp[h4]
   .have aa:Op.bytesLess s t=false:=sU h4
    by_cases h5:Op.bytesLess t s=true
    .simp[aa,h5]
    .simp[aa,h5]
theorem yM6:Go.Sort.SWO fun a b=>decide (ordP a b<0):=by
 have e:(fun a b=>decide (ordP a b<0))=xW:=funext fun a=>funext fun b=>yB3 a b
 rw[e]
 refine⟨zB5,fun x y z h g=>zI6 h g,fun x y z h g=> ?_⟩
 cases q:xW x z with
 |false=>rfl
 |true=>
  rcases zB6 x y with r|r|r
  .rw[r]at h;cases h
  .subst r;rw[q]at g;cases g
  .have:=zI6 r q;rw[this]at g;cases g
theorem xP5 {X:Type} {kx:X->Pl} {l:List X} (h:l.Pairwise fun a b=> ¬ordP (kx b) (kx a)<0) (hn:(l.map kx).Nodup):Rise (l.map kx):=by
 unfold Rise
 rw[C0]
 rw[List.Nodup,C0]at hn
 refine(h.and hn).imp fun{a b} ⟨h1,h2⟩=> ?_
 rcases zB6 (kx a) (kx b)with r|r|r
 .exact r
 .exact absurd r h2
 .rw[<-yB3]at r
  exact absurd (of_decide_eq_true r) h1
theorem xf7 (p q:Pl):Pure prog 94 [plV p,plV q] (.int .i64 (ordP p q)):=by
 have h:=or_w [cmpI p.1 q.1,cmpS p.2 q.2] (by simp[maxLen])
 have h1:=yG6 p.1 q.1
 have h2:=yG8 p.2 q.2
 unfold ordP
 generalize orL [cmpI p.1 q.1,cmpS p.2 q.2]=M at*
 refine iW 0 func94 ntmps94 results94 fun c hc hb=>zK ?_
 simp[go_sem,plV]
 refine xA [(4,0),(9,0),(11,0)] 2 rfl kR kR ?_
 simp[go_sem]
 refine pD h1 ?_
 simp[go_sem]
 refine pD h2 ?_
 simp[go_sem]
 refine pD h ?_
 simp[go_sem]
 exact wR
theorem xC8 (p q:Pl):Pure prog 152 [.agg (.int .i64 p.1:: .str p.2::List.replicate (3 - 2) .u),.agg (.int .i64 q.1:: .str q.2::List.replicate (3 - 2) .u)] (.int .i64 (ordP p q)):=by
 have h:=xf7 p q
 rw[plV,plV]at h
 show Pure prog 152 [.agg [.int .i64 p.1,.str p.2,.u],.agg [.int .i64 q.1,.str q.2,.u]] (.int .i64 (ordP p q))
 refine iW 0 func152 ntmps152 results152 fun c hc hb=>zK ?_
 simp[go_sem]
 refine pC h ?_
 simp[go_sem]
 exact wR
def zf6 (seen:List Nat) (W:List (Pl×α)) (bs:List Nat):List ((Pl×α)×Nat):=(W.zip bs).filter fun p=> !seen.contains p.2
theorem xd1 {α:Type} {g:α->V} {seen:List Nat}: ∀{W:List (Pl×α)} {bs:List Nat},zI5 seen (kvE g W) bs=(zf6 seen W bs).map fun p=>(plV p.1.1,g p.1.2,p.2)
 | [],bs=>by cases bs<;>rfl
 |e::W,[]=>rfl
 |e::W,b::bs=>by
  rw[kvE,zI5,xd1]
  unfold zf6
  rw[D7,C4]
  cases h:seen.contains b
  .simp only[Cp,if_false,Bool.not_false,if_true,Ai]
  .simp only[if_true,Bool.not_true,Cp,if_false]
theorem yy4 {α:Type} {g:α->V}: ∀{W:List (Pl×α)} {bs:List Nat} {p:(Pl×α)×Nat},bs.Nodup->p∈W.zip bs->yr7 p.2 (kvE g W) bs=some (plV p.1.1,g p.1.2)
 | [],_,_,_,h=>by simp at h
 |e::W,[],_,_,h=>by simp at h
 |e::W,b::bs,p,hn,h=>by
  rw[Bw]at hn
  rw[kvE,yr7]
  rw[D7]at h
  rcases Af.1 h with rfl|h
  .rw[if_pos rfl]
  .have:b≠p.2:=fun q=>hn.1 (q▸(List.of_mem_zip h).2)
   rw[if_neg this]
   exact yy4 hn.2 h
theorem xj2 {α:Type}: ∀{W:List α} {bs:List Nat},bs.Nodup->((W.zip bs).map (·.2)).Nodup
 | [],_,_=>by simp
 |e::W,[],_=>by simp
 |e::W,b::bs,h=>by
  rw[Bw]at h
  rw[D7,Ai,Bw]
  refine⟨fun q=> ?_,xj2 h.2⟩
  obtain⟨p,hp,rfl⟩:=Ad.1 q
  exact h.1 (List.of_mem_zip hp).2
theorem yP7 {α:Type} {p:α×Nat}: ∀{L:List (α×Nat)},(L.map (·.2)).Nodup->p∈L->L.Perm (p::L.filter fun q=> !decide (q.2=p.2))
 | [],_,h=>by cases h
 |x::L,hn,h=>by
  rw[Ai,Bw]at hn
  rcases Af.1 h with rfl|h
  .have:(p::L).filter (fun q=> !decide (q.2=p.2))=L:=by
    rw[C4,if_neg sM]
    exact D1.2 fun q hq=>by
     have:q.2≠p.2:=fun e=>hn.1 (Ad.2 ⟨q,hq,e⟩)
     simp[this]
   rw[this]
  .have:x.2≠p.2:=fun e=>hn.1 (Ad.2 ⟨p,h,e.symm⟩)
   rw[C4,if_pos (by simp[this])]
   exact((yP7 hn.2 h).cons x).trans (List.Perm.swap ..)
theorem zE6 (hn:bs.Nodup) (hp:p∈zf6 seen W bs):(zf6 seen W bs).Perm (p::zf6 (seen++ [p.2]) W bs):=by
 have h1:((zf6 seen W bs).map (·.2)).Nodup:=List.Nodup.sublist ((Bp).map _) (xj2 hn)
 refine(yP7 h1 hp).trans (List.Perm.of_eq ?_)
 congr 1
 unfold zf6
 rw[Ct]
 refine Cy fun q _=> ?_
 by_cases e:q.2=p.2
 .simp[e]
 .simp[e]
theorem zL4 (hp:p∈zf6 seen W bs):p∈W.zip bs:=(Bb.1 hp).1
theorem xN4 (h:bs.length=W.length):(zf6 [] W bs).map (·.1)=W:=by
 unfold zf6
 rw[D1.2 fun q _=>sM,List.map_fst_zip om]
def MetD (seen:List Nat) (W:List (Pl×α)) (bs:List Nat) (D:List (Pl×α)):Prop:=(D++(zf6 seen W bs).map (·.1)).Perm W
theorem MetD.start (h:bs.length=W.length):MetD [] W bs []:=by
 unfold MetD
 rw[xN4 h];exact List.Perm.refl _
theorem MetD.next {D:List (Pl×α)} (hn:bs.Nodup) (h:MetD seen W bs D) (hp:p∈zf6 seen W bs):MetD (seen++ [p.2]) W bs (D++ [p.1]):=by
 unfold MetD at h⊢
 refine List.Perm.trans ?_ h
 rw[Cw]
 have h1:=(zE6 hn hp).map fun x:(Pl×α)×Nat=>x.1
 rw[Ai]at h1
 exact List.Perm.append_left _ h1.symm
theorem MetD.done {D:List (Pl×α)} (h:MetD seen W bs D) (h0:zf6 seen W bs= []):D.Perm W:=by
 unfold MetD at h
 rw[h0]at h
 simpa using h
theorem zI1 {α:Type} {p q:α->Bool}: ∀{l:List α},(∀x∈l,p x=true->q x=false)->(l.filter p++l.filter q).Perm (l.filter fun x=>p x||q x)
 | [],_=>List.Perm.refl _
 |x::l,h=>by
  have ih:=zI1 (l:=l) fun y hy=>h y (Am _ hy)
  have hx:=h x (Al ..)
  simp only[C4]
  cases hp:p x with
  |true=>
   simp only[hx hp,Dd,if_true,Cp,if_false,Ax]
   exact ih.cons x
  |false=>
   cases hq:q x with
   |true=>
    simp only[Bx,if_true,Cp,if_false]
    exact Di.trans (ih.cons x)
   |false=>
    simp only[Bx,Cp,if_false]
    exact ih
theorem zR3 {l:List Ln} {c:Ln->Bool} {rg:Int->Int}: ∀{G:List Int},(G.map rg).Nodup->(G.flatMap fun g=>l.filter fun x=>(rg g==x.r)&&c x).Perm (l.filter fun x=>(G.any fun g=>rg g==x.r)&&c x)
 | [],_=>by simp
 |g::G,hn=>by
  rw[Ai,Bw]at hn
  rw[C8]
  refine(List.Perm.append_left _ (zR3 (l:=l) (c:=c) hn.2)).trans ((zI1 fun x _ hp=> ?_).trans (List.Perm.of_eq (Cy fun x _=> ?_)))
  .simp only[A1,beq_iff_eq]at hp
   have:(G.any fun g=>rg g==x.r)=false:=by
    cases q:G.any fun g=>rg g==x.r with
    |false=>rfl
    |true=>
     obtain⟨g',h1,h2⟩:=E6.1 q
     exact absurd (Ad.2 ⟨g',h1,(beq_iff_eq.1 h2).trans hp.1.symm⟩) hn.1
   rw[this,Ds]
  .rw[Dy,Bool.and_or_distrib_right]
theorem xq3 {m:List Ln} (hr:Rise (l.map Ln.at)) (hp:m.Perm l) (hs:m.Pairwise fun a b=>xW b.at a.at=false):m=l:=by
 have aa:(m.map Ln.at).Nodup:=(hp.map Ln.at).nodup_iff.2 hr.nodup
 have h1:l.Pairwise fun a b=>xW a.at b.at=true:=C0.1 hr
 have h2:m.Pairwise fun a b=>xW a.at b.at=true:=by
  refine(hs.and (C0.1 aa)).imp fun{a b} h=> ?_
  rcases zB6 a.at b.at with q|q|q
  .exact q
  .exact absurd q h.2
  .rw[h.1]at q;cases q
 exact hp.eq_of_pairwise (fun a b _ _ h g=>by rw[zO7 h]at g;cases g) h2 h1
theorem zE8 (c:UInt8):UInt8.ofNat c.toNat=c:=sM
theorem ya3: ∀(l:List UInt8) (i v u n:Nat),wX l i v=(u,n,0)-> ∃w k,u=v+w*128^i/\n=i+k/\l.take k=varF w/\k<=l.length/\(0<i->0<w)
 | [],i,v,u,n,h=>by grind[wX]
 |c::rest,i,v,u,n,h=>by
  rw[wX]at h
  split at h
  .grind
  .split at h
   .rename_i h2
    split at h
    .grind
    .rename_i h3
     simp only[Prod.mk.injEq]at h
     obtain⟨h4,h5,_⟩:=h
     refine⟨c.toNat,1, ?_,h5.symm, ?_,sM,fun hi=> ?_⟩
     .grind
     .rw[zT6 h2,zE8];rfl
     omega
   .rename_i h2
    obtain⟨w,k,h4,h5,h6,h7,h8⟩:=ya3 rest (i+1) _ u n h
    have hw:=om
    have hc:=c.toNat_lt
    have e1:(c.toNat%128+128*w)%128=c.toNat%128:=om
    have e2:(c.toNat%128+128*w)/128=w:=om
    refine⟨c.toNat%128+128*w,k+1, ?_,om, ?_,by grind,om⟩
    .grind
    .rw[yd7 om,e1,e2,Cm,h6]
     grind[zE8]
theorem xS9 (u:Nat):zigF (zagF u)=u:=by
 grind[zigF,zagF]
theorem yY2 {l:List UInt8} {u n:Nat} (h:wX l 0 0=(u,n,0)):l.take n=varF u/\n<=l.length:=by
 grind[ya3]
theorem yP5: ∀{b:List UInt8},(zj7 b).e=0->b.take (zj7 b).n=zb5 (zj7 b).v/\(zj7 b).n<=b.length/\0<(zj7 b).n
 | [],h=>by trivial
 |c::rest,h=>by
  have hc:=zE8 c
  rw[zj7]at h⊢
  revert h
  unfold zx3
  split
  .grind[zb5,mayF,v0]
  .split
   .rename_i _ h1
    rw[h1]at hc
    unfold zh2
    cases rest with
    |nil=>simp
    |cons d rest=>
     simp only[Aa,List.getD_cons_succ,Dw]
     rw[if_neg om]
     split
     .simp
     .intro _
      rename_i hd
      refine⟨?_,sM,sM⟩
      have hm:mayF ⟨1,(d.toNat:Int),[]⟩=true:=by
       grind[mayF]
      simp_all[zb5]
   .split
    .rename_i _ _ h2
     rw[h2]at hc
     obtain⟨⟨u,n,e⟩,hg⟩: ∃g,wX rest 0 0=g:=⟨_,rfl⟩
     rw[hg]
     simp only
     split
     all_goals simp_all[yY2,zb5,mayF,Dt,xS9]
    .split
     .rename_i _ _ _ h3
      rw[h3]at hc
      obtain⟨⟨u,n,e⟩,hg⟩: ∃g,wX rest 0 0=g:=⟨_,rfl⟩
      unfold zc9 wP
      rw[hg]
      by_cases he:e=0
      rotate_left
      .grind
      subst he
      by_cases h5:1048576<u
      .grind
      by_cases h6:rest.length - n<u
      .grind
      obtain⟨h7,h8⟩:=yY2 hg
      have aa:((rest.take (n+u)).drop n).length=u:=by
       grind
      simp only[h5,h6,if_false,ne_eq,not_true_eq_false,aa]
      by_cases hl:64<u
      .grind
      rw[if_neg hl]
      intro _
      refine⟨?_,by grind,by grind⟩
      have hm:mayF ⟨3,0,(rest.take (n+u)).drop n⟩=true:=by
       grind[mayF]
      unfold zb5
      rw[if_pos hm]
      simp only
      rw[if_neg dc,if_neg dc,if_pos True.intro,aa,<-h7]
      rw[Dt 1 (n+u),Cm]
      show c::_=UInt8.ofNat 3::_
      rw[hc]
      congr 1
      grind[Bo]
     simp
theorem yl9: ∀(n:Nat) (b:List UInt8) (l:List GValue),rowG n b=some l->l.flatMap zb5=b/\l.length=n
 |0,b,l,h=>by
  rw[rowG]at h
  grind
 |n+1,b,l,h=>by
  rw[rowG]at h
  split at h
  .rename_i he
   rw[Ao]at h
   obtain⟨l',h1,rfl⟩:=h
   obtain⟨h2,h3⟩:=yl9 n _ l' h1
   obtain⟨h4,_,_⟩:=yP5 he
   refine⟨?_,by simp[h3]⟩
   rw[C8,h2,<-h4,Bo]
  grind
theorem yX1 {nc:Nat} {data:List UInt8} (h:(R.rowC nc data).2=0):yH (R.rowC nc data).1=data:=by
 revert h
 unfold R.rowC
 split
 .rename_i h0
  intro h
  obtain⟨⟨u,n,e⟩,hg⟩: ∃g,wX data 0 0=g:=⟨_,rfl⟩
  rw[hg]at h h0⊢
  obtain⟨h1,h2⟩:=h0
  simp only at h1 h2 h⊢
  rw[h1]at hg
  subst h2
  obtain⟨h3,_⟩:=yY2 hg
  cases hr:rowG u (data.drop n)with
  |none=>grind[rowR]
  |some l=>
   obtain⟨h5,h6⟩:=yl9 _ _ _ hr
   show yH l=data
   unfold yH zG5
   grind[Bo]
 omega
theorem LnOk.read {x:Ln} (h:LnOk x):rowF tabsS (ofS x.r).1 (yH x.v)=(x.v,0):=by
 obtain⟨tn,T,e,hT,hm⟩:=h.tab
 obtain⟨aa,ab⟩:=A6.1 hT
 have hL:=zB7 ((by decide: ∀T∈tabsS,T.cols.length<=20) T (by grind)) h.ok hm
 simp_all[rowF,xE2]
def lnE (t:Int) (e:Pl×List UInt8):Ln:=⟨e.1.1,e.1.2,(rowF tabsS t e.2).1⟩
def inE (rng:Int) (lo hi:List UInt8) (e:Pl×List UInt8):Bool:=(e.1.1==rng)&&(!Op.bytesLess e.1.2 lo&&Op.bytesLess e.1.2 hi)
def inL (rng:Int) (lo hi:List UInt8) (x:Ln):Bool:=(rng==x.r)&&(!Op.bytesLess x.k lo&&Op.bytesLess x.k hi)
theorem yN1 {b:Mp (List UInt8)} (h:NowOk b l) {D:List (Pl×List UInt8)} (hD:D.Perm b.W) {t rng:Int} (hr:(ofS rng).1=t) (lo hi:List UInt8):
  ((D.filter (inE rng lo hi)).map (lnE t)).Perm (l.filter (inL rng lo hi)):=by
 have h1:=((hD.trans h.perm).filter (inE rng lo hi)).map (lnE t)
 refine h1.trans (List.Perm.of_eq ?_)
 rw[List.filter_map,Bh]
 have e1:l.filter (inE rng lo hi∘fun x=>(x.at,yH x.v))=l.filter (inL rng lo hi):=Cy fun x _=>by
  show((x.r==rng)&&_)=((rng==x.r)&&_)
  rw[Bool.beq_comm]
  rfl
 rw[e1]
 refine(Bk fun x hx=> ?_).trans (List.map_id _)
 obtain⟨ad,aa⟩:=Bb.1 hx
 unfold inL at aa
 rw[A1,beq_iff_eq]at aa
 have ab:=(h.rows x ad).read
 rw[<-aa.1,hr]at ab
 show lnE t (x.at,yH x.v)=x
 unfold lnE
 rw[ab]
 rfl
theorem yW7 (j:Nat) (hj:j<3) (st:GStmt):((za7 (j:Int) st).map fun g=>(wN j g).1).Nodup:=by
 match j,hj with
 |0,_=>
  have e:za7 ((0:Nat):Int) st=cutR (zs9 st) [0,1]:=rfl
  rw[e,yy1]
  exact List.Nodup.sublist ((Bp).map _) (by decide:([0,1].map fun g=>(wN ((0:Nat):Int) g).1).Nodup)
 |1,_=>exact(by decide:([-1].map fun g=>(wN ((1:Nat):Int) g).1).Nodup)
 |2,_=>exact(by decide:([1].map fun g=>(wN ((2:Nat):Int) g).1).Nodup)
theorem xg3 (j:Nat) (hj:j<3) {st:GStmt} {g:Int} (hg:g∈za7 (j:Int) st):(g= -1∨g=0∨g=1)/\(wN j g).2=0/\ofS (wN j g).1=((j:Int),g,0):=by
 match j,hj with
 |0,_=>
  have e:za7 ((0:Nat):Int) st=cutR (zs9 st) [0,1]:=rfl
  rw[e,yy1]at hg
  have:=(Bb.1 hg).1
  simp at this
  rcases this with rfl|rfl
  all_goals decide
 |1,_=>
  have e:za7 ((1:Nat):Int) st= [-1]:=rfl
  rw[e]at hg
  simp at hg
  subst hg
  decide
 |2,_=>
  have e:za7 ((2:Nat):Int) st= [1]:=rfl
  rw[e]at hg
  simp at hg
  subst hg
  decide
theorem yB7 (j:Nat) (hj:j<3) (st:GStmt) (l:List Ln):((za7 (j:Int) st).flatMap fun g=>l.filter (inL (wN j g).1 (zi8 tabsS j st).1 (zi8 tabsS j st).2)).Perm (l.filter (zm5 j st)):=
 zR3 (l:=l) (c:=fun x=> !Op.bytesLess x.k (zi8 tabsS j st).1&&Op.bytesLess x.k (zi8 tabsS j st).2) (rg:=fun g=>(wN j g).1) (yW7 j hj st)
theorem yV2 {j:Nat} {st:GStmt} {m:List Ln} (hr:Rise (l.map Ln.at)) (hp:m.Perm (l.filter (zm5 j st))) (hs:m.Pairwise fun a b=> ¬ordP b.at a.at<0):m=l.filter (zm5 j st):=by
 refine xq3 (List.Pairwise.sublist ((Bp).map _) hr) hp (hs.imp fun{a b} h=> ?_)
 rw[<-yB3]
 grind
def zv0 (l:List Wr):Prop:=l.Pairwise fun a b=>xW a.p b.p=true
theorem zW0 (l:List Wr) (x:Wr):(insW l x).Perm (x::l):=by
 unfold insW
 refine Di.trans (List.Perm.cons _ (List.Perm.of_eq ?_))
 simp
theorem zY9 {x:Wr}: ∀{l:List Wr},zv0 l->(∀y∈l,y.p≠x.p)-> ∀y∈l.dropWhile (fun y=>xW y.p x.p),xW x.p y.p=true
 | [],_,_,y,hy=>by simp_all
 |z::l,hr,hn,y,hy=>by
  rw[zv0,Bv]at hr
  rw[List.dropWhile_cons]at hy
  by_cases q:xW z.p x.p=true
  .rw[if_pos q]at hy
   exact zY9 hr.2 (by grind) y hy
  .rw[if_neg q]at hy
   have hz:xW x.p z.p=true:=by
    grind[zB6]
   rcases Af.1 hy with rfl|hy
   all_goals grind[zI6]
theorem xl1 {l:List Wr} {x:Wr} (h:zv0 l) (hn: ∀y∈l,y.p≠x.p):zv0 (insW l x):=by
 have hd:=zY9 h hn
 have ht: ∀y∈l.takeWhile (fun y=>xW y.p x.p),xW y.p x.p=true:=zA5
 unfold zv0 at h
 rw[<-Ch (p:=fun y:Wr=>xW y.p x.p) (l:=l),Cv]at h
 unfold insW zv0
 rw[Cv,Bv]
 grind
theorem xx5 {f:Ln->Wr} (hf: ∀x,(f x).p=x.at): ∀{m:List Ln} {l:List Wr},zv0 l->(l.map (·.p)++m.map Ln.at).Nodup->zv0 (m.foldl (fun l x=>insW l (f x)) l)/\(m.foldl (fun l x=>insW l (f x)) l).Perm (l++m.map f)
 | [],l,h,_=>(by simp_all)
 |x::m,l,h,hn=>by
  have hx: ∀y∈l,y.p≠(f x).p:=(by grind)
  have h2:((insW l (f x)).map (·.p)++m.map Ln.at).Nodup:=by
   have hp:((insW l (f x)).map (·.p)++m.map Ln.at).Perm (l.map (·.p)++(x::m).map Ln.at):=by
    refine(((zW0 l (f x)).map (·.p)).append_right _).trans ?_
    rw[Ai,Ai,hf]
    exact Di.symm
   exact hp.nodup_iff.2 hn
  obtain⟨h3,h4⟩:=xx5 hf (m:=m) (xl1 h hx) h2
  refine⟨h3,h4.trans ?_⟩
  refine((zW0 l (f x)).append_right _).trans ?_
  rw[Ai]
  exact Di.symm
theorem yW9 {l m:List Wr} (h:zv0 l) (g:zv0 m) (e: ∀x,x∈l↔x∈m):l=m:=by
 have nd: ∀{l:List Wr},zv0 l->l.Nodup:=fun h=>h.imp (by grind[zB5])
 exact((List.perm_ext_iff_of_nodup (nd h) (nd g)).2 om).eq_of_pairwise (by grind[zO7]) h g
def isW (was now:List Ln) (w:Wr):Prop:=
 (w.drop=true/\w.data= []/\(∃x∈was,x.at=w.p)/\atF now w.p=false)∨(w.drop=false/\ ∃x∈now,x.at=w.p/\yH x.v=w.data/\ ∀y∈was,y.at=x.at->yH y.v≠yH x.v)
theorem yc1 {aa now:List Ln} (hw:Rise (aa.map Ln.at)) (hn:Rise (now.map Ln.at)):zv0 (chgF aa now)/\ ∀w,w∈chgF aa now↔isW aa now w:=by
 obtain⟨h1,h2⟩:=xx5 (f:=fun x=>⟨x.at,true,[]⟩) sM (m:=aa.filter fun x=> !atF now x.at) (l:= []) List.Pairwise.nil (by
  simp only[Bm,Bi]
  exact List.Nodup.sublist ((Bp).map _) hw.nodup)
 rw[Bi]at h2
 obtain⟨h3,h4⟩:=xx5 (f:=fun x=>⟨x.at,false,yH x.v⟩) sM (m:=now.filter fun x=> !(aa.any fun y=>decide (y.at=x.at)&&decide (yH y.v=yH x.v))) h1 (by
  have hp:=(h2.map (·.p)).append_right ((now.filter fun x=> !(aa.any fun y=>decide (y.at=x.at)&&decide (yH y.v=yH x.v))).map Ln.at)
  refine hp.nodup_iff.2 ?_
  rw[Bh,E2]
  refine⟨List.Nodup.sublist ((Bp).map _) hw.nodup,List.Nodup.sublist ((Bp).map _) hn.nodup,fun a ha b hb e=> ?_⟩
  obtain⟨x,hx,rfl⟩:=Ad.1 ha
  obtain⟨y,hy,rfl⟩:=Ad.1 hb
  grind[atF])
 refine⟨h3,fun w=> ?_⟩
 have h5:=(h4.trans (h2.append_right _)).mem_iff (a:=w)
 rw[B5,Ad,Ad]at h5
 refine h5.trans (or_congr ⟨?_, ?_⟩ ⟨?_, ?_⟩)
 .grind
 .rintro⟨e1,e2,⟨x,hx,e3⟩,e4⟩
  refine⟨x,(by grind), ?_⟩
  obtain⟨p,d,b⟩:=w
  grind
 .grind
 .rintro⟨e1,x,hx,e2,e3,e4⟩
  refine⟨x,Bb.2 ⟨hx, ?_⟩, ?_⟩
  .grind
  .obtain⟨p,d,b⟩:=w
   grind
def grpS (out:List (Int×List Wr)) (w:Wr):List (Int×List Wr):=
 match out.getLast? with
 |some q=>if q.1=w.p.1 then out.dropLast++ [(q.1,q.2++ [w])]else out++ [(w.p.1,[w])]
 |none=> [(w.p.1,[w])]
def grpF (l:List Wr):List (Int×List Wr):=l.foldl grpS []
theorem xZ5 {g:Int} (he:(ofS g).2.2=0): ∃(tn:Nat) (T:GTable),(ofS g).1=(tn:Int)/\tabsS[tn]? =some T:=by
 unfold ofS at he⊢
 split at he<;>rename_i q0
 .rw[if_pos q0];exact⟨0,_,rfl,rfl⟩
 .rw[if_neg q0]
  split at he<;>rename_i q1
  .rw[if_pos q1];exact⟨0,_,rfl,rfl⟩
  .rw[if_neg q1]
   split at he<;>rename_i q2
   .rw[if_pos q2];exact⟨1,_,rfl,rfl⟩
   .rw[if_neg q2]
    split at he<;>rename_i q3
    .rw[if_pos q3];exact⟨2,_,rfl,rfl⟩
    grind
def LnK (x:Ln):Prop:=zr4 x.r x.k (yH x.v)=true
theorem yN6 {p:Pl} {data:List UInt8} (h:zr4 p.1 p.2 data=true):LnOk ⟨p.1,p.2,(rowF tabsS (ofS p.1).1 data).1⟩/\yH (rowF tabsS (ofS p.1).1 data).1=data:=by
 unfold zr4 at h
 simp only[A1,decide_eq_true_eq]at h
 obtain⟨h1,h2,h3⟩:=h
 obtain⟨tn,T,aa,hT⟩:=xZ5 h1
 have ab:tabsS.getD tn noT=T:=by grind
 have hok:=xg7 tn data
 rw[aa]at h2 h3⊢
 rw[As,ab]at h3
 have hk:=yc7 tn T hT (rowF tabsS tn data).1 (by rw[h3])
 rw[h3]at hk
 refine⟨⟨(by grind),h1,hok.2⟩, ?_⟩
 obtain⟨hl,ad⟩:=A6.1 hT
 simp_all[rowF,yX1]
theorem yj0 {α:Type} {p q:Pl} {v:α} (h:q≠p): ∀{W:List (Pl×α)},idxW p (W++ [(q,v)])=idxW p W
 | []=>by grind[idxW]
 |e::W=>by
  rw[Ax,idxW,idxW,yj0 h]
theorem yI8 {α:Type} {p q:Pl} {v:α}: ∀{W:List (Pl×α)} {i:Nat} {u:α},idxW p W=some (i,u)->(idxW q (W.set i (p,v))).map (·.2)=if q=p then some v else(idxW q W).map (·.2)
 | [],i,u,h=>by trivial
 |e::W,i,u,h=>by
  rw[idxW]at h
  by_cases c:e.1=p
  .rw[if_pos c]at h
   simp only[Option.some.injEq,Prod.mk.injEq]at h
   obtain⟨rfl,rfl⟩:=h
   rw[Cr,idxW,idxW]
   grind
  .rw[if_neg c,Ao]at h
   obtain⟨⟨j,w⟩,h1,h2⟩:=h
   simp only[Prod.mk.injEq]at h2
   obtain⟨rfl,rfl⟩:=h2
   rw[Bs,idxW,idxW]
   by_cases d:e.1=q
   .grind
   .rw[if_neg d,if_neg d,Option.map_map,Option.map_map]
    exact yI8 h1
theorem yz1 (m:Mp α) (p q:Pl) (v:α):(m.put p v).get q=if q=p then some v else m.get q:=by
 unfold Mp.get Mp.put Mp.at
 cases h:idxW p m.W with
 |none=>
  simp only
  by_cases d:q=p
  .subst d
   rw[zy9 h,if_pos rfl];rfl
  .rw[yj0 (by grind),if_neg d]
 |some w=>grind[yI8]
theorem get_isNone {m:Mp α} {p:Pl}:m.get p=none↔m.at p=none:=by
 grind[Mp.get,Option.map_eq_none_iff]
def zv9 (s:List (Pl×List UInt8)×List Ln) (q:Pl×List UInt8):List (Pl×List UInt8)×List Ln:=
 if(s.1.any fun e=>e.1==q.1)=true then s else(s.1++ [q],if zr4 q.1.1 q.1.2 q.2=true then zU3 s.2 ⟨q.1.1,q.1.2,(rowF tabsS (ofS q.1.1).1 q.2).1⟩else s.2)
structure TkI (n:Nat) (s:List (Pl×List UInt8)×List Ln) (m:M3):Prop where
 same:m.1=m.2.1
 now:NowOk m.2.1 s.2
 sn:m.2.2.ok
 seen: ∀p,m.2.2.get p=none↔(s.1.any fun e=>e.1==p)=false
 cnt: ∀p v,m.2.2.get p=some v->1<=v/\v<=n
 lines: ∀x∈s.2,LnK x/\(x.at,yH x.v)∈s.1
 rows: ∀q∈s.1,zr4 q.1.1 q.1.2 q.2=true-> ∃x∈s.2,x.at=q.1/\yH x.v=q.2
 len:s.2.length<=n
theorem TkI.step {n:Nat} {s:List (Pl×List UInt8)×List Ln} {m:M3} (h:TkI n s m) (q:Pl×List UInt8):TkI (n+1) (zv9 s q) (ya4 q.1 q.2 m):=by
 obtain⟨p,data⟩:=q
 obtain⟨a,b,c⟩:=m
 obtain⟨se,out⟩:=s
 obtain⟨h1,h2,h3,h4,h6,h5,h7,h8⟩:=h
 simp only at h1 h2 h3 h4 h5 h6 h7 h8
 subst h1
 have aa: ∀w:Int,1<=w->w<=(n:Int)+1-> ∀q v,(c.put p w).get q=some v->1<=v/\v<=((n+1:Nat):Int):=(by grind[yz1])
 unfold zv9 ya4
 simp only
 cases hs:se.any fun e=>e.1==p with
 |true=>
  have hc:c.get p≠none:=(by grind)
  obtain⟨v,hv⟩:=Option.ne_none_iff_exists'.1 hc
  have ad:cntP c p=v:=by unfold cntP;grind
  have af:=h6 p v hv
  rw[if_pos rfl,if_neg om,ad]
  refine⟨rfl,h2,Mp.put_ok h3 _ _,fun q=> ?_,aa _ om om,h5,h7,by grind⟩
  grind[yz1]
 |false=>
  have hg:=(h4 p).2 hs
  have ad:cntP c p=0:=by unfold cntP;grind
  have ab: ∀q,(c.put p (0+1)).get q=none↔((se++ [(p,data)]).any fun e=>e.1==q)=false:=(by grind[yz1])
  rw[if_neg sM,ad]
  by_cases hr:zr4 p.1 p.2 data=true
  .rw[if_pos hr,if_pos (by grind)]
   obtain⟨hl,hd⟩:=yN6 hr
   have ha:atF out p=false:=by
    cases e:atF out p with
    |false=>rfl
    |true=>
     obtain⟨x,hx,ag⟩:=Ad.1 (atF_iff.1 e)
     grind
   have hn:=h2.ins hl ha
   rw[show(Ln.mk p.1 p.2 (rowF tabsS (ofS p.1).1 data).1).at=p from rfl,hd]at hn
   refine⟨rfl,hn,Mp.put_ok h3 _ _,ab,aa _ om om,fun x hx=> ?_,fun q hq ae=> ?_, ?_⟩
   .rcases Af.1 ((zg3 _ _).mem_iff.1 hx)with rfl|hx
    .refine⟨?_,List.mem_append_right _ (Cc.2 ?_)⟩
     .show zr4 p.1 p.2 (yH _)=true
      grind
     .show(p,yH _)=(p,data)
      rw[hd]
    grind
   .rcases B5.1 hq with hq|hq
    .grind[zg3]
    .rw[Cc]at hq
     subst hq
     exact⟨_,(zg3 _ _).mem_iff.2 (Al ..),rfl,hd⟩
   .rw[(zg3 _ _).length_eq]
    grind
  .rw[if_neg hr,if_neg (by grind)]
   refine⟨rfl,h2,Mp.put_ok h3 _ _,ab,aa _ om om,(by grind),fun q hq ae=> ?_,by grind⟩
   grind
theorem xV1:TkI 0 ([],[]) (mp0 _,mp0 _,mp0 _):=by
 refine⟨rfl,⟨xA8 _,List.Pairwise.nil,List.Perm.nil,sM⟩,xA8 _,fun p=> ?_,fun p v h=> ?_,sM,sM,sM⟩
 .exact⟨fun _=>rfl,fun _=>rfl⟩
 trivial
end Go.Proofs.YtefbicjgbaaieaaGreat
