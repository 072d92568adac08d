/-
  What the document lays of one range is that range's part of what is otherwise now. Used by the walk of the document's Run.
  Conditions: as each theorem states them.
-/
import Derived.Test.YtefbicjgbaaieaaGreatPAT
import Derived.Test.YtefbicjgbaaieaaGreatPAS
set_option maxHeartbeats 8000000
namespace Go.Proofs.YtefbicjgbaaieaaGreat
open Go Go.Vx R
set_option maxRecDepth 100000
variable {α:Type}{W:List (Pl×α)}{bs:List Nat}{seen:List Nat}{p:(Pl×α)×Nat}{l:List Ln}
def ze9 (seen:List Nat) (W:List (Pl×α)) (bs:List Nat):List ((Pl×α)×Nat):=(W.zip bs).filter fun p=> !seen.contains p.2
theorem yY0 {α:Type} {g:α->V} {seen:List Nat}: ∀{W:List (Pl×α)} {bs:List Nat},zH0 seen (kvE g W) bs=(ze9 seen W bs).map fun p=>(plV p.1.1,g p.1.2,p.2)
 | [],bs=>by cases bs<;>rfl
 |e::W,[]=>rfl
 |e::W,b::bs=>by
  rw[kvE,zH0,yY0]
  unfold ze9
  rw[Dw,Co]
  cases h:seen.contains b
  .simp only[Br,if_false,Bool.not_false,if_true,As]
  .simp only[if_true,Bool.not_true,Br,if_false]
theorem yt4 {α:Type} {g:α->V}: ∀{W:List (Pl×α)} {bs:List Nat} {p:(Pl×α)×Nat},bs.Nodup->p∈W.zip bs->zW0 p.2 (kvE g W) bs=some (plV p.1.1,g p.1.2)
 | [],_,_,_,h=>by simp at h
 |e::W,[],_,_,h=>by simp at h
 |e::W,b::bs,p,hn,h=>by
  rw[Cb]at hn
  rw[kvE,zW0]
  rw[Dw]at h
  rcases Ak.1 h with rfl|h
  .rw[if_pos rfl]
  .have:b≠p.2:=fun q=>hn.1 (q▸(List.of_mem_zip h).2)
   rw[if_neg this]
   exact yt4 hn.2 h
theorem xd4 {α:Type}: ∀{W:List α} {bs:List Nat},bs.Nodup->((W.zip bs).map (·.2)).Nodup
 | [],_,_=>by simp
 |e::W,[],_=>by simp
 |e::W,b::bs,h=>by
  rw[Cb]at h
  rw[Dw,As,Cb]
  refine⟨fun q=> ?_,xd4 h.2⟩
  obtain⟨p,hp,rfl⟩:=Ag.1 q
  exact h.1 (List.of_mem_zip hp).2
theorem yL0 {α:Type} {p:α×Nat}: ∀{L:List (α×Nat)},(L.map (·.2)).Nodup->p∈L->L.Perm (p::L.filter fun q=> !decide (q.2=p.2))
 | [],_,h=>by cases h
 |x::L,hn,h=>by
  rw[As,Cb]at hn
  rcases Ak.1 h with rfl|h
  .have:(p::L).filter (fun q=> !decide (q.2=p.2))=L:=by
    rw[Co,if_neg sm]
    exact D9.2 fun q hq=>by
     have:q.2≠p.2:=fun e=>hn.1 (Ag.2 ⟨q,hq,e⟩)
     simp[this]
   rw[this]
  .have:x.2≠p.2:=fun e=>hn.1 (Ag.2 ⟨p,h,e.symm⟩)
   rw[Co,if_pos (by simp[this])]
   exact((yL0 hn.2 h).cons x).trans (List.Perm.swap ..)
theorem zD5 (hn:bs.Nodup) (hp:p∈ze9 seen W bs):(ze9 seen W bs).Perm (p::ze9 (seen++ [p.2]) W bs):=by
 have h1:((ze9 seen W bs).map (·.2)).Nodup:=List.Nodup.sublist ((Cc).map _) (xd4 hn)
 refine(yL0 h1 hp).trans (List.Perm.of_eq ?_)
 congr 1
 unfold ze9
 rw[List.filter_filter]
 refine E0 fun q _=> ?_
 by_cases e:q.2=p.2
 .simp[e]
 .simp[e]
theorem zJ9 (hp:p∈ze9 seen W bs):p∈W.zip bs:=(Bd.1 hp).1
theorem xG9 (h:bs.length=W.length):(ze9 [] W bs).map (·.1)=W:=by
 unfold ze9
 rw[D9.2 fun q _=>sm,List.map_fst_zip om]
def MetD (seen:List Nat) (W:List (Pl×α)) (bs:List Nat) (D:List (Pl×α)):Prop:=(D++(ze9 seen W bs).map (·.1)).Perm W
theorem MetD.start (h:bs.length=W.length):MetD [] W bs []:=by
 unfold MetD
 rw[xG9 h];exact List.Perm.refl _
theorem MetD.next {D:List (Pl×α)} (hn:bs.Nodup) (h:MetD seen W bs D) (hp:p∈ze9 seen W bs):MetD (seen++ [p.2]) W bs (D++ [p.1]):=by
 unfold MetD at h⊢
 refine List.Perm.trans ?_ h
 rw[C8]
 have h1:=(zD5 hn hp).map fun x:(Pl×α)×Nat=>x.1
 rw[As]at h1
 exact List.Perm.append_left _ h1.symm
theorem MetD.done {D:List (Pl×α)} (h:MetD seen W bs D) (h0:ze9 seen W bs= []):D.Perm W:=by
 unfold MetD at h
 rw[h0]at h
 simpa using h
theorem zG7 {α:Type} {p q:α->Bool}: ∀{l:List α},(∀x∈l,p x=true->q x=false)->(l.filter p++l.filter q).Perm (l.filter fun x=>p x||q x)
 | [],_=>List.Perm.refl _
 |x::l,h=>by
  have ih:=zG7 (l:=l) fun y hy=>h y (B1 _ hy)
  have hx:=h x (B8 ..)
  simp only[Co]
  cases hp:p x with
  |true=>
   simp only[hx hp,Dr,if_true,Br,if_false,Bu]
   exact ih.cons x
  |false=>
   cases hq:q x with
   |true=>
    simp only[Ce,if_true,Br,if_false]
    exact E2.trans (ih.cons x)
   |false=>
    simp only[Ce,Br,if_false]
    exact ih
theorem zO9 {l:List Ln} {c:Ln->Bool} {rg:Int->Int}: ∀{G:List Int},(G.map rg).Nodup->(G.flatMap fun g=>l.filter fun x=>(rg g==x.r)&&c x).Perm (l.filter fun x=>(G.any fun g=>rg g==x.r)&&c x)
 | [],_=>by simp
 |g::G,hn=>by
  rw[As,Cb]at hn
  rw[Bq]
  refine(List.Perm.append_left _ (zO9 (l:=l) (c:=c) hn.2)).trans ((zG7 fun x _ hp=> ?_).trans (List.Perm.of_eq (E0 fun x _=> ?_)))
  .simp only[A8,beq_iff_eq]at hp
   have:(G.any fun g=>rg g==x.r)=false:=by
    cases q:G.any fun g=>rg g==x.r with
    |false=>rfl
    |true=>
     obtain⟨g',h1,h2⟩:=Dd.1 q
     exact absurd (Ag.2 ⟨g',h1,(beq_iff_eq.1 h2).trans hp.1.symm⟩) hn.1
   rw[this,Ea]
  .rw[List.any_cons,Bool.and_or_distrib_right]
theorem xk4 {m:List Ln} (hr:Rise (l.map Ln.at)) (hp:m.Perm l) (hs:m.Pairwise fun a b=>yX b.at a.at=false):m=l:=by
 have aa:(m.map Ln.at).Nodup:=(hp.map Ln.at).nodup_iff.2 hr.nodup
 have h1:l.Pairwise fun a b=>yX a.at b.at=true:=D8.1 hr
 have h2:m.Pairwise fun a b=>yX a.at b.at=true:=by
  refine(hs.and (D8.1 aa)).imp fun{a b} h=> ?_
  rcases zA8 a.at b.at with q|q|q
  .exact q
  .exact absurd q h.2
  .rw[h.1]at q;cases q
 exact hp.eq_of_pairwise (fun a b _ _ h g=>by rw[ye1 h]at g;cases g) h2 h1
theorem zD6 (c:UInt8):UInt8.ofNat c.toNat=c:=sm
theorem zX4: ∀(l:List UInt8) (i v u n:Nat),wS l i v=(u,n,0)-> ∃w k,u=v+w*128^i/\n=i+k/\l.take k=varF w/\k<=l.length/\(0<i->0<w)
 | [],i,v,u,n,h=>by simp[wS]at h
 |c::rest,i,v,u,n,h=>by
  rw[wS]at h
  split at h
  .simp at h
  .split at h
   .rename_i h2
    split at h
    .simp at h
    .rename_i h3
     simp only[Prod.mk.injEq]at h
     obtain⟨h4,h5,_⟩:=h
     refine⟨c.toNat,1, ?_,h5.symm, ?_,sm,fun hi=> ?_⟩
     .rw[<-h4,C6 h2]
     .rw[zR0 h2,zD6];rfl
     .exact Nat.pos_of_ne_zero fun q=>h3 ⟨q,hi⟩
   .rename_i h2
    obtain⟨w,k,h4,h5,h6,h7,h8⟩:=zX4 rest (i+1) _ u n h
    have hw:=h8 (Nat.succ_pos _)
    have hc:=c.toNat_lt
    have e1:(c.toNat%128+128*w)%128=c.toNat%128:=om
    have e2:(c.toNat%128+128*w)/128=w:=om
    refine⟨c.toNat%128+128*w,k+1, ?_,om, ?_,by simp;omega,fun _=>om⟩
    .rw[h4,Eo,Ap,C1,Bo (128^i) 128,<-Ef,Bo w 128]
    .rw[ya1 om,e1,e2,C3,h6]
     have:c.toNat%128+128=c.toNat:=om
     rw[this,zD6]
theorem xM1 (u:Nat):zigF (zagF u)=u:=by
 unfold zigF zagF
 split<;>split<;>omega
theorem yT1 {l:List UInt8} {u n:Nat} (h:wS l 0 0=(u,n,0)):l.take n=varF u/\n<=l.length:=by
 obtain⟨w,k,h1,h2,h3,h4,_⟩:=zX4 l 0 0 u n h
 simp at h1 h2
 subst h1;subst h2
 exact⟨h3,h4⟩
theorem yK8: ∀{b:List UInt8},(zg9 b).e=0->b.take (zg9 b).n=zb5 (zg9 b).v/\(zg9 b).n<=b.length/\0<(zg9 b).n
 | [],h=>by simp[zg9]at h
 |c::rest,h=>by
  have hc:=zD6 c
  rw[zg9]at h⊢
  revert h
  unfold zt1
  split
  .rename_i h0
   intro _
   refine⟨?_,sm,sm⟩
   rw[h0]at hc
   simp[zb5,mayF,v0,<-hc]
  .split
   .rename_i _ h1
    rw[h1]at hc
    unfold zg5
    cases rest with
    |nil=>intro h;simp at h
    |cons d rest=>
     simp only[Al,E1,Dq]
     rw[if_neg om]
     split
     .intro h;simp at h
     .intro _
      rename_i hd
      refine⟨?_,sm,sm⟩
      have hm:mayF ⟨1,(d.toNat:Int),[]⟩=true:=by
       simp only[mayF]
       have:d.toNat=0∨d.toNat=1:=om
       rcases this with q|q<;>rw[q]<;>decide
      unfold zb5
      rw[if_pos hm]
      simp[<-hc]
   .split
    .rename_i _ _ h2
     rw[h2]at hc
     obtain⟨⟨u,n,e⟩,hg⟩: ∃g,wS rest 0 0=g:=⟨_,rfl⟩
     rw[hg]
     simp only
     split
     .rename_i he
      intro h;exact absurd h he
     .rename_i he
      intro _
      have he:e=0:=Classical.not_not.1 he
      rw[he]at hg
      obtain⟨h3,h4⟩:=yT1 hg
      refine⟨?_,by simp;omega,by simp;omega⟩
      unfold zb5
      rw[if_pos (by simp[mayF]),Eb 1 n,C3,h3]
      simp only
      simp[xM1,<-hc]
    .split
     .rename_i _ _ _ h3
      rw[h3]at hc
      obtain⟨⟨u,n,e⟩,hg⟩: ∃g,wS rest 0 0=g:=⟨_,rfl⟩
      unfold zc8 wI
      rw[hg]
      by_cases he:e=0
      rotate_left
      .intro h;simp[he]at h
      subst he
      by_cases h5:1048576<u
      .intro h;simp[h5]at h
      by_cases h6:rest.length - n<u
      .intro h;simp[h5,h6]at h
      obtain⟨h7,h8⟩:=yT1 hg
      have aa:((rest.take (n+u)).drop n).length=u:=by
       rw[Eq,Cd];omega
      simp only[h5,h6,if_false,ne_eq,not_true_eq_false,aa]
      by_cases hl:64<u
      .intro h;simp[hl]at h
      rw[if_neg hl]
      intro _
      refine⟨?_,by simp;omega,by simp;omega⟩
      have hm:mayF ⟨3,0,(rest.take (n+u)).drop n⟩=true:=by
       simp only[mayF,aa]
       simp;omega
      unfold zb5
      rw[if_pos hm]
      simp only
      rw[if_neg dc,if_neg dc,if_pos True.intro,aa,<-h7]
      rw[Eb 1 (n+u),C3]
      show c::_=UInt8.ofNat 3::_
      rw[hc]
      congr 1
      conv=>lhs;rw[<-Bv n (rest.take (n+u))]
      rw[Em,Dm om]
     .intro h;simp at h
theorem yg4: ∀(n:Nat) (b:List UInt8) (l:List GValue),rowG n b=some l->l.flatMap zb5=b/\l.length=n
 |0,b,l,h=>by
  rw[rowG]at h
  split at h
  .rename_i hb
   cases h;exact⟨hb.symm,rfl⟩
  .cases h
 |n+1,b,l,h=>by
  rw[rowG]at h
  split at h
  .rename_i he
   rw[Bb]at h
   obtain⟨l',h1,rfl⟩:=h
   obtain⟨h2,h3⟩:=yg4 n _ l' h1
   obtain⟨h4,_,_⟩:=yK8 he
   refine⟨?_,by simp[h3]⟩
   rw[Bq,h2,<-h4,Bv]
  .cases h
theorem yR9 {nc:Nat} {data:List UInt8} (h:(R.rowC nc data).2=0):yH (R.rowC nc data).1=data:=by
 revert h
 unfold R.rowC
 split
 .rename_i h0
  intro h
  obtain⟨⟨u,n,e⟩,hg⟩: ∃g,wS data 0 0=g:=⟨_,rfl⟩
  rw[hg]at h h0⊢
  obtain⟨h1,h2⟩:=h0
  simp only at h1 h2 h⊢
  rw[h1]at hg
  subst h2
  obtain⟨h3,_⟩:=yT1 hg
  cases hr:rowG u (data.drop n)with
  |none=>rw[hr]at h;simp[rowR]at h
  |some l=>
   obtain⟨h5,h6⟩:=yg4 _ _ _ hr
   show yH l=data
   unfold yH zF1
   rw[Dv,h6,h5,<-h3,Bv]
 .intro h;simp at h
theorem LnOk.read {x:Ln} (h:LnOk x):rowF tabsS (ofS x.r).1 (yH x.v)=(x.v,0):=by
 obtain⟨tn,T,e,hT,hm⟩:=h.tab
 obtain⟨ab,aa⟩:=A5.1 hT
 have hL:=zA9 ((by decide: ∀T∈tabsS,T.cols.length<=20) T (B5 hT)) h.ok hm
 rw[e]
 unfold rowF
 rw[dif_pos ⟨om,om⟩]
 simp only[B6,aa]
 exact xx9 hm hL
def lnE (t:Int) (e:Pl×List UInt8):Ln:=⟨e.1.1,e.1.2,(rowF tabsS t e.2).1⟩
def inE (rng:Int) (lo hi:List UInt8) (e:Pl×List UInt8):Bool:=(e.1.1==rng)&&(!Op.bytesLess e.1.2 lo&&Op.bytesLess e.1.2 hi)
def inL (rng:Int) (lo hi:List UInt8) (x:Ln):Bool:=(rng==x.r)&&(!Op.bytesLess x.k lo&&Op.bytesLess x.k hi)
theorem yI6 {b:Mp (List UInt8)} (h:NowOk b l) {D:List (Pl×List UInt8)} (hD:D.Perm b.W) {t rng:Int} (hr:(ofS rng).1=t) (lo hi:List UInt8):
  ((D.filter (inE rng lo hi)).map (lnE t)).Perm (l.filter (inL rng lo hi)):=by
 have h1:=((hD.trans h.perm).filter (inE rng lo hi)).map (lnE t)
 refine h1.trans (List.Perm.of_eq ?_)
 rw[List.filter_map,Bw]
 have e1:l.filter (inE rng lo hi∘fun x=>(x.at,yH x.v))=l.filter (inL rng lo hi):=E0 fun x _=>by
  show((x.r==rng)&&_)=((rng==x.r)&&_)
  rw[Bool.beq_comm]
  rfl
 rw[e1]
 refine(Bs fun x hx=> ?_).trans (List.map_id _)
 obtain⟨ad,aa⟩:=Bd.1 hx
 unfold inL at aa
 rw[A8,beq_iff_eq]at aa
 have ab:=(h.rows x ad).read
 rw[<-aa.1,hr]at ab
 show lnE t (x.at,yH x.v)=x
 unfold lnE
 rw[ab]
 rfl
theorem yR5 (j:Nat) (hj:j<3) (st:GStmt):((wQ (j:Int) st).map fun g=>(za3 j g).1).Nodup:=by
 match j,hj with
 |0,_=>
  have e:wQ ((0:Nat):Int) st=cutR (zs7 st) [0,1]:=rfl
  rw[e,yt3]
  exact List.Nodup.sublist ((Cc).map _) (by decide:([0,1].map fun g=>(za3 ((0:Nat):Int) g).1).Nodup)
 |1,_=>exact(by decide:([-1].map fun g=>(za3 ((1:Nat):Int) g).1).Nodup)
 |2,_=>exact(by decide:([1].map fun g=>(za3 ((2:Nat):Int) g).1).Nodup)
theorem xb0 (j:Nat) (hj:j<3) {st:GStmt} {g:Int} (hg:g∈wQ (j:Int) st):(g= -1∨g=0∨g=1)/\(za3 j g).2=0/\ofS (za3 j g).1=((j:Int),g,0):=by
 match j,hj with
 |0,_=>
  have e:wQ ((0:Nat):Int) st=cutR (zs7 st) [0,1]:=rfl
  rw[e,yt3]at hg
  have:=(Bd.1 hg).1
  simp at this
  rcases this with rfl|rfl
  .exact⟨.inr (.inl rfl),rfl,rfl⟩
  .exact⟨.inr (.inr rfl),rfl,rfl⟩
 |1,_=>
  have e:wQ ((1:Nat):Int) st= [-1]:=rfl
  rw[e]at hg
  simp at hg
  subst hg
  exact⟨.inl rfl,rfl,rfl⟩
 |2,_=>
  have e:wQ ((2:Nat):Int) st= [1]:=rfl
  rw[e]at hg
  simp at hg
  subst hg
  exact⟨.inr (.inr rfl),rfl,rfl⟩
theorem yx6 (j:Nat) (hj:j<3) (st:GStmt) (l:List Ln):((wQ (j:Int) st).flatMap fun g=>l.filter (inL (za3 j g).1 (zl2 tabsS j st).1 (zl2 tabsS j st).2)).Perm (l.filter (zj2 j st)):=
 zO9 (l:=l) (c:=fun x=> !Op.bytesLess x.k (zl2 tabsS j st).1&&Op.bytesLess x.k (zl2 tabsS j st).2) (rg:=fun g=>(za3 j g).1) (yR5 j hj st)
theorem yQ1 {j:Nat} {st:GStmt} {m:List Ln} (hr:Rise (l.map Ln.at)) (hp:m.Perm (l.filter (zj2 j st))) (hs:m.Pairwise fun a b=> ¬ordP b.at a.at<0):m=l.filter (zj2 j st):=by
 refine xk4 (List.Pairwise.sublist ((Cc).map _) hr) hp (hs.imp fun{a b} h=> ?_)
 rw[<-yx2]
 exact decide_eq_false h
def zA0 (l:List Wr):Prop:=l.Pairwise fun a b=>yX a.p b.p=true
theorem zT2 (l:List Wr) (x:Wr):(insW l x).Perm (x::l):=by
 unfold insW
 refine E2.trans (List.Perm.cons _ (List.Perm.of_eq ?_))
 exact Cs
theorem zV9 {x:Wr}: ∀{l:List Wr},zA0 l->(∀y∈l,y.p≠x.p)-> ∀y∈l.dropWhile (fun y=>yX y.p x.p),yX x.p y.p=true
 | [],_,_,y,hy=>by simp at hy
 |z::l,hr,hn,y,hy=>by
  rw[zA0,Cw]at hr
  rw[List.dropWhile_cons]at hy
  by_cases q:yX z.p x.p=true
  .rw[if_pos q]at hy
   exact zV9 hr.2 (fun y hy=>hn y (B1 _ hy)) y hy
  .rw[if_neg q]at hy
   have hz:yX x.p z.p=true:=by
    rcases zA8 z.p x.p with r|r|r
    .exact absurd r q
    .exact absurd r (hn z (B8 ..))
    .exact r
   rcases Ak.1 hy with rfl|hy
   .exact hz
   .exact zH1 hz (hr.1 _ hy)
theorem xf5 {l:List Wr} {x:Wr} (h:zA0 l) (hn: ∀y∈l,y.p≠x.p):zA0 (insW l x):=by
 have hd:=zV9 h hn
 have ht: ∀y∈l.takeWhile (fun y=>yX y.p x.p),yX y.p x.p=true:=zz7
 unfold zA0 at h
 rw[<-Cs (p:=fun y:Wr=>yX y.p x.p) (l:=l),Dh]at h
 unfold insW zA0
 rw[Dh,Cw]
 refine⟨h.1,⟨hd,h.2.1⟩,fun y hy z hz=> ?_⟩
 rcases Ak.1 hz with rfl|hz
 .exact ht y hy
 .exact h.2.2 y hy z hz
theorem xr8 {f:Ln->Wr} (hf: ∀x,(f x).p=x.at): ∀{m:List Ln} {l:List Wr},zA0 l->(l.map (·.p)++m.map Ln.at).Nodup->zA0 (m.foldl (fun l x=>insW l (f x)) l)/\(m.foldl (fun l x=>insW l (f x)) l).Perm (l++m.map f)
 | [],l,h,_=>⟨h,sm⟩
 |x::m,l,h,hn=>by
  have hx: ∀y∈l,y.p≠(f x).p:=fun y hy e=>by
   rw[Di]at hn
   exact hn.2.2 y.p (Ag.2 ⟨y,hy,rfl⟩) x.at sm (by rw[e,hf])
  have h2:((insW l (f x)).map (·.p)++m.map Ln.at).Nodup:=by
   have hp:((insW l (f x)).map (·.p)++m.map Ln.at).Perm (l.map (·.p)++(x::m).map Ln.at):=by
    refine(((zT2 l (f x)).map (·.p)).append_right _).trans ?_
    rw[As,As,hf]
    exact E2.symm
   exact hp.nodup_iff.2 hn
  obtain⟨h3,h4⟩:=xr8 hf (m:=m) (xf5 h hx) h2
  refine⟨h3,h4.trans ?_⟩
  refine((zT2 l (f x)).append_right _).trans ?_
  rw[As]
  exact E2.symm
theorem yR7 {l m:List Wr} (h:zA0 l) (g:zA0 m) (e: ∀x,x∈l↔x∈m):l=m:=by
 have nd: ∀{l:List Wr},zA0 l->l.Nodup:=fun h=>h.imp fun{a b} aa q=>by subst q;rw[zK0]at aa;cases aa
 exact((List.perm_ext_iff_of_nodup (nd h) (nd g)).2 (fun x=>e x)).eq_of_pairwise (fun a b _ _ h g=>by rw[ye1 h]at g;cases g) h g
def isW (was now:List Ln) (w:Wr):Prop:=
 (w.drop=true/\w.data= []/\(∃x∈was,x.at=w.p)/\atF now w.p=false)∨(w.drop=false/\ ∃x∈now,x.at=w.p/\yH x.v=w.data/\ ∀y∈was,y.at=x.at->yH y.v≠yH x.v)
theorem yt2 {was now:List Ln} (hw:Rise (was.map Ln.at)) (hn:Rise (now.map Ln.at)):zA0 (chgF was now)/\ ∀w,w∈chgF was now↔isW was now w:=by
 obtain⟨h1,h2⟩:=xr8 (f:=fun x=>⟨x.at,true,[]⟩) (fun _=>rfl) (m:=was.filter fun x=> !atF now x.at) (l:= []) List.Pairwise.nil (by
  simp only[Bx,Ck]
  exact List.Nodup.sublist ((Cc).map _) hw.nodup)
 rw[Ck]at h2
 obtain⟨h3,h4⟩:=xr8 (f:=fun x=>⟨x.at,false,yH x.v⟩) (fun _=>rfl) (m:=now.filter fun x=> !(was.any fun y=>decide (y.at=x.at)&&decide (yH y.v=yH x.v))) h1 (by
  have hp:=(h2.map (·.p)).append_right ((now.filter fun x=> !(was.any fun y=>decide (y.at=x.at)&&decide (yH y.v=yH x.v))).map Ln.at)
  refine hp.nodup_iff.2 ?_
  rw[Bw,Di]
  refine⟨List.Nodup.sublist ((Cc).map _) hw.nodup,List.Nodup.sublist ((Cc).map _) hn.nodup,fun a ha b hb e=> ?_⟩
  obtain⟨x,hx,rfl⟩:=Ag.1 ha
  obtain⟨y,hy,rfl⟩:=Ag.1 hb
  have aa:=(Bd.1 hx).2
  have:atF now x.at=true:=atF_iff.2 (Ag.2 ⟨y,(Bd.1 hy).1,e.symm⟩)
  rw[this]at aa;cases aa)
 refine⟨h3,fun w=> ?_⟩
 have h5:=(h4.trans (h2.append_right _)).mem_iff (a:=w)
 rw[Ba,Ag,Ag]at h5
 refine h5.trans (or_congr ⟨?_, ?_⟩ ⟨?_, ?_⟩)
 .rintro⟨x,hx,rfl⟩
  obtain⟨ab,aa⟩:=Bd.1 hx
  exact⟨rfl,rfl,⟨x,ab,rfl⟩,by simpa using aa⟩
 .rintro⟨e1,e2,⟨x,hx,e3⟩,e4⟩
  refine⟨x,Bd.2 ⟨hx,by rw[e3,e4];rfl⟩, ?_⟩
  obtain⟨p,d,b⟩:=w
  simp only at e1 e2 e3
  rw[e1,e2,e3]
 .rintro⟨x,hx,rfl⟩
  obtain⟨ab,aa⟩:=Bd.1 hx
  refine⟨rfl,x,ab,rfl,rfl,fun y hy e1 e2=> ?_⟩
  have:(was.any fun y=>decide (y.at=x.at)&&decide (yH y.v=yH x.v))=true:=Dd.2 ⟨y,hy,by simp[e1,e2]⟩
  rw[this]at aa;cases aa
 .rintro⟨e1,x,hx,e2,e3,e4⟩
  refine⟨x,Bd.2 ⟨hx, ?_⟩, ?_⟩
  .cases q:was.any fun y=>decide (y.at=x.at)&&decide (yH y.v=yH x.v)with
   |false=>rfl
   |true=>
    obtain⟨y,hy,h⟩:=Dd.1 q
    simp only[A8,decide_eq_true_eq]at h
    exact absurd h.2 (e4 y hy h.1)
  .obtain⟨p,d,b⟩:=w
   simp only at e1 e2 e3
   rw[e1,e2,e3]
def grpS (out:List (Int×List Wr)) (w:Wr):List (Int×List Wr):=
 match out.getLast? with
 |some q=>if q.1=w.p.1 then out.dropLast++ [(q.1,q.2++ [w])]else out++ [(w.p.1,[w])]
 |none=> [(w.p.1,[w])]
def grpF (l:List Wr):List (Int×List Wr):=l.foldl grpS []
theorem xS6 {g:Int} (he:(ofS g).2.2=0): ∃(tn:Nat) (T:GTable),(ofS g).1=(tn:Int)/\tabsS[tn]? =some T:=by
 unfold ofS at he⊢
 split at he<;>rename_i q0
 .rw[if_pos q0];exact⟨0,_,rfl,rfl⟩
 .rw[if_neg q0]
  split at he<;>rename_i q1
  .rw[if_pos q1];exact⟨0,_,rfl,rfl⟩
  .rw[if_neg q1]
   split at he<;>rename_i q2
   .rw[if_pos q2];exact⟨1,_,rfl,rfl⟩
   .rw[if_neg q2]
    split at he<;>rename_i q3
    .rw[if_pos q3];exact⟨2,_,rfl,rfl⟩
    .exact absurd he dc
def LnK (x:Ln):Prop:=zs9 x.r x.k (yH x.v)=true
theorem yJ0 {p:Pl} {data:List UInt8} (h:zs9 p.1 p.2 data=true):LnOk ⟨p.1,p.2,(rowF tabsS (ofS p.1).1 data).1⟩/\yH (rowF tabsS (ofS p.1).1 data).1=data:=by
 unfold zs9 at h
 simp only[A8,decide_eq_true_eq]at h
 obtain⟨h1,h2,h3⟩:=h
 obtain⟨tn,T,aa,hT⟩:=xS6 h1
 have ab:tabsS.getD tn noT=T:=by rw[A9,hT];rfl
 have hok:=xb4 tn data
 rw[aa]at h2 h3⊢
 rw[B6,ab]at h3
 have hk:=zZ2 tn T hT (rowF tabsS tn data).1 (by rw[h3])
 rw[h3]at hk
 refine⟨⟨⟨tn,T,aa,hT,hk.1⟩,h1,hok.2⟩, ?_⟩
 obtain⟨hl,ad⟩:=A5.1 hT
 unfold rowF at h2⊢
 rw[dif_pos ⟨om,om⟩]at h2⊢
 exact yR9 h2
theorem yd5 {α:Type} {p q:Pl} {v:α} (h:q≠p): ∀{W:List (Pl×α)},idxW p (W++ [(q,v)])=idxW p W
 | []=>by simp[idxW,h]
 |e::W=>by
  rw[Bu,idxW,idxW,yd5 h]
theorem yE4 {α:Type} {p q:Pl} {v:α}: ∀{W:List (Pl×α)} {i:Nat} {u:α},idxW p W=some (i,u)->(idxW q (W.set i (p,v))).map (·.2)=if q=p then some v else(idxW q W).map (·.2)
 | [],i,u,h=>by simp[idxW]at h
 |e::W,i,u,h=>by
  rw[idxW]at h
  by_cases c:e.1=p
  .rw[if_pos c]at h
   simp only[Option.some.injEq,Prod.mk.injEq]at h
   obtain⟨rfl,rfl⟩:=h
   rw[Dc,idxW,idxW]
   by_cases d:q=p
   .subst d;simp
   .rw[if_neg (fun x=>d x.symm),if_neg (fun x:e.1=q=>d (x.symm.trans c)),if_neg d]
  .rw[if_neg c,Bb]at h
   obtain⟨⟨j,w⟩,h1,h2⟩:=h
   simp only[Prod.mk.injEq]at h2
   obtain⟨rfl,rfl⟩:=h2
   rw[C9,idxW,idxW]
   by_cases d:e.1=q
   .rw[if_pos d,if_pos d,if_neg (fun x=>c (d.trans x))]
   .rw[if_neg d,if_neg d,Option.map_map,Option.map_map]
    exact yE4 h1
theorem yv1 (m:Mp α) (p q:Pl) (v:α):(m.put p v).get q=if q=p then some v else m.get q:=by
 unfold Mp.get Mp.put Mp.at
 cases h:idxW p m.W with
 |none=>
  simp only
  by_cases d:q=p
  .subst d
   rw[zy0 h,if_pos rfl];rfl
  .rw[yd5 (fun x=>d x.symm),if_neg d]
 |some w=>exact yE4 (i:=w.1) (u:=w.2) h
theorem get_isNone {m:Mp α} {p:Pl}:m.get p=none↔m.at p=none:=by
 unfold Mp.get
 rw[Option.map_eq_none_iff]
def zy1 (s:List (Pl×List UInt8)×List Ln) (q:Pl×List UInt8):List (Pl×List UInt8)×List Ln:=
 if(s.1.any fun e=>e.1==q.1)=true then s else(s.1++ [q],if zs9 q.1.1 q.1.2 q.2=true then zR7 s.2 ⟨q.1.1,q.1.2,(rowF tabsS (ofS q.1.1).1 q.2).1⟩else s.2)
structure TkI (n:Nat) (s:List (Pl×List UInt8)×List Ln) (m:M3):Prop where
 same:m.1=m.2.1
 now:NowOk m.2.1 s.2
 sn:m.2.2.ok
 seen: ∀p,m.2.2.get p=none↔(s.1.any fun e=>e.1==p)=false
 cnt: ∀p v,m.2.2.get p=some v->1<=v/\v<=n
 lines: ∀x∈s.2,LnK x/\(x.at,yH x.v)∈s.1
 rows: ∀q∈s.1,zs9 q.1.1 q.1.2 q.2=true-> ∃x∈s.2,x.at=q.1/\yH x.v=q.2
 len:s.2.length<=n
theorem TkI.step {n:Nat} {s:List (Pl×List UInt8)×List Ln} {m:M3} (h:TkI n s m) (q:Pl×List UInt8):TkI (n+1) (zy1 s q) (zX5 q.1 q.2 m):=by
 obtain⟨p,data⟩:=q
 obtain⟨a,b,c⟩:=m
 obtain⟨se,out⟩:=s
 obtain⟨h1,h2,h3,h4,h6,h5,h7,h8⟩:=h
 simp only at h1 h2 h3 h4 h5 h6 h7 h8
 subst h1
 have aa: ∀w:Int,1<=w->w<=(n:Int)+1-> ∀q v,(c.put p w).get q=some v->1<=v/\v<=((n+1:Nat):Int):=fun w ah ai q v hv=>by
  rw[yv1]at hv
  split at hv
  .cases hv;omega
  .have:=h6 q v hv;omega
 unfold zy1 zX5
 simp only
 cases hs:se.any fun e=>e.1==p with
 |true=>
  have hc:c.get p≠none:=fun e=>by rw[(h4 p).1 e]at hs;cases hs
  obtain⟨v,hv⟩:=Option.ne_none_iff_exists'.1 hc
  have ad:cntP c p=v:=by unfold cntP;rw[hv];rfl
  have aj:=h6 p v hv
  rw[if_pos rfl,if_neg (fun e=>by rw[ad]at e;omega),ad]
  refine⟨rfl,h2,Mp.put_ok h3 _ _,fun q=> ?_,aa _ om om,h5,h7,by show out.length<=_;omega⟩
  rw[yv1]
  split
  .rename_i e;subst e;simp[hs]
  .exact h4 q
 |false=>
  have hg:=(h4 p).2 hs
  have ad:cntP c p=0:=by unfold cntP;rw[hg];rfl
  have ab: ∀q,(c.put p (0+1)).get q=none↔((se++ [(p,data)]).any fun e=>e.1==q)=false:=fun q=>by
   rw[yv1,List.any_append]
   split
   .rename_i e;subst e;simp
   .rename_i e
    have e':((p,data).1==q)=false:=beq_eq_false_iff_ne.2 fun x=>e x.symm
    rw[h4 q];simp[e']
  rw[if_neg sm,ad]
  by_cases hr:zs9 p.1 p.2 data=true
  .rw[if_pos hr,if_pos ⟨rfl,hr⟩]
   obtain⟨hl,hd⟩:=yJ0 hr
   have ha:atF out p=false:=by
    cases e:atF out p with
    |false=>rfl
    |true=>
     obtain⟨x,hx,af⟩:=Ag.1 (atF_iff.1 e)
     have:(se.any fun e=>e.1==p)=true:=Dd.2 ⟨_,(h5 x hx).2,by simp[af]⟩
     rw[this]at hs;cases hs
   have hn:=h2.ins hl ha
   rw[show(Ln.mk p.1 p.2 (rowF tabsS (ofS p.1).1 data).1).at=p from rfl,hd]at hn
   refine⟨rfl,hn,Mp.put_ok h3 _ _,ab,aa _ om om,fun x hx=> ?_,fun q hq ae=> ?_, ?_⟩
   .rcases Ak.1 ((zi2 _ _).mem_iff.1 hx)with rfl|hx
    .refine⟨?_,List.mem_append_right _ (Ca.2 ?_)⟩
     .show zs9 p.1 p.2 (yH _)=true
      rw[hd];exact hr
     .show(p,yH _)=(p,data)
      rw[hd]
    .exact⟨(h5 x hx).1,Dg _ (h5 x hx).2⟩
   .rcases Ba.1 hq with hq|hq
    .obtain⟨x,hx,ag⟩:=h7 q hq ae
     exact⟨x,(zi2 _ _).mem_iff.2 (B1 _ hx),ag⟩
    .rw[Ca]at hq
     subst hq
     exact⟨_,(zi2 _ _).mem_iff.2 (B8 ..),rfl,hd⟩
   .rw[(zi2 _ _).length_eq]
    show out.length+1<=n+1
    omega
  .rw[if_neg hr,if_neg (fun e=>hr e.2)]
   refine⟨rfl,h2,Mp.put_ok h3 _ _,ab,aa _ om om,fun x hx=>⟨(h5 x hx).1,Dg _ (h5 x hx).2⟩,fun q hq ae=> ?_,by show out.length<=_;omega⟩
   rcases Ba.1 hq with hq|hq
   .exact h7 q hq ae
   .rw[Ca]at hq
    subst hq
    exact absurd ae hr
theorem xO1:TkI 0 ([],[]) (mp0 _,mp0 _,mp0 _):=by
 refine⟨rfl,⟨xu8 _,List.Pairwise.nil,List.Perm.nil,fun x hx=>(by cases hx)⟩,xu8 _,fun p=> ?_,fun p v h=> ?_,fun x hx=>(by cases hx),fun x hx=>(by cases hx),A6 _⟩
 .exact⟨fun _=>rfl,fun _=>rfl⟩
 .cases h
end Go.Proofs.YtefbicjgbaaieaaGreat
