/-
  What the document lays of one range is that range's part of what is otherwise now. Used by the walk of the document's Run.
  Conditions: as each theorem states them.
-/
import Derived.Test.YtkigddpaonhmlaaGreatXBF
import Derived.Test.YtkigddpaonhmlaaGreatXBE
import Derived.Test.YtkigddpaonhmlaaGreatXBD
import Derived.Test.YtkigddpaonhmlaaGreatXAQ
set_option maxHeartbeats 8000000
namespace Go.Proofs.YtkigddpaonhmlaaGreat
open Go Go.Vx R Go.Proofs.Tryz
set_option maxRecDepth 100000
theorem VK.okV {v:GValue} {k:Int} (h:VK v k):v.ok:=by
 have hm:=h.may
 have hn:=h.n
 rcases zM0 hm with ⟨h1,_,h3⟩|⟨h1,_,h3⟩|⟨h1,h3⟩|⟨h1,_,h3⟩
 all_goals
  refine⟨by rw[h1];decide,hn, ?_⟩
  first|(rw[h3];decide)|(unfold maxLen;omega)
theorem zZ3 {T:GTable} {old:List GValue} (ho: ∀v∈old,v.ok): ∀{sets:List GAssign} {row:List GValue},(∀x∈sets,EOk x.e)->(∀v∈row,v.ok)->(setF T old sets row).2=0->(setF T old sets row).1.length=row.length/\ ∀v∈(setF T old sets row).1,v.ok
 | [],row,_,hr,_=>⟨rfl,hr⟩
 |x::l,row,hs,hr,h=>by
  rw[setF]at h⊢
  by_cases q:(evR T old x.e).2=0
  .rw[if_neg (fun h=>h q)]at h⊢
   have hv:=(xp4 ho (hs x (by simp)) q).okV
   have h2:=zZ3 ho (sets:=l) (row:=row.set (colF T x.name).toNat (evR T old x.e).1) (fun y hy=>hs y (by simp[hy])) (fun v hv'=>by
    rcases Cc hv' with h|rfl
    .exact hr v h
    .exact hv) h
   rw[E8]at h2
   exact h2
  .rw[if_pos q]at h;exact absurd h q
theorem yj9 {T:GTable} {st:GStmt}: ∀{l acc:List Ln},∀x∈(zv8 T st acc l).1,x∈acc∨x∈l
 | [],_,_,h=> .inl h
 |y::l,acc,x,h=>by
  rw[zv8]at h
  by_cases q:(evR T y.v st.where_).2=0
  .rw[if_neg (fun h=>h q)]at h
   rcases yj9 (l:=l) x h with h|h
   .by_cases t:zW9 (evR T y.v st.where_).1=true
    .rw[if_pos t]at h
     rcases B4.1 h with h|h
     .exact .inl h
     .simp at h;exact .inr (h▸Bb ..)
    .rw[if_neg t]at h;exact .inl h
   .exact .inr (B5 _ h)
  .rw[if_pos q]at h;cases h
theorem yg3 {t:Int} {T:GTable} {st:GStmt} {l:List Ln}: ∀x∈(metF t T st l).1,x∈l/\(zn4 t st x)=true:=fun x h=>by
 unfold metF at h
 have hf:x∈l.filter (zn4 t st):=by
  by_cases q:st.filtered=true
  .rw[if_pos q]at h
   rcases yj9 x h with h|h
   .cases h
   .exact h
  .rw[if_neg q]at h;exact h
 exact B9.1 hf
theorem xG7 (l:List Ln) (p:Pl) (row:List GValue):(putF l p row).map Ln.at=l.map Ln.at:=by
 unfold putF
 rw[Bq]
 refine Bm fun y _=> ?_
 by_cases q:y.at=p
 .simp only[Function.comp,if_pos q];rfl
 .simp only[Function.comp,if_neg q]
theorem yB0 (l:List Ln) (p q:Pl) (row:List GValue):atF (putF l p row) q=atF l q:=by
 rw[Dr,atF_iff,atF_iff,xG7]
def ordP (p q:Pl):Int:=orL [cmpI p.1 q.1,cmpS p.2 q.2]
theorem yx0 (p q:Pl):decide (ordP p q<0)=xA p q:=by
 obtain⟨a,s⟩:=p
 obtain⟨b,t⟩:=q
 simp only[ordP,orL,cmpI,cmpS,xA]
 by_cases h1:a<b
 .simp[h1]
 .by_cases h2:a>b
  .have h3: ¬a=b:=by omega
   simp[h1,h2,h3]
  .have h3:a=b:=by omega
   subst h3
   by_cases h4:Op.bytesLess s t=true
   .simp[h4]
   .have h4':Op.bytesLess s t=false:=by simpa using h4
    by_cases h5:Op.bytesLess t s=true
    .simp[h4',h5]
    .simp[h4',h5]
theorem yH6:Go.Sort.SWO fun a b=>decide (ordP a b<0):=by
 have e:(fun a b=>decide (ordP a b<0))=xA:=funext fun a=>funext fun b=>yx0 a b
 rw[e]
 refine⟨zJ3,fun x y z h g=>zG3 h g,fun x y z h g=> ?_⟩
 cases q:xA x z with
 |false=>rfl
 |true=>
  rcases zz8 x y with r|r|r
  .rw[r]at h;cases h
  .subst r;rw[q]at g;cases g
  .have:=zG3 r q;rw[this]at g;cases g
theorem xH2 {X:Type} {kx:X->Pl} {l:List X} (h:l.Pairwise fun a b=> ¬ordP (kx b) (kx a)<0) (hn:(l.map kx).Nodup):Rise (l.map kx):=by
 unfold Rise
 rw[Cl]
 rw[List.Nodup,Cl]at hn
 refine(h.and hn).imp fun{a b} ⟨h1,h2⟩=> ?_
 rcases zz8 (kx a) (kx b)with r|r|r
 .exact r
 .exact absurd r h2
 .rw[<-yx0]at r
  exact absurd (of_decide_eq_true r) h1
theorem yZ2 (p q:Pl):Pure prog 36 [plV p,plV q] (.int .i64 (ordP p q)):=by
 have h:=or_w [cmpI p.1 q.1,cmpS p.2 q.2] (by simp[maxLen])
 have h1:=yC1 p.1 q.1
 have h2:=yC3 p.2 q.2
 unfold ordP
 generalize orL [cmpI p.1 q.1,cmpS p.2 q.2]=M at*
 refine iW 0 func36 ntmps36 results36 fun c hc hb=>zN ?_
 simp[go_sem,plV]
 refine yU [(4,0),(9,0),(11,0)] 2 rfl (by kernel_rfl) (by kernel_rfl) ?_
 simp[go_sem]
 refine zW h1 cB (fun _=>zH rfl) rfl ?_
 simp[go_sem]
 refine zW h2 cB (fun _=>zH rfl) rfl ?_
 simp[go_sem]
 refine zW h cB (fun _=>⟨zX,trivial⟩) rfl ?_
 simp[go_sem]
 exact zQ (zC rfl) ⟨rfl,rfl⟩
theorem xv0 (p q:Pl):Pure prog 71 [.agg (.int .i64 p.1:: .str p.2::List.replicate (3 - 2) .u),.agg (.int .i64 q.1:: .str q.2::List.replicate (3 - 2) .u)] (.int .i64 (ordP p q)):=by
 have h:=yZ2 p q
 rw[plV,plV]at h
 show Pure prog 71 [.agg [.int .i64 p.1,.str p.2,.u],.agg [.int .i64 q.1,.str q.2,.u]] (.int .i64 (ordP p q))
 refine iW 0 func71 ntmps71 results71 fun c hc hb=>zN ?_
 simp[go_sem]
 refine zD h cB (zH rfl) rfl ?_
 simp[go_sem]
 exact zQ (zC rfl) ⟨rfl,rfl⟩
def ze4 {α:Type} (seen:List Nat) (W:List (Pl×α)) (bs:List Nat):List ((Pl×α)×Nat):=(W.zip bs).filter fun p=> !seen.contains p.2
theorem yW9 {α:Type} {g:α->V} {seen:List Nat}: ∀{W:List (Pl×α)} {bs:List Nat},zG2 seen (kvE g W) bs=(ze4 seen W bs).map fun p=>(plV p.1.1,g p.1.2,p.2)
 | [],bs=>by cases bs<;>rfl
 |e::W,[]=>rfl
 |e::W,b::bs=>by
  rw[kvE,zG2,yW9]
  unfold ze4
  rw[E9,Do]
  cases h:seen.contains b
  .simp only[Bf,if_false,Bool.not_false,if_true,Al]
  .simp only[if_true,Bool.not_true,Bf,if_false]
theorem yt9 {α:Type} {g:α->V}: ∀{W:List (Pl×α)} {bs:List Nat} {p:(Pl×α)×Nat},bs.Nodup->p∈W.zip bs->zV2 p.2 (kvE g W) bs=some (plV p.1.1,g p.1.2)
 | [],_,_,_,h=>by simp at h
 |e::W,[],_,_,h=>by simp at h
 |e::W,b::bs,p,hn,h=>by
  rw[C1]at hn
  rw[kvE,zV2]
  rw[E9]at h
  rcases Ag.1 h with rfl|h
  .rw[if_pos rfl]
  .have:b≠p.2:=fun q=>hn.1 (q▸(List.of_mem_zip h).2)
   rw[if_neg this]
   exact yt9 hn.2 h
theorem xc1 {α:Type}: ∀{W:List α} {bs:List Nat},bs.Nodup->((W.zip bs).map (·.2)).Nodup
 | [],_,_=>by simp
 |e::W,[],_=>by simp
 |e::W,b::bs,h=>by
  rw[C1]at h
  rw[E9,Al,C1]
  refine⟨fun q=> ?_,xc1 h.2⟩
  obtain⟨p,hp,rfl⟩:=Ac.1 q
  exact h.1 (List.of_mem_zip hp).2
theorem yK5 {α:Type} {p:α×Nat}: ∀{L:List (α×Nat)},(L.map (·.2)).Nodup->p∈L->L.Perm (p::L.filter fun q=> !decide (q.2=p.2))
 | [],_,h=>by cases h
 |x::L,hn,h=>by
  rw[Al,C1]at hn
  rcases Ag.1 h with rfl|h
  .have:(p::L).filter (fun q=> !decide (q.2=p.2))=L:=by
    rw[Do,if_neg (by simp)]
    exact Dt.2 fun q hq=>by
     have:q.2≠p.2:=fun e=>hn.1 (Ac.2 ⟨q,hq,e⟩)
     simp[this]
   rw[this]
  .have:x.2≠p.2:=fun e=>hn.1 (Ac.2 ⟨p,h,e.symm⟩)
   rw[Do,if_pos (by simp[this])]
   exact((yK5 hn.2 h).cons x).trans (List.Perm.swap ..)
theorem zC4 {α:Type} {seen:List Nat} {W:List (Pl×α)} {bs:List Nat} (hn:bs.Nodup) {p:(Pl×α)×Nat} (hp:p∈ze4 seen W bs):(ze4 seen W bs).Perm (p::ze4 (seen++ [p.2]) W bs):=by
 have h1:((ze4 seen W bs).map (·.2)).Nodup:=List.Nodup.sublist ((C0).map _) (xc1 hn)
 refine(yK5 h1 hp).trans (List.Perm.of_eq ?_)
 congr 1
 unfold ze4
 rw[List.filter_filter]
 refine Ee fun q _=> ?_
 by_cases e:q.2=p.2
 .simp[e]
 .simp[e]
theorem zJ2 {α:Type} {seen:List Nat} {W:List (Pl×α)} {bs:List Nat} {p:(Pl×α)×Nat} (hp:p∈ze4 seen W bs):p∈W.zip bs:=(B9.1 hp).1
theorem xF3 {α:Type} {W:List (Pl×α)} {bs:List Nat} (h:bs.length=W.length):(ze4 [] W bs).map (·.1)=W:=by
 unfold ze4
 rw[Dt.2 fun q _=>by simp,List.map_fst_zip (by omega)]
def MetD {α:Type} (seen:List Nat) (W:List (Pl×α)) (bs:List Nat) (D:List (Pl×α)):Prop:=(D++(ze4 seen W bs).map (·.1)).Perm W
theorem MetD.start {α:Type} {W:List (Pl×α)} {bs:List Nat} (h:bs.length=W.length):MetD [] W bs []:=by
 unfold MetD
 rw[xF3 h];exact List.Perm.refl _
theorem MetD.next {α:Type} {seen:List Nat} {W:List (Pl×α)} {bs:List Nat} {D:List (Pl×α)} (hn:bs.Nodup) (h:MetD seen W bs D) {p:(Pl×α)×Nat} (hp:p∈ze4 seen W bs):MetD (seen++ [p.2]) W bs (D++ [p.1]):=by
 unfold MetD at h⊢
 refine List.Perm.trans ?_ h
 rw[C5]
 have h1:=(zC4 hn hp).map fun x:(Pl×α)×Nat=>x.1
 rw[Al]at h1
 exact List.Perm.append_left _ h1.symm
theorem MetD.done {α:Type} {seen:List Nat} {W:List (Pl×α)} {bs:List Nat} {D:List (Pl×α)} (h:MetD seen W bs D) (h0:ze4 seen W bs= []):D.Perm W:=by
 unfold MetD at h
 rw[h0]at h
 simpa using h
theorem zF9 {α:Type} {p q:α->Bool}: ∀{l:List α},(∀x∈l,p x=true->q x=false)->(l.filter p++l.filter q).Perm (l.filter fun x=>p x||q x)
 | [],_=>List.Perm.refl _
 |x::l,h=>by
  have ih:=zF9 (l:=l) fun y hy=>h y (B5 _ hy)
  have hx:=h x (Bb ..)
  simp only[Do]
  cases hp:p x with
  |true=>
   simp only[hx hp,Dl,if_true,Bf,if_false,Bo]
   exact ih.cons x
  |false=>
   cases hq:q x with
   |true=>
    simp only[C8,if_true,Bf,if_false]
    exact Du.trans (ih.cons x)
   |false=>
    simp only[C8,Bf,if_false]
    exact ih
theorem zO3 {l:List Ln} {c:Ln->Bool} {rg:Int->Int}: ∀{G:List Int},(G.map rg).Nodup->(G.flatMap fun g=>l.filter fun x=>(rg g==x.r)&&c x).Perm (l.filter fun x=>(G.any fun g=>rg g==x.r)&&c x)
 | [],_=>by simp
 |g::G,hn=>by
  rw[Al,C1]at hn
  rw[Bl]
  refine(List.Perm.append_left _ (zO3 (l:=l) (c:=c) hn.2)).trans ((zF9 fun x _ hp=> ?_).trans (List.Perm.of_eq (Ee fun x _=> ?_)))
  .simp only[A4,beq_iff_eq]at hp
   have:(G.any fun g=>rg g==x.r)=false:=by
    cases q:G.any fun g=>rg g==x.r with
    |false=>rfl
    |true=>
     obtain⟨g',h1,h2⟩:=Da.1 q
     exact absurd (Ac.2 ⟨g',h1,(beq_iff_eq.1 h2).trans hp.1.symm⟩) hn.1
   rw[this,E1]
  .rw[List.any_cons,Bool.and_or_distrib_right]
theorem xj0 {l m:List Ln} (hr:Rise (l.map Ln.at)) (hp:m.Perm l) (hs:m.Pairwise fun a b=>xA b.at a.at=false):m=l:=by
 have hnd:(m.map Ln.at).Nodup:=(hp.map Ln.at).nodup_iff.2 hr.nodup
 have h1:l.Pairwise fun a b=>xA a.at b.at=true:=Cl.1 hr
 have h2:m.Pairwise fun a b=>xA a.at b.at=true:=by
  refine(hs.and (Cl.1 hnd)).imp fun{a b} h=> ?_
  rcases zz8 a.at b.at with q|q|q
  .exact q
  .exact absurd q h.2
  .rw[h.1]at q;cases q
 exact hp.eq_of_pairwise (fun a b _ _ h g=>by rw[yf6 h]at g;cases g) h2 h1
theorem zC6 (c:UInt8):UInt8.ofNat c.toNat=c:=by simp
theorem zW6: ∀(l:List UInt8) (i v u n:Nat),wP l i v=(u,n,0)-> ∃w k,u=v+w*128^i/\n=i+k/\l.take k=varF w/\k<=l.length/\(0<i->0<w)
 | [],i,v,u,n,h=>by simp[wP]at h
 |c::rest,i,v,u,n,h=>by
  rw[wP]at h
  split at h
  .simp at h
  .split at h
   .rename_i h2
    split at h
    .simp at h
    .rename_i h3
     simp only[Prod.mk.injEq]at h
     obtain⟨h4,h5,_⟩:=h
     refine⟨c.toNat,1, ?_,h5.symm, ?_,by simp,fun hi=> ?_⟩
     .rw[<-h4,Ch h2]
     .rw[zQ3 h2,zC6];rfl
     .exact Nat.pos_of_ne_zero fun q=>h3 ⟨q,hi⟩
   .rename_i h2
    obtain⟨w,k,h4,h5,h6,h7,h8⟩:=zW6 rest (i+1) _ u n h
    have hw:=h8 (Nat.succ_pos _)
    have hc:=c.toNat_lt
    have e1:(c.toNat%128+128*w)%128=c.toNat%128:=by omega
    have e2:(c.toNat%128+128*w)/128=w:=by omega
    refine⟨c.toNat%128+128*w,k+1, ?_,by omega, ?_,by simp;omega,fun _=>by omega⟩
    .rw[h4,Em,An,Bv,Bw (128^i) 128,<-E7,Bw w 128]
    .rw[zZ6 (by omega),e1,e2,By,h6]
     have:c.toNat%128+128=c.toNat:=by omega
     rw[this,zC6]
theorem xK5 (u:Nat):zigF (zagF u)=u:=by
 unfold zigF zagF
 split<;>split<;>omega
theorem yS5 {l:List UInt8} {u n:Nat} (h:wP l 0 0=(u,n,0)):l.take n=varF u/\n<=l.length:=by
 obtain⟨w,k,h1,h2,h3,h4,_⟩:=zW6 l 0 0 u n h
 simp at h1 h2
 subst h1;subst h2
 exact⟨h3,h4⟩
theorem yK3: ∀{b:List UInt8},(zg5 b).e=0->b.take (zg5 b).n=za8 (zg5 b).v/\(zg5 b).n<=b.length/\0<(zg5 b).n
 | [],h=>by simp[zg5]at h
 |c::rest,h=>by
  have hc:=zC6 c
  rw[zg5]at h⊢
  revert h
  unfold zr7
  split
  .rename_i h0
   intro _
   refine⟨?_,by simp,by simp⟩
   rw[h0]at hc
   simp[za8,mayF,v0,<-hc]
  .split
   .rename_i _ h1
    rw[h1]at hc
    unfold zf9
    cases rest with
    |nil=>intro h;simp at h
    |cons d rest=>
     simp only[Ah,List.getD_cons_succ,List.getD_cons_zero]
     rw[if_neg (by omega)]
     split
     .intro h;simp at h
     .intro _
      rename_i hd
      refine⟨?_,by simp,by simp⟩
      have hm:mayF ⟨1,(d.toNat:Int),[]⟩=true:=by
       simp only[mayF]
       have:d.toNat=0∨d.toNat=1:=by omega
       rcases this with q|q<;>rw[q]<;>decide
      unfold za8
      rw[if_pos hm]
      simp[<-hc]
   .split
    .rename_i _ _ h2
     rw[h2]at hc
     obtain⟨⟨u,n,e⟩,hg⟩: ∃g,wP rest 0 0=g:=⟨_,rfl⟩
     rw[hg]
     simp only
     split
     .rename_i he
      intro h;exact absurd h he
     .rename_i he
      intro _
      have he:e=0:=Classical.not_not.1 he
      rw[he]at hg
      obtain⟨h3,h4⟩:=yS5 hg
      refine⟨?_,by simp;omega,by simp;omega⟩
      unfold za8
      rw[if_pos (by simp[mayF]),E2 1 n,By,h3]
      simp only
      simp[xK5,<-hc]
    .split
     .rename_i _ _ _ h3
      rw[h3]at hc
      obtain⟨⟨u,n,e⟩,hg⟩: ∃g,wP rest 0 0=g:=⟨_,rfl⟩
      unfold zc4 wF
      rw[hg]
      by_cases he:e=0
      rotate_left
      .intro h;simp[he]at h
      subst he
      by_cases h5:1048576<u
      .intro h;simp[h5]at h
      by_cases h6:rest.length - n<u
      .intro h;simp[h5,h6]at h
      obtain⟨h7,h8⟩:=yS5 hg
      have hl2:((rest.take (n+u)).drop n).length=u:=by
       rw[Ei,C2];omega
      simp only[h5,h6,if_false,ne_eq,not_true_eq_false,hl2]
      by_cases hl:64<u
      .intro h;simp[hl]at h
      rw[if_neg hl]
      intro _
      refine⟨?_,by simp;omega,by simp;omega⟩
      have hm:mayF ⟨3,0,(rest.take (n+u)).drop n⟩=true:=by
       simp only[mayF,hl2]
       simp;omega
      unfold za8
      rw[if_pos hm]
      simp only
      rw[if_neg (by decide),if_neg (by decide),if_pos True.intro,hl2,<-h7]
      rw[E2 1 (n+u),By]
      show c::_=UInt8.ofNat 3::_
      rw[hc]
      congr 1
      conv=>lhs;rw[<-Bp n (rest.take (n+u))]
      rw[Ef,D8 (by omega)]
     .intro h;simp at h
theorem yi1: ∀(n:Nat) (b:List UInt8) (l:List GValue),rowG n b=some l->l.flatMap za8=b/\l.length=n
 |0,b,l,h=>by
  rw[rowG]at h
  split at h
  .rename_i hb
   cases h;exact⟨hb.symm,rfl⟩
  .cases h
 |n+1,b,l,h=>by
  rw[rowG]at h
  split at h
  .rename_i he
   rw[B6]at h
   obtain⟨l',h1,rfl⟩:=h
   obtain⟨h2,h3⟩:=yi1 n _ l' h1
   obtain⟨h4,_,_⟩:=yK3 he
   refine⟨?_,by simp[h3]⟩
   rw[Bl,h2,<-h4,Bp]
  .cases h
theorem yR0 {nc:Nat} {data:List UInt8} (h:(R.rowC nc data).2=0):yL (R.rowC nc data).1=data:=by
 revert h
 unfold R.rowC
 split
 .rename_i h0
  intro h
  obtain⟨⟨u,n,e⟩,hg⟩: ∃g,wP data 0 0=g:=⟨_,rfl⟩
  rw[hg]at h h0⊢
  obtain⟨h1,h2⟩:=h0
  simp only at h1 h2 h⊢
  rw[h1]at hg
  subst h2
  obtain⟨h3,_⟩:=yS5 hg
  cases hr:rowG u (data.drop n)with
  |none=>rw[hr]at h;simp[rowR]at h
  |some l=>
   obtain⟨h5,h6⟩:=yi1 _ _ _ hr
   show yL l=data
   unfold yL zE3
   rw[Dp,h6,h5,<-h3,Bp]
 .intro h;simp at h
theorem LnOk.read {x:Ln} (h:LnOk x):rowF tabsS (ofS x.r).1 (yL x.v)=(x.v,0):=by
 obtain⟨tn,T,e,hT,hm⟩:=h.tab
 obtain⟨htn,hTx⟩:=A1.1 hT
 have hL:=zz9 ((by decide: ∀T∈tabsS,T.cols.length<=20) T (B1 hT)) h.ok hm
 rw[e]
 unfold rowF
 rw[dif_pos ⟨by omega,by omega⟩]
 simp only[Ax,hTx]
 exact xw4 hm hL
def lnE (t:Int) (e:Pl×List UInt8):Ln:=⟨e.1.1,e.1.2,(rowF tabsS t e.2).1⟩
def inE (rng:Int) (lo hi:List UInt8) (e:Pl×List UInt8):Bool:=(e.1.1==rng)&&(!Op.bytesLess e.1.2 lo&&Op.bytesLess e.1.2 hi)
def inL (rng:Int) (lo hi:List UInt8) (x:Ln):Bool:=(rng==x.r)&&(!Op.bytesLess x.k lo&&Op.bytesLess x.k hi)
theorem yI1 {b:Mp (List UInt8)} {l:List Ln} (h:NowOk b l) {D:List (Pl×List UInt8)} (hD:D.Perm b.W) {t rng:Int} (hr:(ofS rng).1=t) (lo hi:List UInt8):
  ((D.filter (inE rng lo hi)).map (lnE t)).Perm (l.filter (inL rng lo hi)):=by
 have h1:=((hD.trans h.perm).filter (inE rng lo hi)).map (lnE t)
 refine h1.trans (List.Perm.of_eq ?_)
 rw[List.filter_map,Bq]
 have e1:l.filter (inE rng lo hi∘fun x=>(x.at,yL x.v))=l.filter (inL rng lo hi):=Ee fun x _=>by
  show((x.r==rng)&&_)=((rng==x.r)&&_)
  rw[Bool.beq_comm]
  rfl
 rw[e1]
 refine(Bm fun x hx=> ?_).trans (List.map_id _)
 obtain⟨hx1,hx2⟩:=B9.1 hx
 unfold inL at hx2
 rw[A4,beq_iff_eq]at hx2
 have hrd:=(h.rows x hx1).read
 rw[<-hx2.1,hr]at hrd
 show lnE t (x.at,yL x.v)=x
 unfold lnE
 rw[hrd]
 rfl
theorem yQ6 (j:Nat) (hj:j<3) (st:GStmt):((za5 (j:Int) st).map fun g=>(wJ j g).1).Nodup:=by
 match j,hj with
 |0,_=>
  have e:za5 ((0:Nat):Int) st=cutR (zr4 st) [0,1]:=rfl
  rw[e,yt8]
  exact List.Nodup.sublist ((C0).map _) (by decide:([0,1].map fun g=>(wJ ((0:Nat):Int) g).1).Nodup)
 |1,_=>exact(by decide:([-1].map fun g=>(wJ ((1:Nat):Int) g).1).Nodup)
 |2,_=>exact(by decide:([1].map fun g=>(wJ ((2:Nat):Int) g).1).Nodup)
theorem yZ7 (j:Nat) (hj:j<3) {st:GStmt} {g:Int} (hg:g∈za5 (j:Int) st):(g= -1∨g=0∨g=1)/\(wJ j g).2=0/\ofS (wJ j g).1=((j:Int),g,0):=by
 match j,hj with
 |0,_=>
  have e:za5 ((0:Nat):Int) st=cutR (zr4 st) [0,1]:=rfl
  rw[e,yt8]at hg
  have:=(B9.1 hg).1
  simp at this
  rcases this with rfl|rfl
  .exact⟨.inr (.inl rfl),rfl,rfl⟩
  .exact⟨.inr (.inr rfl),rfl,rfl⟩
 |1,_=>
  have e:za5 ((1:Nat):Int) st= [-1]:=rfl
  rw[e]at hg
  simp at hg
  subst hg
  exact⟨.inl rfl,rfl,rfl⟩
 |2,_=>
  have e:za5 ((2:Nat):Int) st= [1]:=rfl
  rw[e]at hg
  simp at hg
  subst hg
  exact⟨.inr (.inr rfl),rfl,rfl⟩
theorem yx4 (j:Nat) (hj:j<3) (st:GStmt) (l:List Ln):((za5 (j:Int) st).flatMap fun g=>l.filter (inL (wJ j g).1 (zm0 tabsS j st).1 (zm0 tabsS j st).2)).Perm (l.filter (zn4 j st)):=
 zO3 (l:=l) (c:=fun x=> !Op.bytesLess x.k (zm0 tabsS j st).1&&Op.bytesLess x.k (zm0 tabsS j st).2) (rg:=fun g=>(wJ j g).1) (yQ6 j hj st)
theorem yP2 {j:Nat} {st:GStmt} {l m:List Ln} (hr:Rise (l.map Ln.at)) (hp:m.Perm (l.filter (zn4 j st))) (hs:m.Pairwise fun a b=> ¬ordP b.at a.at<0):m=l.filter (zn4 j st):=by
 refine xj0 (List.Pairwise.sublist ((C0).map _) hr) hp (hs.imp fun{a b} h=> ?_)
 rw[<-yx0]
 exact decide_eq_false h
def zz0 (l:List Wr):Prop:=l.Pairwise fun a b=>xA a.p b.p=true
theorem zS5 (l:List Wr) (x:Wr):(insW l x).Perm (x::l):=by
 unfold insW
 refine Du.trans (List.Perm.cons _ (List.Perm.of_eq ?_))
 exact Cm
theorem zV1 {x:Wr}: ∀{l:List Wr},zz0 l->(∀y∈l,y.p≠x.p)-> ∀y∈l.dropWhile (fun y=>xA y.p x.p),xA x.p y.p=true
 | [],_,_,y,hy=>by simp at hy
 |z::l,hr,hn,y,hy=>by
  rw[zz0,Cr]at hr
  rw[List.dropWhile_cons]at hy
  by_cases q:xA z.p x.p=true
  .rw[if_pos q]at hy
   exact zV1 hr.2 (fun y hy=>hn y (B5 _ hy)) y hy
  .rw[if_neg q]at hy
   have hz:xA x.p z.p=true:=by
    rcases zz8 z.p x.p with r|r|r
    .exact absurd r q
    .exact absurd r (hn z (Bb ..))
    .exact r
   rcases Ag.1 hy with rfl|hy
   .exact hz
   .exact zG3 hz (hr.1 _ hy)
theorem xe2 {l:List Wr} {x:Wr} (h:zz0 l) (hn: ∀y∈l,y.p≠x.p):zz0 (insW l x):=by
 have hd:=zV1 h hn
 have ht: ∀y∈l.takeWhile (fun y=>xA y.p x.p),xA y.p x.p=true:=zy6
 unfold zz0 at h
 rw[<-Cm (p:=fun y:Wr=>xA y.p x.p) (l:=l),De]at h
 unfold insW zz0
 rw[De,Cr]
 refine⟨h.1,⟨hd,h.2.1⟩,fun y hy z hz=> ?_⟩
 rcases Ag.1 hz with rfl|hz
 .exact ht y hy
 .exact h.2.2 y hy z hz
theorem xq1 {f:Ln->Wr} (hf: ∀x,(f x).p=x.at): ∀{m:List Ln} {l:List Wr},zz0 l->(l.map (·.p)++m.map Ln.at).Nodup->zz0 (m.foldl (fun l x=>insW l (f x)) l)/\(m.foldl (fun l x=>insW l (f x)) l).Perm (l++m.map f)
 | [],l,h,_=>⟨h,by simp⟩
 |x::m,l,h,hn=>by
  have hx: ∀y∈l,y.p≠(f x).p:=fun y hy e=>by
   rw[Df]at hn
   exact hn.2.2 y.p (Ac.2 ⟨y,hy,rfl⟩) x.at (by simp) (by rw[e,hf])
  have h2:((insW l (f x)).map (·.p)++m.map Ln.at).Nodup:=by
   have hp:((insW l (f x)).map (·.p)++m.map Ln.at).Perm (l.map (·.p)++(x::m).map Ln.at):=by
    refine(((zS5 l (f x)).map (·.p)).append_right _).trans ?_
    rw[Al,Al,hf]
    exact Du.symm
   exact hp.nodup_iff.2 hn
  obtain⟨h3,h4⟩:=xq1 hf (m:=m) (xe2 h hx) h2
  refine⟨h3,h4.trans ?_⟩
  refine((zS5 l (f x)).append_right _).trans ?_
  rw[Al]
  exact Du.symm
theorem yQ8 {l m:List Wr} (h:zz0 l) (g:zz0 m) (e: ∀x,x∈l↔x∈m):l=m:=by
 have nd: ∀{l:List Wr},zz0 l->l.Nodup:=fun h=>h.imp fun{a b} hab q=>by subst q;rw[zJ3]at hab;cases hab
 exact((List.perm_ext_iff_of_nodup (nd h) (nd g)).2 (fun x=>e x)).eq_of_pairwise (fun a b _ _ h g=>by rw[yf6 h]at g;cases g) h g
def isW (was now:List Ln) (w:Wr):Prop:=
 (w.drop=true/\w.data= []/\(∃x∈was,x.at=w.p)/\atF now w.p=false)∨(w.drop=false/\ ∃x∈now,x.at=w.p/\yL x.v=w.data/\ ∀y∈was,y.at=x.at->yL y.v≠yL x.v)
theorem yt7 {was now:List Ln} (hw:Rise (was.map Ln.at)) (hn:Rise (now.map Ln.at)):zz0 (chgF was now)/\ ∀w,w∈chgF was now↔isW was now w:=by
 obtain⟨h1,h2⟩:=xq1 (f:=fun x=>⟨x.at,true,[]⟩) (fun _=>rfl) (m:=was.filter fun x=> !atF now x.at) (l:= []) List.Pairwise.nil (by
  simp only[Br,Ce]
  exact List.Nodup.sublist ((C0).map _) hw.nodup)
 rw[Ce]at h2
 obtain⟨h3,h4⟩:=xq1 (f:=fun x=>⟨x.at,false,yL x.v⟩) (fun _=>rfl) (m:=now.filter fun x=> !(was.any fun y=>decide (y.at=x.at)&&decide (yL y.v=yL x.v))) h1 (by
  have hp:=(h2.map (·.p)).append_right ((now.filter fun x=> !(was.any fun y=>decide (y.at=x.at)&&decide (yL y.v=yL x.v))).map Ln.at)
  refine hp.nodup_iff.2 ?_
  rw[Bq,Df]
  refine⟨List.Nodup.sublist ((C0).map _) hw.nodup,List.Nodup.sublist ((C0).map _) hn.nodup,fun a ha b hb e=> ?_⟩
  obtain⟨x,hx,rfl⟩:=Ac.1 ha
  obtain⟨y,hy,rfl⟩:=Ac.1 hb
  have hx2:=(B9.1 hx).2
  have:atF now x.at=true:=atF_iff.2 (Ac.2 ⟨y,(B9.1 hy).1,e.symm⟩)
  rw[this]at hx2;cases hx2)
 refine⟨h3,fun w=> ?_⟩
 have h5:=(h4.trans (h2.append_right _)).mem_iff (a:=w)
 rw[B4,Ac,Ac]at h5
 refine h5.trans (or_congr ⟨?_, ?_⟩ ⟨?_, ?_⟩)
 .rintro⟨x,hx,rfl⟩
  obtain⟨hx1,hx2⟩:=B9.1 hx
  exact⟨rfl,rfl,⟨x,hx1,rfl⟩,by simpa using hx2⟩
 .rintro⟨e1,e2,⟨x,hx,e3⟩,e4⟩
  refine⟨x,B9.2 ⟨hx,by rw[e3,e4];rfl⟩, ?_⟩
  obtain⟨p,d,b⟩:=w
  simp only at e1 e2 e3
  rw[e1,e2,e3]
 .rintro⟨x,hx,rfl⟩
  obtain⟨hx1,hx2⟩:=B9.1 hx
  refine⟨rfl,x,hx1,rfl,rfl,fun y hy e1 e2=> ?_⟩
  have:(was.any fun y=>decide (y.at=x.at)&&decide (yL y.v=yL x.v))=true:=Da.2 ⟨y,hy,by simp[e1,e2]⟩
  rw[this]at hx2;cases hx2
 .rintro⟨e1,x,hx,e2,e3,e4⟩
  refine⟨x,B9.2 ⟨hx, ?_⟩, ?_⟩
  .cases q:was.any fun y=>decide (y.at=x.at)&&decide (yL y.v=yL x.v)with
   |false=>rfl
   |true=>
    obtain⟨y,hy,h⟩:=Da.1 q
    simp only[A4,decide_eq_true_eq]at h
    exact absurd h.2 (e4 y hy h.1)
  .obtain⟨p,d,b⟩:=w
   simp only at e1 e2 e3
   rw[e1,e2,e3]
def grpS (out:List (Int×List Wr)) (w:Wr):List (Int×List Wr):=
 match out.getLast? with
 |some q=>if q.1=w.p.1 then out.dropLast++ [(q.1,q.2++ [w])]else out++ [(w.p.1,[w])]
 |none=> [(w.p.1,[w])]
def grpF (l:List Wr):List (Int×List Wr):=l.foldl grpS []
theorem xQ6 {g:Int} (he:(ofS g).2.2=0): ∃(tn:Nat) (T:GTable),(ofS g).1=(tn:Int)/\tabsS[tn]? =some T:=by
 unfold ofS at he⊢
 split at he<;>rename_i q0
 .rw[if_pos q0];exact⟨0,_,rfl,rfl⟩
 .rw[if_neg q0]
  split at he<;>rename_i q1
  .rw[if_pos q1];exact⟨0,_,rfl,rfl⟩
  .rw[if_neg q1]
   split at he<;>rename_i q2
   .rw[if_pos q2];exact⟨1,_,rfl,rfl⟩
   .rw[if_neg q2]
    split at he<;>rename_i q3
    .rw[if_pos q3];exact⟨2,_,rfl,rfl⟩
    .exact absurd he (by decide)
def LnK (x:Ln):Prop:=zr6 x.r x.k (yL x.v)=true
theorem yI5 {p:Pl} {data:List UInt8} (h:zr6 p.1 p.2 data=true):LnOk ⟨p.1,p.2,(rowF tabsS (ofS p.1).1 data).1⟩/\yL (rowF tabsS (ofS p.1).1 data).1=data:=by
 unfold zr6 at h
 simp only[A4,decide_eq_true_eq]at h
 obtain⟨h1,h2,h3⟩:=h
 obtain⟨tn,T,htn,hT⟩:=xQ6 h1
 have hgd:tabsS.getD tn noT=T:=by rw[A5,hT];rfl
 have hok:=xa1 tn data
 rw[htn]at h2 h3⊢
 rw[Ax,hgd]at h3
 have hk:=zY7 tn T hT (rowF tabsS tn data).1 (by rw[h3])
 rw[h3]at hk
 refine⟨⟨⟨tn,T,htn,hT,hk.1⟩,h1,hok.2⟩, ?_⟩
 obtain⟨hl,hTx⟩:=A1.1 hT
 unfold rowF at h2⊢
 rw[dif_pos ⟨by omega,by omega⟩]at h2⊢
 exact yR0 h2
theorem yf0 {α:Type} {p q:Pl} {v:α} (h:q≠p): ∀{W:List (Pl×α)},idxW p (W++ [(q,v)])=idxW p W
 | []=>by simp[idxW,h]
 |e::W=>by
  rw[Bo,idxW,idxW,yf0 h]
theorem yE1 {α:Type} {p q:Pl} {v:α}: ∀{W:List (Pl×α)} {i:Nat} {u:α},idxW p W=some (i,u)->(idxW q (W.set i (p,v))).map (·.2)=if q=p then some v else(idxW q W).map (·.2)
 | [],i,u,h=>by simp[idxW]at h
 |e::W,i,u,h=>by
  rw[idxW]at h
  by_cases c:e.1=p
  .rw[if_pos c]at h
   simp only[Option.some.injEq,Prod.mk.injEq]at h
   obtain⟨rfl,rfl⟩:=h
   rw[D9,idxW,idxW]
   by_cases d:q=p
   .subst d;simp
   .rw[if_neg (fun x=>d x.symm),if_neg (fun x:e.1=q=>d (x.symm.trans c)),if_neg d]
  .rw[if_neg c,B6]at h
   obtain⟨⟨j,w⟩,h1,h2⟩:=h
   simp only[Prod.mk.injEq]at h2
   obtain⟨rfl,rfl⟩:=h2
   rw[C6,idxW,idxW]
   by_cases d:e.1=q
   .rw[if_pos d,if_pos d,if_neg (fun x=>c (d.trans x))]
   .rw[if_neg d,if_neg d,Option.map_map,Option.map_map]
    exact yE1 h1
theorem yu6 {α:Type} (m:Mp α) (p q:Pl) (v:α):(m.put p v).get q=if q=p then some v else m.get q:=by
 unfold Mp.get Mp.put Mp.at
 cases h:idxW p m.W with
 |none=>
  simp only
  by_cases d:q=p
  .subst d
   rw[zw8 h,if_pos rfl];rfl
  .rw[yf0 (fun x=>d x.symm),if_neg d]
 |some w=>exact yE1 (i:=w.1) (u:=w.2) h
theorem get_isNone {α:Type} {m:Mp α} {p:Pl}:m.get p=none↔m.at p=none:=by
 unfold Mp.get
 rw[Option.map_eq_none_iff]
def zw9 (s:List (Pl×List UInt8)×List Ln) (q:Pl×List UInt8):List (Pl×List UInt8)×List Ln:=
 if(s.1.any fun e=>e.1==q.1)=true then s else(s.1++ [q],if zr6 q.1.1 q.1.2 q.2=true then zR0 s.2 ⟨q.1.1,q.1.2,(rowF tabsS (ofS q.1.1).1 q.2).1⟩else s.2)
structure TkI (n:Nat) (s:List (Pl×List UInt8)×List Ln) (m:M3):Prop where
 same:m.1=m.2.1
 now:NowOk m.2.1 s.2
 sn:m.2.2.ok
 seen: ∀p,m.2.2.get p=none↔(s.1.any fun e=>e.1==p)=false
 cnt: ∀p v,m.2.2.get p=some v->1<=v/\v<=n
 lines: ∀x∈s.2,LnK x/\(x.at,yL x.v)∈s.1
 rows: ∀q∈s.1,zr6 q.1.1 q.1.2 q.2=true-> ∃x∈s.2,x.at=q.1/\yL x.v=q.2
 len:s.2.length<=n
theorem TkI.step {n:Nat} {s:List (Pl×List UInt8)×List Ln} {m:M3} (h:TkI n s m) (q:Pl×List UInt8):TkI (n+1) (zw9 s q) (zW7 q.1 q.2 m):=by
 obtain⟨p,data⟩:=q
 obtain⟨a,b,c⟩:=m
 obtain⟨se,out⟩:=s
 obtain⟨h1,h2,h3,h4,h6,h5,h7,h8⟩:=h
 simp only at h1 h2 h3 h4 h5 h6 h7 h8
 subst h1
 have hput: ∀w:Int,1<=w->w<=(n:Int)+1-> ∀q v,(c.put p w).get q=some v->1<=v/\v<=((n+1:Nat):Int):=fun w hw1 hw2 q v hv=>by
  rw[yu6]at hv
  split at hv
  .cases hv;omega
  .have:=h6 q v hv;omega
 unfold zw9 zW7
 simp only
 cases hs:se.any fun e=>e.1==p with
 |true=>
  have hc:c.get p≠none:=fun e=>by rw[(h4 p).1 e]at hs;cases hs
  obtain⟨v,hv⟩:=Option.ne_none_iff_exists'.1 hc
  have hcp:cntP c p=v:=by unfold cntP;rw[hv];rfl
  have hv1:=h6 p v hv
  rw[if_pos rfl,if_neg (fun e=>by rw[hcp]at e;omega),hcp]
  refine⟨rfl,h2,Mp.put_ok h3 _ _,fun q=> ?_,hput _ (by omega) (by omega),h5,h7,by show out.length<=_;omega⟩
  rw[yu6]
  split
  .rename_i e;subst e;simp[hs]
  .exact h4 q
 |false=>
  have hg:=(h4 p).2 hs
  have hcp:cntP c p=0:=by unfold cntP;rw[hg];rfl
  have hseen: ∀q,(c.put p (0+1)).get q=none↔((se++ [(p,data)]).any fun e=>e.1==q)=false:=fun q=>by
   rw[yu6,List.any_append]
   split
   .rename_i e;subst e;simp
   .rename_i e
    have e':((p,data).1==q)=false:=beq_eq_false_iff_ne.2 fun x=>e x.symm
    rw[h4 q];simp[e']
  rw[if_neg (by simp),hcp]
  by_cases hr:zr6 p.1 p.2 data=true
  .rw[if_pos hr,if_pos ⟨rfl,hr⟩]
   obtain⟨hl,hd⟩:=yI5 hr
   have ha:atF out p=false:=by
    cases e:atF out p with
    |false=>rfl
    |true=>
     obtain⟨x,hx,hxp⟩:=Ac.1 (atF_iff.1 e)
     have:(se.any fun e=>e.1==p)=true:=Da.2 ⟨_,(h5 x hx).2,by simp[hxp]⟩
     rw[this]at hs;cases hs
   have hn:=h2.ins hl ha
   rw[show(Ln.mk p.1 p.2 (rowF tabsS (ofS p.1).1 data).1).at=p from rfl,hd]at hn
   refine⟨rfl,hn,Mp.put_ok h3 _ _,hseen,hput _ (by omega) (by omega),fun x hx=> ?_,fun q hq hrq=> ?_, ?_⟩
   .rcases Ag.1 ((zh7 _ _).mem_iff.1 hx)with rfl|hx
    .refine⟨?_,List.mem_append_right _ (Cq.2 ?_)⟩
     .show zr6 p.1 p.2 (yL _)=true
      rw[hd];exact hr
     .show(p,yL _)=(p,data)
      rw[hd]
    .exact⟨(h5 x hx).1,Dd _ (h5 x hx).2⟩
   .rcases B4.1 hq with hq|hq
    .obtain⟨x,hx,hx2⟩:=h7 q hq hrq
     exact⟨x,(zh7 _ _).mem_iff.2 (B5 _ hx),hx2⟩
    .rw[Cq]at hq
     subst hq
     exact⟨_,(zh7 _ _).mem_iff.2 (Bb ..),rfl,hd⟩
   .rw[(zh7 _ _).length_eq]
    show out.length+1<=n+1
    omega
  .rw[if_neg hr,if_neg (fun e=>hr e.2)]
   refine⟨rfl,h2,Mp.put_ok h3 _ _,hseen,hput _ (by omega) (by omega),fun x hx=>⟨(h5 x hx).1,Dd _ (h5 x hx).2⟩,fun q hq hrq=> ?_,by show out.length<=_;omega⟩
   rcases B4.1 hq with hq|hq
   .exact h7 q hq hrq
   .rw[Cq]at hq
    subst hq
    exact absurd hrq hr
theorem xM5:TkI 0 ([],[]) (mp0 _,mp0 _,mp0 _):=by
 refine⟨rfl,⟨xt1 _,List.Pairwise.nil,List.Perm.nil,fun x hx=>(by cases hx)⟩,xt1 _,fun p=> ?_,fun p v h=> ?_,fun x hx=>(by cases hx),fun x hx=>(by cases hx),A2 _⟩
 .exact⟨fun _=>rfl,fun _=>rfl⟩
 .cases h
end Go.Proofs.YtkigddpaonhmlaaGreat
