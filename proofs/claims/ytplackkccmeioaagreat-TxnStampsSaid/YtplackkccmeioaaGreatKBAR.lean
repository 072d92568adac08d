/-
  A transaction in plain Lean, its runs, its attempts, and what a reply does to it; the walks of txn show that the program computes this.
  Conditions: none; definitions and what follows from them at once.
-/
import Derived.Test.YtplackkccmeioaaGreatKBAQ
import Derived.Test.YtplackkccmeioaaGreatKBAO
import Derived.Test.YtplackkccmeioaaGreatKBAH
import Derived.Test.YtplackkccmeioaaGreatKBAN
import Derived.Test.YtplackkccmeioaaGreatKBAE
set_option maxHeartbeats 8000000
namespace Go.Proofs.YtplackkccmeioaaGreat
open Go Go.Vx R Go.Proofs.Tryz
set_option maxRecDepth 100000
variable {b:Mp ahP}{l:List Ln}{a:Mp ahP}{sn:Mp Int}{st:bW}{I:St}{T:bL}{tn:Nat}{cK:dR}{P:Program}{c:Ctx}{x:Ln}{k:Nat}{n0:Kp}{f:FuncId}{bY:List V}{cc:List V}{KV:V->St->Prop}{m:List Ln}{w:Wr}{r:Int}{C:List Wr}
@[go_sem] theorem AA {nt:Nat} {d:Option Tmp} {K:KT} {e:Env} {x k:Operand} {t1 t2:TypeId}:eJ P c nt n0 4 d (.call ⟨.builtin .delete, #[x,k], #[t1,t2]⟩) K fx fx e I=eG P c nt d (.call ⟨.builtin .delete, #[x,k], #[t1,t2]⟩) K fx fx e I:=LU sm sm sm
theorem xP4 (k:Nat) {args:List V} {fb:St} {R:V->St->Prop} (hc:bN P f cc fb R) (hb:xF P f) (hk:I.take k=fb) (hl:fb.length=k) (cN:fb.all (bT k))
  (aa:bP (cP (cH (List.range k) I.length)) cc (args++bY)) (hR: ∀r s,R r s-> ∃s0 ex,s=s0++ex/\s0.length=k/\s0.all (bT k)=true/\ex.all (bT 0))
  (hK: ∀r s0 ex,R r (s0++ex)->s0.length=k->KV (dF (cH (List.range k) I.length) r) (s0++I.drop k++ex)):iZ P c (.fn f bY) args I KV fx:=by
 have ab:k<=I.length:=by grind
 refine VC.of hc hb (List.range k) Bc (by grind) (λi j o h1 h2=> ?_) aa λr s h _=> ?_
 .obtain⟨h3,h4⟩:=A3.1 h1
  simp at h3 h4
  subst h4
  have ho:bT k o:=by
   grind
  rw[yW (n:=k) (by grind[pS]) ho]
  grind
 .obtain⟨s0,ex,rfl,h1,h2,h3⟩:=hR r s h
  have e:xB (List.range k) I (s0++ex)=s0++I.drop k++ex:=by
   have e0:=Qi ab h1 h2
   have ed:(s0++ex).drop (List.range k).length=ex:=by grind
   have et:(s0++ex).take (List.range k).length=s0.take (List.range k).length:=by grind
   have e2:(s0.drop (List.range k).length).map (yE (cH (List.range k) I.length))= []:=by
    grind
   have e3:ex.map (yE (cH (List.range k) I.length))=ex:=wE (λo h=>yW (n:=0) om h) h3
   unfold xB at e0⊢
   grind
  grind
theorem wm4 (i:Nat) {o o2:Ob} {args:List V} {v:V} (hc:bN P f cc [o] (λr s=>r=v/\s= [o2])) (hb:xF P f) (ho:I[i]? =some o) (cN:bT 0 o) (ab:bT 0 o2)
  (aa:bP (cP (cH [i] I.length)) cc (args++bY)) (hK:KV (dF (cH [i] I.length) v) (I.set i o2)):pf P c n0 4 (.fn f bY) args I KV fx:=by
 refine Qc hc hb [i] sm rfl (λa j x h1 h2=> ?_) aa ?_
 .have e:a=0:=by
   grind
  subst e
  have e1:x=o:=by grind
  have e2:j=i:=by grind
  subst e1;subst e2
  rw[yW (n:=0) om cN]
  exact ho
 .have e:xB [i] I [o2]=I.set i o2:=by
   simp only[xB,Br,Cr,ahJ,Dr,Bj,Ai,Bh,fO,Ax]
   rw[yW (n:=0) om ab]
  grind
theorem xZ9: ∀n,4<=n->(df a b sn++([.cj (m.map Ln.row) 3]:St)).all (bT n)=true:=λn h=>by
 rw[E3,wA n om a b sn]
 simp[bT,cQ,cL,Ln.row]
structure oS (st:bW):Prop where
 ok:kO st
 vok:Ks st
 jn:0<=yU st.table
 items:st.kind=1->st.items≠ []
 cD:st.kind=3-> ∀x∈st.cD,0<=cR (bO.getD (yU st.table).toNat dS) x.name
theorem OG {tn:Nat} {T:bL} (hT:bO[tn]? =some T) {st:bW} (ab:kO st): ∀{m:List Ln} {b:Mp ahP} {l:List Ln},cI b l->(∀x∈m,il l x.at=true/\fB x/\(fT x.r).1=(tn:Int))->(fM T st.cD m l).2=0->cI (mq T st.cD m b) (fM T st.cD m l).1
 | [],_,_,hn,_,_=>hn
 |x::m,b,l,hn,hm,h0=>by
  obtain⟨ad,aa,ae⟩:=hm x sm
  rw[fM]at h0⊢
  rw[mq]
  obtain⟨E,hE⟩:=eX (gp T x.v st.cD x.v)
  rw[hE]at h0⊢
  by_cases q:E.2=0
  rotate_left
  .grind
  rw[ahf om]at h0
  rw[ahf om,ahf (show ¬E.2≠0 from λh=>h q)]
  by_cases q2:eS T.ca E.1=0
  rotate_left
  .grind
  rw[ahf om]at h0
  rw[ahf om,ahf om]
  have af: ∀v∈E.1,v.ok:=by
   have h1:=KH (T:=T) aa.ok (cD:=st.cD) (row:=x.v) (λy hy=>(ab.cD.2 y hy).2) aa.ok
   grind
  refine OG hT ab (hn.HO x.at E.1 ad ⟨⟨tn,T,ae,hT,q2⟩,aa.err,af⟩) (λy hy=> ?_) h0
  grind[Up]
def wq (n:Nat) (e:Int):V:= .cy [.agg (Ot.row (if e≠0 then⟨0,[]⟩else⟨n,[]⟩)),.int .i64 e]
theorem KR (h3:tn<3) (h:lg tn st x):(fT x.r).1=(tn:Int):=by
 unfold lg at h
 rw[Ab,Cd]at h
 grind[Uz]
theorem wa6 (hT:bO[tn]? =some T) (hx:fB x) (aa:(fT x.r).1=(tn:Int)):x.v.length=T.ca.length:=by
 obtain⟨ab,T',h1,h2,h3⟩:=hx.jn
 grind[uL]
theorem UX {T:bL} {st:bW}: ∀{l acc:List Ln},(tE T st acc l).1.length<=acc.length+l.length
 | [],_=>A7 _
 |x::l,acc=>by
  rw[tE]
  split
  .simp
  .refine B1 UX ?_
   split<;>simp<;>omega
theorem UY {t:Int}:(fy t T st l).1.length<=l.length:=by
 grind[fy,UX]
theorem xV3 {N:Nat} (h4:I.take 4=df a b sn) (cG:I[k]? =some (.cj (m.map Ln.row) 3)) (i j:Nat) (o:Ob) (ab: [0,1,2,3,k][i]? =some j) (ho:(df a b sn++([.cj (m.map Ln.row) 3]:St))[i]? =some o):I[j]? =some (yE (cH [0,1,2,3,k] N) o):=by
 by_cases q:i<4
 .have e:j=i:=by
   match i,q with
   |0,_=>grind
   |1,_=>grind
   |2,_=>grind
   |3,_=>grind
  subst e
  have h1:(df a b sn)[j]? =some o:=by rw[Au (by exact q)]at ho;exact ho
  have aa:bT 4 o:=Am.1 (by grind[wA]) o (Bk h1)
  rw[yW (n:=4) (λx hx=> ?_) aa]
  .grind
  .rw[wQ (by grind)]
   match x,hx with
   |0,_=>rfl
   |1,_=>rfl
   |2,_=>rfl
   |3,_=>rfl
 .have e:i=4:=by
   grind
  subst e
  have e1:o= .cj (m.map Ln.row) 3:=by grind
  have e2:j=k:=by grind
  subst e1;subst e2
  rw[yW (n:=0) om (by grind[bT,cQ,cL,Ln.row])]
  omega
theorem xu3 {o0 o1 o2 o3 o4 o5 o6:Ob}:xB [0,1,2,3,6] [o0,o1,o2,o3,o4,o5,o6] (df a b sn++([.cj (m.map Ln.row) 3]:St))= [a.ob .str,b.ob .str,sn.ob (V.int .i64),fH,o4,o5,.cj (m.map Ln.row) 3]:=by
 have e:(df a b sn++([.cj (m.map Ln.row) 3]:St)).map (yE (cH [0,1,2,3,6] 7))=df a b sn++([.cj (m.map Ln.row) 3]:St):=
  wE (λo h=>yW (n:=4) dC h) (by grind[xZ9])
 unfold xB
 rw[Aa (by simp[df]),Bn (by simp[df])]
 show fO _ _ (List.map (yE (cH [0,1,2,3,6] 7)) _)++_=_
 rw[e]
 rfl
def OH (a:Mp ahP) (sn:Mp Int) (D:Ot×List Ln×Int) (r:V) (s:St):Prop:=
 ∃b',s=df a b' sn/\r= .cy [.agg D.1.row,.int .i64 D.2.2]/\(D.2.2=0->cI b' D.2.1)
theorem xC2 {p:Pl} {w:Nat×ahP} (h:b.at p=some w):Ob.mp ((gn V.str b.W).take (2*w.1)++(gn V.str b.W).drop (2*w.1+2)) (b.bs.eraseIdx w.1) b.cS=(b.del p).ob V.str:=by
 show Ob.mp (xq (gn V.str b.W) w.1) _ _=_
 unfold Mp.del Mp.ob
 rw[h]
 have:=(A3.1 (wi (W:=b.W) (i:=w.1) (v:=w.2) h)).1
 grind[T3]
theorem xC3 {p:Pl} (h:b.at p=none):b.del p=b:=by
 grind[Mp.del]
theorem Eb {D:Ot×List Ln×Int} {Il:St} {g:Tag} (o:Ot) (e:Int) (h1:D.1=o) (h2:D.2.2=e) (h3:e=0->cI b D.2.1):
  cw (some (.cy [.agg [.sl g (o.rows.map λr=> [.sl .ro (r.map bK.row)]),.int .i64 o.count],.int .i64 e])) 4 (OH a sn D) (a.ob .str::b.ob .str::sn.ob (V.int .i64):: .box [.sl .ro xJ,.sl .ro (bO.map bL.row),.mp 0,.mp 1,.mp 2]::Il):=
 yX 4 (s:=df a b sn) (r:= .cy [.agg (Ot.row o),.int .i64 e]) rfl rfl (by grind[wA]) om (yZ ⟨wT ⟨zW,zF rfl,tV⟩,xZ rfl,tV⟩) ⟨b,rfl,by grind,(by grind)⟩
theorem xw4 (st:bW) (ad:oS st) (a b:Mp ahP) (sn:Mp Int) (l:List Ln) (ab:cI b l) (hl:l.length<=10000):
  bN prog 59 [.ptr 3 0,.agg st.row] (df a b sn) (OH a sn (jr st l)):=by
 obtain⟨tn,a1⟩: ∃tn:Nat,yU st.table=tn:=⟨(yU st.table).toNat,by have:=ad.jn;omega⟩
 have aE:tn<3:=by
  have h:=DO (λT:bL=>T.name==st.table) bO 0
  have h2:bO.length=3:=rfl
  grind[yU]
 obtain⟨T,hT⟩: ∃T,bO[tn]? =some T:=⟨_,A0 (show tn<bO.length from aE)⟩
 obtain⟨a6,a7⟩:=A3.1 hT
 have aF:bO.getD (yU st.table).toNat dS=T:=by grind
 have ae:=ad.cD
 rw[aF]at ae
 have af:=NI bO st.table dC
 have aG:iy (λt:bL=>t.name==st.table) bO 0=tn:=a1
 rw[aG]at af
 have ah:=yS8 tn T hT st ad.ok a b sn l ab
 have ai:=wp5 tn T hT st ad.ok ad.vok a b sn l ab hl
 obtain⟨D,hD⟩:=eX (jr st l)
 rw[hD]
 have aa:=hD
 unfold jr at aa
 simp only[a1,Az]at aa
 rw[show bO.getD tn dS=T by grind]at aa
 refine iV 4 func59 ntmps59 results59 λc hc hb=> ?_
 refine zN (zA ?_)
 simp[go_sem,df,fH]
 refine zN (zA ?_)
 simp[go_sem]
 refine yL [(6,0)] 6 rfl (by rfl) kR ?_
 simp[go_sem]
 refine pD af ?_
 simp[go_sem]
 have aj:=λb':Mp ahP=>wA 4 dC a b' sn
 by_cases k2:st.kind=2
 .rw[ahg k2]at aa
  have aq:(st.kind==2)=true:=by grind
  obtain⟨uU,hI⟩:=eX (fG tn T st.rows l)
  rw[hI]at aa ah
  refine zA ?_
  simp[go_sem,aq]
  refine uh 4 ah cB rfl rfl (aj b) (rk (n:=4) rfl) (λr s h=> ?_) (λr s h=> ?_)
  .obtain⟨b',rfl,h⟩:=h
   refine⟨rfl,aj b', ?_⟩
   rcases h with ⟨_,rfl⟩|⟨_,rfl,_⟩
   all_goals rfl
  .obtain⟨b',rfl,h⟩:=h
   rcases h with ⟨h0,rfl⟩|⟨h0,rfl,hn⟩
   .rw[ahg h0]at aa
    simp[go_sem,df,fH,Ot.row]
    exact Eb ⟨0,[]⟩ uU.2 (by grind) (by grind) om
   .rw[ahf om]at aa
    simp[go_sem,df,fH,Ot.row]
    exact Eb ⟨st.rows.length,[]⟩ 0 (by grind) (by grind) (by grind)
 have aq:(st.kind==2)=false:=by grind
 rw[ahf k2]at aa
 clear ah
 obtain⟨⟨m,me⟩,hM⟩: ∃M,fy tn T st l=M:=⟨_,rfl⟩
 rw[hM]at aa ai
 simp only at aa
 refine zN (zA ?_)
 simp[go_sem,aq]
 refine zN (zA ?_)
 simp[go_sem]
 refine xP4 4 ai cB rfl rfl (aj b) (rk (n:=4) rfl) (λr s h=> ?_) (λr s0 ex h h4=> ?_)
 .rcases h with ⟨_,rfl,_⟩|⟨_,rfl,_⟩
  .exact⟨_,[],(by rfl),rfl,aj b,rfl⟩
  .exact⟨_,_,rfl,rfl,aj b,by simp[bT,cQ,cL,Ln.row]⟩
 rcases h with ⟨m0,hs,rfl⟩|⟨m0,hs,rfl⟩
 .have ar:=List.append_inj (hs.trans (Ax _).symm) (by simpa)
  obtain⟨rfl,rfl⟩:=ar
  have m0:me≠0:=m0
  have aH:(me !=0)=true:=by grind
  rw[ahg m0]at aa
  simp[go_sem,df,fH]
  refine zN (zA ?_)
  simp[go_sem,aH]
  exact Eb ⟨0,[]⟩ me (by grind) (by grind) om
 .have ar:=List.append_inj hs (by simpa)
  obtain⟨rfl,rfl⟩:=ar
  have m0:me=0:=m0
  rw[ahf om]at aa
  subst m0
  have er:cH [0,1,2,3] 6 4=6:=rfl
  have a8:m.length<=10000:=by grind[UY]
  have al: ∀x∈m,x∈l/\(lg tn st x):=(by grind[KI])
  simp[go_sem,df,fH,er]
  refine zN (zA ?_)
  simp[go_sem]
  refine zN (zN (zA ?_))
  simp[go_sem]
  refine y4 (zN (zA ?_))
  simp[go_sem]
  by_cases k1:st.kind=1
  .have au:(st.kind==1)=true:=by grind
   rw[ahg k1]at aa
   have av:=yA8 tn T hT st ad.ok (ad.items k1) m a8 (λx hx=>⟨ab.rows x (al x hx).1,wa6 hT (ab.rows x (al x hx).1) (by grind[KR])⟩)
   obtain⟨M,aI⟩:=eX (lj T st m)
   rw[aI]at av aa
   obtain⟨C,hC⟩:=eX (H3 T st m)
   rw[hC]at av
   refine zA ?_
   simp[go_sem,au]
   refine mV [(10,4)] 6 sm (by rfl) kR ?_
   simp[go_sem,a6,a7]
   refine wm4 6 av cB rfl (by grind[bT,cQ,cL,Ln.row]) (by grind[bT,cQ,cL,Ln.row]) ⟨zC rfl,zC rfl,.inl rfl,tV⟩ ?_
   simp[go_sem,oR,Ot.row]
   exact Eb M.1 M.2 (by grind) (by grind) (by grind)
  have au:(st.kind==1)=false:=by grind
  rw[ahf k1]at aa
  refine zA ?_
  simp[go_sem,au]
  by_cases k3:st.kind=3
  .have aw:(st.kind==3)=true:=by grind
   rw[ahg k3]at aa
   have aA: ∀x∈m,il l x.at=true/\fB x/\(fT x.r).1=(tn:Int):=λx hx=>⟨fV.2 (by grind),ab.rows x (al x hx).1,(by grind[KR])⟩
   have ax:=xP1 tn T hT st ad.ok (ae k3) a b sn l m ab aA a8
   have aJ:=OG hT ad.ok ab aA
   obtain⟨uJ,hU⟩:=eX (fM T st.cD m l)
   obtain⟨B,hB⟩:=eX (mq T st.cD m b)
   rw[hU,hB]at ax aJ
   rw[hU]at aa
   have aB:=ax.mono (R':=λr s=>r=wq m.length uJ.2/\s=df a B sn++ [.cj (m.map Ln.row) 3]) (λr s h=>by
    obtain⟨h1,h2⟩:=h
    refine⟨?_,h1⟩
    unfold wq
    grind)
   clear ax
   simp[go_sem,aw]
   refine mV [(11,4)] 5 sm (by rfl) kR ?_
   simp[go_sem,a6,a7]
   refine Qc aB cB [0,1,2,3,6] dC rfl (xV3 rfl rfl) ⟨.inl rfl,zC rfl,zC rfl,.inl rfl,tV⟩ ?_
   rw[xu3]
   by_cases u0:uJ.2=0
   .rw[ahf om]at aa
    simp[go_sem,wq,Ot.row,u0]
    exact Eb ⟨m.length,[]⟩ 0 (by grind) (by grind) (by grind)
   .rw[ahg u0]at aa
    simp[go_sem,wq,Ot.row,u0]
    exact Eb ⟨0,[]⟩ uJ.2 (by grind) (by grind) om
  .have aw:(st.kind==3)=false:=by grind
   rw[ahf k3]at aa
   have ay: ∀(b':Mp ahP),([a.ob .str,b'.ob .str,sn.ob (V.int .i64),.box [.sl .ro xJ,.sl .ro (bO.map bL.row),.mp 0,.mp 1,.mp 2],.box st.row,.box dV,.cj (m.map Ln.row) 3]:St).all (bT 7)=true:=λb'=>by
    have h:=wA 7 om a b' sn
    simp_all[df,bT,cQ,cL,bW.row,Ln.row,dV]
   have hG: ∀(b':Mp ahP) (l':List Ln) (Il:St),cI b' l'->iq m l=l'->cw (some (.cy [.agg [.sl .full [],.int .i64 m.length],.int .i64 0])) 4 (OH a sn D) (a.ob .str::b'.ob .str::sn.ob (V.int .i64):: .box [.sl .ro xJ,.sl .ro (bO.map bL.row),.mp 0,.mp 1,.mp 2]::Il):=λb' l' Il h1 h2=>
    Eb ⟨m.length,[]⟩ 0 (by grind) (by grind) (by grind)
   generalize hQ:iq m l=Q at hG
   clear aa al ai hs
   simp[go_sem,aw]
   refine zN (zA ?_)
   simp[go_sem]
   refine zI (S:=Nat×Mp ahP×List Ln) [0,4,7,71,72,73] (λu=> [.ptr 3 0,.ptr 5 0,.cJ 6 3 m.length 0 m.length,.cJ 6 3 m.length 0 m.length,.int .i64 m.length,.int .i64 u.1])
    (λu=> [a.ob .str,u.2.1.ob .str,sn.ob (V.int .i64),.box [.sl .ro xJ,.sl .ro (bO.map bL.row),.mp 0,.mp 1,.mp 2],.box st.row,.box dV,.cj (m.map Ln.row) 3]) (λu=>m.length - u.1)
    (λu=>u.1<=m.length/\cI u.2.1 u.2.2/\iq (m.drop u.1) u.2.2=Q) hc hb (0,b,l) (by grind) ?_ ?_
   .exact cd 7 (by rfl) rfl (ay b) dC (zD (by rfl) rfl)
   rintro⟨i,b1,l1⟩ ⟨hi,az,an⟩
   simp only at hi az an
   by_cases q:i<m.length
   rotate_left
   .rw[A9 om,iq]at an
    refine zA ?_
    simp[go_sem,q,dV]
    refine zA ?_
    simp[go_sem]
    exact hG b1 l1 _ az an.symm
   have ei:=zQ q om
   obtain⟨x,hx⟩:=eX (m[i])
   rw[A5 q,hx,iq]at an
   have eB:b1.ob .str= .mp (gn .str b1.W) b1.bs b1.cS:=rfl
   have aC:=az.del x.at
   refine zA ?_
   simp[go_sem,q,hx]
   refine yL [] 8 rfl (by rfl) kR ?_
   simp[go_sem]
   cases ao:b1.at x.at with
   |none=>
    have ak:dO (x.r,x.k) b1.W=none:=ao
    rw[xC3 ao]at aC
    simp[go_sem,eB,oM,ak,kX,lz,ei]
    exact zH (i+1,b1,l1.filter λy=> !decide (y.at=x.at)) ⟨om,(by grind),cd 7 (by rfl) rfl (ay _) dC (zD (by rfl) rfl)⟩
   |some w=>
    have ak:dO (x.r,x.k) b1.W=some w:=ao
    have aD:=xC2 ao
    simp[go_sem,eB,oM,ak,kX,lz,aD,ei]
    exact zH (i+1,b1.del x.at,l1.filter λy=> !decide (y.at=x.at)) ⟨om,(by grind),cd 7 (by rfl) rfl (ay _) dC (zD (by rfl) rfl)⟩
def oT (p:Pl):List V:= [.int .i64 p.1,.str p.2]
def KS (w:Wr):List V:= [.str w.p.2,.bool w.drop,.str w.data]
def kL (q:Int×List Wr):List V:= [.int .i64 q.1,.sl .ro (q.2.map KS)]
def lp (q:Int×List Wr×Nat):List V:= [.int .i64 q.1,.sl (.app (q.2.2+8)) (q.2.1.map KS)]
def uR (N:List (Int×List Wr×Nat)):List (Int×List Wr):=N.map λq=>(q.1,q.2.1)
theorem xT3 (N:List (Int×List Wr×Nat)):iz (N.map lp) 0 N.length=(uR N).map kL:=by
 unfold iz uR
 rw[Bj,Aa sm,B9,B9]
 rfl
theorem wk9 (N:List (Int×List Wr×Nat)):xQ (N.map lp)=true:=by grind[xQ,lp,pc]
def UZ (N:List (Int×List Wr×Nat)) (τ:St) (i:Nat):Prop:= ∀O r C k,N=O++ [(r,C,k)]->τ[k]? =some (.app C.length 3)/\C.length<=i
theorem KU {U:Type} {g:U->V} {id:Nat} {rows:List (List V)} (hg: ∀v,fY id rows (g v)=g v): ∀W:List (Pl×U),(gn g W).map (fY id rows)=gn g W
 | []=>rfl
 |e::W=>by
  rw[gn,Ai,Ai,KU hg W,hg]
  rfl
theorem xU5 {id:Nat} {rows:List (List V)}:(df a b sn).map (mR id rows)=df a b sn:=by
 unfold df
 simp only[Ai,Bh,Mp.ob,mR]
 rw[KU (λ_=>rfl),KU (λ_=>rfl),KU (λ_=>rfl)]
 rfl
theorem tJ {n0:Nat} {keep:ahQ} {vs:List V} {s:St} {e:Env} (hs:I=s) (hn:n0<=I.length) (h:keep.map e=vs):At n0 keep vs s e I:=by
 subst hs
 exact yD hn h
theorem xF4 {O:List (Int×List Wr×Nat)} (h:w.p.1=r):gQ (uR (O++ [(r,C,k)])) w=uR (O++ [(r,C++ [w],k)]):=by
 grind[gQ,uR]
theorem xV2 {O:List (Int×List Wr×Nat)} {r0:Int} {k':Nat} (h:w.p.1=r) (hr: ¬r0=r):gQ (uR (O++ [(r0,C,k)])) w=uR ((O++ [(r0,C,k)])++ [(r,[w],k')]):=by
 unfold gQ uR
 grind
theorem OI {N:List (Int×List Wr×Nat)} {i:Nat} {τ:St} (h:τ[k]? =some (.app C.length 3)) (hl:C.length<=i):UZ (N++ [(r,C,k)]) τ i:=λO r' C' k' e=>by
 simp_all
theorem xs7 (a:Mp ahP) (D:List (Pl×ahP)) (e:Pl×ahP):iG a (D++ [e])=if H2 a e=true then iG a D++ [e.1]else iG a D:=by
 unfold iG
 grind
theorem xs8 (b:Mp ahP) (D:List (Pl×ahP)) (e:Pl×ahP):iv b (D++ [e])=if FW b e=true then iv b D++ [e.1]else iv b D:=by
 unfold iv
 grind
theorem xW0 (a:Mp ahP) (D:List (Pl×ahP)):(iG a D).length<=D.length:=by
 grind[iG]
theorem xW1 (a:Mp ahP) (D:List (Pl×ahP)):(iv a D).length<=D.length:=by
 grind[iv]
theorem gP.le {U:Type} {seen:ahQ} {W:List (Pl×U)} {bs:ahQ} {D:List (Pl×U)} (h:gP seen W bs D):D.length<=W.length:=by
 have:=h.length_eq
 grind
theorem wl1 (a b:Mp ahP) (sn:Mp Int) (ar now:List Ln) (ha:cI a ar) (hn:cI b now) (aQ:ar.length<=10000) (aR:now.length<=10000):
  bN prog 60 [.ptr 3 0] (df a b sn) (λr s=>r= .sl .ro ((ml (iF ar now)).map kL)/\s=df a b sn):=by
 have eA:a.ob .str= .mp (gn .str a.W) a.bs a.cS:=rfl
 have eB:b.ob .str= .mp (gn .str b.W) b.bs b.cS:=rfl
 have aS:a.W.length<=10000:=by have:=ha.perm.length_eq;grind
 have aT:b.W.length<=10000:=by have:=hn.perm.length_eq;grind
 have aG: ∀x∈b.bs,x<b.cS:=hn.ok.lt
 have has: ∀x∈a.bs,x<a.cS:=ha.ok.lt
 have ak: ∀(L:List Pl) (se:ahQ),([a.ob .str,b.ob .str,sn.ob (V.int .i64),.box [.sl .ro xJ,.sl .ro (bO.map bL.row),.mp 0,.mp 1,.mp 2],.cj (L.map oT) 2,.it (some 1) b.cS se b.cS]:St).all (bT 6)=true:=λL se=>by
  have h:=wA 6 om a b sn
  simp_all[df,bT,cQ,cL,oT]
 refine iV 4 func60 ntmps60 results60 λc hc hb=> ?_
 refine zN (zA ?_)
 simp[go_sem,df,fH]
 refine zN (zA ?_)
 simp[go_sem]
 refine Fb 3 2 dC (by rfl) ?_
 refine zN (zA ?_)
 simp[go_sem,eB]
 refine zI (S:=ahQ×List (Pl×ahP)) [0,3,21] (λu=> [.ptr 3 0,.cJ 4 2 (iG a u.2).length 0 (iG a u.2).length,.ptr 5 0])
   (λu=> [a.ob .str,b.ob .str,sn.ob (V.int .i64),.box [.sl .ro xJ,.sl .ro (bO.map bL.row),.mp 0,.mp 1,.mp 2],.cj ((iG a u.2).map oT) 2,.it (some 1) b.cS u.1 b.cS]) (λu=>(jL u.1 b.W b.bs).length)
   (λu=>gP u.1 b.W b.bs u.2) hc hb ([],[]) (gP.start hn.ok.len) ?_ ?_
 have k0:iG a []= []:=rfl
 .exact cd 6 (by rfl) rfl (ak _ _) dC (zD (by rfl) rfl)
 .rintro⟨se,D⟩ hD
  simp only at hD
  refine y5 22 dC ?_
  refine zA ?_
  simp[go_sem,eB]
  have a6:=hD.le
  have a7:=xW0 a D
  refine Ou (b:=b) (i:=5) (id:=1) (seen:=se) (cS:=b.cS) (by simp[mO]) rfl rfl aG (λhL=> ?_) (λp hp=> ?_)
  .have af:=hD.done hL
   obtain⟨K1,a8⟩:=eX (iG a D)
   have ay:K1.Perm (iG a b.W):=by rw[<-a8];exact(af.filter _).map _
   have aB:K1.length<=10000:=by grind
   rw[a8]
   clear a8 af hL a7 a6 hD
   have au: ∀(L:List Pl) (aC:ahQ),([a.ob .str,b.ob .str,sn.ob (V.int .i64),.box [.sl .ro xJ,.sl .ro (bO.map bL.row),.mp 0,.mp 1,.mp 2],.cj (L.map oT) 2,.it (some 1) b.cS se b.cS,.it (some 0) a.cS aC a.cS]:St).all (bT 7)=true:=λL aC=>by
    have h:=wA 7 om a b sn
    simp_all[df,bT,cQ,cL,oT]
   simp[go_sem]
   refine zN (zA ?_)
   simp[go_sem,eA]
   have k0:iv b []= []:=rfl
   refine zI (S:=ahQ×List (Pl×ahP)) [0,3,51] (λu=> [.ptr 3 0,.cJ 4 2 (K1++iv b u.2).length 0 (K1++iv b u.2).length,.ptr 6 0])
     (λu=> [a.ob .str,b.ob .str,sn.ob (V.int .i64),.box [.sl .ro xJ,.sl .ro (bO.map bL.row),.mp 0,.mp 1,.mp 2],.cj ((K1++iv b u.2).map oT) 2,.it (some 1) b.cS se b.cS,.it (some 0) a.cS u.1 a.cS]) (λu=>(jL u.1 a.W a.bs).length)
     (λu=>gP u.1 a.W a.bs u.2) hc hb ([],[]) (gP.start ha.ok.len) ?_ ?_
   .exact cd 7 (by grind) rfl (au _ _) dC (zD (by simp[go_sem,k0]) rfl)
   rintro⟨aj,D⟩ hD
   simp only at hD
   refine y5 52 dC ?_
   refine zA ?_
   simp[go_sem,eA]
   have a6:=hD.le
   have a7:=xW1 b D
   refine Ou (b:=a) (i:=6) (id:=0) (seen:=aj) (cS:=a.cS) (by simp[mO]) rfl rfl has (λhL=> ?_) (λp hp=> ?_)
   .have af:=hD.done hL
    obtain⟨K2,av⟩:=eX (K1++iv b D)
    have az:K2.Perm (iG a b.W++iv b a.W):=by rw[<-av];exact ay.append ((af.filter _).map _)
    have aD:K2.length<=20000:=by grind
    have al:(K1++iv b D).map oT=K2.map oT:=by rw[av]
    have an:(K1++iv b D).length=K2.length:=by rw[av]
    rw[C3]at al
    rw[Ap]at an
    clear av af hL a7 a6 hD aB ay k0 ak au
    simp[go_sem,al,an]
    refine zN (zA ?_)
    simp[go_sem]
    refine Rb Tryz.DW rfl cB dC Tryz.oP Tryz.qK cB Uq Ur (f:=oT) (kx:=λp=>p) (λx=>⟨_,rfl,rfl⟩) K2 rfl om (λL aw aE=> ?_)
    have a1:=xB6 ha hn (aw.symm.trans az) aE
    have aU:L.length<=20000:=by rw[<-aw.length_eq];omega
    rw[aw.length_eq]
    clear aw aE az aD an al
    simp[go_sem]
    refine zN (zA ?_)
    simp[go_sem]
    refine Fb 11 2 dC (by rfl) ?_
    refine zN (zA ?_)
    simp[go_sem]
    obtain⟨G,hG⟩:=eX (ml (iF ar now))
    rw[hG]
    have aH:(L.map (pB b)).foldl gQ (uR [])=G:=by rw[a1];exact hG
    clear a1 hG
    refine zI (S:=Nat×List (Int×List Wr×Nat)×St) [0,11,73,74,75] (λu=> [.ptr 3 0,.cJ 7 2 u.2.1.length 0 u.2.1.length,.cJ 4 2 L.length 0 L.length,.int .i64 L.length,.int .i64 u.1])
      (λu=> [a.ob .str,b.ob .str,sn.ob (V.int .i64),.box [.sl .ro xJ,.sl .ro (bO.map bL.row),.mp 0,.mp 1,.mp 2],.cj (L.map oT) 2,.it (some 1) b.cS se b.cS,.it (some 0) a.cS aj a.cS,.cj (u.2.1.map lp) 2]++u.2.2) (λu=>L.length - u.1)
      (λu=>u.1<=L.length/\u.2.1.length<=u.1/\UZ u.2.1 u.2.2 u.1/\((L.map (pB b)).drop u.1).foldl gQ (uR u.2.1)=G) hc hb (0,[],[]) ⟨om,sm,λO r C k h=>by simp_all,aH⟩ ?_ ?_
    .exact yD sm (by rfl)
    rintro⟨i,N,τ⟩ ⟨hi,aI,aF,ab⟩
    simp only at hi aI aF ab
    by_cases q:i<L.length
    rotate_left
    .rw[A9 (by grind),List.foldl_nil]at ab
     refine zA ?_
     simp[go_sem,q]
     refine zA ?_
     simp[go_sem]
     refine LM 7 2 (N.map lp) rfl (wk9 N) ?_
     simp only[fZ,fY,gi,fP,Ag,Ad,A7,and_self,aho,xT3,ab]
     refine yX 4 (s:=df a b sn) (r:= .sl .ro (G.map kL)) ?_ rfl (by grind[wA]) om zK (by trivial)
     exact xU5
    have ei:=zQ q om
    obtain⟨⟨pr,pk⟩,hp⟩: ∃p,L[i]=p:=⟨_,rfl⟩
    rw[A5 (by grind),Bt,D0,hp]at ab
    refine zN (zA ?_)
    simp[go_sem,q]
    refine zN (zA ?_)
    simp[go_sem]
    refine zN (y4 (zN (zA ?_)))
    simp[go_sem,q,hp,oT]
    refine nI (S:=Bool×ahP) [0,11,13,14,15,73,74,75] (λu=> [.ptr 3 0,.cJ 7 2 N.length 0 N.length,.ptr (τ.length+8) 0,.str u.2,.bool (!u.1),.cJ 4 2 L.length 0 L.length,.int .i64 L.length,.int .i64 i])
      (λu=> [a.ob .str,b.ob .str,sn.ob (V.int .i64),.box [.sl .ro xJ,.sl .ro (bO.map bL.row),.mp 0,.mp 1,.mp 2],.cj (L.map oT) 2,.it (some 1) b.cS se b.cS,.it (some 0) a.cS aj a.cS,.cj (N.map lp) 2]++(τ++ [.box [.int .i64 pr,.str pk]]))
      (λu=>pB b (pr,pk)=⟨(pr,pk),u.1,u.2⟩) hc hb ?_ ?_
    .refine yL [] (τ.length+9) sm (by rfl) kR ?_
     simp[go_sem,eB]
     cases ah:b.at (pr,pk)with
     |none=>
      have aa:dO (pr,pk) b.W=none:=ah
      have hw:pB b (pr,pk)=⟨(pr,pk),true,[]⟩:=by grind[pB,Mp.get]
      simp[go_sem,oM,aa,kX,lz]
      exact zH (true,[]) ⟨hw,yD sm (by rfl)⟩
     |some w=>
      have aa:dO (pr,pk) b.W=some w:=ah
      have hw:pB b (pr,pk)=⟨(pr,pk),false,w.2⟩:=by grind[pB,Mp.get]
      simp[go_sem,oM,aa,kX,lz]
      exact zH (false,w.2) ⟨hw,yD sm (by rfl)⟩
    rintro⟨dr,ax⟩ hw
    simp only at hw
    rw[hw]at ab
    rcases List.eq_nil_or_concat N with hN|⟨O,⟨r0,C,k⟩,hN⟩
    .subst hN
     refine zN (zN ?_)
     refine yL [] (τ.length+9) sm (by rfl) kR ?_
     simp[go_sem]
     refine Jh (b:=true) (by rfl) (λ_=> ?_) (λh=>by cases h)
     refine Rh 4 rfl rfl rfl ?_
     simp[go_sem,Cl]
     refine zJ (zY rfl) ?_
     simp[go_sem]
     refine zN (zA ?_)
     simp[go_sem]
     refine mV [(4,2),(6,2),(12,3),(15,4)] 6 sm (by rfl) kR ?_
     simp[go_sem]
     refine zJ ⟨(λr hr=>by cases hr),zY rfl⟩ ?_
     simp[go_sem]
     refine zA ?_
     simp[go_sem,ei]
     exact zH (i+1,[(pr,[⟨(pr,pk),dr,ax⟩],τ.length+1)],τ++ [.box [.int .i64 pr,.str pk],.app 1 3]) ⟨om,⟨q,sm,OI (N:= []) sm sm,ab⟩,tJ (by rfl) sm (by rfl)⟩
    rw[List.concat_eq_append]at hN
    subst hN
    obtain⟨hk,hC⟩:=aF O r0 C k rfl
    have aV:=(A3.1 hk).1
    have aW:O.length+1<=i:=by grind
    have z0:((O.length:Int)+1==0)=false:=by rfl
    have es:IntKind.i64.wrap (O.length:Int)=O.length:=(by grind[bX])
    have aJ:IntKind.i64.wrap ((O.length:Int)+1)=((O.length+1:Nat):Int):=by grind[bX]
    by_cases hr:r0=pr
    .subst hr
     refine zN (zN ?_)
     refine yL [] (τ.length+9) sm (by rfl) kR ?_
     simp[go_sem,lp,z0,es]
     refine zJ om ?_
     simp[go_sem]
     refine zA ?_
     simp[go_sem]
     refine zN (zA ?_)
     simp[go_sem,es]
     refine zJ om ?_
     simp[go_sem]
     refine mV [(4,2),(6,2),(12,3),(15,4)] 6 sm (by rfl) kR ?_
     have aK:(τ++ [Ob.box [.int .i64 r0,.str pk]])[k]? =some (.app C.length 3):=by grind
     have aL: ∀o,(τ++ [Ob.box [.int .i64 r0,.str pk]]).set k o=τ.set k o++ [Ob.box [.int .i64 r0,.str pk]]:=(by grind)
     simp[go_sem,aK,aL]
     refine zJ ⟨om,zY rfl⟩ ?_
     simp[go_sem]
     refine zA ?_
     simp[go_sem,ei]
     exact zH (i+1,O++ [(r0,C++ [⟨(r0,pk),dr,ax⟩],k)],τ.set k (.app (C.length+1) 3)++ [.box [.int .i64 r0,.str pk]]) ⟨om,⟨q,by grind,(by grind[OI]),by rw[xF4 (r:=r0) (w:=⟨(r0,pk),dr,ax⟩) rfl]at ab;omega⟩,tJ (by simp[lp,KS]) sm sg⟩
    .have aP:(r0 !=pr)=true:=by grind
     refine zN (zN ?_)
     refine yL [] (τ.length+9) sm (by rfl) kR ?_
     simp[go_sem,lp,z0,es]
     refine zJ om ?_
     simp[go_sem,aP]
     refine Jh (b:=true) (by rfl) (λ_=> ?_) (λh=>by cases h)
     refine Rh 4 rfl rfl rfl ?_
     simp[go_sem,Cl]
     refine zJ ⟨zY rfl,om⟩ ?_
     simp[go_sem]
     refine zN (zA ?_)
     simp[go_sem,aJ]
     refine zJ om ?_
     simp[go_sem]
     refine mV [(4,2),(6,2),(12,3),(15,4)] 6 sm (by rfl) kR ?_
     simp[go_sem]
     refine zJ ⟨(λr hr=>by cases hr),zY rfl⟩ ?_
     simp[go_sem]
     refine zA ?_
     simp[go_sem,ei]
     exact zH (i+1,(O++ [(r0,C,k)])++ [(pr,[⟨(pr,pk),dr,ax⟩],τ.length+1)],τ++ [.box [.int .i64 pr,.str pk],.app 1 3]) ⟨om,⟨q,by grind,(by grind[OI]),by rw[xV2 (k':=τ.length+1) rfl hr]at ab;omega⟩,tJ (by grind[lp,KS]) sm sg⟩
   .have ao:=KJ (g:=V.str) ha.ok.nd (KL hp)
    have ai:=hD.next ha.ok.nd hp
    have aq:=(KK ha.ok.nd hp).length_eq
    obtain⟨⟨⟨pr,pk⟩,data⟩,dZ⟩:=p
    simp only[gO]at ao ai aq
    have ad:(jL (aj++ [dZ]) a.W a.bs).length<(jL aj a.W a.bs).length:=by grind
    clear aq hp
    have ae:=xs8 b D ((pr,pk),data)
    have aA:FW b ((pr,pk),data)=((b.at (pr,pk)).map (·.2)).isNone:=rfl
    simp[go_sem,gO,pL,ao]
    refine yL [] 8 rfl (by rfl) kR ?_
    simp[go_sem,eB]
    cases ah:b.at (pr,pk)with
    |none=>
     have aa:dO (pr,pk) b.W=none:=ah
     rw[ahg (by grind)]at ae
     simp[go_sem,oM,aa,kX,lz,Cl]
     refine zJ ⟨zY rfl,om⟩ ?_
     simp[go_sem]
     exact zH (aj++ [dZ],D++ [((pr,pk),data)]) ⟨ad,ai,cd 7 (by grind[oT]) rfl (au _ _) dC (zD (by simp[go_sem,ae,Dv]) rfl)⟩
    |some w=>
     have aa:dO (pr,pk) b.W=some w:=ah
     rw[ah]at aA
     rw[ahf (by grind)]at ae
     simp[go_sem,oM,aa,kX,lz]
     exact zH (aj++ [dZ],D++ [((pr,pk),data)]) ⟨ad,ai,cd 7 (by grind) rfl (au _ _) dC (zD (by simp[go_sem,ae]) rfl)⟩
  .have ao:=KJ (g:=V.str) hn.ok.nd (KL hp)
   have ai:=hD.next hn.ok.nd hp
   have aq:=(KK hn.ok.nd hp).length_eq
   obtain⟨⟨⟨pr,pk⟩,data⟩,dZ⟩:=p
   simp only[gO]at ao ai aq
   have ad:(jL (se++ [dZ]) b.W b.bs).length<(jL se b.W b.bs).length:=by grind
   clear aq hp
   have ae:=xs7 a D ((pr,pk),data)
   have aA:H2 a ((pr,pk),data)=((a.at (pr,pk)).map (·.2) !=some data):=rfl
   simp[go_sem,gO,pL,ao]
   refine yL [] 7 rfl (by rfl) kR ?_
   simp[go_sem,eA]
   cases ah:a.at (pr,pk)with
   |none=>
    have aa:dO (pr,pk) a.W=none:=ah
    rw[ahg (by grind)]at ae
    simp[go_sem,oM,aa,kX,lz,Cl]
    refine zJ ⟨zY rfl,om⟩ ?_
    simp[go_sem]
    exact zH (se++ [dZ],D++ [((pr,pk),data)]) ⟨ad,ai,cd 6 (by simp[go_sem,ae,oT,eA];rfl) rfl (ak _ _) dC (zD (by simp[go_sem,ae]) rfl)⟩
   |some w=>
    have aa:dO (pr,pk) a.W=some w:=ah
    rw[ah]at aA
    by_cases q:w.2=data
    .have q':(w.2==data)=true:=by grind
     rw[ahf (by grind)]at ae
     simp[go_sem,oM,aa,kX,lz,q']
     exact zH (se++ [dZ],D++ [((pr,pk),data)]) ⟨ad,ai,cd 6 (by grind) rfl (ak _ _) dC (zD (by simp[go_sem,ae]) rfl)⟩
    .have q':(w.2==data)=false:=by grind
     rw[ahg (by grind)]at ae
     simp[go_sem,oM,aa,kX,lz,q',Cl]
     refine zJ ⟨zY rfl,om⟩ ?_
     simp[go_sem]
     exact zH (se++ [dZ],D++ [((pr,pk),data)]) ⟨ad,ai,cd 6 (by simp[go_sem,ae,oT,eA];rfl) rfl (ak _ _) dC (zD (by simp[go_sem,ae]) rfl)⟩
theorem U0 {T:bL}: ∀{l p:List cm},nQ T p l=0-> ∀x∈l,0<=cR T x.name
 | [],_,_,x,hx=>by cases hx
 |y::l,p,h,x,hx=>by
  rw[nQ]at h
  by_cases q1:cR T y.name<0
  .omega
  rw[ahf q1]at h
  by_cases q2:cR T y.name=T.key\/(cR T y.name=0/\T.place=0)
  .omega
  rw[ahf q2]at h
  by_cases q3:(p.any λz=>z.name==y.name)=true
  .grind
  rw[ahf q3]at h
  by_cases q4:oI T y.e (kG T (cR T y.name))≠0
  .omega
  rw[ahf q4]at h
  rcases Af.1 hx with rfl|hx
  .omega
  .exact U0 h x hx
theorem OJ {mode:Int}: ∀{l:List bW} {i:Nat},(DR mode l i).2=0-> ∀z∈l,qF z=0
 | [],_,_,z,h=>by cases h
 |y::l,i,h,z,hx=>by
  rw[DR]at h
  by_cases q1:mode≠0/\y.kind≠1
  .grind
  rw[ahf q1]at h
  by_cases q2:qF y≠0
  .grind
  rw[ahf q2]at h
  rcases Af.1 hx with rfl|hx
  .simpa using q2
  .exact OJ h z hx
theorem H4 (hl:ki cK) (h:(mF cK).2=0): ∀st∈cK.stmts,oS st:=by
 unfold mF at h
 by_cases q:mg cK=true
 rotate_left
 .grind
 rw[ahg q]at h
 intro st aa
 have hc:=OJ h st aa
 have ab:=hl.stmts.2 st aa
 have hm:jZ st:=by
  simp_all[mg]
 unfold qF at hc
 have ad:=Hz st.table
 have hT: ∃T,bO[(yU st.table).toNat]? =some T:=by
  grind
 obtain⟨T,hT⟩:=hT
 rw[hT]at hc
 simp only at hc
 have h0:0<=yU st.table:=by
  omega
 rw[ahf om]at hc
 refine⟨ab,TN ab.cE.dU,h0,λk1=> ?_,λk3=> ?_⟩
 .unfold jZ at hm
  rw[Ab,Ab]at hm
  have hb:=hm.2.2
  unfold NL at hb
  rw[ahg k1,Ab]at hb
  intro he
  rw[he]at hb
  exact absurd hb.1 dC
 .rw[Ae,hT]
  rw[ahf om,ahf om,ahg k3]at hc
  by_cases q:nQ T [] st.cD≠0
  .omega
  .exact U0 (sU q)
theorem xy4 (l:List Ln) (x:Ln):(tD l x).length=l.length+1:=(uN l x).length_eq
theorem U1 {t:Nat} {T:bL}: ∀{rs:List (List bJ)} {l:List Ln},(fG t T rs l).1.length<=l.length+rs.length
 | [],l=>by grind[fG]
 |r::rs,l=>by
  rw[fG]
  split
  .simp
  split
  .simp
  split
  .simp
  refine B1 U1 ?_
  rw[xy4,Ak];omega
theorem U3 {T:bL} {cD:List cm}: ∀{m l:List Ln},(fM T cD m l).1.length<=l.length
 | [],l=>A7 _
 |x::m,l=>by
  rw[fM]
  split
  .simp
  split
  .simp
  refine B1 U3 ?_
  simp[im]
theorem U4: ∀{m l:List Ln},(iq m l).length<=l.length
 | [],l=>A7 _
 |x::m,l=>by
  rw[iq]
  exact B1 U4 (ahA _ _)
theorem OK:(jr st l).2.1.length<=l.length+st.rows.length:=by
 grind[jr,U1,U3,U4]
abbrev Vw:=Nat×List (ahP×ahP)
def OL (q:ahP×ahP):List V:= [.str q.1,.str q.2]
def tK (x:Vw):List V:= [.int .i64 x.1,.sl .ro (x.2.map OL)]
def tL (g:Nat) (l:List (ahP×ahP)):List (Pl×ahP):=l.map λq=>(((g:Int),q.1),q.2)
def jM (vs:List Vw):List (Pl×ahP):=vs.flatMap λx=>tL x.1 x.2
def lq (vs:List Vw):List Ln:=((jM vs).foldl uQ ([],[])).2
theorem yR3 (x:Vw) (vs:List Vw):jM (x::vs)=tL x.1 x.2++jM vs:=by rfl
theorem nW.tM {n:Nat} {s:List (Pl×ahP)×List Ln} (h:nW n s (a,b,sn)) (p:Pl) (h0:sn.at p=none):a.at p=none/\b.at p=none:=by
 have h1:=(h.seen p).1 (kK.2 h0)
 have hb:b.at p=none:=by
  rw[h.now.gG]
  cases e:il s.2 p with
  |false=>rfl
  |true=>
   obtain⟨x,hx,aa⟩:=Ac.1 (fV.1 e)
   have:(s.1.any λe=>e.1==p)=true:=Cd.2 ⟨_,(h.lines x hx).2,by grind⟩
   grind
 exact⟨by rw[show a=b from h.same];exact hb,hb⟩
theorem nW.pos {n:Nat} {s:List (Pl×ahP)×List Ln} (h:nW n s (a,b,sn)) (hn:n<=1000000) (p:Pl) (i:Nat) (v:Int) (h0:sn.at p=some (i,v)):1<=v/\v<=1000000:=by
 have:=h.Oh p v (by show(sn.at p).map (·.2)=some v;grind)
 omega
theorem xP7 (k:Nat) {args:List V} {fb:St} {v:V} (hc:bN P f cc fb (λr s=>r=v/\s=fb)) (hb:xF P f) (hk:I.take k=fb) (hl:fb.length=k) (cN:fb.all (bT k)) (hv:iL k v)
  (hn: ∀i,i<k->n0.has i) (aa: ∀N,bP (cP (cH (List.range k) N)) cc (args++bY)) (hK:KV v I):pf P c n0 1 (.fn f bY) args I KV fx:=by
 refine⟨v,I, ?_,λ_=>rfl,λ_=>gI.refl,A7 _,hK⟩
 rw[ahf dC,ahg rfl]
 intro s hs
 have ab:s.take k=fb:=by
  rw[<-hk]
  refine Bg λi=> ?_
  rw[An,An]
  by_cases q:i<k
  .rw[ahg q,ahg q];exact Kp.get (hn i q) hs
  .rw[ahf q,ahf q]
 refine uh (P:=P) (c:=c) (KV:=λr s'=>r=v/\s'=s) k hc hb ab hl cN (aa _) ?_ ?_
 .rintro r s' ⟨rfl,rfl⟩
  exact⟨hl,cN,hv⟩
 .rintro r s' ⟨rfl,rfl⟩
  exact⟨rfl,by rw[<-ab];exact B6 k s⟩
theorem OM (n:Nat) (h:3<=n) {τ:St} (hR:τ.all (bT n)):(df a b sn++τ).all (bT n)=true:=by
 rw[E3,wA n h,hR];rfl
def qN (x:Int×Int×List Ot):List V:= [.int .i64 x.1,.int .i64 x.2.1,.sl .ro (x.2.2.map Ot.row)]
def wu (cK:dR) (px:List Ln):V:= .cy [.agg (qN (ff cK px).1),.sl .ro ((if(ff cK px).1.1≠0 then []else ml (iF px (ff cK px).2)).map kL)]
def lr:Ob:= .box [.sl .ro xJ,.sl .ro (bO.map bL.row)]
theorem U5 (cK:dR) (hl:ki cK) (vs:List Vw) (aE:vs.length<=100000) (hv: ∀x∈vs,x.1<1000/\x.2.length<=100000/\ ∀q∈x.2,q.2.length<=du) (hN:(jM vs).length<=7500):
  Pure prog 24 [dG bO,.agg cK.row,.sl .ro (vs.map tK)] (wu cK (lq vs)):=by
 have ad:=Tl cK hl
 obtain⟨aF,aw⟩:=hl.stmts
 have aj:=H4 hl
 obtain⟨⟨ci,cr⟩,hP⟩: ∃P,mF cK=P:=⟨_,rfl⟩
 rw[hP]at ad aj
 generalize hM:wu cK (lq vs)=M
 unfold wu ff at hM
 rw[hP]at hM
 simp only at hM aj
 refine iV 0 func24 ntmps24 results24 λc hc hb=> ?_
 refine zN (zA ?_)
 simp[go_sem,dG]
 refine zN (zA ?_)
 simp[go_sem]
 refine zL ad cB (zO (by simp[go_sem,dG]) rfl) rfl ?_
 simp[go_sem,wF]
 by_cases c0:cr=0
 rotate_left
 .have au:(cr !=0)=true:=sU c0
  rw[ahg c0]at hM
  simp[go_sem,au]
  have aG:M= .cy [.agg [.int .i64 cr,.int .i64 ci,.sl .ro []],.sl .ro []]:=by rw[<-hM];simp[c0,qN]
  exact zX (r:=M) (by rw[aG];exact yZ ⟨wT ⟨zF rfl,zF rfl,zW,tV⟩,vF,tV⟩) ⟨rfl,rfl⟩
 have au:(cr !=0)=false:=sU c0
 rw[ahf (λh=>h c0)]at hM
 simp[go_sem,au]
 refine nI (S:=Unit) [2,4,6,10] (λ_=> [.sl .ro (vs.map tK),.ptr 5 0,.ptr 6 0,.ptr 3 0]) (λ_=>qI (uM _,uM _,uM _)++ [lr,.box cK.row,.box [.int .i64 0,.int .i64 0,.sl .full []]]) (λ_=>True) hc hb ?_ ?_
 .refine zA ?_
  simp[go_sem]
  exact zH () ⟨tV,CA [3,4,5,6,0,1,2] dC rfl ⟨rfl,rfl,rfl,rfl,rfl,rfl,rfl,tV⟩ ⟨zC rfl,.inl rfl,.inl rfl,.inl rfl,tV⟩⟩
 rintro _ _
 have ax:=hl
 obtain⟨Q,hQ⟩:=eX ((jM vs).foldl uQ ([],[]))
 have ay:lq vs=Q.2:=by unfold lq;rw[hQ]
 rw[ay]at hM
 clear ay
 refine zN (zA ?_)
 simp[go_sem]
 refine zI (S:=Nat×Nat×(List (Pl×ahP)×List Ln)×M3) [4,6,10,36,37,38] (λu=> [.ptr 5 0,.ptr 6 0,.ptr 3 0,.sl .ro (vs.map tK),.int .i64 vs.length,.int .i64 u.1])
  (λu=>qI u.2.2.2++ [lr,.box cK.row,.box [.int .i64 0,.int .i64 0,.sl .full []]]) (λu=>vs.length - u.1)
  (λu=>u.1<=vs.length/\nW u.2.1 u.2.2.1 u.2.2.2/\u.2.1+(jM (vs.drop u.1)).length=(jM vs).length/\(jM (vs.drop u.1)).foldl uQ u.2.2.1=Q) hc hb (0,0,([],[]),(uM _,uM _,uM _)) ⟨A4 _,UF,sm,hQ⟩ ?_ ?_
 .exact yD sm sg
 rintro⟨i,n,s,a,b,sn⟩ ⟨hi,hT,hn,aa⟩
 simp only at hi hT hn aa
 by_cases q:i<vs.length
 .have ei:=zQ q om
  obtain⟨⟨g,ps⟩,hx⟩: ∃x,vs[i]=x:=⟨_,rfl⟩
  obtain⟨hg,az,a6⟩:=hv (g,ps) (hx▸A8 q)
  simp only at hg az a6
  rw[A5 q,hx,yR3]at hn aa
  rw[D2]at aa
  rw[Ap]at hn
  refine zA ?_
  simp[go_sem,qI,df,fH,lr,q,hx,tK]
  refine zI (S:=Nat×Nat×(List (Pl×ahP)×List Ln)×M3) [4,6,10,12,36,37,38,43,44,45] (λu=> [.ptr 5 0,.ptr 6 0,.ptr 3 0,.ptr 7 0,.sl .ro (vs.map tK),.int .i64 vs.length,.int .i64 i,.sl .ro (ps.map OL),.int .i64 ps.length,.int .i64 u.1])
   (λu=>qI u.2.2.2++ [lr,.box cK.row,.box [.int .i64 0,.int .i64 0,.sl .full []],.box (tK (g,ps))]) (λu=>ps.length - u.1)
   (λu=>u.1<=ps.length/\nW u.2.1 u.2.2.1 u.2.2.2/\u.2.1+((tL g (ps.drop u.1)).length+(jM (vs.drop (i+1))).length)=(jM vs).length/\(jM (vs.drop (i+1))).foldl uQ ((tL g (ps.drop u.1)).foldl uQ u.2.2.1)=Q) hc hb (0,n,s,a,b,sn) ⟨A4 _,hT,hn,aa⟩ ?_ ?_
  .exact tJ rfl sm sg
  rintro⟨j,n1,s1,a1,b1,ak⟩ ⟨hj,ae,al,ab⟩
  simp only at hj ae al ab
  by_cases qj:j<ps.length
  .have ej:=zQ qj om
   obtain⟨⟨k,d⟩,hp⟩: ∃x,ps[j]=x:=⟨_,rfl⟩
   have hd:=a6 (k,d) (hp▸A8 qj)
   simp only at hd
   have a7:tL g (ps.drop j)=(((g:Int),k),d)::tL g (ps.drop (j+1)):=by
    rw[A5 qj,hp];rfl
   rw[a7,Ak]at al
   rw[a7,Bt]at ab
   have ah:=wm0 g hg k d hd a1 b1 ak (by rw[show a1=b1 from ae.same];exact ae.now.ok) ae.now.ok ae.sn (ae.tM _) (ae.pos om _)
   have av:=ae.step (((g:Int),k),d)
   obtain⟨⟨a2,b2,a8⟩,aH⟩: ∃M3,zw ((g:Int),k) d (a1,b1,ak)=M3:=⟨_,rfl⟩
   simp only at av
   rw[aH]at ah av
   refine zA ?_
   simp[go_sem,qI,df,fH,lr,qj,hp,tK,OL]
   refine uh 4 ah cB rfl rfl (wA 4 dC a1 b1 ak) (rk (n:=4) rfl) ?_ ?_
   .rintro r s' ⟨rfl,rfl⟩
    exact⟨rfl,wA 4 dC a2 b2 a8,rfl⟩
   rintro r s' ⟨rfl,rfl⟩
   simp[go_sem,qI,df,fH,ej]
   exact zH (j+1,n1+1,uQ s1 (((g:Int),k),d),a2,b2,a8) ⟨by show ps.length - (j+1)<ps.length - j;omega,⟨qj,av,by show n1+1+((tL g (ps.drop (j+1))).length+(jM (vs.drop (i+1))).length)=(jM vs).length;omega,ab⟩,cd 8 (by rfl) rfl (OM 8 dC (by simp[bT,cQ,cL])) dC (zD sg rfl)⟩
  .have:j=ps.length:=om
   subst this
   rw[Ck]at al ab
   refine zA ?_
   simp[go_sem,qI,df,fH,lr,ei]
   exact zH (i+1,n1,s1,a1,b1,ak) ⟨by show vs.length - (i+1)<vs.length - i;omega,⟨q,ae,by show n1+(jM (vs.drop (i+1))).length=(jM vs).length;simp[tL]at al;omega,ab⟩,cd 7 (by rfl) rfl (OM 7 dC (by simp[bT,cQ,cL])) dC (zD sg rfl)⟩
 .have:i=vs.length:=om
  subst this
  rw[Ck]at hn aa
  have hs:s=Q:=aa
  subst hs
  have aU:n<=7500:=by simp[jM]at hn;simp[jM]at hN;omega
  have aI:a=b:=hT.same
  subst aI
  have ai:cI a s.2:=hT.now
  have aJ:s.2.length<=n:=hT.len
  obtain⟨af,an⟩:=eX s.2
  rw[an]at hM ai aJ
  clear hT hn aa hN an hv aE
  obtain⟨D,hD⟩:=eX (jF cK.stmts 0 [] af)
  rw[hD]at hM
  have aK:D.1.1≠0->M= .cy [.agg (qN D.1),.sl .ro []]:=λh=>by rw[<-hM];simp[h]
  have aL:D.1.1=0->M= .cy [.agg (qN D.1),.sl .ro ((ml (iF af D.2)).map kL)]:=λh=>by rw[<-hM];simp[h]
  have az:D.1.1=0\/D.1.1≠0:=om
  have ao:=aj c0
  clear hM aj ad hl ax
  obtain⟨lm,ln,L⟩:=cK
  simp only at aF aw hD ao
  refine zA ?_
  simp[go_sem,qI,df,fH,lr]
  refine CC 6 2 2 [.int .i64 0,.int .i64 0,.sl .full []] dC rfl rfl ?_
  refine zN (zA ?_)
  simp[go_sem]
  refine zI (S:=Nat×Mp ahP×List Ln×List Ot) [6,10,57,58,59] (λu=> [.ptr 6 0,.ptr 3 0,.sl .ro (L.map bW.row),.int .i64 L.length,.int .i64 u.1])
   (λu=>qI (a,u.2.1,sn)++ [lr,.box (dR.row ⟨lm,ln,L⟩),.box [.int .i64 0,.int .i64 0,.sl (.app 7) (u.2.2.2.map Ot.row)],.app u.2.2.2.length 2]) (λu=>L.length - u.1)
   (λu=>u.1<=L.length/\cI u.2.1 u.2.2.1/\u.2.2.2.length=u.1/\u.2.2.1.length<=7500+20*u.1/\jF (L.drop u.1) u.1 u.2.2.2 u.2.2.1=D) hc hb (0,a,af,[]) ⟨A4 _,ai,rfl,by show af.length<=7500+20*0;omega,hD⟩ ?_ ?_
  .exact tJ rfl sm sg
  rintro⟨i,b,l,outs⟩ ⟨hi,hn,aA,aP,aa⟩
  simp only at hi hn aA aP aa
  by_cases q:i<L.length
  rotate_left
  .rw[A9 om,jF]at aa
   refine zA ?_
   simp[go_sem,qI,df,fH,lr,q]
   have aq:=wl1 a b sn af l ai hn om om
   have aQ:D.2=l:=by rw[<-aa]
   have aB:D.1=(0,0,outs):=by rw[<-aa]
   have hM:=aL (by rw[aB])
   rw[aB,aQ]at hM
   obtain⟨PW,aR⟩:=eX (ml (iF af l))
   rw[aR]at aq hM
   refine zN ?_
   refine mV [(2,1)] 7 sm kR kR ?_
   simp[go_sem]
   refine xP7 4 aq cB rfl rfl (wA 4 dC a b sn) rfl (λi hi=>by simp[go_sem];omega) (λN=>rk (n:=4) rfl) ?_
   simp[go_sem]
   refine zA ?_
   simp[go_sem]
   exact zX (r:=M) (by rw[hM];exact yZ ⟨wT ⟨zF rfl,zF rfl,zW,tV⟩,vF,tV⟩) ⟨rfl,rfl⟩
  have ei:=zQ q om
  obtain⟨x,hx⟩:=eX (L[i])
  have aC:x∈L:=hx▸A8 q
  have ar:=xw4 x (ao x aC) a b sn l hn om
  have hlen:=OK (st:=x) (l:=l)
  have aT:=(aw x aC).rows.1
  rw[A5 q,hx,jF]at aa
  obtain⟨E,hE⟩:=eX (jr x l)
  rw[hE]at aa ar hlen
  refine zA ?_
  simp[go_sem,qI,df,fH,lr,q,hx]
  refine uh 4 ar cB rfl rfl (wA 4 dC a b sn) (rk (n:=4) rfl) ?_ ?_
  .rintro r s' ⟨b',rfl,rfl,_⟩
   exact⟨rfl,wA 4 dC a b' sn,rfl⟩
  rintro r s' ⟨b',rfl,rfl,aS⟩
  by_cases e0:E.2.2=0
  rotate_left
  .have aD:(E.2.2 !=0)=true:=sU e0
   rw[ahg e0]at aa
   have hM:=aK (by rw[<-aa];exact e0)
   simp[go_sem,df,fH,aD,Ot.row]
   exact zX (r:=M) (by rw[hM,<-aa];exact yZ ⟨wT ⟨zF rfl,zF rfl,zW,tV⟩,vF,tV⟩) ⟨rfl,rfl⟩
  have aD:(E.2.2 !=0)=false:=sU e0
  rw[ahf (λh=>h e0)]at aa
  simp[go_sem,df,fH,e0,Ot.row]
  refine zJ ⟨om,zY rfl⟩ ?_
  simp[go_sem,ei]
  exact zH (i+1,b',E.2.1,outs++ [E.1]) ⟨by show L.length - (i+1)<L.length - i;omega,⟨q,aS e0,by show(outs++ [E.1]).length=i+1;simp[aA],by show E.2.1.length<=7500+20*(i+1);omega,aa⟩,cd 8 (by simp[Ot.row]) rfl (OM 8 dC (by simp[bT,cQ,cL])) dC (zD sg rfl)⟩
theorem yR5 (h:(mF cK).2=0): ∀st∈cK.stmts,jZ st=true/\qF st=0:=by
 unfold mF at h
 by_cases q:mg cK=true
 rotate_left
 .grind
 rw[ahg q]at h
 intro st aa
 refine⟨?_,OJ h st aa⟩
 simp_all[mg]
theorem U6 {tn:Nat} {T:bL} (hT:bO[tn]? =some T): ∀{R:List (List bJ)} {b:Mp ahP} {l:List Ln},(∀r∈R,∀e∈r,ja e)->cI b l->(fG tn T R l).2=0-> ∃b',cI b' (fG tn T R l).1
 | [],b,l,_,hn,_=>⟨b,hn⟩
 |r::R,b,l,he,hn,h=>by
  rw[fG]at h⊢
  have ab:=KE r [] (he r (Av ..)) (λv hv=>by cases hv)
  by_cases q1:(dw dS [] r []).2≠0
  .grind
  rw[ahf q1]at h⊢
  obtain⟨_,ad⟩:=ab om
  have aa:=KF tn T hT (dw dS [] r []).1
  by_cases q2:(ef tn T (dw dS [] r []).1).2.2≠0
  .grind
  rw[ahf q2]at h⊢
  obtain⟨af,ah,ae⟩:=aa om
  by_cases q3:il l ((ef tn T (dw dS [] r []).1).1,(ef tn T (dw dS [] r []).1).2.1)=true
  .grind
  rw[ahf q3]at h⊢
  exact U6 hT (by grind) (hn.ins (x:=⟨(ef tn T (dw dS [] r []).1).1,(ef tn T (dw dS [] r []).1).2.1,(dw dS [] r []).1⟩) ⟨(by grind),ae,ad⟩ (Bool.eq_false_iff.2 q3)) h
theorem U7: ∀{m:List Ln} {b:Mp ahP} {l:List Ln},cI b l-> ∃b',cI b' (iq m l)
 | [],b,_,hn=>⟨b,hn⟩
 |x::m,b,l,hn=>by
  rw[iq]
  exact U7 (hn.del x.at)
theorem ON (aa:oS st) (hn:cI b l) (h:(jr st l).2.2=0): ∃b',cI b' (jr st l).2.1:=by
 obtain⟨tn,ad⟩: ∃tn:Nat,yU st.table=tn:=⟨(yU st.table).toNat,by have:=aa.jn;omega⟩
 have ab:tn<3:=by
  have h:=DO (λT:bL=>T.name==st.table) bO 0
  have h2:bO.length=3:=rfl
  grind[yU]
 obtain⟨T,hT⟩: ∃T,bO[tn]? =some T:=⟨_,A0 (show tn<bO.length from ab)⟩
 unfold jr at h⊢
 simp only[ad,Az]at h⊢
 rw[show bO.getD tn dS=T by grind]at h⊢
 by_cases k2:st.kind=2
 .rw[ahg k2]at h⊢
  by_cases q:(fG tn T st.rows l).2≠0
  .grind
  .rw[ahf q]
   exact U6 hT (λr hr=>(aa.ok.rows.2 r hr).2) hn om
 rw[ahf k2]at h⊢
 by_cases q:(fy tn T st l).2≠0
 .grind
 rw[ahf q]at h⊢
 by_cases k1:st.kind=1
 .grind
 rw[ahf k1]at h⊢
 by_cases k3:st.kind=3
 .rw[ahg k3]at h⊢
  by_cases q2:(fM T st.cD (fy tn T st l).1 l).2≠0
  .grind
  .rw[ahf q2]
   refine⟨_,OG hT aa.ok hn (λx hx=> ?_) om⟩
   obtain⟨h1,h2⟩:=KI x hx
   exact⟨fV.2 (by grind),hn.rows x h1,KR ab h2⟩
 .rw[ahf k3]
  exact U7 hn
theorem U8: ∀(tn:Nat) (T:bL),bO[tn]? =some T->tn=0->T.place=0:=by
 intro tn T h h0
 subst h0
 have e:bO[0]? =some T:=h
 exact(by decide: ∀T,bO[0]? =some T->T.place=0) T e
theorem xt0 (hT:bO[tn]? =some T) {row aa:List bK} (h1:eS T.ca row=0) (h2:eS T.ca aa=0) (hk:aa.getD T.key.toNat zeroV=row.getD T.key.toNat zeroV) (hp:T.place=0->aa.getD 0 zeroV=row.getD 0 zeroV):ef tn T aa=ef tn T row:=by
 have hr:wg tn aa=wg tn row:=by
  unfold wg
  by_cases h0:tn=0
  .rw[ahg h0,ahg h0,hp (by grind[U8])]
  omega
 unfold ef
 rw[ahf om,ahf (show ¬eS T.ca row≠0 from λh=>h h1),hr,hk]
 by_cases h0:tn=0
 .grind[U8]
 grind
theorem U9 (h:fB x) (aa:(fT x.r).1=(tn:Int)) (hT:bO[tn]? =some T) (hk:ef tn T x.v=(x.r,x.k,0)):zy x:=by
 unfold zy nU
 rw[h.read,aa,Az,show bO.getD tn dS=T by grind,hk,h.err]
 simp
theorem xW6 (h:fB x) (hK:zy x) (aa:(fT x.r).1=(tn:Int)) (hT:bO[tn]? =some T):ef tn T x.v=(x.r,x.k,0):=by
 unfold zy nU at hK
 rw[h.read,aa,Az,show bO.getD tn dS=T by grind]at hK
 grind
theorem xF5 {l:List bK} {i j:Nat} {v:bK} (h:i≠j):(l.set i v).getD j zeroV=l.getD j zeroV:=by
 grind
theorem Va {T:bL} {nT:List bK} {c:Nat} (hc:(c:Int)=T.key\/((c:Int)=0/\T.place=0)): ∀{cD p:List cm} {row:List bK},nQ T p cD=0->(gp T nT cD row).2=0->(gp T nT cD row).1.getD c zeroV=row.getD c zeroV
 | [],_,row,_,_=>rfl
 |y::l,p,row,h,h2=>by
  rw[gp]at h2⊢
  by_cases q:(gh T nT y.e).2≠0
  .grind
  rw[ahf q]at h2⊢
  rw[nQ]at h
  by_cases q1:cR T y.name<0
  .omega
  rw[ahf q1]at h
  by_cases q2:cR T y.name=T.key\/(cR T y.name=0/\T.place=0)
  .omega
  rw[ahf q2]at h
  by_cases q3:(p.any λz=>z.name==y.name)=true
  .grind
  rw[ahf q3]at h
  by_cases q4:oI T y.e (kG T (cR T y.name))≠0
  .omega
  rw[ahf q4]at h
  rw[Va hc h h2]
  refine xF5 λe=>q2 ?_
  have e2:cR T y.name=(c:Int):=om
  rw[e2]
  exact hc
def oU (l:List Ln):Prop:= ∀x∈l,fB x/\zy x
theorem Vb {tn:Nat} {T:bL} (hT:bO[tn]? =some T): ∀{R:List (List bJ)} {l:List Ln},(∀r∈R,∀e∈r,ja e)->oU l->(fG tn T R l).2=0->oU (fG tn T R l).1
 | [],l,_,hn,_=>hn
 |r::R,l,he,hn,h=>by
  rw[fG]at h⊢
  have ab:=KE r [] (he r (Av ..)) (λv hv=>by cases hv)
  by_cases q1:(dw dS [] r []).2≠0
  .grind
  rw[ahf q1]at h⊢
  obtain⟨_,ad⟩:=ab om
  have aa:=KF tn T hT (dw dS [] r []).1
  obtain⟨⟨kr,kk,ke⟩,ae⟩: ∃ks,ef tn T (dw dS [] r []).1=ks:=⟨_,rfl⟩
  rw[ae]at h aa⊢
  simp only at h aa⊢
  by_cases q2:ke≠0
  .grind
  rw[ahf q2]at h⊢
  have af:ke=0:=om
  obtain⟨ai,aj,ah⟩:=aa af
  by_cases q3:il l (kr,kk)=true
  .grind
  rw[ahf q3]at h⊢
  have hx:fB ⟨kr,kk,(dw dS [] r []).1⟩:=⟨(by grind),ah,ad⟩
  refine Vb hT (by grind) (λz hz=> ?_) h
  rcases Af.1 ((uN l _).mem_iff.1 hz)with rfl|hz
  .grind[U9]
  .exact hn z hz
theorem Vc: ∀{m l:List Ln},oU l->oU (iq m l)
 | [],l,h=>h
 |x::m,l,h=>by
  rw[iq]
  exact Vc (λy hy=>h y (Bq.1 hy).1)
theorem Vd {tn:Nat} {T:bL} (hT:bO[tn]? =some T) {st:bW} (ad:kO st) (hc:nQ T [] st.cD=0): ∀{m l:List Ln},oU l->(∀x∈m,fB x/\zy x/\(fT x.r).1=(tn:Int))->(fM T st.cD m l).2=0->oU (fM T st.cD m l).1
 | [],_,hn,_,_=>hn
 |x::m,l,hn,hm,h0=>by
  obtain⟨aa,an,ao⟩:=hm x sm
  obtain⟨aq,ar⟩:=(by decide: ∀T∈bO,0<=T.key/\T.key<T.ca.length) T (by grind)
  rw[fM]at h0⊢
  have ab:=λ(c:Nat) (ai:(c:Int)=T.key\/((c:Int)=0/\T.place=0))=>Va (T:=T) (nT:=x.v) ai (cD:=st.cD) (p:= []) (row:=x.v) hc
  have ae:=KH (T:=T) aa.ok (cD:=st.cD) (row:=x.v) (λy hy=>(ad.cD.2 y hy).2) aa.ok
  obtain⟨E,hE⟩:=eX (gp T x.v st.cD x.v)
  rw[hE]at h0 ab ae⊢
  by_cases q:E.2≠0
  .grind
  rw[ahf q]at h0⊢
  have q0:E.2=0:=om
  by_cases q2:eS T.ca E.1≠0
  .grind
  rw[ahf q2]at h0⊢
  have m0:eS T.ca E.1=0:=om
  obtain⟨af,T',au,ah,aj⟩:=aa.jn
  have:af=tn:=om
  subst this
  rw[hT]at ah
  cases ah
  have ak:fB ⟨x.r,x.k,E.1⟩:=⟨(by grind),aa.err,(ae q0).2⟩
  have al:ef af T E.1=(x.r,x.k,0):=by
   rw[xt0 hT aj m0 (by grind) (by grind)]
   grind[xW6]
  refine Vd hT ad hc (λz hz=> ?_) (by grind) h0
  unfold im at hz
  obtain⟨y,hy,rfl⟩:=Ac.1 hz
  by_cases e:y.at=x.at
  .rw[ahg e]
   have e1:y.r=x.r:=ahj Prod.fst e
   have e2:y.k=x.k:=ahj Prod.snd e
   grind[U9]
  .rw[ahf e]
   exact hn y hy
theorem wo6 (aa:oS st) (hc:qF st=0) (_hn:cI b l) (hk:oU l) (h:(jr st l).2.2=0):oU (jr st l).2.1:=by
 obtain⟨tn,ab⟩: ∃tn:Nat,yU st.table=tn:=⟨(yU st.table).toNat,by have:=aa.jn;omega⟩
 have ad:tn<3:=by
  have h:=DO (λT:bL=>T.name==st.table) bO 0
  have h2:bO.length=3:=rfl
  grind[yU]
 obtain⟨T,hT⟩: ∃T,bO[tn]? =some T:=⟨_,A0 (show tn<bO.length from ad)⟩
 unfold qF at hc
 rw[ab,Az,hT]at hc
 simp only at hc
 rw[ahf om]at hc
 unfold jr at h⊢
 simp only[ab,Az]at h⊢
 rw[show bO.getD tn dS=T by grind]at h⊢
 by_cases k2:st.kind=2
 .rw[ahg k2]at h⊢
  by_cases q:(fG tn T st.rows l).2≠0
  .grind
  .rw[ahf q]
   exact Vb hT (λr hr=>(aa.ok.rows.2 r hr).2) hk om
 rw[ahf k2]at h⊢
 by_cases q:(fy tn T st l).2≠0
 .grind
 rw[ahf q]at h⊢
 by_cases k1:st.kind=1
 .grind
 rw[ahf k1]at h⊢
 by_cases k3:st.kind=3
 .rw[ahg k3]at h⊢
  by_cases q2:(fM T st.cD (fy tn T st l).1 l).2≠0
  .grind
  .rw[ahf q2]
   have ae:nQ T [] st.cD=0:=by
    omega
   refine Vd hT aa.ok ae hk (λx hx=> ?_) om
   obtain⟨h1,h2⟩:=KI x hx
   exact⟨(hk x h1).1,(hk x h1).2,KR ad h2⟩
 simp_all[Vc]
theorem Ve: ∀{ss:List bW} {i:Nat} {acc:List Ot} {b:Mp ahP} {l:List Ln},(∀x∈ss,oS x/\qF x=0)->cI b l->oU l->(jF ss i acc l).1.1=0->(∃b',cI b' (jF ss i acc l).2)/\oU (jF ss i acc l).2/\(jF ss i acc l).2.length<=l.length+20*ss.length
 | [],i,acc,b,l,_,hn,hk,_=>(by grind[jF])
 |x::ss,i,acc,b,l,hs,hn,hk,h=>by
  rw[jF]at h⊢
  obtain⟨hx,ab⟩:=hs x sm
  by_cases q:(jr x l).2.2≠0
  .grind
  rw[ahf q]at h⊢
  have q0:(jr x l).2.2=0:=om
  obtain⟨b',aa⟩:=ON hx hn q0
  have hlen:=OK (st:=x) (l:=l)
  have hr:=hx.ok.rows.1
  obtain⟨h1,h2,h3⟩:=Ve (by grind) aa (by grind[wo6]) h
  grind
theorem nW.run: ∀(ps:List (Pl×ahP)) {n:Nat} {s:List (Pl×ahP)×List Ln} {m:M3},nW n s m-> ∃m',nW (n+ps.length) (ps.foldl uQ s) m'
 | [],n,s,m,h=>⟨m,h⟩
 |p::ps,n,s,m,h=>by
  obtain⟨m',h'⟩:=nW.run ps (h.step p)
  grind
theorem Vf (vs:List Vw): ∃m,nW (jM vs).length ((jM vs).foldl uQ ([],[])) m:=by
 obtain⟨m,h⟩:=nW.run (jM vs) UF
 grind
theorem xy5 {l:List Wr} {aa now:List Ln} (h1: ∀x∈aa,fB x) (h2: ∀x∈now,fB x) (hw:fU (aa.map Ln.at)) (hn:fU (now.map Ln.at)) (hl:l=iF aa now): ∀w∈l,w.p.1=0\/w.p.1=1\/w.p.1=2\/w.p.1=3:=λw ad=>by
 rw[hl]at ad
 have hr: ∀x:Ln,fB x->x.r=0\/x.r=1\/x.r=2\/x.r=3:=λx hx=>by
  have:=hx.err
  unfold fT at this
  grind
 rcases((Oo hw hn).2 w).1 ad with ⟨_,_,⟨x,hx,ab⟩,_⟩|⟨_,x,hx,ab,_,_⟩
 .rw[<-ab];exact hr x (h1 x hx)
 .rw[<-ab];exact hr x (h2 x hx)
theorem Vg (hl:ki cK) (hn:cI b l) (hk:oU l) (h:(ff cK l).1.1=0):(∃b',cI b' (ff cK l).2)/\oU (ff cK l).2/\(ff cK l).2.length<=l.length+240:=by
 unfold ff at h⊢
 by_cases q:(mF cK).2≠0
 .grind
 rw[ahf q]at h⊢
 have q0:(mF cK).2=0:=om
 by_cases q2:(jF cK.stmts 0 [] l).1.1≠0
 .grind
 rw[ahf q2]at h⊢
 obtain⟨h1,h2,h3⟩:=Ve (λx hx=>⟨H4 hl q0 x hx,(yR5 q0 x hx).2⟩) hn hk h
 have:=hl.stmts.1
 grind
theorem Vh {T:bL} {row:List bK}: ∀{l:List bJ} {acc:List bK},(dw T row l acc).1.length<=acc.length+l.length
 | [],acc=>by grind[dw]
 |e::l,acc=>by
  rw[dw]
  split
  .simp
  .refine B1 Vh ?_
   simp;omega
theorem OO {T:bL} {l:List Ln}: ∀{xs:List cM} {acc:List bK},(qG T l xs acc).1.length<=acc.length+xs.length
 | [],acc=>by grind[qG]
 |x::xs,acc=>by
  rw[qG]
  split
  .split
   .simp
   .refine B1 OO ?_
    simp;omega
  .refine B1 OO ?_
   simp;omega
def lu (N:Nat) (rs:List (List bK)):Prop:=rs.length<=N/\ ∀r∈rs,r.length<=100
theorem Vi {T:bL} {items:List cM} (hi:items.length<=100): ∀{l:List Ln} {acc:List (List bK)} {N:Nat},(∀x∈l,x.v.length<=100)->lu N acc->lu (N+l.length) (oO T items l acc).1
 | [],acc,N,_,h=>by simpa
 |x::l,acc,N,hl,h=>by
  have aa: ∀y∈l,y.v.length<=100:=(by grind)
  have step: ∀r:List bK,r.length<=100->lu (N+(x::l).length) (oO T items l (acc++ [r])).1:=λr hr=>by
   have h2:lu (N+1) (acc++ [r]):=⟨by have:=h.1;grind,λy hy=>by
    rcases Al.1 hy with hy|hy
    .exact h.2 y hy
    grind⟩
   have h3:=Vi hi aa h2 (T:=T)
   grind
  rw[oO]
  split
  .grind
  .split
   .exact⟨sm,sm⟩
   grind[Vh]
theorem xZ5 (hi:st.items.length<=100) (hl: ∀x∈l,x.v.length<=100):lu (1+l.length) (lj T st l).1.rows:=by
 have none_:lu (1+l.length) []:=⟨sm,sm⟩
 unfold lj
 split
 .split
  .omega
  .refine⟨sm,λr hr=> ?_⟩
   grind[OO]
 .obtain⟨m,hm⟩:=eX (lh st.bQ (if 0<=cR T st.order then oN (cR T st.order).toNat st.down l else l))
  rw[hm]
  simp only
  have aa:(∀x∈m,x∈l)/\m.length<=l.length:=by
   have h0: ∀k:List Ln,(∀x∈k,x∈l)/\k.length<=l.length->(∀x∈lh st.bQ k,x∈l)/\(lh st.bQ k).length<=l.length:=(by grind[lh])
   rw[<-hm]
   refine h0 _ ?_
   split
   .exact⟨(by grind[OF]),by rw[(OF _ _ _).length_eq];omega⟩
   simp
  split
  .omega
  .have h:=Vi (T:=T) hi (l:=m) (acc:= []) (N:=0) (by grind) (by trivial)
   exact⟨by have:=h.1;grind,h.2⟩
theorem xC7 (aa:kO st) (hl: ∀x∈l,x.v.length<=100):lu (1+l.length) (jr st l).1.rows:=by
 have none_:lu (1+l.length) []:=⟨sm,sm⟩
 unfold jr
 simp only
 split
 .grind
 split
 .omega
 split
 .have h:=xZ5 (T:=bO.getD (yU st.table).toNat dS) (st:=st) (l:=(fy (yU st.table).toNat (bO.getD (yU st.table).toNat dS) st l).1) (by have:=aa.items.1;omega) (λx hx=>hl x (KI x hx).1)
  have hlen:=UY (t:=((yU st.table).toNat:Int)) (T:=bO.getD (yU st.table).toNat dS) (st:=st) (l:=l)
  exact⟨B1 h.1 om,h.2⟩
 grind
theorem Vj: ∀{ss:List bW} {i:Nat} {acc:List Ot} {b:Mp ahP} {l:List Ln} {N:Nat},(∀x∈ss,oS x)->cI b l->l.length+20*ss.length<=N->(∀o∈acc,lu (1+N) o.rows)->(∀o∈(jF ss i acc l).1.2.2,lu (1+N) o.rows)/\(jF ss i acc l).1.2.2.length<=acc.length+ss.length
 | [],i,acc,b,l,N,_,_,_,ha=>by grind[jF]
 |x::ss,i,acc,b,l,N,hs,hn,hN,ha=>by
  rw[jF]
  have hx:=hs x (Av ..)
  rw[Ak]at hN
  by_cases q:(jr x l).2.2≠0
  .grind
  rw[ahf q]
  obtain⟨b',ab⟩:=ON hx hn om
  have hlen:=OK (st:=x) (l:=l)
  have hr:=hx.ok.rows.1
  have ho:=xC7 hx.ok (l:=l) (λy hy=>by have:=(OE (hn.rows y hy)).2;omega)
  obtain⟨h1,h2⟩:=Vj (i:=i+1) (acc:=acc++ [(jr x l).1]) (N:=N) (λy hy=>hs y (B5 _ hy)) ab om (λo aa=>by
   rcases Al.1 aa with aa|aa
   .grind
   .rw[Bb]at aa;subst aa;exact⟨by have:=ho.1;omega,ho.2⟩)
  grind
theorem xt3 (hl:ki cK) (hn:cI b l) (hlen:l.length<=7500):(ff cK l).1.2.2.length<=100000/\ ∀x∈(ff cK l).1.2.2,x.rows.length<=100000/\ ∀r∈x.rows,r.length<=100000:=by
 have aa:=hl.stmts.1
 unfold ff
 by_cases q:(mF cK).2≠0
 .grind
 rw[ahf q]
 obtain⟨h1,h2⟩:=Vj (ss:=cK.stmts) (i:=0) (acc:= []) (N:=10000) (by grind[H4]) hn om sm
 have h3:(jF cK.stmts 0 [] l).1.2.2.length<=100000/\ ∀x∈(jF cK.stmts 0 [] l).1.2.2,x.rows.length<=100000/\ ∀r∈x.rows,r.length<=100000:=
  ⟨by grind,λx hx=>⟨by have:=(h1 x hx).1;omega,λr hr=>by have:=(h1 x hx).2 r hr;omega⟩⟩
 grind
theorem xV1 {N:Nat} {out:List (Int×List Wr)} (h:out.length<=N/\ ∀q∈out,q.2.length<=N):(gQ out w).length<=N+1/\ ∀q∈gQ out w,q.2.length<=N+1:=by
 grind[gQ,List.mem_of_getLast?,List.dropLast_subset]
theorem Vk: ∀{l:List Wr} {out:List (Int×List Wr)} {N:Nat},out.length<=N/\(∀q∈out,q.2.length<=N)->(l.foldl gQ out).length<=N+l.length/\ ∀q∈l.foldl gQ out,q.2.length<=N+l.length
 | [],out,N,h=>(by grind)
 |w::l,out,N,h=>by
  have h2:=Vk (l:=l) (xV1 (w:=w) h)
  grind
theorem xB5 (aa now:List Ln):(iF aa now).length<=aa.length+now.length:=by
 have hf: ∀(f:Ln->Wr) (m:List Ln) (l:List Wr),(m.foldl (λl x=>kI l (f x)) l).length=l.length+m.length:=λf m=>by
  induction m with
  |nil=>simp
  |cons x m ih=>intro l;rw[Bt,ih,(Om _ _).length_eq,Ak,Ak];omega
 unfold iF
 rw[hf (λx=>⟨x.at,false,xI x.v⟩),hf (λx=>⟨x.at,true,[]⟩)]
 grind
def nY (cK:dR) (px:List Ln):List (Int×List Wr):=if(ff cK px).1.1≠0 then []else ml (iF px (ff cK px).2)
theorem xL0 (hl:ki cK) (hn:cI b l) (hk:oU l) (hlen:l.length<=7500):(nY cK l).length<=100000/\ ∀q∈nY cK l,q.2.length<=100000:=by
 unfold nY
 by_cases q:(ff cK l).1.1≠0
 .grind
 rw[ahf q]
 obtain⟨_,_,h⟩:=Vg hl hn hk om
 have h2:=xB5 l (ff cK l).2
 have h3:=Vk (l:=iF l (ff cK l).2) (out:= []) (N:=0) sm
 grind[ml]
def nB:Nat->Nat->ahP->ahP
 |0,_,acc=>acc
 |f+1,u,acc=>if u=0 then acc else nB f (u/10) ((48+UInt8.ofNat (u%10))::acc)
def nC (n:Nat):ahP:=if n=0 then [48]else nB 20 n []
theorem xC5 (r:Nat) (h:r<10):((48:UInt8)::List.take r [49,50,51,52,53,54,55,56,57]).drop r= [(48+UInt8.ofNat r)]:=by
 have:r=0\/r=1\/r=2\/r=3\/r=4\/r=5\/r=6\/r=7\/r=8\/r=9:=om
 rcases this with rfl|rfl|rfl|rfl|rfl|rfl|rfl|rfl|rfl|rfl<;>rfl
theorem Vl: ∀(f u:Nat) (acc:ahP),(nB f u acc).length<=f+acc.length
 |0,u,acc=>by rw[nB];omega
 |f+1,u,acc=>by
  rw[nB]
  split
  .omega
  .have:=Vl f (u/10) ((48+UInt8.ofNat (u%10))::acc);simp only[Ak]at this;omega
theorem Vm (n:Nat):(nC n).length<=20:=by
 unfold nC
 split
 .decide
 .have:=Vl 20 n [];simpa using this
theorem Vn (n:Nat) (hn:n<=9223372036854775807):Pure prog 28 [.int .i64 n] (.str (nC n)):=by
 generalize hM:nC n=M
 unfold nC at hM
 have ret: ∀(r:ahP) (I:St),r=M->cw (some (.str r)) 0 (λr s=>r= .str M/\s= []) I:=λr I h=>by subst h;exact wR
 refine iV 0 func28 ntmps28 results28 λc hc hb=> ?_
 refine zA ?_
 simp[go_sem]
 by_cases q0:n=0
 .rw[ahg q0]at hM
  simp[go_sem,q0]
  exact ret _ _ hM
 rw[ahf q0]at hM
 have ae:((n:Int)==0)=false:=sU q0
 have ab:decide ((n:Int)<0)=false:=ahh om
 have eu:IntKind.u64.wrap (n:Int)=(n:Int):=Vx.dL om om
 simp[go_sem,ae,ab,eu]
 refine zI (S:=Nat×ahP) [0,3,4] (λu=> [.int .i64 n,.int .u64 (u.1:Int),.str u.2]) (λ_=> []) (λu=>u.1)
  (λu=>u.1<=n/\ ∃f,u.1<10^f/\u.2.length+f<=20/\nB f u.1 u.2=M) hc hb (n,[]) ⟨A7 _,20,by simp only;omega,sm,hM⟩ ?_ ?_
 .exact aO
 rintro⟨u,s⟩ ⟨hu,f,hf,hs,hinv⟩
 simp only at hu hf hs hinv
 by_cases q:u=0
 .subst q
  have hinv:s=M:=by
   rw[<-hinv]
   cases f with
   |zero=>rfl
   |succ f=>rw[nB,ahg rfl]
  refine zA ?_
  simp[go_sem,ab]
  exact ret _ _ hinv
 obtain⟨f,rfl⟩: ∃g,f=g+1:=by
  cases f with
  |zero=>simp at hf;omega
  |succ f=>exact⟨f,rfl⟩
 rw[nB,ahf q]at hinv
 have hq:0<u:=om
 have er:(u:Int).tmod 10=((u%10:Nat):Int):=by rw[Int.tmod_eq_emod_of_nonneg om];omega
 have aa:IntKind.u64.wrap (((u%10:Nat):Int)+1)=((u%10+1:Nat):Int):=by rw[Vx.dL om om];omega
 have af:(u:Int).tdiv 10=((u/10:Nat):Int):=by rw[Int.tdiv_eq_ediv_of_nonneg om];omega
 have ed:IntKind.u64.wrap ((u:Int).tdiv 10)=((u/10:Nat):Int):=by
  rw[Int.tdiv_eq_ediv_of_nonneg om,Vx.dL om om];omega
 have ad:=xC5 (u%10) (Cs _ dC)
 obtain⟨r,hr⟩:=eX (u%10)
 have ai:r<10:=om
 rw[hr]at er aa ad hinv
 have ah:IntKind.u64.wrap ((u:Int)/10)=(u:Int)/10:=Vx.dL om om
 have aj:((r:Int)).toNat=r:=Az r
 have ak:((r+1:Nat):Int).toNat=r+1:=Az _
 refine zA ?_
 simp only[Int.natCast_add,C0]at aa
 simp[go_sem,hq,er,aa]
 refine zJ om ?_
 simp[go_sem,ad]
 refine zJ om ?_
 simp[go_sem,af,ah]
 refine zH (u/10,(48+UInt8.ofNat r)::s) ⟨by simp only;omega,⟨by simp only;omega,f,by simp only;rw[ahO]at hf;omega,by simp;omega,hinv⟩, ?_⟩
 exact aO
theorem KW (k n:Int) (hk:dp k) (h1:1<=n) (h2:n<=1000):Pure prog 13 [.int .i64 k,.int .i64 n] (.int .i64 (k%n)):=by
 obtain⟨ae,af⟩:=hk
 have q1:decide (n<1)=false:=ahh om
 have q0: ¬n<1:=om
 have qz: ¬n=0:=om
 have he:=E4 k (b:=n) om
 have hl:=Dx k (b:=n) om
 have ht:=Int.tmod_eq_emod (a:=k) (b:=n)
 obtain⟨r,hr⟩:=eX (k%n)
 obtain⟨t,ab⟩:=eX (k.tmod n)
 rw[hr]at he hl ht⊢
 rw[ab]at ht
 have ah:((n.natAbs:Nat):Int)=n:=om
 have ad:t=r\/t=r - n:=by
  split at ht
  .left;omega
  .right;omega
 have et:IntKind.i64.wrap t=t:=bX om om
 have er:IntKind.i64.wrap r=r:=bX om om
 have ret: ∀(v:Int) (I:St),v=r->cw (some (.int .i64 v)) 0 (λr' s=>r'= .int .i64 r/\s= []) I:=λv I h=>by subst h;exact wR
 refine iV 0 func13 ntmps13 results13 λc hc hb=> ?_
 refine zA ?_
 simp[go_sem,q0]
 refine zJ qz ?_
 simp[go_sem,ab]
 rcases ad with e|e
 .have q2:decide (t<0)=false:=ahh om
  have aa: ¬t<0:=om
  simp[go_sem,aa]
  exact ret _ _ e
 .have q2:decide (t<0)=true:=ahi om
  have aa:t<0:=om
  have e3:t+n=r:=om
  simp[go_sem,aa,e3,er]
  exact wR
def mu (k:Int):ahP:=if k.tmod 41=40 then [57,50,50,51,51,55,50,48,51,54,56,53,52,55,55,53,56,48,55]else nC (k%12).toNat
theorem Vo (k:Int):(mu k).length<=20:=by
 unfold mu
 split
 .decide
 .exact Vm _
def wp4:ahP:= [57,50,50,51,51,55,50,48,51,54,56,53,52,55,55,53,56,48,55]
def H5:List ahP:=wp4::(List.range 12).map nC
theorem Vp (k:Int):mu k∈H5:=by
 unfold mu
 split
 .exact Av ..
 .exact B5 _ (Ac.2 ⟨(k%12).toNat,Co.2 om,rfl⟩)
theorem Vq (k:Int) (hk:dp k):Pure prog 73 [.int .i64 k] (.str (mu k)):=by
 have hp:=KW k 12 hk dC dC
 have hd:=Vn (k%12).toNat om
 rw[show(((k%12).toNat:Nat):Int)=k%12 by omega]at hd
 obtain⟨aa,ab⟩:=hk
 have ht:=Int.tmod_eq_emod (a:=k) (b:=41)
 have et:IntKind.i64.wrap (k.tmod 41)=k.tmod 41:=by
  have:=E4 k (b:=41) dC
  have:=Dx k (b:=41) dC
  split at ht<;>exact bX om om
 generalize hM:mu k=M
 unfold mu at hM
 obtain⟨u,hu⟩:=eX (k.tmod 41)
 rw[hu]at et hM
 clear ht
 have ret: ∀(v:ahP) (I:St),v=M->cw (some (.str v)) 0 (λr' s=>r'= .str M/\s= []) I:=λv I h=>by subst h;exact wR
 refine iV 0 func73 ntmps73 results73 λc hc hb=> ?_
 refine zA ?_
 by_cases q:u=40
 .rw[ahg q]at hM
  have q':(u==40)=true:=sU q
  simp[go_sem,hu,q']
  exact ret _ _ hM
 .rw[ahf q]at hM
  have q':(u==40)=false:=sU q
  simp[go_sem,hu,q']
  refine pC hp ?_
  simp[go_sem]
  refine pC hd ?_
  simp[go_sem]
  exact ret _ _ hM
def Vr:List ahP:= [[39,97,39],[39,98,39],[39,99,39],[39,100,39],[39,101,39]]
theorem wj2 (k:Int) (hk:dp k): ∃t:ahP,t.length<=20/\Pure prog 74 [.int .i64 k] (.str t)/\t∈Vr:=by
 have hp:=KW k 5 hk dC dC
 have h0:=E4 k (b:=5) dC
 have h1:=Dx k (b:=5) dC
 obtain⟨r,hr⟩:=eX (k%5)
 rw[hr]at hp h0 h1
 have:r=0\/r=1\/r=2\/r=3\/r=4:=om
 have walk: ∀r:Int,(r=0\/r=1\/r=2\/r=3\/r=4)->Pure prog 13 [.int .i64 k,.int .i64 5] (.int .i64 r)->Pure prog 74 [.int .i64 k] (.str [39,97+UInt8.ofNat r.toNat,39]):=λr aa hp=>by
  refine iV 0 func74 ntmps74 results74 λc hc hb=> ?_
  refine zA ?_
  simp[go_sem]
  refine pC hp ?_
  rcases aa with rfl|rfl|rfl|rfl|rfl
  all_goals
   simp[go_sem]
   refine zJ (λx hx=>⟨_,Bb.1 hx⟩) ?_
   simp[go_sem,tW]
   exact wR
 exact⟨_,sm,walk r this hp,by rcases this with rfl|rfl|rfl|rfl|rfl<;>decide⟩
def Vs:List ahP:= [[84,82,85,69],[70,65,76,83,69]]
theorem xO5 (k:Int) (_hk:dp k): ∃t:ahP,t.length<=20/\Pure prog 75 [.int .i64 k] (.str t)/\t∈Vs:=by
 have ht:=Int.tmod_eq_emod (a:=k) (b:=2)
 have et:IntKind.i64.wrap (k.tmod 2)=k.tmod 2:=by
  have:=E4 k (b:=2) dC
  have:=Dx k (b:=2) dC
  split at ht<;>exact bX om om
 obtain⟨u,hu⟩:=eX (k.tmod 2)
 rw[hu]at et
 clear ht
 by_cases q:u=0
 .refine⟨[84,82,85,69],dC, ?_,dC⟩
  have q':(u==0)=true:=sU q
  refine iV 0 func75 ntmps75 results75 λc hc hb=> ?_
  refine zA ?_
  simp[go_sem,hu,q']
  exact wR
 .refine⟨[70,65,76,83,69],dC, ?_,dC⟩
  have q':(u==0)=false:=sU q
  refine iV 0 func75 ntmps75 results75 λc hc hb=> ?_
  refine zA ?_
  simp[go_sem,hu,q']
  exact wR
def Vt:List ahP:= [[48],[49]]
def FX (r n g v b:ahP):Nat->ahP
 |0=> [73,78,83,69,82,84,32,73,78,84,79,32,84,32,86,65,76,85,69,83,32,40]++r++ [44,32]++n++ [44,32,39,118]++v++ [39,44,32]++v++ [41]
 |1=> [73,78,83,69,82,84,32,73,78,84,79,32,84,32,86,65,76,85,69,83,32,40]++r++ [44,32]++n++ [44,32,39,118]++v++ [39,44,32]++v++ [41]
 |2=> [73,78,83,69,82,84,32,73,78,84,79,32,71,32,86,65,76,85,69,83,32,40]++g++ [44,32]++v++ [44,32,78,85,76,76,41]
 |3=> [85,80,68,65,84,69,32,84,32,83,69,84,32,78,32,61,32,78,32,43,32]++v++ [32,87,72,69,82,69,32,75,32,61,32]++n
 |4=> [85,80,68,65,84,69,32,84,32,83,69,84,32,78,32,61,32]++v++ [44,32,86,32,61,32,39,120,39,32,87,72,69,82,69,32,82,32,61,32]++r++ [32,65,78,68,32,75,32,62,61,32]++n
 |5=> [85,80,68,65,84,69,32,71,32,83,69,84,32,78,32,61,32,78,32,42,32]++v++ [32,87,72,69,82,69,32,75,32,61,32]++g
 |6=> [68,69,76,69,84,69,32,70,82,79,77,32,84,32,87,72,69,82,69,32,75,32,60,32]++v
 |7=> [68,69,76,69,84,69,32,70,82,79,77,32,71,32,87,72,69,82,69,32,75,32,61,32]++g
 |8=> [83,69,76,69,67,84,32,42,32,70,82,79,77,32,84]
 |9=> [83,69,76,69,67,84,32,75,44,32,78,32,43,32,49,32,70,82,79,77,32,84,32,87,72,69,82,69,32,82,32,61,32]++r++ [32,79,82,68,69,82,32,66,89,32,78,32,68,69,83,67,32,76,73,77,73,84,32]++v
 |10=> [83,69,76,69,67,84,32,42,32,70,82,79,77,32,71]
 |11=> [83,69,76,69,67,84,32,67,79,85,78,84,40,42,41,44,32,83,85,77,40,78,41,32,70,82,79,77,32,84,32,87,72,69,82,69,32,75,32,60,62,32]++n
 |12=> [83,69,76,69,67,84,32,42,32,70,82,79,77,32,71,32,87,72,69,82,69,32,75,32,61,32]++g
 |13=> [73,78,83,69,82,84,32,73,78,84,79,32,72,32,86,65,76,85,69,83,32,40]++b++ [44,32]++v++ [41]
 |14=> [85,80,68,65,84,69,32,72,32,83,69,84,32,78,32,61,32,78,32,45,32]++v
 |15=> [83,69,76,69,67,84,32,83,85,77,40,78,32,47,32]++v++ [41,32,70,82,79,77,32,72]
 |16=> [73,78,83,69,82,84,32,73,78,84,79,32,84,32,86,65,76,85,69,83,32,40]++r++ [44,32]++n++ [44,32,78,85,76,76,44,32]++v++ [41,44,32,40,49,44,32]++v++ [44,32,39,116,119,111,39,44,32,78,85,76,76,41]
 |17=> [83,69,76,69,67,84,32,78,32,70,82,79,77,32,84,32,87,72,69,82,69,32,75,32,61,32]++n
 |18=> [85,80,68,65,84,69,32,71,32,83,69,84,32,78,32,61,32,78,32,43,32,49,44,32,66,32,61,32,78,32,62,32]++v
 |_=> [83,69,76,69,67,84,32,86,32,70,82,79,77,32,84,32,87,72,69,82,69,32,78,32,73,83,32,78,85,76,76,32,79,82,32,75,32,62,61,32]++n++ [32,79,82,68,69,82,32,66,89,32,86]
theorem wa0 {r n g v b:ahP} (hr:r.length<=20) (hn:n.length<=20) (hg:g.length<=20) (hv:v.length<=20) (hb:b.length<=20) (k:Nat):(FX r n g v b k).length<=300:=by
 unfold FX
 split<;>simp<;>omega
def Vu (t:ahP):Prop:= ∃r∈Vt,∃n∈H5,∃g∈Vr,∃v∈H5,∃b∈Vs,∃w<20,t=FX r n g v b w
theorem Vv (a:gz) (ha:a.ok): ∃t:ahP,t.length<=300/\Pure prog 27 [.agg a.row] (.str t)/\Vu t:=by
 have hw:=KW a.kY 20 ha.kY dC dC
 have ah:=KW a.a 2 ha.a dC dC
 have ad:=Vn (a.a%2).toNat om
 rw[show(((a.a%2).toNat:Nat):Int)=a.a%2 by omega]at ad
 have ai:=Vq a.b ha.b
 have aj:=Vq a.c ha.c
 obtain⟨g,av,hg,ak⟩:=wj2 a.b ha.b
 obtain⟨tr,aw,ht,al⟩:=xO5 a.a ha.a
 have h0:=E4 a.kY (b:=20) dC
 have h1:=Dx a.kY (b:=20) dC
 obtain⟨w,an⟩: ∃w:Nat,a.kY%20=w:=⟨(a.kY%20).toNat,om⟩
 have ae:w<20:=om
 rw[an]at hw
 clear an h0 h1
 obtain⟨r,hr⟩:=eX (nC (a.a%2).toNat)
 have ax:r.length<=20:=by rw[<-hr];exact Vm _
 rw[hr]at ad
 have af:r∈Vt:=by
  have:(a.a%2).toNat=0\/(a.a%2).toNat=1:=om
  rcases this with h|h<;>rw[<-hr,h]<;>decide
 obtain⟨rm,ao⟩:=eX (a.a%2)
 rw[ao]at ah ad
 clear hr ao
 obtain⟨n,hn⟩:=eX (mu a.b)
 have ay:n.length<=20:=by rw[<-hn];exact Vo _
 rw[hn]at ai
 have aq:n∈H5:=by rw[<-hn];exact Vp _
 clear hn
 obtain⟨v,hv⟩:=eX (mu a.c)
 have az:v.length<=20:=by rw[<-hv];exact Vo _
 rw[hv]at aj
 have ar:v∈H5:=by rw[<-hv];exact Vp _
 clear hv ha
 obtain⟨wh,aa,ab,ac⟩:=a
 simp only at hw ah ai aj hg ht
 refine⟨FX r n g v tr w,wa0 ax ay av az aw w, ?_,r,af,n,aq,g,ak,v,ar,tr,al,w,ae,rfl⟩
 clear af aq ak ar al
 obtain⟨M,hM⟩:=eX (FX r n g v tr w)
 rw[hM]
 have ret: ∀(x:ahP) (I:St),x=M->cw (some (.str x)) 0 (λr s=>r= .str M/\s= []) I:=λx I h=>by subst h;exact wR
 refine iV 0 func27 ntmps27 results27 λc hc hb=> ?_
 refine zA ?_
 simp[go_sem]
 refine yL [(2,0),(3,0),(6,0),(9,0)] 1 rfl kR kR ?_
 simp[go_sem]
 refine pD ah ?_
 simp[go_sem]
 refine pD ad ?_
 simp[go_sem]
 refine pD ai ?_
 simp[go_sem]
 refine pD hg ?_
 simp[go_sem]
 refine pC aj ?_
 simp[go_sem]
 refine pC hw ?_
 have au:w=0\/w=1\/w=2\/w=3\/w=4\/w=5\/w=6\/w=7\/w=8\/w=9\/w=10\/w=11\/w=12\/w=13\/w=14\/w=15\/w=16\/w=17\/w=18\/w=19:=om
 clear hw ae
 rcases au with rfl|rfl|rfl|rfl|rfl|rfl|rfl|rfl|rfl|rfl|rfl|rfl|rfl|rfl|rfl|rfl|rfl|rfl|rfl|rfl
 all_goals
  simp[go_sem]
  try (refine pC ht ?_;simp[go_sem])
  repeat (refine zJ (by first|omega|(simp;omega)) ?_;simp[go_sem])
  exact ret _ _ (by rw[<-hM];simp[FX])
end Go.Proofs.YtplackkccmeioaaGreat
namespace Go.Proofs.YtplackkccmeioaaGreat
open Go Go.Vx R Go.Proofs.Tryz
set_option maxRecDepth 100000
open Classical in
noncomputable def oV (a:gz):ahP:=if h:a.ok then Classical.choose (Vv a h)else []
theorem Vy {a:gz} (h:a.ok):(oV a).length<=300/\Pure prog 27 [.agg a.row] (.str (oV a))/\Vu (oV a):=by
 unfold oV
 rw[dif_pos h]
 exact Classical.choose_spec (Vv a h)
noncomputable def uS:List gz->Nat->ahP->ahP
 | [],_,s=>s
 |a::l,i,s=>if i<3 then uS l (i+1) ((if 0<i then s++ [59,32]else s)++oV a)else s
theorem Vz: ∀{l:List gz} {i:Nat} {s:ahP},(∀a∈l,a.ok)->i<=3->(uS l i s).length<=s.length+302*(3 - i)
 | [],i,s,_,_=>by rw[uS];omega
 |a::l,i,s,h,hi=>by
  rw[uS]
  split
  .rename_i q
   have ha:=(Vy (h a (Av ..))).1
   refine B1 (Vz (λx hx=>h x (B5 _ hx)) om) ?_
   rw[Ap]
   have:(if 0<i then s++ [59,32]else s).length<=s.length+2:=by split<;>simp
   omega
  .omega
noncomputable def wv (l:List gz):ahP:=if uS l 0 []= []then [83,69,76,69,67,84,32,42,32,70,82,79,77,32,71]else uS l 0 []
theorem xx3 {l:List gz} (h: ∀a∈l,a.ok):(wv l).length<=2000:=by
 unfold wv
 have:=Vz (s:= []) h (A4 3)
 split
 .decide
 .simp at this;omega
theorem wm1 (l:List gz) (_hl:l.length<=maxLen) (cN: ∀a∈l,a.ok):Pure prog 10 [.sl .ro (l.map gz.row),.int .i64 0,.int .i64 0] (.str (wv l)):=by
 obtain⟨M,hM⟩:=eX (wv l)
 rw[hM]
 unfold wv at hM
 obtain⟨T,hT⟩:=eX (uS l 0 [])
 rw[hT]at hM
 have ret: ∀(x:ahP) (I:St),x=M->cw (some (.str x)) 0 (λr s=>r= .str M/\s= []) I:=λx I h=>by subst h;exact wR
 refine iV 0 func10 ntmps10 results10 λc hc hb=> ?_
 refine zA ?_
 simp[go_sem]
 refine zI (S:=Nat×ahP) [0,1,7,8] (λu=> [.sl .ro (l.map gz.row),.int .i64 0,.str u.2,.int .i64 u.1]) (λ_=> []) (λu=>l.length - u.1) (λu=>u.1<=l.length/\u.1<=3/\u.2.length<=302*u.1/\uS (l.drop u.1) u.1 u.2=T) hc hb (0,[]) ⟨A4 _,A4 _,A4 _,hT⟩ ?_ ?_
 .exact aO
 rintro⟨i,s⟩ ⟨hi,af,hs,hinv⟩
 simp only at hi af hs hinv
 by_cases q:i<l.length/\i<3
 rotate_left
 .have ab:s=T:=by
   by_cases q1:i<l.length
   .rw[A5 q1,uS,ahf om]at hinv
    exact hinv
   .rw[A9 om]at hinv
    exact hinv
  refine zA ?_
  by_cases q1:i<l.length
  .have q3: ¬i<3:=om
   have ad:decide ((i:Int)<3)=false:=ahh om
   simp[go_sem,q1,ad]
   by_cases q0:s= []
   .have aa:s.isEmpty:=sU q0
    rw[ahg (by rw[<-ab];exact q0)]at hM
    simp[go_sem,aa]
    exact ret _ _ hM
   .have aa:s.isEmpty=false:=sU q0
    rw[ahf (by rw[<-ab];exact q0)]at hM
    simp[go_sem,aa]
    exact ret _ _ (by rw[ab];exact hM)
  .simp[go_sem,q1]
   by_cases q0:s= []
   .have aa:s.isEmpty:=sU q0
    rw[ahg (by rw[<-ab];exact q0)]at hM
    simp[go_sem,aa]
    exact ret _ _ hM
   .have aa:s.isEmpty=false:=sU q0
    rw[ahf (by rw[<-ab];exact q0)]at hM
    simp[go_sem,aa]
    exact ret _ _ (by rw[ab];exact hM)
 obtain⟨q1,q3⟩:=q
 have ei:=zQ q3 om
 have ad:decide ((i:Int)<3)=true:=ahi om
 obtain⟨a,ha⟩:=eX (l[i])
 obtain⟨ah,ae,_⟩:=Vy (cN a (ha▸A8 q1))
 rw[A5 q1,ha,uS,ahg q3]at hinv
 by_cases q0:0<i
 .have aa:decide (0<(i:Int))=true:=ahi om
  rw[ahg q0]at hinv
  refine zA ?_
  simp[go_sem,q1,ad,q0]
  refine zJ (by first|omega|(simp;omega)) ?_
  simp[go_sem,q1,ha]
  refine pC ae ?_
  simp[go_sem]
  refine zJ (by first|omega|(simp;omega)) ?_
  simp[go_sem,ei]
  exact zH (i+1,s++ [59,32]++oV a) ⟨by show l.length - (i+1)<l.length - i;omega,⟨q1,q3,by simp;omega,hinv⟩,aO⟩
 .have aa:decide (0<(i:Int))=false:=ahh om
  rw[ahf q0]at hinv
  refine zA ?_
  simp[go_sem,q1,ad,q0]
  simp[go_sem,ha]
  refine pC ae ?_
  simp[go_sem]
  refine zJ (by first|omega|(simp;omega)) ?_
  simp[go_sem,ei]
  exact zH (i+1,s++oV a) ⟨by show l.length - (i+1)<l.length - i;omega,⟨q1,q3,by simp;omega,hinv⟩,aO⟩
end Go.Proofs.YtplackkccmeioaaGreat
namespace Go.Proofs.YtplackkccmeioaaGreat
open Go Go.Vx R Go.Proofs.Tryz
set_option maxRecDepth 100000
section
variable {c:Pl->Bool}
variable {l:List Ln}
theorem xw2 {m:List Ln} (h:fU (l.map Ln.at)) (g:fU (m.map Ln.at)) (hp:l.Perm m):l=m:=
 hp.eq_of_pairwise (λa b _ _ h g=>by rw[Oe h]at g;cases g) (Cf.1 h) (Cf.1 g)
theorem VA (h:fU (l.map Ln.at)) (f:Ln->Bool):fU ((l.filter f).map Ln.at):=ahB (Bw.map _) h
theorem VB {p:Pl} (h:c p):il (l.filter λx=>c x.at) p=il l p:=by
 unfold il
 rw[List.any_filter]
 congr 1;funext x
 by_cases e:x.at=p
 .subst e;simp[h]
 .simp[e]
theorem xQ7 {x:Ln} (hr:fU (l.map Ln.at)) (hx:c x.at) (hn:il l x.at=false):tD (l.filter λx=>c x.at) x=(tD l x).filter λx=>c x.at:=by
 refine xw2 (KD (VA hr _) (by rw[VB hx];exact hn)) (VA (KD hr hn) _) ((uN _ _).trans ?_)
 have:=(uN l x).filter λx=>c x.at
 rw[D8,ahg (sU hx)]at this
 exact this.symm
theorem xY1 (l:List Ln) (p:Pl) (row:List bK):im (l.filter λx=>c x.at) p row=(im l p row).filter λx=>c x.at:=by
 unfold im
 rw[List.filter_map]
 congr 2;funext x
 simp only[Function.comp]
 split<;>rfl
theorem VD {T:bL} {cD:List cm}: ∀{m l:List Ln},fM T cD m (l.filter λx=>c x.at)=((fM T cD m l).1.filter λx=>c x.at,(fM T cD m l).2)
 | [],l=>rfl
 |x::m,l=>by
  rw[fM,fM,xY1,VD]
  split
  .rfl
  split<;>rfl
theorem VE: ∀{m l:List Ln},iq m (l.filter λx=>c x.at)=(iq m l).filter λx=>c x.at
 | [],l=>rfl
 |x::m,l=>by rw[iq,iq,<-VE,ahG,ahG];congr 2;funext y;exact Bool.and_comm ..
def OP (tn:Nat) (T:bL) (r:List bJ) (p:Pl):Prop:=(dw dS [] r []).2=0/\ef tn T (dw dS [] r []).1=(p.1,p.2,0)
theorem VF {tn:Nat} {T:bL}: ∀{rs:List (List bJ)} {l:List Ln},(∀r∈rs,∀p,OP tn T r p->c p=true)->fU (l.map Ln.at)->fG tn T rs (l.filter λx=>c x.at)=((fG tn T rs l).1.filter λx=>c x.at,(fG tn T rs l).2)
 | [],l,_,_=>rfl
 |r::rs,l,h,hr=>by
  rw[fG,fG]
  by_cases q1:(dw dS [] r []).2≠0
  .rw[ahg q1,ahg q1];rfl
  rw[ahf q1,ahf q1]
  by_cases q2:(ef tn T (dw dS [] r []).1).2.2≠0
  .rw[ahg q2,ahg q2];rfl
  rw[ahf q2,ahf q2]
  have hc:=h r (Av ..) ((ef tn T (dw dS [] r []).1).1,(ef tn T (dw dS [] r []).1).2.1) ⟨by simpa using q1,Prod.ext rfl (Prod.ext rfl (sU q2))⟩
  rw[VB hc]
  by_cases q3:il l ((ef tn T (dw dS [] r []).1).1,(ef tn T (dw dS [] r []).1).2.1)=true
  .rw[ahg q3,ahg q3];rfl
  have aa:il l ((ef tn T (dw dS [] r []).1).1,(ef tn T (dw dS [] r []).1).2.1)=false:=sU q3
  obtain⟨y,hy⟩: ∃y:Ln,(⟨(ef tn T (dw dS [] r []).1).1,(ef tn T (dw dS [] r []).1).2.1,(dw dS [] r []).1⟩:Ln)=y:=⟨_,rfl⟩
  have ab:y.at=((ef tn T (dw dS [] r []).1).1,(ef tn T (dw dS [] r []).1).2.1):=by rw[<-hy];rfl
  rw[<-ab]at aa hc
  rw[ahf q3,ahf q3,hy,xQ7 hr hc aa]
  exact VF (λx hx=>h x (B5 _ hx)) (KD hr aa)
structure Cv (c:Pl->Bool) (st:bW):Prop where
 box:st.kind≠2-> ∀x,lg (yU st.table).toNat st x=true->c x.at=true
 ins:st.kind=2-> ∀r∈st.rows,∀p,OP (yU st.table).toNat (bO.getD (yU st.table).toNat dS) r p->c p=true
theorem xW9 {t:Int} {T:bL} {st:bW} (h: ∀x,lg t st x=true->c x.at):fy t T st (l.filter λx=>c x.at)=fy t T st l:=by
 unfold fy
 rw[ahG,show(λx=>lg t st x&&c x.at)=lg t st from funext λx=>by
  cases e:lg t st x
  .rfl
  .rw[h x e];rfl]
theorem wh5 {st:bW} (h:Cv c st) (hr:fU (l.map Ln.at)):jr st (l.filter λx=>c x.at)=((jr st l).1,(jr st l).2.1.filter λx=>c x.at,(jr st l).2.2):=by
 unfold jr
 simp only
 by_cases k2:st.kind=2
 .rw[ahg k2,ahg k2,VF (h.ins k2) hr]
  simp only
  split<;>rfl
 rw[ahf k2,ahf k2,xW9 (h.box k2)]
 split
 .rfl
 split
 .rfl
 split
 .rw[VD]
  simp only
  split<;>rfl
 .rw[VE]
theorem VG: ∀{ss:List bW} {i:Nat} {acc:List Ot} {b:Mp ahP} {l:List Ln},(∀st∈ss,oS st/\Cv c st)->cI b l->jF ss i acc (l.filter λx=>c x.at)=((jF ss i acc l).1,(jF ss i acc l).2.filter λx=>c x.at)
 | [],_,_,_,_,_,_=>rfl
 |x::ss,i,acc,b,l,h,hn=>by
  obtain⟨hx,hc⟩:=h x (Av ..)
  rw[jF,jF,wh5 hc hn.j7]
  simp only
  by_cases q:(jr x l).2.2≠0
  .rw[ahg q,ahg q];rfl
  rw[ahf q,ahf q]
  obtain⟨b',aa⟩:=ON hx hn (sU q)
  exact VG (λy hy=>h y (B5 _ hy)) aa
end
variable {r:Int}{st:bW}{cK:dR}
def spB (y:List cp) (k:ahP):Bool:=y.any λs=> !Op.bytesLess k s.lo&&Op.bytesLess k s.hi
def qP (uJ:US) (p:Pl):Bool:=uJ.any λy=>decide (y.1=p.1)&&spB y.2 p.2
theorem xT7 {uJ:US} {x:cp} (h:Has uJ r x) {k:ahP} (h1:Op.bytesLess k x.lo=false) (h2:Op.bytesLess k x.hi):qP uJ (r,k)=true:=by
 obtain⟨y,hy,e,hx⟩:=h
 exact Cd.2 ⟨y,hy,by simp only[e,decide_true,B7];exact Cd.2 ⟨x,hx,by rw[h1,h2];rfl⟩⟩
theorem VH {T:bL} {row:List bK}: ∀(r:List bJ) (acc:List bK),(dw T row r acc).2=0->(dw T row r acc).1=acc++r.map (λe=>(gh T row e).1)/\ ∀e∈r,(gh T row e).2=0
 | [],acc,_=>⟨by simp[dw],λe he=>(by cases he)⟩
 |e::r,acc,h=>by
  rw[dw]at h⊢
  by_cases q:(gh T row e).2≠0
  .rw[ahg q]at h;exact absurd h q
  rw[ahf q]at h⊢
  obtain⟨h1,h2⟩:=VH r _ h
  refine⟨by rw[h1];simp,λx hx=> ?_⟩
  rcases Af.1 hx with rfl|hx
  .simpa using q
  .exact h2 x hx
theorem xr7 (h0:0<=yU st.table) {r:List bJ} {p:Pl} (h:OP (yU st.table).toNat (bO.getD (yU st.table).toNat dS) r p):(p.1,⟨p.2,p.2++ [0]⟩)∈nx (yU st.table) r:=by
 have aj:=Hz st.table
 obtain⟨tn,ak⟩: ∃tn:Nat,yU st.table=tn:=⟨(yU st.table).toNat,om⟩
 rw[ak]at h aj⊢
 have h3:tn<3:=om
 rw[Az]at h
 obtain⟨T,hT⟩: ∃T,bO[tn]? =some T:=⟨_,A0 (show tn<bO.length from h3)⟩
 rw[show bO.getD tn dS=T by rw[Ae,hT];rfl]at h
 obtain⟨h1,h2⟩:=h
 obtain⟨e1,e2⟩:=VH r [] h1
 rw[Bu]at e1
 rw[e1]at h2
 have ad: ∀i,i<r.length->(jE (r.getD i cT)).2=0/\(r.map λe=>(gh dS [] e).1).getD i zeroV=(jE (r.getD i cT)).1:=λi hi=>by
  have hg:r.getD i cT=r[i]:=by rw[Ae,A0 hi];rfl
  rw[hg]
  refine⟨by rw[<-HG];exact e2 _ (A8 hi), ?_⟩
  rw[Ae,B3,A0 hi]
  exact ahj Prod.fst (HG r[i])
 obtain⟨row,ab⟩: ∃row,(r.map λe=>(gh dS [] e).1)=row:=⟨_,rfl⟩
 have al:row.length=r.length:=by rw[<-ab,Ag]
 rw[ab]at h2 ad
 unfold ef at h2
 by_cases q1:eS T.ca row≠0
 .rw[ahg q1]at h2;exact absurd (ahj (·.2.2) h2) q1
 rw[ahf q1]at h2
 have ae:eS T.ca row=0:=sU q1
 have hlen:=uL ae
 have af:=N5 _ _ hlen (TJ ae)
 by_cases q2:tn=0/\ ¬((row.getD 0 zeroV).n=0\/(row.getD 0 zeroV).n=1)
 .rw[ahg q2]at h2;exact absurd (show(19:Int)=0 from ahj (·.2.2) h2) dC
 rw[ahf q2]at h2
 have k1:p.1=(xA tn (wg tn row)).1:=(ahj (·.1) h2).symm
 have k2:p.2=nP 3 tn (row.getD T.key.toNat zeroV):=(ahj (·.2.1) h2).symm
 have ar:T.key.toNat<T.ca.length:=(by decide: ∀T∈bO,T.key.toNat<T.ca.length) T (Bk hT)
 have aa: ∀i (C:fg),T.ca[i]? =some C->C.null=false->(row.getD i zeroV).kind=C.kind:=λi C hC hn=>by
  obtain⟨hi,ah⟩:=A3.1 hC
  have:=(af i hi om).2 (by rw[ah];exact hn)
  rw[Ae,A0 (by omega:i<row.length),Option.getD_some,this,ah]
 obtain⟨a1,a2⟩:=ad T.key.toNat om
 have an:(jE (r.getD T.key.toNat cT)).1.kind≠0:=by
  rw[<-a2]
  match tn,h3 with
  |0,_=>cases hT;exact λh=>absurd ((aa 1 _ rfl rfl).symm.trans h) dC
  |1,_=>cases hT;exact λh=>absurd ((aa 0 _ rfl rfl).symm.trans h) dC
  |2,_=>cases hT;exact λh=>absurd ((aa 0 _ rfl rfl).symm.trans h) dC
 have ai: ∃g,oL T r=some g/\xA tn g=((xA tn (wg tn row)).1,0):=by
  match tn,h3 with
  |0,_=>
   cases hT
   have ao:0<r.length:=by rw[<-al,hlen];decide
   obtain⟨b1,b2⟩:=ad 0 ao
   have aq:=aa 0 _ rfl rfl
   have hn:(row.getD 0 zeroV).n=0\/(row.getD 0 zeroV).n=1:=Classical.byContradiction λh=>q2 ⟨rfl,h⟩
   refine⟨(row.getD 0 zeroV).n, ?_, ?_⟩
   .unfold oL
    rw[ahg (show s8.place=0 from rfl),ahf (λh=>h.elim (λh=>h b1) (λh=>h (by rw[<-b2];exact aq))),<-b2]
    congr 1
    unfold j4
    rcases hn with h|h<;>rw[h]<;>rfl
   .unfold wg
    rcases hn with h|h<;>simp only[h,aho]<;>rfl
  |1,_=>cases hT;exact⟨0,rfl,rfl⟩
  |2,_=>cases hT;exact⟨0,rfl,rfl⟩
 obtain⟨g,g1,g2⟩:=ai
 unfold nx
 rw[Az,hT]
 simp only
 rw[ahf om,ahf (λh=>h.elim (λh=>h a1) an),g1]
 simp only
 rw[g2,ahf (λh=>h rfl),<-a2,k1,k2]
 exact Bb.2 rfl
theorem xI7 (hl:ki cK) (h0:(mF cK).2=0): ∀st∈cK.stmts,Cv (qP (wX cK)) st:=by
 obtain⟨_,hA,_⟩:=N7 (cK.stmts.flatMap nS) TQ
 have hU:wX cK=nR (cK.stmts.flatMap nS) []:=HI cK.stmts []
 rw[<-hU]at hA
 intro st aa
 have cN:=H4 hl h0 st aa
 have ab:=cN.jn
 have hP: ∀r x k,(r,x)∈nS st->Op.bytesLess k x.lo=false->Op.bytesLess k x.hi=true->qP (wX cK) (r,k)=true:=λr x k hp h1 h2=>by
  rcases hA (r,x) (List.mem_flatMap.2 ⟨st,aa,hp⟩)with h|h
  .unfold HH at h
   simp only[C9,ahm]at h
   rcases h with h|h
   .rw[FQ _ _ _ h2 h]at h1;cases h1
   .rw[h,h1]at h2;cases h2
  .exact xT7 h h1 h2
 refine⟨λk2 x hx=> ?_,λk2 r hr p hp=> ?_⟩
 .unfold lg at hx
  simp only[Ab,Cd,ahm,Dc]at hx
  obtain⟨⟨g,hg,e⟩,h1,h2⟩:=hx
  rw[Int.toNat_of_nonneg ab]at hg e h1 h2
  show qP _ (x.r,x.k)=true
  rw[<-e]
  refine hP _ ⟨_,_⟩ _ ?_ h1 h2
  unfold nS
  rw[ahf om,ahf k2]
  exact Ac.2 ⟨g,hg,rfl⟩
 .refine hP p.1 ⟨p.2,p.2++ [0]⟩ p.2 ?_ (HE _) (TU _)
  unfold nS
  rw[ahf om,ahg k2]
  exact List.mem_flatMap.2 ⟨r,hr,xr7 ab hp⟩
theorem xI4 {x:cp} {uJ:US}: ∀y∈nq r x uJ,y.1=r\/ ∃z∈uJ,y.1=z.1:=λy hy=>by
 unfold nq at hy
 split at hy
 .exact .inr ⟨y,hy,rfl⟩
 unfold jl at hy
 split at hy
 .obtain⟨i,hi⟩:=As.1 hy
  rw[List.getElem?_modify]at hi
  cases e:uJ[i]? with
  |none=>rw[e]at hi;cases hi
  |some z=>
   rw[e]at hi
   refine .inr ⟨z,Bk e, ?_⟩
   simp only[Option.map_eq_map,Bf,ahk]at hi
   rw[<-hi]
   split<;>rfl
 .rcases Al.1 hy with hy|hy
  .exact .inr ⟨y,Bp hy,rfl⟩
  .rcases Af.1 hy with rfl|hy
   .exact .inl rfl
   .exact .inr ⟨y,C7 hy,rfl⟩
theorem VI: ∀{ps:List (Int×cp)} {uJ:US},∀y∈nR ps uJ,(∃p∈ps,y.1=p.1)\/ ∃z∈uJ,y.1=z.1
 | [],uJ,y,hy=> .inr ⟨y,hy,rfl⟩
 |p::ps,uJ,y,hy=>by
  rcases VI (ps:=ps) (uJ:=nq p.1 p.2 uJ) y hy with ⟨q,hq,e⟩|⟨z,hz,e⟩
  .exact .inl ⟨q,B5 _ hq,e⟩
  .rcases xI4 z hz with h|⟨w,hw,h⟩
   .exact .inl ⟨p,Av ..,by rw[e,h]⟩
   .exact .inr ⟨w,hw,by rw[e,h]⟩
theorem VJ (t g:Int):0<=(xA t g).1/\(xA t g).1<4:=by
 unfold xA
 repeat' split
 all_goals decide
theorem wa1: ∀p∈nS st,0<=p.1/\p.1<4:=λp hp=>by
 unfold nS at hp
 split at hp
 .cases hp
 split at hp
 .obtain⟨r,_,hp⟩:=List.mem_flatMap.1 hp
  unfold nx at hp
  split at hp
  .cases hp
  split at hp
  .cases hp
  split at hp
  .cases hp
  split at hp
  .cases hp
  split at hp
  .cases hp
  .rw[Bb.1 hp];exact VJ _ _
 .obtain⟨g,_,rfl⟩:=Ac.1 hp
  exact VJ _ _
theorem VL (cK:dR): ∀y∈wX cK,0<=y.1/\y.1<4:=λy hy=>by
 have hU:wX cK=nR (cK.stmts.flatMap nS) []:=HI cK.stmts []
 rw[hU]at hy
 rcases VI y hy with ⟨p,hp,e⟩|⟨z,hz,_⟩
 .obtain⟨st,_,hp⟩:=List.mem_flatMap.1 hp
  rw[e];exact wa1 p hp
 .cases hz
theorem VM: ∀{ps:List (Int×cp)} {uJ:US} {n:Nat},Bd n uJ->Bd (n+ps.length) (nR ps uJ)
 | [],_,_,h=>h
 |p::ps,uJ,n,h=>by
  have:=VM (ps:=ps) (h.ec p.1 p.2)
  rw[Ak,show n+(ps.length+1)=n+1+ps.length by omega]
  exact this
theorem KX {U J:Type} {f:U->List J} {n:Nat}: ∀{l:List U},(∀x∈l,(f x).length<=n)->(l.flatMap f).length<=n*l.length
 | [],_=>by simp
 |x::l,h=>by
  have h1:=h x (Av ..)
  have h2:=KX (l:=l) λy hy=>h y (B5 _ hy)
  rw[By,Ap,Ak,Nat.mul_add]
  omega
theorem wa2 (hs:kO st):(nS st).length<=20:=by
 unfold nS
 split
 .simp
 split
 .refine B1 (KX (n:=1) λr _=> ?_) (by have:=hs.rows.1;omega)
  unfold nx
  repeat' split
  all_goals simp
 .rw[Ag]
  unfold xX
  repeat' split
  .exact B1 (NH _ _) dC
  all_goals simp
theorem xu6 (hl:ki cK): ∀y∈wX cK,y.2.length<=1000:=λy hy=>by
 have hU:wX cK=nR (cK.stmts.flatMap nS) []:=HI cK.stmts []
 have h1:=KX (n:=20) (l:=cK.stmts) (f:=nS) λst aa=>wa2 (hl.stmts.2 st aa)
 have h2:=(VM (ps:=cK.stmts.flatMap nS) (uJ:= []) (n:=0) ⟨A4 _,λy hy=>by cases hy⟩).2 y (by rw[<-hU];exact hy)
 have:=hl.stmts.1
 omega
structure lH (Q:List (Int×List Wr)):Prop where
 dv: ∀q∈Q,0<=q.1/\q.1<=3/\q.2≠ []
 up:Q.Pairwise λa b=>a.1<b.1
 keys: ∀q∈Q,q.2.Pairwise λa b=>Op.bytesLess a.p.2 b.p.2=true
 wr: ∀q∈Q,∀w∈q.2,(w.drop=true->w.data= [])/\(w.drop=false->nU q.1 w.p.2 w.data=true)
theorem KY (l:List Wr) (r:Int):(gH l r).Pairwise λa b=>a.1<b.1:=by
 unfold gH;split<;>simp
theorem xY9 {l:List Wr} {q:Int×List Wr} (h:q∈gH l r):q=(r,l.filter λw=>w.p.1==r)/\q.2≠ []:=by
 unfold gH at h
 split at h
 .cases h
 .rename_i e
  simp at h
  subst h
  exact⟨rfl,e⟩
theorem xU4 (l:List Wr):(gH l 0++(gH l 1++(gH l 2++gH l 3))).Pairwise λa b=>a.1<b.1:=by
 simp only[Bl,Al]
 refine⟨KY ..,⟨KY ..,⟨KY ..,KY ..,λa ha b hb=> ?_⟩,λa ha b hb=> ?_⟩,λa ha b hb=> ?_⟩
 .rw[uP a ha,uP b hb];decide
 .rw[uP a ha]
  rcases hb with hb|hb<;>rw[uP b hb]<;>decide
 .rw[uP a ha]
  rcases hb with hb|hb|hb<;>rw[uP b hb]<;>decide
theorem iS (hl:ki cK) {b:Mp ahP} {aa:List Ln} (hn:cI b aa) (hk:oU aa):lH (nY cK aa):=by
 unfold nY
 by_cases e:(ff cK aa).1.1≠0
 .rw[ahg e]
  exact⟨λq h=>(by cases h),List.Pairwise.nil,λq h=>(by cases h),λq h=>(by cases h)⟩
 rw[ahf e]
 obtain⟨⟨b',ab⟩,af,_⟩:=Vg hl hn hk (sU e)
 obtain⟨now,hN⟩:=eX ((ff cK aa).2)
 rw[hN]at ab af⊢
 have ah:=xy5 hn.rows ab.rows hn.j7 ab.j7 rfl
 obtain⟨hr,ai⟩:=Oo hn.j7 ab.j7
 obtain⟨W,hW⟩:=eX (iF aa now)
 rw[hW]at ah hr ai⊢
 rw[yN2 hr ah]
 have ad: ∀q∈gH W 0++(gH W 1++(gH W 2++gH W 3)),∃r:Int,0<=r/\r<=3/\q=(r,W.filter λw=>w.p.1==r)/\q.2≠ []:=λq hq=>by
  simp only[Al]at hq
  rcases hq with h|h|h|h<;>exact⟨_,dC,dC,xY9 h⟩
 refine⟨λq hq=> ?_,xU4 W,λq hq=> ?_,λq hq w hw=> ?_⟩
 .obtain⟨r,h0,h3,rfl,ae⟩:=ad q hq
  exact⟨h0,h3,ae⟩
 .obtain⟨r,h0,h3,rfl,ae⟩:=ad q hq
  refine(List.Pairwise.and_mem.1 (ahB Bw hr)).imp fun{x y} h=> ?_
  obtain⟨hx,hy,aj⟩:=h
  have e1:x.p.1=r:=by simpa using (Bq.1 hx).2
  have e2:y.p.1=r:=by simpa using (Bq.1 hy).2
  simpa[xV,e1,e2]using aj
 .obtain⟨r,h0,h3,rfl,ae⟩:=ad q hq
  obtain⟨ak,al⟩:=Bq.1 hw
  have e1:w.p.1=r:=sU al
  rcases(ai w).1 ak with ⟨g1,g2,_⟩|⟨g1,x,hx,g2,g3,_⟩
  .exact⟨λ_=>g2,λh=>by rw[g1]at h;cases h⟩
  .refine⟨λh=>(by rw[g1]at h;cases h),λ_=> ?_⟩
   have:=(af x hx).2
   unfold zy at this
   show nU r w.p.2 w.data=true
   rw[<-g3,<-e1,<-g2]
   exact this
theorem xB7 (aa:List Ln):iF aa aa= []:=by
 have h1:(aa.filter λx=> !(aa.any λy=>decide (y.at=x.at)&&decide (xI y.v=xI x.v)))= []:=Dy.2 λx hx=>by
  simp only[Bool.not_eq_true,Bool.not_eq_false']
  exact Cd.2 ⟨x,hx,sm⟩
 have h2:(aa.filter λx=> !il aa x.at)= []:=Dy.2 λx hx=>by
  simp only[Bool.not_eq_true,Bool.not_eq_false']
  exact Cd.2 ⟨x,hx,sm⟩
 unfold iF
 rw[h1,h2]
 rfl
end Go.Proofs.YtplackkccmeioaaGreat
namespace Go.Proofs.YtplackkccmeioaaGreat
open Go Go.Vx Go.Proofs.Tryz
set_option maxRecDepth 100000
def FY (x:gF):Bool:=decide (x.node<1)||(decide (9<x.node)||(decide (x.attempt<0)||(decide (15<x.attempt)||(decide (x.gM<0)||(decide (1048575<x.gM)||(decide (x.seq<0)||decide (16777215<x.seq)))))))
def ka (x:gF):Int:=if FY x=true then 0 else jc .or .i64 (jc .or .i64 (jc .or .i64 (IntKind.i64.wrap (x.node*281474976710656)) (IntKind.i64.wrap (x.gM*268435456))) (IntKind.i64.wrap (x.seq*16))) x.attempt
theorem wn7 (x:gF):Pure prog 61 [.int .i64 x.node,.int .i64 x.gM,.int .i64 x.seq,.int .i64 x.attempt] (.cy [.int .i64 (ka x),.int .i64 (if FY x=true then 1 else 0)]):=by
 obtain⟨M,hM⟩: ∃M:Int×Int,(ka x,if FY x=true then(1:Int)else 0)=M:=⟨_,rfl⟩
 have aa:ka x=M.1:=ahj Prod.fst hM
 have ab:(if FY x=true then(1:Int)else 0)=M.2:=ahj Prod.snd hM
 rw[aa,ab]
 clear aa ab
 unfold ka FY at hM
 have ret: ∀(r q:Int) (I:St),(r,q)=M->cw (some (.cy [.int .i64 r,.int .i64 q])) 0 (λr s=>r= .cy [.int .i64 M.1,.int .i64 M.2]/\s= []) I:=λr q I h=>by subst h;exact wR
 obtain⟨a,b,c,d⟩:=x
 simp only at hM
 refine iW 0 func61 ntmps61 results61 λc hc hb=>zM ?_
 simp[go_sem]
 repeat' (first
  |(refine xE (λq=> ?_) (λq=> ?_)<;>simp[go_sem,q])
  |(refine zU (λq=> ?_) (λq=> ?_)<;>simp[go_sem,q]))
 all_goals exact ret _ _ _ (by rw[<-hM];clear hM ret;first|(simp[*];done)|(simp;omega))
end Go.Proofs.YtplackkccmeioaaGreat
namespace Go.Vx
open Go
theorem xy6 (pick:ahQ) {n0:Nat} {R:V->St->Prop} {I s:St} {v r:V} (ad:pick.Nodup) (hn:n0=0) (aa:bP (λo j=>I[j]? =some (yE (cH pick I.length) o)) s pick) (hr:cP (cH pick I.length) r v) (hR:R r s):cw (some v) n0 R I:=by
 subst hn
 refine⟨v,rfl,v,I,pick,s,r,.refl _ _,⟨aa.length,ad,λi j o hi ho=> ?_,λi h=>absurd h (Nat.not_lt_zero i)⟩,hr,hR⟩
 obtain⟨j',ab,hr⟩:=aa.get i o ho
 rw[hi]at ab
 cases ab
 exact hr
theorem xY5 {N i:Nat}:cH [] N i=N+i:=by simp[cH]
end Go.Vx
namespace Go.Proofs.YtplackkccmeioaaGreat
open Go Go.Vx R Go.Proofs.Tryz
set_option maxRecDepth 100000
variable {ρ:Nat->Nat}{g:Tag}
abbrev KZ:=Int×Int×List Ot
@[go_sem] def oW (x:KZ):List V:= [.int .i64 x.1,.int .i64 x.2.1,.sl .ro (x.2.2.map Ot.row)]
structure Tx where
 id:gF
 cK:dR
 phase:Int
 at_:fh
 bump:Int
 home:Int
 bV:List cu
 gW:KZ
@[go_sem] def Tx.row (t:Tx):List V:= [.int .i64 t.id.node,.int .i64 t.id.gM,.int .i64 t.id.seq,.int .i64 t.id.attempt,.int .i64 t.cK.mode,.int .i64 t.cK.n,.sl .ro (t.cK.stmts.map bW.row),.int .i64 t.phase,.int .i64 t.at_.wall,.int .i64 t.at_.tie,.int .i64 t.bump,.int .i64 t.home,.sl .ro (t.bV.map cu.row),.int .i64 t.gW.1,.int .i64 t.gW.2.1,.sl .ro (t.gW.2.2.map Ot.row)]
@[go_sem] def Tx.eD (t:Tx) (v:V):List V:= [.int .i64 t.id.node,.int .i64 t.id.gM,.int .i64 t.id.seq,.int .i64 t.id.attempt,.int .i64 t.cK.mode,.int .i64 t.cK.n,.sl .ro (t.cK.stmts.map bW.row),.int .i64 t.phase,.int .i64 t.at_.wall,.int .i64 t.at_.tie,.int .i64 t.bump,.int .i64 t.home,v,.int .i64 t.gW.1,.int .i64 t.gW.2.1,.sl .ro (t.gW.2.2.map Ot.row)]
@[go_sem] def zT:gF:=⟨0,0,0,0⟩
@[go_sem] def zS:fh:=⟨0,0⟩
def mx (a b:Int):Int:=if a<b then b else a
def mn (a b:Int):Int:=if b<a then b else a
theorem VN (t:Tx) {rows:List (List V)} (h:t.bV.map cu.row=rows):cP ρ (.agg t.row) (.agg (t.eD (.sl g rows))):=by
 subst h
 unfold Tx.row Tx.eD
 exact wL ⟨zF rfl,zF rfl,zF rfl,zF rfl,zF rfl,zF rfl,zW,zF rfl,zF rfl,zF rfl,zF rfl,zF rfl,zW,zF rfl,zF rfl,zW,tV⟩
theorem wb1 (t:Tx) {rows:List (List V)}:cP ρ (.agg (t.eD (.sl .ro rows))) (.agg (t.eD (.sl g rows))):=by
 unfold Tx.eD
 exact wL ⟨zF rfl,zF rfl,zF rfl,zF rfl,zF rfl,zF rfl,zW,zF rfl,zF rfl,zF rfl,zF rfl,zF rfl,zW,zF rfl,zF rfl,zW,tV⟩
def wx (a:cV) (v w:V):List V:= [.int .i64 a.range,.int .i64 a.cmd.kind,.int .i64 a.cmd.pn,.int .i64 a.cmd.node,.int .i64 a.cmd.home,.int .i64 a.cmd.gB.node,.int .i64 a.cmd.gB.gM,.int .i64 a.cmd.gB.seq,.int .i64 a.cmd.gB.attempt,.int .i64 a.cmd.at_.wall,.int .i64 a.cmd.at_.tie,.int .i64 a.cmd.wall,.bool a.cmd.yes,v,w]
theorem xA0 (a:cV) {k:Tag}:cP ρ (.agg a.row) (.agg (wx a (.sl g (a.cmd.eL.map cp.row)) (.sl k (a.cmd.writes.map eC.row)))):=by
 unfold cV.row wx
 exact wL ⟨zF rfl,zF rfl,zF rfl,zF rfl,zF rfl,zF rfl,zF rfl,zF rfl,zF rfl,zF rfl,zF rfl,zF rfl,zF rfl,zW,zW,tV⟩
theorem H6 (a:cV) {k:Tag}:mP ρ (.agg a.row) (.agg (wx a (.sl g (a.cmd.eL.map cp.row)) (.sl k (a.cmd.writes.map eC.row)))):=by
 unfold cV.row wx
 exact wT ⟨zF rfl,zF rfl,zF rfl,zF rfl,zF rfl,zF rfl,zF rfl,zF rfl,zF rfl,zF rfl,zF rfl,zF rfl,zF rfl,zW,zW,tV⟩
def qQ (t:Tx):Tx:={t with phase:=4,at_:=zS,bV:= []}
def wG (w:Wr):eC:=⟨w.p.2,w.drop,w.data⟩
def oZ (n:Int×List cp):cu:=⟨n.1,1,0,n.2,[],[],zT,false⟩
def tN (p:Int×List Wr):cu:=⟨p.1,2,0,[],p.2.map wG,[],zT,false⟩
@[go_sem] def OQ:ow:=⟨0,0,0,0,zT,zS,0,false,[],[]⟩
def Ec (g:Int) (gB:gF) (yes:Bool):cV:=⟨g,⟨5,0,0,0,gB,zS,0,yes,[],[]⟩⟩
def FZ (t:Tx) (yes:Bool):List cV:=t.bV.map λx=>Ec x.range t.id yes
def gq (t:Tx) (l:cu):Option cV:=
 if l.state=1 then some ⟨l.range,⟨2,0,0,0,t.id,t.at_,0,false,l.eL,[]⟩⟩
 else if l.state=2 then some ⟨l.range,⟨3,0,0,t.home,t.id,t.at_,0,false,[],l.writes⟩⟩
 else if l.state=3 then some ⟨l.home,⟨4,0,0,0,l.gB,zS,0,false,[],[]⟩⟩
 else if l.state=4 then some (Ec l.range l.gB l.yes)
 else none
def OR (t:Tx):cV:=⟨t.home,⟨4,0,0,0,t.id,t.at_,0,true,[],[]⟩⟩
def kM (t:Tx):List cV:=if t.phase=1\/t.phase=2 then t.bV.filterMap (gq t)else if t.phase=3 then [OR t]else []
def tO (w n:Int):Int:=mn w (4611686018427387904 - n)+n
def gR (phase:Int) (l:cu) (r:dN):cu×Int×Bool×Bool:=
 if l.state=3/\r.err=0 then({l with state:=4,yes:=r.yes},0,false,false)
 else if l.state=4/\r.err=0 then({l with state:=if phase=2 then 2 else 1,gB:=zT,home:=0,yes:=false},0,false,false)
 else if l.state=3\/l.state=4 then(l,0,false,false)
 else if r.err=20 then({l with state:=3,gB:=r.gB,home:=r.home},0,false,false)
 else if r.err=0 then({l with state:=5,dy:=if l.state=1 then r.dy else l.dy},0,false,false)
 else if l.state=1/\r.err=24 then(l,tO r.wall 1,true,false)
 else if l.state=1 then(l,0,false,true)
 else if r.err=21 then(l,tO r.wall 24,true,false)
 else if r.err=22 then(l,tO r.at_.wall 1,true,false)
 else if r.err=26 then(l,0,true,false)
 else(l,0,false,false)
inductive tP where
 |done (bV:List cu)
 |wait
 |again (bV:List cu) (bump:Int)
def kb (t:Tx) (a:cV) (r:dN):List cu->List cu->tP
 |acc,[]=> .done acc
 |acc,l::ls=>
  if gq t l=some a then
   if(gR t.phase l r).2.2.1=true then .again (acc++(gR t.phase l r).1::ls) (gR t.phase l r).2.1
   else if(gR t.phase l r).2.2.2=true then .wait
   else kb t a r (acc++ [(gR t.phase l r).1]) ls
  else kb t a r (acc++ [l]) ls
def mw (a:cV):cV:={a with cmd:={a.cmd with pn:=0}}
section
variable (ag:Tx->Int->Int->Tx×List cV) (ru:Tx->Tx)
def qR (t:Tx) (bV:List cu):Tx:=
 if bV.any (λl=>l.state !=5)=true then{t with bV:=bV}
 else if t.phase=1 then ru {t with bV:=bV}else{t with bV:=bV,phase:=3}
def K0 (t:Tx) (r:dN) (bQ:Int):tP->Tx×List cV
 | .again bV b=>ag {t with bV:=bV} b bQ
 | .wait=>(qQ {t with gW:=(r.err,0,[])},[])
 | .done bV=>(qR ru t bV,[])
def AB (t:Tx) (a:cV) (r:dN) (bQ:Int):Tx×List cV:=
 if ¬((kM t).any λy=>decide (y=mw a))=true\/r.err=25\/r.err=27 then(t,[])
 else if t.phase=3 then
  if r.err≠0 then(t,[])else if r.yes=true then({t with phase:=4},FZ t true)else ag t 0 bQ
 else K0 ag ru t r bQ (kb t (mw a) r [] t.bV)
end
structure jN (l:cu):Prop where
 range:0<=l.range/\l.range<1000
 eL:l.eL.length<=100000
 writes:l.writes.length<=100000
 dy:l.dy.length<=1000/\ ∀p∈l.dy,p.data.length<=du
structure jH (t:Tx):Prop where
 cK:ki t.cK
 my:0<=t.id.attempt/\t.id.attempt<=10
 bV:t.bV.length<=4
 mH: ∀l∈t.bV,jN l
 outs:t.gW.2.2.length<=100000/\ ∀x∈t.gW.2.2,x.rows.length<=100000/\ ∀r∈x.rows,r.length<=100000
end Go.Proofs.YtplackkccmeioaaGreat
namespace Go.Proofs.YtplackkccmeioaaGreat
open Go Go.Vx R Go.Proofs.Tryz
set_option maxRecDepth 100000
def lv (l:cu):Vw:=(l.range.toNat,l.dy.map λp=>(p.key,p.data))
def mI (t:Tx):Tx:=
 match nY t.cK (lq (t.bV.map lv))with
 | []=>{t with gW:=(ff t.cK (lq (t.bV.map lv))).1,bV:= [],phase:=4}
 |p::l=>{t with gW:=(ff t.cK (lq (t.bV.map lv))).1,phase:=2,home:=p.1,bV:=(p::l).map tN}
def rL (t:Tx) (bQ:Int):Tx:={t with at_:=⟨mx bQ t.bump,ka t.id⟩,phase:=1,home:=0,gW:=(0,0,[]),bV:=(wX t.cK).map oZ}
def pE (t:Tx) (bQ:Int):Tx:=if wX t.cK= []then mI (rL t bQ)else rL t bQ
def uT (t:Tx) (bump bQ:Int):Tx×List cV:=
 (if 10<=t.id.attempt+1 then qQ {t with bump:=mx t.bump bump,id:={t.id with attempt:=t.id.attempt+1},gW:=(28,0,[])}
  else pE {t with bump:=mx t.bump bump,id:={t.id with attempt:=t.id.attempt+1}} bQ,
  if t.phase=1 then []else FZ t false)
def qS:=AB uT mI
def o7 (id:gF) (l:dR) (bQ:Int):Tx:=
 if l.mode≠0 then⟨{id with attempt:=0},l,4,zS,0,0,[],(1,0,[])⟩
 else if(mF l).2≠0 then⟨{id with attempt:=0},l,4,zS,0,0,[],(ff l []).1⟩
 else pE ⟨{id with attempt:=0},l,0,zS,0,0,[],(0,0,[])⟩ bQ
end Go.Proofs.YtplackkccmeioaaGreat
