/-
  The program's copies (package twin): each copies a list, thing by thing, by a function that copies a thing; used by the walks of txn.
  Conditions: as each theorem states them. Written by program (gen_txb.py).
-/
import Derived.Test.YtplackkccmeioaaGreatKCAQ
import Derived.Test.YtplackkccmeioaaGreatKCAO
import Derived.Test.YtplackkccmeioaaGreatKCAH
import Derived.Test.YtplackkccmeioaaGreatKCAN
import Derived.Test.YtplackkccmeioaaGreatKCAE
set_option maxHeartbeats 8000000
namespace Go.Proofs.YtplackkccmeioaaGreat
open Go Go.Vx R Go.Proofs.Tryz
set_option maxRecDepth 100000
variable {b:Mp aiZ}{l:List Ln}{a:Mp aiZ}{sn:Mp Int}{st:bW}{I:St}{T:bL}{tn:Nat}{cR:dU}{P:Program}{c:Ctx}{x:Ln}{k:Nat}{n0:Kp}{f:FuncId}{bY:List V}{cd:List V}{KV:V->St->Prop}{m:List Ln}{p:Pl}{w:Wr}{r:Int}{C:List Wr}
@[go_sem] theorem BI {nt:Nat} {d:Option Tmp} {K:KT} {e:Env} {x k:Operand} {t1 t2:TypeId}:eL P c nt n0 4 d (.call ⟨.builtin .delete, #[x,k], #[t1,t2]⟩) K fx fx e I=eJ P c nt d (.call ⟨.builtin .delete, #[x,k], #[t1,t2]⟩) K fx fx e I:=ML sm sm sm
theorem xS6 (k:Nat) {args:List V} {fi:St} {R:V->St->Prop} (hc:bN P f cd fi R) (hb:xE P f) (hk:I.take k=fi) (hl:fi.length=k) (cQ:fi.all (bS k))
  (aa:bP (cT (cK (List.range k) I.length)) cd (args++bY)) (hR: ∀r s,R r s-> ∃s0 ex,s=s0++ex/\s0.length=k/\s0.all (bS k)=true/\ex.all (bS 0))
  (hK: ∀r s0 ex,R r (s0++ex)->s0.length=k->KV (dI (cK (List.range k) I.length) r) (s0++I.drop k++ex)):jm P c (.fn f bY) args I KV fx:=by
 have ab:k<=I.length:=by grind
 refine VC.of hc hb (List.range k) Be (by grind) (λi j o h1 h2=> ?_) aa λr s h _=> ?_
 .obtain⟨h3,h4⟩:=A4.1 h1
  simp at h3 h4
  subst h4
  have ho:bS k o:=by
   grind
  rw[yY (n:=k) (by grind[qC]) ho]
  grind
 .obtain⟨s0,ex,rfl,h1,h2,h3⟩:=hR r s h
  have e:yX (List.range k) I (s0++ex)=s0++I.drop k++ex:=by
   have e0:=Q9 ab h1 h2
   have ed:(s0++ex).drop (List.range k).length=ex:=by grind
   have et:(s0++ex).take (List.range k).length=s0.take (List.range k).length:=by grind
   have e2:(s0.drop (List.range k).length).map (yA (cK (List.range k) I.length))= []:=by
    grind
   have e3:ex.map (yA (cK (List.range k) I.length))=ex:=wH (λo h=>yY (n:=0) om h) h3
   unfold yX at e0⊢
   grind
  grind
theorem wq1 (i:Nat) {o o2:Ob} {args:List V} {v:V} (hc:bN P f cd [o] (λr s=>r=v/\s= [o2])) (hb:xE P f) (ho:I[i]? =some o) (cQ:bS 0 o) (ab:bS 0 o2)
  (aa:bP (cT (cK [i] I.length)) cd (args++bY)) (hK:KV (dI (cK [i] I.length) v) (I.set i o2)):pQ P c n0 4 (.fn f bY) args I KV fx:=by
 refine Q3 hc hb [i] sm rfl (λa j x h1 h2=> ?_) aa ?_
 .have e:a=0:=by
   grind
  subst e
  have e1:x=o:=by grind
  have e2:j=i:=by grind
  subst e1;subst e2
  rw[yY (n:=0) om cQ]
  exact ho
 .have e:yX [i] I [o2]=I.set i o2:=by
   simp only[yX,Bm,Cb,E2,Dd,Bh,Aj,Bq,fI,Ay]
   rw[yY (n:=0) om ab]
  grind
theorem wd1: ∀n,4<=n->(dp a b sn++([.cj (m.map Ln.row) 3]:St)).all (bS n)=true:=λn h=>by
 rw[E7,wC n om a b sn]
 simp[bS,cN,cL,Ln.row]
structure rC (st:bW):Prop where
 ok:kM st
 vok:Lf st
 jD:0<=xK st.table
 items:st.kind=1->st.items≠ []
 cD:st.kind=3-> ∀x∈st.cD,0<=cV (bO.getD (xK st.table).toNat eQ) x.name
theorem Pq {tn:Nat} {T:bL} (hT:bO[tn]? =some T) {st:bW} (ab:kM st): ∀{m:List Ln} {b:Mp aiZ} {l:List Ln},cO b l->(∀x∈m,jF l x.at=true/\fM x/\(fC x.r).1=(tn:Int))->(gO T st.cD m l).2=0->cO (mM T st.cD m b) (gO T st.cD m l).1
 | [],_,_,hn,_,_=>hn
 |x::m,b,l,hn,hm,h0=>by
  obtain⟨ad,aa,ae⟩:=hm x sm
  rw[gO]at h0⊢
  rw[mM]
  obtain⟨E,hE⟩:=eX (gz T x.v st.cD x.v)
  rw[hE]at h0⊢
  by_cases q:E.2=0
  rotate_left
  .grind
  rw[aiu om]at h0
  rw[aiu om,aiu (show ¬E.2≠0 from λh=>h q)]
  by_cases q2:fe T.cm E.1=0
  rotate_left
  .grind
  rw[aiu om]at h0
  rw[aiu om,aiu om]
  have af: ∀v∈E.1,v.ok:=by
   have h1:=Lw (T:=T) aa.ok (cD:=st.cD) (row:=x.v) (λy hy=>(ab.cD.2 y hy).2) aa.ok
   grind
  refine Pq hT ab (hn.Ix x.at E.1 ad ⟨⟨tn,T,ae,hT,q2⟩,aa.err,af⟩) (λy hy=> ?_) h0
  grind[Vo]
def xt (n:Nat) (e:Int):V:= .cy [.agg (Ot.row (if e≠0 then⟨0,[]⟩else⟨n,[]⟩)),.int .i64 e]
theorem LI (h3:tn<3) (h:pq tn st x):(fC x.r).1=(tn:Int):=by
 unfold pq at h
 rw[Ab,List.any_eq_true]at h
 grind[VA]
theorem wd8 (hT:bO[tn]? =some T) (hx:fM x) (aa:(fC x.r).1=(tn:Int)):x.v.length=T.cm.length:=by
 obtain⟨ab,T',h1,h2,h3⟩:=hx.jD
 grind[xk]
theorem V0 {T:bL} {st:bW}: ∀{l acc:List Ln},(ud T st acc l).1.length<=acc.length+l.length
 | [],_=>A7 _
 |x::l,acc=>by
  rw[ud]
  split
  .simp
  .refine Aw V0 ?_
   split<;>simp<;>omega
theorem V1 {t:Int}:(ga t T st l).1.length<=l.length:=by
 grind[ga,V0]
theorem xY7 {N:Nat} (h4:I.take 4=dp a b sn) (cJ:I[k]? =some (.cj (m.map Ln.row) 3)) (i j:Nat) (o:Ob) (ab: [0,1,2,3,k][i]? =some j) (ho:(dp a b sn++([.cj (m.map Ln.row) 3]:St))[i]? =some o):I[j]? =some (yA (cK [0,1,2,3,k] N) o):=by
 by_cases q:i<4
 .have e:j=i:=by
   match i,q with
   |0,_=>grind
   |1,_=>grind
   |2,_=>grind
   |3,_=>grind
  subst e
  have h1:(dp a b sn)[j]? =some o:=by rw[Ao (by exact q)]at ho;exact ho
  have aa:bS 4 o:=Am.1 (by grind[wC]) o (Bk h1)
  rw[yY (n:=4) (λx hx=> ?_) aa]
  .grind
  .rw[wU (by grind)]
   match x,hx with
   |0,_=>rfl
   |1,_=>rfl
   |2,_=>rfl
   |3,_=>rfl
 .have e:i=4:=by
   grind
  subst e
  have e1:o= .cj (m.map Ln.row) 3:=by grind
  have e2:j=k:=by grind
  subst e1;subst e2
  rw[yY (n:=0) om (by grind[bS,cN,cL,Ln.row])]
  omega
theorem xw8 {o0 o1 o2 o3 o4 o5 o6:Ob}:yX [0,1,2,3,6] [o0,o1,o2,o3,o4,o5,o6] (dp a b sn++([.cj (m.map Ln.row) 3]:St))= [a.ob .str,b.ob .str,sn.ob (V.int .i64),fQ,o4,o5,.cj (m.map Ln.row) 3]:=by
 have e:(dp a b sn++([.cj (m.map Ln.row) 3]:St)).map (yA (cK [0,1,2,3,6] 7))=dp a b sn++([.cj (m.map Ln.row) 3]:St):=
  wH (λo h=>yY (n:=4) dC h) (by grind[wd1])
 unfold yX
 rw[Aa (by simp[dp]),Bp (by simp[dp])]
 show fI _ _ (List.map (yA (cK [0,1,2,3,6] 7)) _)++_=_
 rw[e]
 rfl
def Pr (a:Mp aiZ) (sn:Mp Int) (D:Ot×List Ln×Int) (r:V) (s:St):Prop:=
 ∃b',s=dp a b' sn/\r= .cy [.agg D.1.row,.int .i64 D.2.2]/\(D.2.2=0->cO b' D.2.1)
theorem xF0 {w:Nat×aiZ} (h:b.at p=some w):Ob.mp ((gx V.str b.W).take (2*w.1)++(gx V.str b.W).drop (2*w.1+2)) (b.bs.eraseIdx w.1) b.cZ=(b.del p).ob V.str:=by
 show Ob.mp (yu (gx V.str b.W) w.1) _ _=_
 unfold Mp.del Mp.ob
 rw[h]
 have:=(A4.1 (xm (W:=b.W) (i:=w.1) (v:=w.2) h)).1
 grind[U0]
theorem xF1 (h:b.at p=none):b.del p=b:=by
 grind[Mp.del]
theorem EG {D:Ot×List Ln×Int} {Il:St} {g:Tag} (o:Ot) (e:Int) (h1:D.1=o) (h2:D.2.2=e) (h3:e=0->cO b D.2.1):
  cx (some (.cy [.agg [.sl g (o.rows.map λr=> [.sl .ro (r.map bK.row)]),.int .i64 o.count],.int .i64 e])) 4 (Pr a sn D) (a.ob .str::b.ob .str::sn.ob (V.int .i64):: .box [.sl .ro xJ,.sl .ro (bO.map bL.row),.mp 0,.mp 1,.mp 2]::Il):=
 yZ 4 (s:=dp a b sn) (r:= .cy [.agg (Ot.row o),.int .i64 e]) rfl rfl (by grind[wC]) om (yW ⟨wW ⟨zX,zF rfl,tV⟩,xV rfl,tV⟩) ⟨b,rfl,by grind,(by grind)⟩
theorem xy9 (st:bW) (ad:rC st) (a b:Mp aiZ) (sn:Mp Int) (l:List Ln) (ab:cO b l) (hl:l.length<=10000):
  bN prog 59 [.ptr 3 0,.agg st.row] (dp a b sn) (Pr a sn (k9 st l)):=by
 obtain⟨tn,a1⟩: ∃tn:Nat,xK st.table=tn:=⟨(xK st.table).toNat,by have:=ad.jD;omega⟩
 have aE:tn<3:=by
  have h:=Et (λT:bL=>T.name==st.table) bO 0
  have h2:bO.length=3:=rfl
  grind[xK]
 obtain⟨T,hT⟩: ∃T,bO[tn]? =some T:=⟨_,A0 (show tn<bO.length from aE)⟩
 obtain⟨a6,a7⟩:=A4.1 hT
 have aF:bO.getD (xK st.table).toNat eQ=T:=by grind
 have ae:=ad.cD
 rw[aF]at ae
 have af:=OA bO st.table dC
 have aG:iG (λt:bL=>t.name==st.table) bO 0=tn:=a1
 rw[aG]at af
 have ah:=yR7 tn T hT st ad.ok a b sn l ab
 have ai:=wt2 tn T hT st ad.ok ad.vok a b sn l ab hl
 obtain⟨D,hD⟩:=eX (k9 st l)
 rw[hD]
 have aa:=hD
 unfold k9 at aa
 simp only[a1,B0]at aa
 rw[show bO.getD tn eQ=T by grind]at aa
 refine iV 4 func59 ntmps59 results59 λc hc hb=> ?_
 refine zN (zA ?_)
 simp[go_sem,dp,fQ]
 refine zN (zA ?_)
 simp[go_sem]
 refine yE [(6,0)] 6 rfl (by rfl) kR ?_
 simp[go_sem]
 refine pD af ?_
 simp[go_sem]
 have aj:=λb':Mp aiZ=>wC 4 dC a b' sn
 by_cases k2:st.kind=2
 .rw[aiv k2]at aa
  have aq:(st.kind==2)=true:=by grind
  obtain⟨uU,hI⟩:=eX (gJ tn T st.rows l)
  rw[hI]at aa ah
  refine zA ?_
  simp[go_sem,aq]
  refine uM 4 ah cB rfl rfl (aj b) (rS (n:=4) rfl) (λr s h=> ?_) (λr s h=> ?_)
  .obtain⟨b',rfl,h⟩:=h
   refine⟨rfl,aj b', ?_⟩
   rcases h with ⟨_,rfl⟩|⟨_,rfl,_⟩
   all_goals rfl
  .obtain⟨b',rfl,h⟩:=h
   rcases h with ⟨h0,rfl⟩|⟨h0,rfl,hn⟩
   .rw[aiv h0]at aa
    simp[go_sem,dp,fQ,Ot.row]
    exact EG ⟨0,[]⟩ uU.2 (by grind) (by grind) om
   .rw[aiu om]at aa
    simp[go_sem,dp,fQ,Ot.row]
    exact EG ⟨st.rows.length,[]⟩ 0 (by grind) (by grind) (by grind)
 have aq:(st.kind==2)=false:=by grind
 rw[aiu k2]at aa
 clear ah
 obtain⟨⟨m,me⟩,hM⟩: ∃M,ga tn T st l=M:=⟨_,rfl⟩
 rw[hM]at aa ai
 simp only at aa
 refine zN (zA ?_)
 simp[go_sem,aq]
 refine zN (zA ?_)
 simp[go_sem]
 refine xS6 4 ai cB rfl rfl (aj b) (rS (n:=4) rfl) (λr s h=> ?_) (λr s0 ex h h4=> ?_)
 .rcases h with ⟨_,rfl,_⟩|⟨_,rfl,_⟩
  .exact⟨_,[],(by rfl),rfl,aj b,rfl⟩
  .exact⟨_,_,rfl,rfl,aj b,by simp[bS,cN,cL,Ln.row]⟩
 rcases h with ⟨m0,hs,rfl⟩|⟨m0,hs,rfl⟩
 .have ar:=List.append_inj (hs.trans (Ay _).symm) (by simpa)
  obtain⟨rfl,rfl⟩:=ar
  have m0:me≠0:=m0
  have aH:(me !=0)=true:=by grind
  rw[aiv m0]at aa
  simp[go_sem,dp,fQ]
  refine zN (zA ?_)
  simp[go_sem,aH]
  exact EG ⟨0,[]⟩ me (by grind) (by grind) om
 .have ar:=List.append_inj hs (by simpa)
  obtain⟨rfl,rfl⟩:=ar
  have m0:me=0:=m0
  rw[aiu om]at aa
  subst m0
  have er:cK [0,1,2,3] 6 4=6:=rfl
  have a8:m.length<=10000:=by grind[V1]
  have al: ∀x∈m,x∈l/\(pq tn st x):=(by grind[Lx])
  simp[go_sem,dp,fQ,er]
  refine zN (zA ?_)
  simp[go_sem]
  refine zN (zN (zA ?_))
  simp[go_sem]
  refine AD (zN (zA ?_))
  simp[go_sem]
  by_cases k1:st.kind=1
  .have au:(st.kind==1)=true:=by grind
   rw[aiv k1]at aa
   have av:=yz7 tn T hT st ad.ok (ad.items k1) m a8 (λx hx=>⟨ab.rows x (al x hx).1,wd8 hT (ab.rows x (al x hx).1) (by grind[LI])⟩)
   obtain⟨M,aI⟩:=eX (lE T st m)
   rw[aI]at av aa
   obtain⟨C,hC⟩:=eX (IL T st m)
   rw[hC]at av
   refine zA ?_
   simp[go_sem,au]
   refine ny [(10,4)] 6 sm (by rfl) kR ?_
   simp[go_sem,a6,a7]
   refine wq1 6 av cB rfl (by grind[bS,cN,cL,Ln.row]) (by grind[bS,cN,cL,Ln.row]) ⟨zC rfl,zC rfl,.inl rfl,tV⟩ ?_
   simp[go_sem,pz,Ot.row]
   exact EG M.1 M.2 (by grind) (by grind) (by grind)
  have au:(st.kind==1)=false:=by grind
  rw[aiu k1]at aa
  refine zA ?_
  simp[go_sem,au]
  by_cases k3:st.kind=3
  .have aw:(st.kind==3)=true:=by grind
   rw[aiv k3]at aa
   have aA: ∀x∈m,jF l x.at=true/\fM x/\(fC x.r).1=(tn:Int):=λx hx=>⟨gb.2 (by grind),ab.rows x (al x hx).1,(by grind[LI])⟩
   have ax:=xS3 tn T hT st ad.ok (ae k3) a b sn l m ab aA a8
   have aJ:=Pq hT ad.ok ab aA
   obtain⟨uJ,hU⟩:=eX (gO T st.cD m l)
   obtain⟨B,hB⟩:=eX (mM T st.cD m b)
   rw[hU,hB]at ax aJ
   rw[hU]at aa
   have aB:=ax.mono (R':=λr s=>r=xt m.length uJ.2/\s=dp a B sn++ [.cj (m.map Ln.row) 3]) (λr s h=>by
    obtain⟨h1,h2⟩:=h
    refine⟨?_,h1⟩
    unfold xt
    grind)
   clear ax
   simp[go_sem,aw]
   refine ny [(11,4)] 5 sm (by rfl) kR ?_
   simp[go_sem,a6,a7]
   refine Q3 aB cB [0,1,2,3,6] dC rfl (xY7 rfl rfl) ⟨.inl rfl,zC rfl,zC rfl,.inl rfl,tV⟩ ?_
   rw[xw8]
   by_cases u0:uJ.2=0
   .rw[aiu om]at aa
    simp[go_sem,xt,Ot.row,u0]
    exact EG ⟨m.length,[]⟩ 0 (by grind) (by grind) (by grind)
   .rw[aiv u0]at aa
    simp[go_sem,xt,Ot.row,u0]
    exact EG ⟨0,[]⟩ uJ.2 (by grind) (by grind) om
  .have aw:(st.kind==3)=false:=by grind
   rw[aiu k3]at aa
   have ay: ∀(b':Mp aiZ),([a.ob .str,b'.ob .str,sn.ob (V.int .i64),.box [.sl .ro xJ,.sl .ro (bO.map bL.row),.mp 0,.mp 1,.mp 2],.box st.row,.box dV,.cj (m.map Ln.row) 3]:St).all (bS 7)=true:=λb'=>by
    have h:=wC 7 om a b' sn
    simp_all[dp,bS,cN,cL,bW.row,Ln.row,dV]
   have hG: ∀(b':Mp aiZ) (l':List Ln) (Il:St),cO b' l'->jU m l=l'->cx (some (.cy [.agg [.sl .full [],.int .i64 m.length],.int .i64 0])) 4 (Pr a sn D) (a.ob .str::b'.ob .str::sn.ob (V.int .i64):: .box [.sl .ro xJ,.sl .ro (bO.map bL.row),.mp 0,.mp 1,.mp 2]::Il):=λb' l' Il h1 h2=>
    EG ⟨m.length,[]⟩ 0 (by grind) (by grind) (by grind)
   generalize hQ:jU m l=Q at hG
   clear aa al ai hs
   simp[go_sem,aw]
   refine zN (zA ?_)
   simp[go_sem]
   refine zH (S:=Nat×Mp aiZ×List Ln) [0,4,7,71,72,73] (λu=> [.ptr 3 0,.ptr 5 0,.cM 6 3 m.length 0 m.length,.cM 6 3 m.length 0 m.length,.int .i64 m.length,.int .i64 u.1])
    (λu=> [a.ob .str,u.2.1.ob .str,sn.ob (V.int .i64),.box [.sl .ro xJ,.sl .ro (bO.map bL.row),.mp 0,.mp 1,.mp 2],.box st.row,.box dV,.cj (m.map Ln.row) 3]) (λu=>m.length - u.1)
    (λu=>u.1<=m.length/\cO u.2.1 u.2.2/\jU (m.drop u.1) u.2.2=Q) hc hb (0,b,l) (by grind) ?_ ?_
   .exact cc 7 (by rfl) rfl (ay b) dC (zD (by rfl) rfl)
   rintro⟨i,b1,l1⟩ ⟨hi,az,an⟩
   simp only at hi az an
   by_cases q:i<m.length
   rotate_left
   .rw[A9 om,jU]at an
    refine zA ?_
    simp[go_sem,q,dV]
    refine zA ?_
    simp[go_sem]
    exact hG b1 l1 _ az an.symm
   have ei:=zQ q om
   obtain⟨x,hx⟩:=eX (m[i])
   rw[A5 q,hx,jU]at an
   have eB:b1.ob .str= .mp (gx .str b1.W) b1.bs b1.cZ:=rfl
   have aC:=az.del x.at
   refine zA ?_
   simp[go_sem,q,hx]
   refine yE [] 8 rfl (by rfl) kR ?_
   simp[go_sem]
   cases ao:b1.at x.at with
   |none=>
    have ak:dP (x.r,x.k) b1.W=none:=ao
    rw[xF1 ao]at aC
    simp[go_sem,eB,po,ak,lp,lQ,ei]
    exact zI (i+1,b1,l1.filter λy=> !decide (y.at=x.at)) ⟨om,(by grind),cc 7 (by rfl) rfl (ay _) dC (zD (by rfl) rfl)⟩
   |some w=>
    have ak:dP (x.r,x.k) b1.W=some w:=ao
    have aD:=xF0 ao
    simp[go_sem,eB,po,ak,lp,lQ,aD,ei]
    exact zI (i+1,b1.del x.at,l1.filter λy=> !decide (y.at=x.at)) ⟨om,(by grind),cc 7 (by rfl) rfl (ay _) dC (zD (by rfl) rfl)⟩
def pA (p:Pl):List V:= [.int .i64 p.1,.str p.2]
def xu (w:Wr):List V:= [.str w.p.2,.bool w.drop,.str w.data]
def mN (q:Int×List Wr):List V:= [.int .i64 q.1,.sl .ro (q.2.map xu)]
def lH (q:Int×List Wr×Nat):List V:= [.int .i64 q.1,.sl (.app (q.2.2+8)) (q.2.1.map xu)]
def vq (N:List (Int×List Wr×Nat)):List (Int×List Wr):=N.map λq=>(q.1,q.2.1)
theorem xW7 (N:List (Int×List Wr×Nat)):wX (N.map lH) 0 N.length=(vq N).map mN:=by
 unfold wX vq
 rw[Bh,Aa sm,Bg,Bg]
 rfl
theorem wo5 (N:List (Int×List Wr×Nat)):xI (N.map lH)=true:=by grind[xI,lH,pN]
def V2 (N:List (Int×List Wr×Nat)) (τ:St) (i:Nat):Prop:= ∀O r C k,N=O++ [(r,C,k)]->τ[k]? =some (.app C.length 3)/\C.length<=i
theorem LJ {U:Type} {g:U->V} {id:Nat} {rows:List (List V)} (hg: ∀v,gj id rows (g v)=g v): ∀W:List (Pl×U),(gx g W).map (gj id rows)=gx g W
 | []=>rfl
 |e::W=>by
  rw[gx,Aj,Aj,LJ hg W,hg]
  rfl
theorem xX9 {id:Nat} {rows:List (List V)}:(dp a b sn).map (nq id rows)=dp a b sn:=by
 unfold dp
 simp only[Aj,Bq,Mp.ob,nq]
 rw[LJ (λ_=>rfl),LJ (λ_=>rfl),LJ (λ_=>rfl)]
 rfl
theorem rD {n0:Nat} {keep:aj0} {vs:List V} {s:St} {e:Env} (hs:I=s) (hn:n0<=I.length) (h:keep.map e=vs):At n0 keep vs s e I:=by
 subst hs
 exact yH hn h
theorem xI2 {O:List (Int×List Wr×Nat)} (h:w.p.1=r):ic (vq (O++ [(r,C,k)])) w=vq (O++ [(r,C++ [w],k)]):=by
 grind[ic,vq]
theorem xY6 {O:List (Int×List Wr×Nat)} {r0:Int} {k':Nat} (h:w.p.1=r) (hr: ¬r0=r):ic (vq (O++ [(r0,C,k)])) w=vq ((O++ [(r0,C,k)])++ [(r,[w],k')]):=by
 unfold ic vq
 grind
theorem Ps {N:List (Int×List Wr×Nat)} {i:Nat} {τ:St} (h:τ[k]? =some (.app C.length 3)) (hl:C.length<=i):V2 (N++ [(r,C,k)]) τ i:=λO r' C' k' e=>by
 simp_all
theorem xv0 (a:Mp aiZ) (D:List (Pl×aiZ)) (e:Pl×aiZ):iO a (D++ [e])=if IK a e=true then iO a D++ [e.1]else iO a D:=by
 unfold iO
 grind
theorem xv1 (b:Mp aiZ) (D:List (Pl×aiZ)) (e:Pl×aiZ):iE b (D++ [e])=if Gz b e=true then iE b D++ [e.1]else iE b D:=by
 unfold iE
 grind
theorem xZ4 (a:Mp aiZ) (D:List (Pl×aiZ)):(iO a D).length<=D.length:=by
 grind[iO]
theorem xZ5 (a:Mp aiZ) (D:List (Pl×aiZ)):(iE a D).length<=D.length:=by
 grind[iE]
theorem ib.le {U:Type} {seen:aj0} {W:List (Pl×U)} {bs:aj0} {D:List (Pl×U)} (h:ib seen W bs D):D.length<=W.length:=by
 have:=h.length_eq
 grind
theorem wo7 (a b:Mp aiZ) (sn:Mp Int) (ar now:List Ln) (ha:cO a ar) (hn:cO b now) (aQ:ar.length<=10000) (aR:now.length<=10000):
  bN prog 60 [.ptr 3 0] (dp a b sn) (λr s=>r= .sl .ro ((mK (jg ar now)).map mN)/\s=dp a b sn):=by
 have eA:a.ob .str= .mp (gx .str a.W) a.bs a.cZ:=rfl
 have eB:b.ob .str= .mp (gx .str b.W) b.bs b.cZ:=rfl
 have aS:a.W.length<=10000:=by have:=ha.perm.length_eq;grind
 have aT:b.W.length<=10000:=by have:=hn.perm.length_eq;grind
 have aG: ∀x∈b.bs,x<b.cZ:=hn.ok.lt
 have has: ∀x∈a.bs,x<a.cZ:=ha.ok.lt
 have ak: ∀(L:List Pl) (se:aj0),([a.ob .str,b.ob .str,sn.ob (V.int .i64),.box [.sl .ro xJ,.sl .ro (bO.map bL.row),.mp 0,.mp 1,.mp 2],.cj (L.map pA) 2,.it (some 1) b.cZ se b.cZ]:St).all (bS 6)=true:=λL se=>by
  have h:=wC 6 om a b sn
  simp_all[dp,bS,cN,cL,pA]
 refine iV 4 func60 ntmps60 results60 λc hc hb=> ?_
 refine zN (zA ?_)
 simp[go_sem,dp,fQ]
 refine zN (zA ?_)
 simp[go_sem]
 refine FQ 3 2 dC (by rfl) ?_
 refine zN (zA ?_)
 simp[go_sem,eB]
 refine zH (S:=aj0×List (Pl×aiZ)) [0,3,21] (λu=> [.ptr 3 0,.cM 4 2 (iO a u.2).length 0 (iO a u.2).length,.ptr 5 0])
   (λu=> [a.ob .str,b.ob .str,sn.ob (V.int .i64),.box [.sl .ro xJ,.sl .ro (bO.map bL.row),.mp 0,.mp 1,.mp 2],.cj ((iO a u.2).map pA) 2,.it (some 1) b.cZ u.1 b.cZ]) (λu=>(j4 u.1 b.W b.bs).length)
   (λu=>ib u.1 b.W b.bs u.2) hc hb ([],[]) (ib.start hn.ok.len) ?_ ?_
 have k0:iO a []= []:=rfl
 .exact cc 6 (by rfl) rfl (ak _ _) dC (zD (by rfl) rfl)
 .rintro⟨se,D⟩ hD
  simp only at hD
  refine uH 22 dC ?_
  refine zA ?_
  simp[go_sem,eB]
  have a6:=hD.le
  have a7:=xZ4 a D
  refine Pb (b:=b) (i:=5) (id:=1) (seen:=se) (cZ:=b.cZ) (by simp[nj]) rfl rfl aG (λhL=> ?_) (λp hp=> ?_)
  .have af:=hD.done hL
   obtain⟨K1,a8⟩:=eX (iO a D)
   have ay:K1.Perm (iO a b.W):=by rw[<-a8];exact(af.filter _).map _
   have aB:K1.length<=10000:=by grind
   rw[a8]
   clear a8 af hL a7 a6 hD
   have au: ∀(L:List Pl) (aC:aj0),([a.ob .str,b.ob .str,sn.ob (V.int .i64),.box [.sl .ro xJ,.sl .ro (bO.map bL.row),.mp 0,.mp 1,.mp 2],.cj (L.map pA) 2,.it (some 1) b.cZ se b.cZ,.it (some 0) a.cZ aC a.cZ]:St).all (bS 7)=true:=λL aC=>by
    have h:=wC 7 om a b sn
    simp_all[dp,bS,cN,cL,pA]
   simp[go_sem]
   refine zN (zA ?_)
   simp[go_sem,eA]
   have k0:iE b []= []:=rfl
   refine zH (S:=aj0×List (Pl×aiZ)) [0,3,51] (λu=> [.ptr 3 0,.cM 4 2 (K1++iE b u.2).length 0 (K1++iE b u.2).length,.ptr 6 0])
     (λu=> [a.ob .str,b.ob .str,sn.ob (V.int .i64),.box [.sl .ro xJ,.sl .ro (bO.map bL.row),.mp 0,.mp 1,.mp 2],.cj ((K1++iE b u.2).map pA) 2,.it (some 1) b.cZ se b.cZ,.it (some 0) a.cZ u.1 a.cZ]) (λu=>(j4 u.1 a.W a.bs).length)
     (λu=>ib u.1 a.W a.bs u.2) hc hb ([],[]) (ib.start ha.ok.len) ?_ ?_
   .exact cc 7 (by grind) rfl (au _ _) dC (zD (by simp[go_sem,k0]) rfl)
   rintro⟨aj,D⟩ hD
   simp only at hD
   refine uH 52 dC ?_
   refine zA ?_
   simp[go_sem,eA]
   have a6:=hD.le
   have a7:=xZ5 b D
   refine Pb (b:=a) (i:=6) (id:=0) (seen:=aj) (cZ:=a.cZ) (by simp[nj]) rfl rfl has (λhL=> ?_) (λp hp=> ?_)
   .have af:=hD.done hL
    obtain⟨K2,av⟩:=eX (K1++iE b D)
    have az:K2.Perm (iO a b.W++iE b a.W):=by rw[<-av];exact ay.append ((af.filter _).map _)
    have aD:K2.length<=20000:=by grind
    have al:(K1++iE b D).map pA=K2.map pA:=by rw[av]
    have an:(K1++iE b D).length=K2.length:=by rw[av]
    rw[C9]at al
    rw[An]at an
    clear av af hL a7 a6 hD aB ay k0 ak au
    simp[go_sem,al,an]
    refine zN (zA ?_)
    simp[go_sem]
    refine Sa Tryz.EB rfl cB dC Tryz.pw Tryz.rp cB Vp Vq (f:=pA) (kx:=λp=>p) (λx=>⟨_,rfl,rfl⟩) K2 rfl om (λL aw aE=> ?_)
    have a1:=xE5 ha hn (aw.symm.trans az) aE
    have aU:L.length<=20000:=by rw[<-aw.length_eq];omega
    rw[aw.length_eq]
    clear aw aE az aD an al
    simp[go_sem]
    refine zN (zA ?_)
    simp[go_sem]
    refine FQ 11 2 dC (by rfl) ?_
    refine zN (zA ?_)
    simp[go_sem]
    obtain⟨G,hG⟩:=eX (mK (jg ar now))
    rw[hG]
    have aH:(L.map (p6 b)).foldl ic (vq [])=G:=by rw[a1];exact hG
    clear a1 hG
    refine zH (S:=Nat×List (Int×List Wr×Nat)×St) [0,11,73,74,75] (λu=> [.ptr 3 0,.cM 7 2 u.2.1.length 0 u.2.1.length,.cM 4 2 L.length 0 L.length,.int .i64 L.length,.int .i64 u.1])
      (λu=> [a.ob .str,b.ob .str,sn.ob (V.int .i64),.box [.sl .ro xJ,.sl .ro (bO.map bL.row),.mp 0,.mp 1,.mp 2],.cj (L.map pA) 2,.it (some 1) b.cZ se b.cZ,.it (some 0) a.cZ aj a.cZ,.cj (u.2.1.map lH) 2]++u.2.2) (λu=>L.length - u.1)
      (λu=>u.1<=L.length/\u.2.1.length<=u.1/\V2 u.2.1 u.2.2 u.1/\((L.map (p6 b)).drop u.1).foldl ic (vq u.2.1)=G) hc hb (0,[],[]) ⟨om,sm,λO r C k h=>by simp_all,aH⟩ ?_ ?_
    .exact yH sm (by rfl)
    rintro⟨i,N,τ⟩ ⟨hi,aI,aF,ab⟩
    simp only at hi aI aF ab
    by_cases q:i<L.length
    rotate_left
    .rw[A9 (by grind),List.foldl_nil]at ab
     refine zA ?_
     simp[go_sem,q]
     refine zA ?_
     simp[go_sem]
     refine ME 7 2 (N.map lH) rfl (wo5 N) ?_
     simp only[gk,gj,gr,fX,Ag,Ad,A7,and_self,aiE,xW7,ab]
     refine yZ 4 (s:=dp a b sn) (r:= .sl .ro (G.map mN)) ?_ rfl (by grind[wC]) om zK (by trivial)
     exact xX9
    have ei:=zQ q om
    obtain⟨⟨pr,pk⟩,hp⟩: ∃p,L[i]=p:=⟨_,rfl⟩
    rw[A5 (by grind),Bn,Cy,hp]at ab
    refine zN (zA ?_)
    simp[go_sem,q]
    refine zN (zA ?_)
    simp[go_sem]
    refine zN (AD (zN (zA ?_)))
    simp[go_sem,q,hp,pA]
    refine ov (S:=Bool×aiZ) [0,11,13,14,15,73,74,75] (λu=> [.ptr 3 0,.cM 7 2 N.length 0 N.length,.ptr (τ.length+8) 0,.str u.2,.bool (!u.1),.cM 4 2 L.length 0 L.length,.int .i64 L.length,.int .i64 i])
      (λu=> [a.ob .str,b.ob .str,sn.ob (V.int .i64),.box [.sl .ro xJ,.sl .ro (bO.map bL.row),.mp 0,.mp 1,.mp 2],.cj (L.map pA) 2,.it (some 1) b.cZ se b.cZ,.it (some 0) a.cZ aj a.cZ,.cj (N.map lH) 2]++(τ++ [.box [.int .i64 pr,.str pk]]))
      (λu=>p6 b (pr,pk)=⟨(pr,pk),u.1,u.2⟩) hc hb ?_ ?_
    .refine yE [] (τ.length+9) sm (by rfl) kR ?_
     simp[go_sem,eB]
     cases ah:b.at (pr,pk)with
     |none=>
      have aa:dP (pr,pk) b.W=none:=ah
      have hw:p6 b (pr,pk)=⟨(pr,pk),true,[]⟩:=by grind[p6,Mp.get]
      simp[go_sem,po,aa,lp,lQ]
      exact zI (true,[]) ⟨hw,yH sm (by rfl)⟩
     |some w=>
      have aa:dP (pr,pk) b.W=some w:=ah
      have hw:p6 b (pr,pk)=⟨(pr,pk),false,w.2⟩:=by grind[p6,Mp.get]
      simp[go_sem,po,aa,lp,lQ]
      exact zI (false,w.2) ⟨hw,yH sm (by rfl)⟩
    rintro⟨dr,ax⟩ hw
    simp only at hw
    rw[hw]at ab
    rcases List.eq_nil_or_concat N with hN|⟨O,⟨r0,C,k⟩,hN⟩
    .subst hN
     refine zN (zN ?_)
     refine yE [] (τ.length+9) sm (by rfl) kR ?_
     simp[go_sem]
     refine JW (b:=true) (by rfl) (λ_=> ?_) (λh=>by cases h)
     refine Sf 4 rfl rfl rfl ?_
     simp[go_sem,Ck]
     refine zJ (zY rfl) ?_
     simp[go_sem]
     refine zN (zA ?_)
     simp[go_sem]
     refine ny [(4,2),(6,2),(12,3),(15,4)] 6 sm (by rfl) kR ?_
     simp[go_sem]
     refine zJ ⟨(λr hr=>by cases hr),zY rfl⟩ ?_
     simp[go_sem]
     refine zA ?_
     simp[go_sem,ei]
     exact zI (i+1,[(pr,[⟨(pr,pk),dr,ax⟩],τ.length+1)],τ++ [.box [.int .i64 pr,.str pk],.app 1 3]) ⟨om,⟨q,sm,Ps (N:= []) sm sm,ab⟩,rD (by rfl) sm (by rfl)⟩
    rw[List.concat_eq_append]at hN
    subst hN
    obtain⟨hk,hC⟩:=aF O r0 C k rfl
    have aV:=(A4.1 hk).1
    have aW:O.length+1<=i:=by grind
    have z0:((O.length:Int)+1==0)=false:=by rfl
    have es:IntKind.i64.wrap (O.length:Int)=O.length:=(by grind[bX])
    have aJ:IntKind.i64.wrap ((O.length:Int)+1)=((O.length+1:Nat):Int):=by grind[bX]
    by_cases hr:r0=pr
    .subst hr
     refine zN (zN ?_)
     refine yE [] (τ.length+9) sm (by rfl) kR ?_
     simp[go_sem,lH,z0,es]
     refine zJ om ?_
     simp[go_sem]
     refine zA ?_
     simp[go_sem]
     refine zN (zA ?_)
     simp[go_sem,es]
     refine zJ om ?_
     simp[go_sem]
     refine ny [(4,2),(6,2),(12,3),(15,4)] 6 sm (by rfl) kR ?_
     have aK:(τ++ [Ob.box [.int .i64 r0,.str pk]])[k]? =some (.app C.length 3):=by grind
     have aL: ∀o,(τ++ [Ob.box [.int .i64 r0,.str pk]]).set k o=τ.set k o++ [Ob.box [.int .i64 r0,.str pk]]:=(by grind)
     simp[go_sem,aK,aL]
     refine zJ ⟨om,zY rfl⟩ ?_
     simp[go_sem]
     refine zA ?_
     simp[go_sem,ei]
     exact zI (i+1,O++ [(r0,C++ [⟨(r0,pk),dr,ax⟩],k)],τ.set k (.app (C.length+1) 3)++ [.box [.int .i64 r0,.str pk]]) ⟨om,⟨q,by grind,(by grind[Ps]),by rw[xI2 (r:=r0) (w:=⟨(r0,pk),dr,ax⟩) rfl]at ab;omega⟩,rD (by simp[lH,xu]) sm sg⟩
    .have aP:(r0 !=pr)=true:=by grind
     refine zN (zN ?_)
     refine yE [] (τ.length+9) sm (by rfl) kR ?_
     simp[go_sem,lH,z0,es]
     refine zJ om ?_
     simp[go_sem,aP]
     refine JW (b:=true) (by rfl) (λ_=> ?_) (λh=>by cases h)
     refine Sf 4 rfl rfl rfl ?_
     simp[go_sem,Ck]
     refine zJ ⟨zY rfl,om⟩ ?_
     simp[go_sem]
     refine zN (zA ?_)
     simp[go_sem,aJ]
     refine zJ om ?_
     simp[go_sem]
     refine ny [(4,2),(6,2),(12,3),(15,4)] 6 sm (by rfl) kR ?_
     simp[go_sem]
     refine zJ ⟨(λr hr=>by cases hr),zY rfl⟩ ?_
     simp[go_sem]
     refine zA ?_
     simp[go_sem,ei]
     exact zI (i+1,(O++ [(r0,C,k)])++ [(pr,[⟨(pr,pk),dr,ax⟩],τ.length+1)],τ++ [.box [.int .i64 pr,.str pk],.app 1 3]) ⟨om,⟨q,by grind,(by grind[Ps]),by rw[xY6 (k':=τ.length+1) rfl hr]at ab;omega⟩,rD (by grind[lH,xu]) sm sg⟩
   .have ao:=Ly (g:=V.str) ha.ok.nd (LA hp)
    have ai:=hD.next ha.ok.nd hp
    have aq:=(Lz ha.ok.nd hp).length_eq
    obtain⟨⟨⟨pr,pk⟩,data⟩,ec⟩:=p
    simp only[ia]at ao ai aq
    have ad:(j4 (aj++ [ec]) a.W a.bs).length<(j4 aj a.W a.bs).length:=by grind
    clear aq hp
    have ae:=xv1 b D ((pr,pk),data)
    have aA:Gz b ((pr,pk),data)=((b.at (pr,pk)).map (·.2)).isNone:=rfl
    simp[go_sem,ia,qo,ao]
    refine yE [] 8 rfl (by rfl) kR ?_
    simp[go_sem,eB]
    cases ah:b.at (pr,pk)with
    |none=>
     have aa:dP (pr,pk) b.W=none:=ah
     rw[aiv (by grind)]at ae
     simp[go_sem,po,aa,lp,lQ,Ck]
     refine zJ ⟨zY rfl,om⟩ ?_
     simp[go_sem]
     exact zI (aj++ [ec],D++ [((pr,pk),data)]) ⟨ad,ai,cc 7 (by grind[pA]) rfl (au _ _) dC (zD (by simp[go_sem,ae,Dy]) rfl)⟩
    |some w=>
     have aa:dP (pr,pk) b.W=some w:=ah
     rw[ah]at aA
     rw[aiu (by grind)]at ae
     simp[go_sem,po,aa,lp,lQ]
     exact zI (aj++ [ec],D++ [((pr,pk),data)]) ⟨ad,ai,cc 7 (by grind) rfl (au _ _) dC (zD (by simp[go_sem,ae]) rfl)⟩
  .have ao:=Ly (g:=V.str) hn.ok.nd (LA hp)
   have ai:=hD.next hn.ok.nd hp
   have aq:=(Lz hn.ok.nd hp).length_eq
   obtain⟨⟨⟨pr,pk⟩,data⟩,ec⟩:=p
   simp only[ia]at ao ai aq
   have ad:(j4 (se++ [ec]) b.W b.bs).length<(j4 se b.W b.bs).length:=by grind
   clear aq hp
   have ae:=xv0 a D ((pr,pk),data)
   have aA:IK a ((pr,pk),data)=((a.at (pr,pk)).map (·.2) !=some data):=rfl
   simp[go_sem,ia,qo,ao]
   refine yE [] 7 rfl (by rfl) kR ?_
   simp[go_sem,eA]
   cases ah:a.at (pr,pk)with
   |none=>
    have aa:dP (pr,pk) a.W=none:=ah
    rw[aiv (by grind)]at ae
    simp[go_sem,po,aa,lp,lQ,Ck]
    refine zJ ⟨zY rfl,om⟩ ?_
    simp[go_sem]
    exact zI (se++ [ec],D++ [((pr,pk),data)]) ⟨ad,ai,cc 6 (by simp[go_sem,ae,pA,eA];rfl) rfl (ak _ _) dC (zD (by simp[go_sem,ae]) rfl)⟩
   |some w=>
    have aa:dP (pr,pk) a.W=some w:=ah
    rw[ah]at aA
    by_cases q:w.2=data
    .have q':(w.2==data)=true:=by grind
     rw[aiu (by grind)]at ae
     simp[go_sem,po,aa,lp,lQ,q']
     exact zI (se++ [ec],D++ [((pr,pk),data)]) ⟨ad,ai,cc 6 (by grind) rfl (ak _ _) dC (zD (by simp[go_sem,ae]) rfl)⟩
    .have q':(w.2==data)=false:=by grind
     rw[aiv (by grind)]at ae
     simp[go_sem,po,aa,lp,lQ,q',Ck]
     refine zJ ⟨zY rfl,om⟩ ?_
     simp[go_sem]
     exact zI (se++ [ec],D++ [((pr,pk),data)]) ⟨ad,ai,cc 6 (by simp[go_sem,ae,pA,eA];rfl) rfl (ak _ _) dC (zD (by simp[go_sem,ae]) rfl)⟩
theorem V3 {T:bL}: ∀{l p:List cp},oz T p l=0-> ∀x∈l,0<=cV T x.name
 | [],_,_,x,hx=>by cases hx
 |y::l,p,h,x,hx=>by
  rw[oz]at h
  by_cases q1:cV T y.name<0
  .omega
  rw[aiu q1]at h
  by_cases q2:cV T y.name=T.key\/(cV T y.name=0/\T.place=0)
  .omega
  rw[aiu q2]at h
  by_cases q3:(p.any λz=>z.name==y.name)=true
  .grind
  rw[aiu q3]at h
  by_cases q4:pg T y.e (kT T (cV T y.name))≠0
  .omega
  rw[aiu q4]at h
  rcases Ae.1 hx with rfl|hx
  .omega
  .exact V3 h x hx
theorem Pt {mode:Int}: ∀{l:List bW} {i:Nat},(Ew mode l i).2=0-> ∀z∈l,rh z=0
 | [],_,_,z,h=>by cases h
 |y::l,i,h,z,hx=>by
  rw[Ew]at h
  by_cases q1:mode≠0/\y.kind≠1
  .grind
  rw[aiu q1]at h
  by_cases q2:rh y≠0
  .grind
  rw[aiu q2]at h
  rcases Ae.1 hx with rfl|hx
  .simpa using q2
  .exact Pt h z hx
theorem Pu (hl:kN cR) (h:(oA cR).2=0): ∀st∈cR.stmts,rC st:=by
 unfold oA at h
 by_cases q:mH cR=true
 rotate_left
 .grind
 rw[aiv q]at h
 intro st aa
 have hc:=Pt h st aa
 have ab:=hl.stmts.2 st aa
 have hm:km st:=by
  simp_all[mH]
 unfold rh at hc
 have ad:=Ld st.table
 have hT: ∃T,bO[(xK st.table).toNat]? =some T:=by
  grind
 obtain⟨T,hT⟩:=hT
 rw[hT]at hc
 simp only at hc
 have h0:0<=xK st.table:=by
  omega
 rw[aiu om]at hc
 refine⟨ab,UO ab.cA.dS,h0,λk1=> ?_,λk3=> ?_⟩
 .unfold km at hm
  rw[Ab,Ab]at hm
  have hb:=hm.2.2
  unfold OD at hb
  rw[aiv k1,Ab]at hb
  intro he
  rw[he]at hb
  exact absurd hb.1 dC
 .rw[Al,hT]
  rw[aiu om,aiu om,aiv k3]at hc
  by_cases q:oz T [] st.cD≠0
  .omega
  .exact V3 (sU q)
theorem xB4 (l:List Ln) (x:Ln):(xo l x).length=l.length+1:=(BE l x).length_eq
theorem V4 {t:Nat} {T:bL}: ∀{rs:List (List bJ)} {l:List Ln},(gJ t T rs l).1.length<=l.length+rs.length
 | [],l=>by grind[gJ]
 |r::rs,l=>by
  rw[gJ]
  split
  .simp
  split
  .simp
  split
  .simp
  refine Aw V4 ?_
  rw[xB4,Ah];omega
theorem V5 {T:bL} {cD:List cp}: ∀{m l:List Ln},(gO T cD m l).1.length<=l.length
 | [],l=>A7 _
 |x::m,l=>by
  rw[gO]
  split
  .simp
  split
  .simp
  refine Aw V5 ?_
  simp[jB]
theorem V6: ∀{m l:List Ln},(jU m l).length<=l.length
 | [],l=>A7 _
 |x::m,l=>by
  rw[jU]
  exact Aw V6 (Dl _ _)
theorem Pv:(k9 st l).2.1.length<=l.length+st.rows.length:=by
 grind[k9,V4,V5,V6]
abbrev Vw:=Nat×List (aiZ×aiZ)
def Pw (q:aiZ×aiZ):List V:= [.str q.1,.str q.2]
def uj (x:Vw):List V:= [.int .i64 x.1,.sl .ro (x.2.map Pw)]
def vt (g:Nat) (l:List (aiZ×aiZ)):List (Pl×aiZ):=l.map λq=>(((g:Int),q.1),q.2)
def ku (vs:List Vw):List (Pl×aiZ):=vs.flatMap λx=>vt x.1 x.2
def lI (vs:List Vw):List Ln:=((ku vs).foldl vp ([],[])).2
theorem yP8 (x:Vw) (vs:List Vw):ku (x::vs)=vt x.1 x.2++ku vs:=by rfl
theorem oD.uk {n:Nat} {s:List (Pl×aiZ)×List Ln} (h:oD n s (a,b,sn)) (p:Pl) (h0:sn.at p=none):a.at p=none/\b.at p=none:=by
 have h1:=(h.seen p).1 (kY.2 h0)
 have hb:b.at p=none:=by
  rw[h.now.gR]
  cases e:jF s.2 p with
  |false=>rfl
  |true=>
   obtain⟨x,hx,aa⟩:=Ac.1 (gb.1 e)
   have:(s.1.any λe=>e.1==p)=true:=List.any_eq_true.2 ⟨_,(h.lines x hx).2,by grind⟩
   grind
 exact⟨by rw[show a=b from h.same];exact hb,hb⟩
theorem oD.pos {n:Nat} {s:List (Pl×aiZ)×List Ln} (h:oD n s (a,b,sn)) (hn:n<=1000000) (p:Pl) (i:Nat) (v:Int) (h0:sn.at p=some (i,v)):1<=v/\v<=1000000:=by
 have:=h.O4 p v (by show(sn.at p).map (·.2)=some v;grind)
 omega
theorem xS9 (k:Nat) {args:List V} {fi:St} {v:V} (hc:bN P f cd fi (λr s=>r=v/\s=fi)) (hb:xE P f) (hk:I.take k=fi) (hl:fi.length=k) (cQ:fi.all (bS k)) (hv:iJ k v)
  (hn: ∀i,i<k->n0.has i) (aa: ∀N,bP (cT (cK (List.range k) N)) cd (args++bY)) (hK:KV v I):pQ P c n0 1 (.fn f bY) args I KV fx:=by
 refine⟨v,I, ?_,λ_=>rfl,λ_=>gU.refl,A7 _,hK⟩
 rw[aiu dC,aiv rfl]
 intro s hs
 have ab:s.take k=fi:=by
  rw[<-hk]
  refine Bi λi=> ?_
  rw[Ap,Ap]
  by_cases q:i<k
  .rw[aiv q,aiv q];exact Kp.get (hn i q) hs
  .rw[aiu q,aiu q]
 refine uM (P:=P) (c:=c) (KV:=λr s'=>r=v/\s'=s) k hc hb ab hl cQ (aa _) ?_ ?_
 .rintro r s' ⟨rfl,rfl⟩
  exact⟨hl,cQ,hv⟩
 .rintro r s' ⟨rfl,rfl⟩
  exact⟨rfl,by rw[<-ab];exact B8 k s⟩
theorem Px (n:Nat) (h:3<=n) {τ:St} (hR:τ.all (bS n)):(dp a b sn++τ).all (bS n)=true:=by
 rw[E7,wC n h,hR];rfl
def ky (x:Int×Int×List Ot):List V:= [.int .i64 x.1,.int .i64 x.2.1,.sl .ro (x.2.2.map Ot.row)]
def xv (cR:dU) (pZ:List Ln):V:= .cy [.agg (ky (fD cR pZ).1),.sl .ro ((if(fD cR pZ).1.1≠0 then []else mK (jg pZ (fD cR pZ).2)).map mN)]
def lJ:Ob:= .box [.sl .ro xJ,.sl .ro (bO.map bL.row)]
theorem V7 (cR:dU) (hl:kN cR) (vs:List Vw) (aE:vs.length<=100000) (hv: ∀x∈vs,x.1<1000/\x.2.length<=100000/\ ∀q∈x.2,q.2.length<=cG) (hN:(ku vs).length<=7500):
  Pure prog 24 [dJ bO,.agg cR.row,.sl .ro (vs.map uj)] (xv cR (lI vs)):=by
 have ad:=Un cR hl
 obtain⟨aF,aw⟩:=hl.stmts
 have aj:=Pu hl
 obtain⟨⟨ci,cr⟩,hP⟩: ∃P,oA cR=P:=⟨_,rfl⟩
 rw[hP]at ad aj
 generalize hM:xv cR (lI vs)=M
 unfold xv fD at hM
 rw[hP]at hM
 simp only at hM aj
 refine iV 0 func24 ntmps24 results24 λc hc hb=> ?_
 refine zN (zA ?_)
 simp[go_sem,dJ]
 refine zN (zA ?_)
 simp[go_sem]
 refine zL ad cB (zP (by simp[go_sem,dJ]) rfl) rfl ?_
 simp[go_sem,wI]
 by_cases c0:cr=0
 rotate_left
 .have au:(cr !=0)=true:=sU c0
  rw[aiv c0]at hM
  simp[go_sem,au]
  have aG:M= .cy [.agg [.int .i64 cr,.int .i64 ci,.sl .ro []],.sl .ro []]:=by rw[<-hM];simp[c0,ky]
  exact zW (r:=M) (by rw[aG];exact yW ⟨wW ⟨zF rfl,zF rfl,zX,tV⟩,uL,tV⟩) ⟨rfl,rfl⟩
 have au:(cr !=0)=false:=sU c0
 rw[aiu (λh=>h c0)]at hM
 simp[go_sem,au]
 refine ov (S:=Unit) [2,4,6,10] (λ_=> [.sl .ro (vs.map uj),.ptr 5 0,.ptr 6 0,.ptr 3 0]) (λ_=>rk (vl _,vl _,vl _)++ [lJ,.box cR.row,.box [.int .i64 0,.int .i64 0,.sl .full []]]) (λ_=>True) hc hb ?_ ?_
 .refine zA ?_
  simp[go_sem]
  exact zI () ⟨tV,DF [3,4,5,6,0,1,2] dC rfl ⟨rfl,rfl,rfl,rfl,rfl,rfl,rfl,tV⟩ ⟨zC rfl,.inl rfl,.inl rfl,.inl rfl,tV⟩⟩
 rintro _ _
 have ax:=hl
 obtain⟨Q,hQ⟩:=eX ((ku vs).foldl vp ([],[]))
 have ay:lI vs=Q.2:=by unfold lI;rw[hQ]
 rw[ay]at hM
 clear ay
 refine zN (zA ?_)
 simp[go_sem]
 refine zH (S:=Nat×Nat×(List (Pl×aiZ)×List Ln)×M3) [4,6,10,36,37,38] (λu=> [.ptr 5 0,.ptr 6 0,.ptr 3 0,.sl .ro (vs.map uj),.int .i64 vs.length,.int .i64 u.1])
  (λu=>rk u.2.2.2++ [lJ,.box cR.row,.box [.int .i64 0,.int .i64 0,.sl .full []]]) (λu=>vs.length - u.1)
  (λu=>u.1<=vs.length/\oD u.2.1 u.2.2.1 u.2.2.2/\u.2.1+(ku (vs.drop u.1)).length=(ku vs).length/\(ku (vs.drop u.1)).foldl vp u.2.2.1=Q) hc hb (0,0,([],[]),(vl _,vl _,vl _)) ⟨A3 _,VJ,sm,hQ⟩ ?_ ?_
 .exact yH sm sg
 rintro⟨i,n,s,a,b,sn⟩ ⟨hi,hT,hn,aa⟩
 simp only at hi hT hn aa
 by_cases q:i<vs.length
 .have ei:=zQ q om
  obtain⟨⟨g,ps⟩,hx⟩: ∃x,vs[i]=x:=⟨_,rfl⟩
  obtain⟨hg,az,a6⟩:=hv (g,ps) (hx▸A8 q)
  simp only at hg az a6
  rw[A5 q,hx,yP8]at hn aa
  rw[Cc]at aa
  rw[An]at hn
  refine zA ?_
  simp[go_sem,rk,dp,fQ,lJ,q,hx,uj]
  refine zH (S:=Nat×Nat×(List (Pl×aiZ)×List Ln)×M3) [4,6,10,12,36,37,38,43,44,45] (λu=> [.ptr 5 0,.ptr 6 0,.ptr 3 0,.ptr 7 0,.sl .ro (vs.map uj),.int .i64 vs.length,.int .i64 i,.sl .ro (ps.map Pw),.int .i64 ps.length,.int .i64 u.1])
   (λu=>rk u.2.2.2++ [lJ,.box cR.row,.box [.int .i64 0,.int .i64 0,.sl .full []],.box (uj (g,ps))]) (λu=>ps.length - u.1)
   (λu=>u.1<=ps.length/\oD u.2.1 u.2.2.1 u.2.2.2/\u.2.1+((vt g (ps.drop u.1)).length+(ku (vs.drop (i+1))).length)=(ku vs).length/\(ku (vs.drop (i+1))).foldl vp ((vt g (ps.drop u.1)).foldl vp u.2.2.1)=Q) hc hb (0,n,s,a,b,sn) ⟨A3 _,hT,hn,aa⟩ ?_ ?_
  .exact rD rfl sm sg
  rintro⟨j,n1,s1,a1,b1,ak⟩ ⟨hj,ae,al,ab⟩
  simp only at hj ae al ab
  by_cases qj:j<ps.length
  .have ej:=zQ qj om
   obtain⟨⟨k,d⟩,hp⟩: ∃x,ps[j]=x:=⟨_,rfl⟩
   have hd:=a6 (k,d) (hp▸A8 qj)
   simp only at hd
   have a7:vt g (ps.drop j)=(((g:Int),k),d)::vt g (ps.drop (j+1)):=by
    rw[A5 qj,hp];rfl
   rw[a7,Ah]at al
   rw[a7,Bn]at ab
   have ah:=wp7 g hg k d hd a1 b1 ak (by rw[show a1=b1 from ae.same];exact ae.now.ok) ae.now.ok ae.sn (ae.uk _) (ae.pos om _)
   have av:=ae.step (((g:Int),k),d)
   obtain⟨⟨a2,b2,a8⟩,aH⟩: ∃M3,BD ((g:Int),k) d (a1,b1,ak)=M3:=⟨_,rfl⟩
   simp only at av
   rw[aH]at ah av
   refine zA ?_
   simp[go_sem,rk,dp,fQ,lJ,qj,hp,uj,Pw]
   refine uM 4 ah cB rfl rfl (wC 4 dC a1 b1 ak) (rS (n:=4) rfl) ?_ ?_
   .rintro r s' ⟨rfl,rfl⟩
    exact⟨rfl,wC 4 dC a2 b2 a8,rfl⟩
   rintro r s' ⟨rfl,rfl⟩
   simp[go_sem,rk,dp,fQ,ej]
   exact zI (j+1,n1+1,vp s1 (((g:Int),k),d),a2,b2,a8) ⟨by show ps.length - (j+1)<ps.length - j;omega,⟨qj,av,by show n1+1+((vt g (ps.drop (j+1))).length+(ku (vs.drop (i+1))).length)=(ku vs).length;omega,ab⟩,cc 8 (by rfl) rfl (Px 8 dC (by simp[bS,cN,cL])) dC (zD sg rfl)⟩
  .have:j=ps.length:=om
   subst this
   rw[Cj]at al ab
   refine zA ?_
   simp[go_sem,rk,dp,fQ,lJ,ei]
   exact zI (i+1,n1,s1,a1,b1,ak) ⟨by show vs.length - (i+1)<vs.length - i;omega,⟨q,ae,by show n1+(ku (vs.drop (i+1))).length=(ku vs).length;simp[vt]at al;omega,ab⟩,cc 7 (by rfl) rfl (Px 7 dC (by simp[bS,cN,cL])) dC (zD sg rfl)⟩
 .have:i=vs.length:=om
  subst this
  rw[Cj]at hn aa
  have hs:s=Q:=aa
  subst hs
  have aU:n<=7500:=by simp[ku]at hn;simp[ku]at hN;omega
  have aI:a=b:=hT.same
  subst aI
  have ai:cO a s.2:=hT.now
  have aJ:s.2.length<=n:=hT.len
  obtain⟨af,an⟩:=eX s.2
  rw[an]at hM ai aJ
  clear hT hn aa hN an hv aE
  obtain⟨D,hD⟩:=eX (lF cR.stmts 0 [] af)
  rw[hD]at hM
  have aK:D.1.1≠0->M= .cy [.agg (ky D.1),.sl .ro []]:=λh=>by rw[<-hM];simp[h]
  have aL:D.1.1=0->M= .cy [.agg (ky D.1),.sl .ro ((mK (jg af D.2)).map mN)]:=λh=>by rw[<-hM];simp[h]
  have az:D.1.1=0\/D.1.1≠0:=om
  have ao:=aj c0
  clear hM aj ad hl ax
  obtain⟨lm,ln,L⟩:=cR
  simp only at aF aw hD ao
  refine zA ?_
  simp[go_sem,rk,dp,fQ,lJ]
  refine DH 6 2 2 [.int .i64 0,.int .i64 0,.sl .full []] dC rfl rfl ?_
  refine zN (zA ?_)
  simp[go_sem]
  refine zH (S:=Nat×Mp aiZ×List Ln×List Ot) [6,10,57,58,59] (λu=> [.ptr 6 0,.ptr 3 0,.sl .ro (L.map bW.row),.int .i64 L.length,.int .i64 u.1])
   (λu=>rk (a,u.2.1,sn)++ [lJ,.box (dU.row ⟨lm,ln,L⟩),.box [.int .i64 0,.int .i64 0,.sl (.app 7) (u.2.2.2.map Ot.row)],.app u.2.2.2.length 2]) (λu=>L.length - u.1)
   (λu=>u.1<=L.length/\cO u.2.1 u.2.2.1/\u.2.2.2.length=u.1/\u.2.2.1.length<=7500+20*u.1/\lF (L.drop u.1) u.1 u.2.2.2 u.2.2.1=D) hc hb (0,a,af,[]) ⟨A3 _,ai,rfl,by show af.length<=7500+20*0;omega,hD⟩ ?_ ?_
  .exact rD rfl sm sg
  rintro⟨i,b,l,outs⟩ ⟨hi,hn,aA,aP,aa⟩
  simp only at hi hn aA aP aa
  by_cases q:i<L.length
  rotate_left
  .rw[A9 om,lF]at aa
   refine zA ?_
   simp[go_sem,rk,dp,fQ,lJ,q]
   have aq:=wo7 a b sn af l ai hn om om
   have aQ:D.2=l:=by rw[<-aa]
   have aB:D.1=(0,0,outs):=by rw[<-aa]
   have hM:=aL (by rw[aB])
   rw[aB,aQ]at hM
   obtain⟨PW,aR⟩:=eX (mK (jg af l))
   rw[aR]at aq hM
   refine zN ?_
   refine ny [(2,1)] 7 sm kR kR ?_
   simp[go_sem]
   refine xS9 4 aq cB rfl rfl (wC 4 dC a b sn) rfl (λi hi=>by simp[go_sem];omega) (λN=>rS (n:=4) rfl) ?_
   simp[go_sem]
   refine zA ?_
   simp[go_sem]
   exact zW (r:=M) (by rw[hM];exact yW ⟨wW ⟨zF rfl,zF rfl,zX,tV⟩,uL,tV⟩) ⟨rfl,rfl⟩
  have ei:=zQ q om
  obtain⟨x,hx⟩:=eX (L[i])
  have aC:x∈L:=hx▸A8 q
  have ar:=xy9 x (ao x aC) a b sn l hn om
  have hlen:=Pv (st:=x) (l:=l)
  have aT:=(aw x aC).rows.1
  rw[A5 q,hx,lF]at aa
  obtain⟨E,hE⟩:=eX (k9 x l)
  rw[hE]at aa ar hlen
  refine zA ?_
  simp[go_sem,rk,dp,fQ,lJ,q,hx]
  refine uM 4 ar cB rfl rfl (wC 4 dC a b sn) (rS (n:=4) rfl) ?_ ?_
  .rintro r s' ⟨b',rfl,rfl,_⟩
   exact⟨rfl,wC 4 dC a b' sn,rfl⟩
  rintro r s' ⟨b',rfl,rfl,aS⟩
  by_cases e0:E.2.2=0
  rotate_left
  .have aD:(E.2.2 !=0)=true:=sU e0
   rw[aiv e0]at aa
   have hM:=aK (by rw[<-aa];exact e0)
   simp[go_sem,dp,fQ,aD,Ot.row]
   exact zW (r:=M) (by rw[hM,<-aa];exact yW ⟨wW ⟨zF rfl,zF rfl,zX,tV⟩,uL,tV⟩) ⟨rfl,rfl⟩
  have aD:(E.2.2 !=0)=false:=sU e0
  rw[aiu (λh=>h e0)]at aa
  simp[go_sem,dp,fQ,e0,Ot.row]
  refine zJ ⟨om,zY rfl⟩ ?_
  simp[go_sem,ei]
  exact zI (i+1,b',E.2.1,outs++ [E.1]) ⟨by show L.length - (i+1)<L.length - i;omega,⟨q,aS e0,by show(outs++ [E.1]).length=i+1;simp[aA],by show E.2.1.length<=7500+20*(i+1);omega,aa⟩,cc 8 (by simp[Ot.row]) rfl (Px 8 dC (by simp[bS,cN,cL])) dC (zD sg rfl)⟩
theorem yQ0 (h:(oA cR).2=0): ∀st∈cR.stmts,km st=true/\rh st=0:=by
 unfold oA at h
 by_cases q:mH cR=true
 rotate_left
 .grind
 rw[aiv q]at h
 intro st aa
 refine⟨?_,Pt h st aa⟩
 simp_all[mH]
theorem V8 {tn:Nat} {T:bL} (hT:bO[tn]? =some T): ∀{R:List (List bJ)} {b:Mp aiZ} {l:List Ln},(∀r∈R,∀e∈r,ja e)->cO b l->(gJ tn T R l).2=0-> ∃b',cO b' (gJ tn T R l).1
 | [],b,l,_,hn,_=>⟨b,hn⟩
 |r::R,b,l,he,hn,h=>by
  rw[gJ]at h⊢
  have ab:=Lt r [] (he r (B1 ..)) (λv hv=>by cases hv)
  by_cases q1:(eC eQ [] r []).2≠0
  .grind
  rw[aiu q1]at h⊢
  obtain⟨_,ad⟩:=ab om
  have aa:=Lu tn T hT (eC eQ [] r []).1
  by_cases q2:(fm tn T (eC eQ [] r []).1).2.2≠0
  .grind
  rw[aiu q2]at h⊢
  obtain⟨af,ah,ae⟩:=aa om
  by_cases q3:jF l ((fm tn T (eC eQ [] r []).1).1,(fm tn T (eC eQ [] r []).1).2.1)=true
  .grind
  rw[aiu q3]at h⊢
  exact V8 hT (by grind) (hn.ins (x:=⟨(fm tn T (eC eQ [] r []).1).1,(fm tn T (eC eQ [] r []).1).2.1,(eC eQ [] r []).1⟩) ⟨(by grind),ae,ad⟩ (Bool.eq_false_iff.2 q3)) h
theorem V9: ∀{m:List Ln} {b:Mp aiZ} {l:List Ln},cO b l-> ∃b',cO b' (jU m l)
 | [],b,_,hn=>⟨b,hn⟩
 |x::m,b,l,hn=>by
  rw[jU]
  exact V9 (hn.del x.at)
theorem Wa (aa:rC st) (hn:cO b l) (h:(k9 st l).2.2=0): ∃b',cO b' (k9 st l).2.1:=by
 obtain⟨tn,ad⟩: ∃tn:Nat,xK st.table=tn:=⟨(xK st.table).toNat,by have:=aa.jD;omega⟩
 have ab:tn<3:=by
  have h:=Et (λT:bL=>T.name==st.table) bO 0
  have h2:bO.length=3:=rfl
  grind[xK]
 obtain⟨T,hT⟩: ∃T,bO[tn]? =some T:=⟨_,A0 (show tn<bO.length from ab)⟩
 unfold k9 at h⊢
 simp only[ad,B0]at h⊢
 rw[show bO.getD tn eQ=T by grind]at h⊢
 by_cases k2:st.kind=2
 .rw[aiv k2]at h⊢
  by_cases q:(gJ tn T st.rows l).2≠0
  .grind
  .rw[aiu q]
   exact V8 hT (λr hr=>(aa.ok.rows.2 r hr).2) hn om
 rw[aiu k2]at h⊢
 by_cases q:(ga tn T st l).2≠0
 .grind
 rw[aiu q]at h⊢
 by_cases k1:st.kind=1
 .grind
 rw[aiu k1]at h⊢
 by_cases k3:st.kind=3
 .rw[aiv k3]at h⊢
  by_cases q2:(gO T st.cD (ga tn T st l).1 l).2≠0
  .grind
  .rw[aiu q2]
   refine⟨_,Pq hT aa.ok hn (λx hx=> ?_) om⟩
   obtain⟨h1,h2⟩:=Lx x hx
   exact⟨gb.2 (by grind),hn.rows x h1,LI ab h2⟩
 .rw[aiu k3]
  exact V9 hn
theorem Wb: ∀(tn:Nat) (T:bL),bO[tn]? =some T->tn=0->T.place=0:=by
 intro tn T h h0
 subst h0
 have e:bO[0]? =some T:=h
 exact(by decide: ∀T,bO[0]? =some T->T.place=0) T e
theorem xv3 (hT:bO[tn]? =some T) {row aa:List bK} (h1:fe T.cm row=0) (h2:fe T.cm aa=0) (hk:aa.getD T.key.toNat zeroV=row.getD T.key.toNat zeroV) (hp:T.place=0->aa.getD 0 zeroV=row.getD 0 zeroV):fm tn T aa=fm tn T row:=by
 have hr:Gt tn aa=Gt tn row:=by
  unfold Gt
  by_cases h0:tn=0
  .rw[aiv h0,aiv h0,hp (by grind[Wb])]
  omega
 unfold fm
 rw[aiu om,aiu (show ¬fe T.cm row≠0 from λh=>h h1),hr,hk]
 by_cases h0:tn=0
 .grind[Wb]
 grind
theorem Wc (h:fM x) (aa:(fC x.r).1=(tn:Int)) (hT:bO[tn]? =some T) (hk:fm tn T x.v=(x.r,x.k,0)):xp x:=by
 unfold xp l7
 rw[h.read,aa,B0,show bO.getD tn eQ=T by grind,hk,h.err]
 simp
theorem wa0 (h:fM x) (hK:xp x) (aa:(fC x.r).1=(tn:Int)) (hT:bO[tn]? =some T):fm tn T x.v=(x.r,x.k,0):=by
 unfold xp l7 at hK
 rw[h.read,aa,B0,show bO.getD tn eQ=T by grind]at hK
 grind
theorem xI3 {l:List bK} {i j:Nat} {v:bK} (h:i≠j):(l.set i v).getD j zeroV=l.getD j zeroV:=by
 grind
theorem Wd {T:bL} {oB:List bK} {c:Nat} (hc:(c:Int)=T.key\/((c:Int)=0/\T.place=0)): ∀{cD p:List cp} {row:List bK},oz T p cD=0->(gz T oB cD row).2=0->(gz T oB cD row).1.getD c zeroV=row.getD c zeroV
 | [],_,row,_,_=>rfl
 |y::l,p,row,h,h2=>by
  rw[gz]at h2⊢
  by_cases q:(gL T oB y.e).2≠0
  .grind
  rw[aiu q]at h2⊢
  rw[oz]at h
  by_cases q1:cV T y.name<0
  .omega
  rw[aiu q1]at h
  by_cases q2:cV T y.name=T.key\/(cV T y.name=0/\T.place=0)
  .omega
  rw[aiu q2]at h
  by_cases q3:(p.any λz=>z.name==y.name)=true
  .grind
  rw[aiu q3]at h
  by_cases q4:pg T y.e (kT T (cV T y.name))≠0
  .omega
  rw[aiu q4]at h
  rw[Wd hc h h2]
  refine xI3 λe=>q2 ?_
  have e2:cV T y.name=(c:Int):=om
  rw[e2]
  exact hc
def oF (l:List Ln):Prop:= ∀x∈l,fM x/\xp x
theorem We {tn:Nat} {T:bL} (hT:bO[tn]? =some T): ∀{R:List (List bJ)} {l:List Ln},(∀r∈R,∀e∈r,ja e)->oF l->(gJ tn T R l).2=0->oF (gJ tn T R l).1
 | [],l,_,hn,_=>hn
 |r::R,l,he,hn,h=>by
  rw[gJ]at h⊢
  have ab:=Lt r [] (he r (B1 ..)) (λv hv=>by cases hv)
  by_cases q1:(eC eQ [] r []).2≠0
  .grind
  rw[aiu q1]at h⊢
  obtain⟨_,ad⟩:=ab om
  have aa:=Lu tn T hT (eC eQ [] r []).1
  obtain⟨⟨kr,kk,ke⟩,ae⟩: ∃ks,fm tn T (eC eQ [] r []).1=ks:=⟨_,rfl⟩
  rw[ae]at h aa⊢
  simp only at h aa⊢
  by_cases q2:ke≠0
  .grind
  rw[aiu q2]at h⊢
  have af:ke=0:=om
  obtain⟨ai,aj,ah⟩:=aa af
  by_cases q3:jF l (kr,kk)=true
  .grind
  rw[aiu q3]at h⊢
  have hx:fM ⟨kr,kk,(eC eQ [] r []).1⟩:=⟨(by grind),ah,ad⟩
  refine We hT (by grind) (λz hz=> ?_) h
  rcases Ae.1 ((BE l _).mem_iff.1 hz)with rfl|hz
  .grind[Wc]
  .exact hn z hz
theorem Wf: ∀{m l:List Ln},oF l->oF (jU m l)
 | [],l,h=>h
 |x::m,l,h=>by
  rw[jU]
  exact Wf (λy hy=>h y (Bo.1 hy).1)
theorem Wg {tn:Nat} {T:bL} (hT:bO[tn]? =some T) {st:bW} (ad:kM st) (hc:oz T [] st.cD=0): ∀{m l:List Ln},oF l->(∀x∈m,fM x/\xp x/\(fC x.r).1=(tn:Int))->(gO T st.cD m l).2=0->oF (gO T st.cD m l).1
 | [],_,hn,_,_=>hn
 |x::m,l,hn,hm,h0=>by
  obtain⟨aa,an,ao⟩:=hm x sm
  obtain⟨aq,ar⟩:=(by decide: ∀T∈bO,0<=T.key/\T.key<T.cm.length) T (by grind)
  rw[gO]at h0⊢
  have ab:=λ(c:Nat) (ai:(c:Int)=T.key\/((c:Int)=0/\T.place=0))=>Wd (T:=T) (oB:=x.v) ai (cD:=st.cD) (p:= []) (row:=x.v) hc
  have ae:=Lw (T:=T) aa.ok (cD:=st.cD) (row:=x.v) (λy hy=>(ad.cD.2 y hy).2) aa.ok
  obtain⟨E,hE⟩:=eX (gz T x.v st.cD x.v)
  rw[hE]at h0 ab ae⊢
  by_cases q:E.2≠0
  .grind
  rw[aiu q]at h0⊢
  have q0:E.2=0:=om
  by_cases q2:fe T.cm E.1≠0
  .grind
  rw[aiu q2]at h0⊢
  have m0:fe T.cm E.1=0:=om
  obtain⟨af,T',au,ah,aj⟩:=aa.jD
  have:af=tn:=om
  subst this
  rw[hT]at ah
  cases ah
  have ak:fM ⟨x.r,x.k,E.1⟩:=⟨(by grind),aa.err,(ae q0).2⟩
  have al:fm af T E.1=(x.r,x.k,0):=by
   rw[xv3 hT aj m0 (by grind) (by grind)]
   grind[wa0]
  refine Wg hT ad hc (λz hz=> ?_) (by grind) h0
  unfold jB at hz
  obtain⟨y,hy,rfl⟩:=Ac.1 hz
  by_cases e:y.at=x.at
  .rw[aiv e]
   have e1:y.r=x.r:=aiz Prod.fst e
   have e2:y.k=x.k:=aiz Prod.snd e
   grind[Wc]
  .rw[aiu e]
   exact hn y hy
theorem ws4 (aa:rC st) (hc:rh st=0) (_hn:cO b l) (hk:oF l) (h:(k9 st l).2.2=0):oF (k9 st l).2.1:=by
 obtain⟨tn,ab⟩: ∃tn:Nat,xK st.table=tn:=⟨(xK st.table).toNat,by have:=aa.jD;omega⟩
 have ad:tn<3:=by
  have h:=Et (λT:bL=>T.name==st.table) bO 0
  have h2:bO.length=3:=rfl
  grind[xK]
 obtain⟨T,hT⟩: ∃T,bO[tn]? =some T:=⟨_,A0 (show tn<bO.length from ad)⟩
 unfold rh at hc
 rw[ab,B0,hT]at hc
 simp only at hc
 rw[aiu om]at hc
 unfold k9 at h⊢
 simp only[ab,B0]at h⊢
 rw[show bO.getD tn eQ=T by grind]at h⊢
 by_cases k2:st.kind=2
 .rw[aiv k2]at h⊢
  by_cases q:(gJ tn T st.rows l).2≠0
  .grind
  .rw[aiu q]
   exact We hT (λr hr=>(aa.ok.rows.2 r hr).2) hk om
 rw[aiu k2]at h⊢
 by_cases q:(ga tn T st l).2≠0
 .grind
 rw[aiu q]at h⊢
 by_cases k1:st.kind=1
 .grind
 rw[aiu k1]at h⊢
 by_cases k3:st.kind=3
 .rw[aiv k3]at h⊢
  by_cases q2:(gO T st.cD (ga tn T st l).1 l).2≠0
  .grind
  .rw[aiu q2]
   have ae:oz T [] st.cD=0:=by
    omega
   refine Wg hT aa.ok ae hk (λx hx=> ?_) om
   obtain⟨h1,h2⟩:=Lx x hx
   exact⟨(hk x h1).1,(hk x h1).2,LI ad h2⟩
 simp_all[Wf]
theorem Wh: ∀{ss:List bW} {i:Nat} {acc:List Ot} {b:Mp aiZ} {l:List Ln},(∀x∈ss,rC x/\rh x=0)->cO b l->oF l->(lF ss i acc l).1.1=0->(∃b',cO b' (lF ss i acc l).2)/\oF (lF ss i acc l).2/\(lF ss i acc l).2.length<=l.length+20*ss.length
 | [],i,acc,b,l,_,hn,hk,_=>(by grind[lF])
 |x::ss,i,acc,b,l,hs,hn,hk,h=>by
  rw[lF]at h⊢
  obtain⟨hx,ab⟩:=hs x sm
  by_cases q:(k9 x l).2.2≠0
  .grind
  rw[aiu q]at h⊢
  have q0:(k9 x l).2.2=0:=om
  obtain⟨b',aa⟩:=Wa hx hn q0
  have hlen:=Pv (st:=x) (l:=l)
  have hr:=hx.ok.rows.1
  obtain⟨h1,h2,h3⟩:=Wh (by grind) aa (by grind[ws4]) h
  grind
theorem oD.run: ∀(ps:List (Pl×aiZ)) {n:Nat} {s:List (Pl×aiZ)×List Ln} {m:M3},oD n s m-> ∃m',oD (n+ps.length) (ps.foldl vp s) m'
 | [],n,s,m,h=>⟨m,h⟩
 |p::ps,n,s,m,h=>by
  obtain⟨m',h'⟩:=oD.run ps (h.step p)
  grind
theorem Wi (vs:List Vw): ∃m,oD (ku vs).length ((ku vs).foldl vp ([],[])) m:=by
 obtain⟨m,h⟩:=oD.run (ku vs) VJ
 grind
theorem Wj {l:List Wr} {aa now:List Ln} (h1: ∀x∈aa,fM x) (h2: ∀x∈now,fM x) (hw:iB (aa.map Ln.at)) (hn:iB (now.map Ln.at)) (hl:l=jg aa now): ∀w∈l,w.p.1=0\/w.p.1=1\/w.p.1=2\/w.p.1=3:=λw ad=>by
 rw[hl]at ad
 have hr: ∀x:Ln,fM x->x.r=0\/x.r=1\/x.r=2\/x.r=3:=λx hx=>by
  have:=hx.err
  unfold fC at this
  grind
 rcases((LB hw hn).2 w).1 ad with ⟨_,_,⟨x,hx,ab⟩,_⟩|⟨_,x,hx,ab,_,_⟩
 .rw[<-ab];exact hr x (h1 x hx)
 .rw[<-ab];exact hr x (h2 x hx)
theorem Py (hl:kN cR) (hn:cO b l) (hk:oF l) (h:(fD cR l).1.1=0):(∃b',cO b' (fD cR l).2)/\oF (fD cR l).2/\(fD cR l).2.length<=l.length+240:=by
 unfold fD at h⊢
 by_cases q:(oA cR).2≠0
 .grind
 rw[aiu q]at h⊢
 have q0:(oA cR).2=0:=om
 by_cases q2:(lF cR.stmts 0 [] l).1.1≠0
 .grind
 rw[aiu q2]at h⊢
 obtain⟨h1,h2,h3⟩:=Wh (λx hx=>⟨Pu hl q0 x hx,(yQ0 q0 x hx).2⟩) hn hk h
 have:=hl.stmts.1
 grind
theorem xP9 (l:List Wr) (hl:l.length<=100000):Pure prog 86 [.sl .ro (l.map xu),.sl .ro (l.map xu)] (.bool true):=by
 refine iV 0 func86 ntmps86 results86 λc hc hb=> ?_
 refine zA ?_
 simp[go_sem]
 refine zH (S:=Nat) [0,1,5] (λi=> [.sl .ro (l.map xu),.sl .ro (l.map xu),.int .i64 i]) (λ_=> []) (λi=>l.length - i) (λi=>i<=l.length) hc hb 0 (A3 _) ?_ ?_
 .exact aO
 rintro i hi
 by_cases q:i<l.length
 rotate_left
 .refine zA ?_
  simp[go_sem,q]
  exact wR
 have ei:=zQ q om
 obtain⟨⟨⟨yr,yk⟩,yd,yb⟩,hy⟩: ∃y,l[i]=y:=⟨_,rfl⟩
 refine zA ?_
 simp[go_sem,q]
 refine yE [] 0 rfl kR kR ?_
 simp[go_sem,q,hy,xu]
 exact zI (i+1) ⟨om,om,gZ rfl (zP (by simp[go_sem,ei]) rfl)⟩
theorem xd8 (l:List (List bK)) (hl:l.length<=100000) (hw: ∀x∈l,x.length<=100000):Pure prog 85 [.sl .ro (l.map λr=> [V.sl .ro (r.map bK.row)]),.sl .ro (l.map λr=> [V.sl .ro (r.map bK.row)])] (.bool true):=by
 refine iV 0 func85 ntmps85 results85 λc hc hb=> ?_
 refine zA ?_
 simp[go_sem]
 refine zH (S:=Nat) [0,1,5] (λi=> [.sl .ro (l.map λr=> [V.sl .ro (r.map bK.row)]),.sl .ro (l.map λr=> [V.sl .ro (r.map bK.row)]),.int .i64 i]) (λ_=> []) (λi=>l.length - i) (λi=>i<=l.length) hc hb 0 (A3 _) ?_ ?_
 .exact aO
 rintro i hi
 by_cases q:i<l.length
 rotate_left
 .refine zA ?_
  simp[go_sem,q]
  exact wR
 have ei:=zQ q om
 obtain⟨r,hy⟩: ∃y,l[i]=y:=⟨_,rfl⟩
 have hr:=hw r (hy▸A8 q)
 refine zA ?_
 simp[go_sem,q]
 refine yE [] 0 rfl kR kR ?_
 simp[go_sem,q,hy]
 refine zH (S:=Nat) [0,1,5,6] (λj=> [.sl .ro (l.map λr=> [V.sl .ro (r.map bK.row)]),.sl .ro (l.map λr=> [V.sl .ro (r.map bK.row)]),.int .i64 i,.int .i64 j]) (λ_=> []) (λj=>r.length - j) (λj=>j<=r.length) hc hb 0 (A3 _) ?_ ?_
 .exact aO
 rintro j hj
 by_cases qj:j<r.length
 rotate_left
 .refine zA ?_
  simp[go_sem,q,hy,qj,ei]
  exact zI (i+1) ⟨om,om,aO⟩
 have ej:=zQ qj om
 obtain⟨⟨vk,vn,vs⟩,hv⟩: ∃y,r[j]=y:=⟨_,rfl⟩
 refine zA ?_
 simp[go_sem,q,hy,qj]
 refine yE [] 0 rfl kR kR ?_
 simp[go_sem,q,hy,qj,hv,bK.row,ej]
 exact zI (j+1) ⟨om,om,aO⟩
theorem xP7 (er ix:Int) (outs:List Ot) (hl:outs.length<=100000) (hw: ∀x∈outs,x.rows.length<=100000/\ ∀r∈x.rows,r.length<=100000):Pure prog 42 [.agg (ky (er,ix,outs)),.agg (ky (er,ix,outs))] (.bool true):=by
 refine iV 0 func42 ntmps42 results42 λc hc hb=> ?_
 refine zA ?_
 simp[go_sem,ky]
 refine zH (S:=Nat) [2,3,5] (λi=> [.ptr 0 0,.ptr 1 0,.int .i64 i]) (λ_=> [.box (ky (er,ix,outs)),.box (ky (er,ix,outs))]) (λi=>outs.length - i) (λi=>i<=outs.length) hc hb 0 (A3 _) ?_ ?_
 .exact rD (by simp[ky]) sm sg
 rintro i hi
 by_cases q:i<outs.length
 rotate_left
 .refine zA ?_
  simp[go_sem,q,ky]
  exact wR
 have ei:=zQ q om
 obtain⟨⟨cn,rs⟩,hy⟩: ∃y,outs[i]=y:=⟨_,rfl⟩
 obtain⟨h1,h2⟩:=hw ⟨cn,rs⟩ (hy▸A8 q)
 have hs:=xd8 rs h1 h2
 refine zA ?_
 simp[go_sem,q,ky]
 refine Ru [(12,3),(13,3)] 2 10 sm kR (by rw[hc];exact A3 _) hb kR rfl (by repeat' (first|exact oV.ma|refine oV.fo ?_ (by simp[iJ,jn,cN,cL]))) (by simp only[Cb,E2];exact rfl) (by simp only[Dd,Bh];exact rfl) ?_
 simp[go_sem,q,hy,Ot.row]
 refine⟨by repeat' (first|exact oV.ma|refine oV.fo ?_ (by simp[iJ,jn,cN,cL])), ?_⟩
 refine pC hs ?_
 simp[go_sem,ei]
 exact zI (i+1) ⟨om,om,aN 2 (by simp[bS,cN,cL])⟩
theorem yY5 {data:aiZ} (h:l7 p.1 p.2 data):data.length<=20000:=by
 obtain⟨h1,h2⟩:=VG h
 obtain⟨tn,T,_,hT,hm⟩:=h1.jD
 have hL:=Gu ((by decide: ∀T∈bO,T.cm.length<=20) T (by grind)) h1.ok hm
 have:=Ol hL (dZ bO (fC p.1).1 data).1.length
 rw[show sb (dZ bO (fC p.1).1 data).1 (dZ bO (fC p.1).1 data).1.length=data from h2]at this
 omega
theorem Wk {T:bL} {row:List bK}: ∀{l:List bJ} {acc:List bK},(eC T row l acc).1.length<=acc.length+l.length
 | [],acc=>by grind[eC]
 |e::l,acc=>by
  rw[eC]
  split
  .simp
  .refine Aw Wk ?_
   simp;omega
theorem Pz {T:bL} {l:List Ln}: ∀{xs:List cP} {acc:List bK},(ri T l xs acc).1.length<=acc.length+xs.length
 | [],acc=>by grind[ri]
 |x::xs,acc=>by
  rw[ri]
  split
  .split
   .simp
   .refine Aw Pz ?_
    simp;omega
  .refine Aw Pz ?_
   simp;omega
def lK (N:Nat) (rs:List (List bK)):Prop:=rs.length<=N/\ ∀r∈rs,r.length<=100
theorem Wl {T:bL} {items:List cP} (hi:items.length<=100): ∀{l:List Ln} {acc:List (List bK)} {N:Nat},(∀x∈l,x.v.length<=100)->lK N acc->lK (N+l.length) (pv T items l acc).1
 | [],acc,N,_,h=>by simpa
 |x::l,acc,N,hl,h=>by
  have aa: ∀y∈l,y.v.length<=100:=(by grind)
  have step: ∀r:List bK,r.length<=100->lK (N+(x::l).length) (pv T items l (acc++ [r])).1:=λr hr=>by
   have h2:lK (N+1) (acc++ [r]):=⟨by have:=h.1;grind,λy hy=>by
    rcases Af.1 hy with hy|hy
    .exact h.2 y hy
    grind⟩
   have h3:=Wl hi aa h2 (T:=T)
   grind
  rw[pv]
  split
  .grind
  .split
   .exact⟨sm,sm⟩
   grind[Wk]
theorem wc7 (hi:st.items.length<=100) (hl: ∀x∈l,x.v.length<=100):lK (1+l.length) (lE T st l).1.rows:=by
 have none_:lK (1+l.length) []:=⟨sm,sm⟩
 unfold lE
 split
 .split
  .omega
  .refine⟨sm,λr hr=> ?_⟩
   grind[Pz]
 .obtain⟨m,hm⟩:=eX (lD st.bT (if 0<=cV T st.order then pt (cV T st.order).toNat st.down l else l))
  rw[hm]
  simp only
  have aa:(∀x∈m,x∈l)/\m.length<=l.length:=by
   have h0: ∀k:List Ln,(∀x∈k,x∈l)/\k.length<=l.length->(∀x∈lD st.bT k,x∈l)/\(lD st.bT k).length<=l.length:=(by grind[lD])
   rw[<-hm]
   refine h0 _ ?_
   split
   .exact⟨(by grind[Pp]),by rw[(Pp _ _ _).length_eq];omega⟩
   simp
  split
  .omega
  .have h:=Wl (T:=T) hi (l:=m) (acc:= []) (N:=0) (by grind) (by trivial)
   exact⟨by have:=h.1;grind,h.2⟩
theorem xF4 (aa:kM st) (hl: ∀x∈l,x.v.length<=100):lK (1+l.length) (k9 st l).1.rows:=by
 have none_:lK (1+l.length) []:=⟨sm,sm⟩
 unfold k9
 simp only
 split
 .grind
 split
 .omega
 split
 .have h:=wc7 (T:=bO.getD (xK st.table).toNat eQ) (st:=st) (l:=(ga (xK st.table).toNat (bO.getD (xK st.table).toNat eQ) st l).1) (by have:=aa.items.1;omega) (λx hx=>hl x (Lx x hx).1)
  have hlen:=V1 (t:=((xK st.table).toNat:Int)) (T:=bO.getD (xK st.table).toNat eQ) (st:=st) (l:=l)
  exact⟨Aw h.1 om,h.2⟩
 grind
theorem Wm: ∀{ss:List bW} {i:Nat} {acc:List Ot} {b:Mp aiZ} {l:List Ln} {N:Nat},(∀x∈ss,rC x)->cO b l->l.length+20*ss.length<=N->(∀o∈acc,lK (1+N) o.rows)->(∀o∈(lF ss i acc l).1.2.2,lK (1+N) o.rows)/\(lF ss i acc l).1.2.2.length<=acc.length+ss.length
 | [],i,acc,b,l,N,_,_,_,ha=>by grind[lF]
 |x::ss,i,acc,b,l,N,hs,hn,hN,ha=>by
  rw[lF]
  have hx:=hs x (B1 ..)
  rw[Ah]at hN
  by_cases q:(k9 x l).2.2≠0
  .grind
  rw[aiu q]
  obtain⟨b',ab⟩:=Wa hx hn om
  have hlen:=Pv (st:=x) (l:=l)
  have hr:=hx.ok.rows.1
  have ho:=xF4 hx.ok (l:=l) (λy hy=>by have:=(Po (hn.rows y hy)).2;omega)
  obtain⟨h1,h2⟩:=Wm (i:=i+1) (acc:=acc++ [(k9 x l).1]) (N:=N) (λy hy=>hs y (Ba _ hy)) ab om (λo aa=>by
   rcases Af.1 aa with aa|aa
   .grind
   .rw[B2]at aa;subst aa;exact⟨by have:=ho.1;omega,ho.2⟩)
  grind
theorem xv7 (hl:kN cR) (hn:cO b l) (hlen:l.length<=7500):(fD cR l).1.2.2.length<=100000/\ ∀x∈(fD cR l).1.2.2,x.rows.length<=100000/\ ∀r∈x.rows,r.length<=100000:=by
 have aa:=hl.stmts.1
 unfold fD
 by_cases q:(oA cR).2≠0
 .grind
 rw[aiu q]
 obtain⟨h1,h2⟩:=Wm (ss:=cR.stmts) (i:=0) (acc:= []) (N:=10000) (by grind[Pu]) hn om sm
 have h3:(lF cR.stmts 0 [] l).1.2.2.length<=100000/\ ∀x∈(lF cR.stmts 0 [] l).1.2.2,x.rows.length<=100000/\ ∀r∈x.rows,r.length<=100000:=
  ⟨by grind,λx hx=>⟨by have:=(h1 x hx).1;omega,λr hr=>by have:=(h1 x hx).2 r hr;omega⟩⟩
 grind
theorem xY5 {N:Nat} {out:List (Int×List Wr)} (h:out.length<=N/\ ∀q∈out,q.2.length<=N):(ic out w).length<=N+1/\ ∀q∈ic out w,q.2.length<=N+1:=by
 grind[ic,List.mem_of_getLast?,List.dropLast_subset]
theorem Wn: ∀{l:List Wr} {out:List (Int×List Wr)} {N:Nat},out.length<=N/\(∀q∈out,q.2.length<=N)->(l.foldl ic out).length<=N+l.length/\ ∀q∈l.foldl ic out,q.2.length<=N+l.length
 | [],out,N,h=>(by grind)
 |w::l,out,N,h=>by
  have h2:=Wn (l:=l) (xY5 (w:=w) h)
  grind
theorem Wo (aa now:List Ln):(jg aa now).length<=aa.length+now.length:=by
 have hf: ∀(f:Ln->Wr) (m:List Ln) (l:List Wr),(m.foldl (λl x=>kW l (f x)) l).length=l.length+m.length:=λf m=>by
  induction m with
  |nil=>simp
  |cons x m ih=>intro l;rw[Bn,ih,(O8 _ _).length_eq,Ah,Ah];omega
 unfold jg
 rw[hf (λx=>⟨x.at,false,xL x.v⟩),hf (λx=>⟨x.at,true,[]⟩)]
 grind
def pB (cR:dU) (pZ:List Ln):List (Int×List Wr):=if(fD cR pZ).1.1≠0 then []else mK (jg pZ (fD cR pZ).2)
theorem xO1 (hl:kN cR) (hn:cO b l) (hk:oF l) (hlen:l.length<=7500):(pB cR l).length<=100000/\ ∀q∈pB cR l,q.2.length<=100000:=by
 unfold pB
 by_cases q:(fD cR l).1.1≠0
 .grind
 rw[aiu q]
 obtain⟨_,_,h⟩:=Py hl hn hk om
 have h2:=Wo l (fD cR l).2
 have h3:=Wn (l:=jg l (fD cR l).2) (out:= []) (N:=0) sm
 grind[mK]
def oc:Nat->Nat->aiZ->aiZ
 |0,_,acc=>acc
 |f+1,u,acc=>if u=0 then acc else oc f (u/10) ((48+UInt8.ofNat (u%10))::acc)
def og (n:Nat):aiZ:=if n=0 then [48]else oc 20 n []
theorem xF3 (r:Nat) (h:r<10):((48:UInt8)::List.take r [49,50,51,52,53,54,55,56,57]).drop r= [(48+UInt8.ofNat r)]:=by
 have:r=0\/r=1\/r=2\/r=3\/r=4\/r=5\/r=6\/r=7\/r=8\/r=9:=om
 rcases this with rfl|rfl|rfl|rfl|rfl|rfl|rfl|rfl|rfl|rfl<;>rfl
theorem Wp: ∀(f u:Nat) (acc:aiZ),(oc f u acc).length<=f+acc.length
 |0,u,acc=>by rw[oc];omega
 |f+1,u,acc=>by
  rw[oc]
  split
  .omega
  .have:=Wp f (u/10) ((48+UInt8.ofNat (u%10))::acc);simp only[Ah]at this;omega
theorem Wq (n:Nat):(og n).length<=20:=by
 unfold og
 split
 .decide
 .have:=Wp 20 n [];simpa using this
theorem Ws (n:Nat) (hn:n<=9223372036854775807):Pure prog 28 [.int .i64 n] (.str (og n)):=by
 generalize hM:og n=M
 unfold og at hM
 have ret: ∀(r:aiZ) (I:St),r=M->cx (some (.str r)) 0 (λr s=>r= .str M/\s= []) I:=λr I h=>by subst h;exact wR
 refine iV 0 func28 ntmps28 results28 λc hc hb=> ?_
 refine zA ?_
 simp[go_sem]
 by_cases q0:n=0
 .rw[aiv q0]at hM
  simp[go_sem,q0]
  exact ret _ _ hM
 rw[aiu q0]at hM
 have ae:((n:Int)==0)=false:=sU q0
 have ab:decide ((n:Int)<0)=false:=aiw om
 have eu:IntKind.u64.wrap (n:Int)=(n:Int):=Vx.db om om
 simp[go_sem,ae,ab,eu]
 refine zH (S:=Nat×aiZ) [0,3,4] (λu=> [.int .i64 n,.int .u64 (u.1:Int),.str u.2]) (λ_=> []) (λu=>u.1)
  (λu=>u.1<=n/\ ∃f,u.1<10^f/\u.2.length+f<=20/\oc f u.1 u.2=M) hc hb (n,[]) ⟨A7 _,20,by simp only;omega,sm,hM⟩ ?_ ?_
 .exact aO
 rintro⟨u,s⟩ ⟨hu,f,hf,hs,hinv⟩
 simp only at hu hf hs hinv
 by_cases q:u=0
 .subst q
  have hinv:s=M:=by
   rw[<-hinv]
   cases f with
   |zero=>rfl
   |succ f=>rw[oc,aiv rfl]
  refine zA ?_
  simp[go_sem,ab]
  exact ret _ _ hinv
 obtain⟨f,rfl⟩: ∃g,f=g+1:=by
  cases f with
  |zero=>simp at hf;omega
  |succ f=>exact⟨f,rfl⟩
 rw[oc,aiu q]at hinv
 have hq:0<u:=om
 have er:(u:Int).tmod 10=((u%10:Nat):Int):=by rw[Do om];omega
 have aa:IntKind.u64.wrap (((u%10:Nat):Int)+1)=((u%10+1:Nat):Int):=by rw[Vx.db om om];omega
 have af:(u:Int).tdiv 10=((u/10:Nat):Int):=by rw[Dn om];omega
 have ed:IntKind.u64.wrap ((u:Int).tdiv 10)=((u/10:Nat):Int):=by
  rw[Dn om,Vx.db om om];omega
 have ad:=xF3 (u%10) (Cr _ dC)
 obtain⟨r,hr⟩:=eX (u%10)
 have ai:r<10:=om
 rw[hr]at er aa ad hinv
 have ah:IntKind.u64.wrap ((u:Int)/10)=(u:Int)/10:=Vx.db om om
 have aj:((r:Int)).toNat=r:=B0 r
 have ak:((r+1:Nat):Int).toNat=r+1:=B0 _
 refine zA ?_
 simp only[Int.natCast_add,Bz]at aa
 simp[go_sem,hq,er,aa]
 refine zJ om ?_
 simp[go_sem,ad]
 refine zJ om ?_
 simp[go_sem,af,ah]
 refine zI (u/10,(48+UInt8.ofNat r)::s) ⟨by simp only;omega,⟨by simp only;omega,f,by simp only;rw[E4]at hf;omega,by simp;omega,hinv⟩, ?_⟩
 exact aO
theorem IM (k n:Int) (hk:cI k) (h1:1<=n) (h2:n<=1000):Pure prog 13 [.int .i64 k,.int .i64 n] (.int .i64 (k%n)):=by
 obtain⟨ae,af⟩:=hk
 have q1:decide (n<1)=false:=aiw om
 have q0: ¬n<1:=om
 have qz: ¬n=0:=om
 have he:=E0 k (b:=n) om
 have hl:=Dj k (b:=n) om
 have ht:=Int.tmod_eq_emod (a:=k) (b:=n)
 obtain⟨r,hr⟩:=eX (k%n)
 obtain⟨t,ab⟩:=eX (k.tmod n)
 rw[hr]at he hl ht⊢
 rw[ab]at ht
 have ah:((n.natAbs:Nat):Int)=n:=om
 have ad:t=r\/t=r - n:=by
  split at ht
  .left;omega
  .right;omega
 have et:IntKind.i64.wrap t=t:=bX om om
 have er:IntKind.i64.wrap r=r:=bX om om
 have ret: ∀(v:Int) (I:St),v=r->cx (some (.int .i64 v)) 0 (λr' s=>r'= .int .i64 r/\s= []) I:=λv I h=>by subst h;exact wR
 refine iV 0 func13 ntmps13 results13 λc hc hb=> ?_
 refine zA ?_
 simp[go_sem,q0]
 refine zJ qz ?_
 simp[go_sem,ab]
 rcases ad with e|e
 .have q2:decide (t<0)=false:=aiw om
  have aa: ¬t<0:=om
  simp[go_sem,aa]
  exact ret _ _ e
 .have q2:decide (t<0)=true:=aix om
  have aa:t<0:=om
  have e3:t+n=r:=om
  simp[go_sem,aa,e3,er]
  exact wR
def mO (k:Int):aiZ:=if k.tmod 41=40 then [57,50,50,51,51,55,50,48,51,54,56,53,52,55,55,53,56,48,55]else og (k%12).toNat
theorem Wt (k:Int):(mO k).length<=20:=by
 unfold mO
 split
 .decide
 .exact Wq _
def wt1:aiZ:= [57,50,50,51,51,55,50,48,51,54,56,53,52,55,55,53,56,48,55]
def IN:List aiZ:=wt1::(List.range 12).map og
theorem Wu (k:Int):mO k∈IN:=by
 unfold mO
 split
 .exact B1 ..
 .exact Ba _ (Ac.2 ⟨(k%12).toNat,Cn.2 om,rfl⟩)
theorem Wv (k:Int) (hk:cI k):Pure prog 73 [.int .i64 k] (.str (mO k)):=by
 have hp:=IM k 12 hk dC dC
 have hd:=Ws (k%12).toNat om
 rw[show(((k%12).toNat:Nat):Int)=k%12 by omega]at hd
 obtain⟨aa,ab⟩:=hk
 have ht:=Int.tmod_eq_emod (a:=k) (b:=41)
 have et:IntKind.i64.wrap (k.tmod 41)=k.tmod 41:=by
  have:=E0 k (b:=41) dC
  have:=Dj k (b:=41) dC
  split at ht<;>exact bX om om
 generalize hM:mO k=M
 unfold mO at hM
 obtain⟨u,hu⟩:=eX (k.tmod 41)
 rw[hu]at et hM
 clear ht
 have ret: ∀(v:aiZ) (I:St),v=M->cx (some (.str v)) 0 (λr' s=>r'= .str M/\s= []) I:=λv I h=>by subst h;exact wR
 refine iV 0 func73 ntmps73 results73 λc hc hb=> ?_
 refine zA ?_
 by_cases q:u=40
 .rw[aiv q]at hM
  have q':(u==40)=true:=sU q
  simp[go_sem,hu,q']
  exact ret _ _ hM
 .rw[aiu q]at hM
  have q':(u==40)=false:=sU q
  simp[go_sem,hu,q']
  refine pC hp ?_
  simp[go_sem]
  refine pC hd ?_
  simp[go_sem]
  exact ret _ _ hM
def Ww:List aiZ:= [[39,97,39],[39,98,39],[39,99,39],[39,100,39],[39,101,39]]
theorem wm8 (k:Int) (hk:cI k): ∃t:aiZ,t.length<=20/\Pure prog 74 [.int .i64 k] (.str t)/\t∈Ww:=by
 have hp:=IM k 5 hk dC dC
 have h0:=E0 k (b:=5) dC
 have h1:=Dj k (b:=5) dC
 obtain⟨r,hr⟩:=eX (k%5)
 rw[hr]at hp h0 h1
 have:r=0\/r=1\/r=2\/r=3\/r=4:=om
 have walk: ∀r:Int,(r=0\/r=1\/r=2\/r=3\/r=4)->Pure prog 13 [.int .i64 k,.int .i64 5] (.int .i64 r)->Pure prog 74 [.int .i64 k] (.str [39,97+UInt8.ofNat r.toNat,39]):=λr aa hp=>by
  refine iV 0 func74 ntmps74 results74 λc hc hb=> ?_
  refine zA ?_
  simp[go_sem]
  refine pC hp ?_
  rcases aa with rfl|rfl|rfl|rfl|rfl
  all_goals
   simp[go_sem]
   refine zJ (λx hx=>⟨_,B2.1 hx⟩) ?_
   simp[go_sem,uy]
   exact wR
 exact⟨_,sm,walk r this hp,by rcases this with rfl|rfl|rfl|rfl|rfl<;>decide⟩
def Wx:List aiZ:= [[84,82,85,69],[70,65,76,83,69]]
theorem xR7 (k:Int) (_hk:cI k): ∃t:aiZ,t.length<=20/\Pure prog 75 [.int .i64 k] (.str t)/\t∈Wx:=by
 have ht:=Int.tmod_eq_emod (a:=k) (b:=2)
 have et:IntKind.i64.wrap (k.tmod 2)=k.tmod 2:=by
  have:=E0 k (b:=2) dC
  have:=Dj k (b:=2) dC
  split at ht<;>exact bX om om
 obtain⟨u,hu⟩:=eX (k.tmod 2)
 rw[hu]at et
 clear ht
 by_cases q:u=0
 .refine⟨[84,82,85,69],dC, ?_,dC⟩
  have q':(u==0)=true:=sU q
  refine iV 0 func75 ntmps75 results75 λc hc hb=> ?_
  refine zA ?_
  simp[go_sem,hu,q']
  exact wR
 .refine⟨[70,65,76,83,69],dC, ?_,dC⟩
  have q':(u==0)=false:=sU q
  refine iV 0 func75 ntmps75 results75 λc hc hb=> ?_
  refine zA ?_
  simp[go_sem,hu,q']
  exact wR
def Wy:List aiZ:= [[48],[49]]
def GA (r n g v b:aiZ):Nat->aiZ
 |0=> [73,78,83,69,82,84,32,73,78,84,79,32,84,32,86,65,76,85,69,83,32,40]++r++ [44,32]++n++ [44,32,39,118]++v++ [39,44,32]++v++ [41]
 |1=> [73,78,83,69,82,84,32,73,78,84,79,32,84,32,86,65,76,85,69,83,32,40]++r++ [44,32]++n++ [44,32,39,118]++v++ [39,44,32]++v++ [41]
 |2=> [73,78,83,69,82,84,32,73,78,84,79,32,71,32,86,65,76,85,69,83,32,40]++g++ [44,32]++v++ [44,32,78,85,76,76,41]
 |3=> [85,80,68,65,84,69,32,84,32,83,69,84,32,78,32,61,32,78,32,43,32]++v++ [32,87,72,69,82,69,32,75,32,61,32]++n
 |4=> [85,80,68,65,84,69,32,84,32,83,69,84,32,78,32,61,32]++v++ [44,32,86,32,61,32,39,120,39,32,87,72,69,82,69,32,82,32,61,32]++r++ [32,65,78,68,32,75,32,62,61,32]++n
 |5=> [85,80,68,65,84,69,32,71,32,83,69,84,32,78,32,61,32,78,32,42,32]++v++ [32,87,72,69,82,69,32,75,32,61,32]++g
 |6=> [68,69,76,69,84,69,32,70,82,79,77,32,84,32,87,72,69,82,69,32,75,32,60,32]++v
 |7=> [68,69,76,69,84,69,32,70,82,79,77,32,71,32,87,72,69,82,69,32,75,32,61,32]++g
 |8=> [83,69,76,69,67,84,32,42,32,70,82,79,77,32,84]
 |9=> [83,69,76,69,67,84,32,75,44,32,78,32,43,32,49,32,70,82,79,77,32,84,32,87,72,69,82,69,32,82,32,61,32]++r++ [32,79,82,68,69,82,32,66,89,32,78,32,68,69,83,67,32,76,73,77,73,84,32]++v
 |10=> [83,69,76,69,67,84,32,42,32,70,82,79,77,32,71]
 |11=> [83,69,76,69,67,84,32,67,79,85,78,84,40,42,41,44,32,83,85,77,40,78,41,32,70,82,79,77,32,84,32,87,72,69,82,69,32,75,32,60,62,32]++n
 |12=> [83,69,76,69,67,84,32,42,32,70,82,79,77,32,71,32,87,72,69,82,69,32,75,32,61,32]++g
 |13=> [73,78,83,69,82,84,32,73,78,84,79,32,72,32,86,65,76,85,69,83,32,40]++b++ [44,32]++v++ [41]
 |14=> [85,80,68,65,84,69,32,72,32,83,69,84,32,78,32,61,32,78,32,45,32]++v
 |15=> [83,69,76,69,67,84,32,83,85,77,40,78,32,47,32]++v++ [41,32,70,82,79,77,32,72]
 |16=> [73,78,83,69,82,84,32,73,78,84,79,32,84,32,86,65,76,85,69,83,32,40]++r++ [44,32]++n++ [44,32,78,85,76,76,44,32]++v++ [41,44,32,40,49,44,32]++v++ [44,32,39,116,119,111,39,44,32,78,85,76,76,41]
 |17=> [83,69,76,69,67,84,32,78,32,70,82,79,77,32,84,32,87,72,69,82,69,32,75,32,61,32]++n
 |18=> [85,80,68,65,84,69,32,71,32,83,69,84,32,78,32,61,32,78,32,43,32,49,44,32,66,32,61,32,78,32,62,32]++v
 |_=> [83,69,76,69,67,84,32,86,32,70,82,79,77,32,84,32,87,72,69,82,69,32,78,32,73,83,32,78,85,76,76,32,79,82,32,75,32,62,61,32]++n++ [32,79,82,68,69,82,32,66,89,32,86]
theorem wd2 {r n g v b:aiZ} (hr:r.length<=20) (hn:n.length<=20) (hg:g.length<=20) (hv:v.length<=20) (hb:b.length<=20) (k:Nat):(GA r n g v b k).length<=300:=by
 unfold GA
 split<;>simp<;>omega
def Wz (t:aiZ):Prop:= ∃r∈Wy,∃n∈IN,∃g∈Ww,∃v∈IN,∃b∈Wx,∃w<20,t=GA r n g v b w
theorem WA (a:gF) (ha:a.ok): ∃t:aiZ,t.length<=300/\Pure prog 27 [.agg a.row] (.str t)/\Wz t:=by
 have hw:=IM a.lq 20 ha.lq dC dC
 have ah:=IM a.a 2 ha.a dC dC
 have ad:=Ws (a.a%2).toNat om
 rw[show(((a.a%2).toNat:Nat):Int)=a.a%2 by omega]at ad
 have ai:=Wv a.b ha.b
 have aj:=Wv a.c ha.c
 obtain⟨g,av,hg,ak⟩:=wm8 a.b ha.b
 obtain⟨tr,aw,ht,al⟩:=xR7 a.a ha.a
 have h0:=E0 a.lq (b:=20) dC
 have h1:=Dj a.lq (b:=20) dC
 obtain⟨w,an⟩: ∃w:Nat,a.lq%20=w:=⟨(a.lq%20).toNat,om⟩
 have ae:w<20:=om
 rw[an]at hw
 clear an h0 h1
 obtain⟨r,hr⟩:=eX (og (a.a%2).toNat)
 have ax:r.length<=20:=by rw[<-hr];exact Wq _
 rw[hr]at ad
 have af:r∈Wy:=by
  have:(a.a%2).toNat=0\/(a.a%2).toNat=1:=om
  rcases this with h|h<;>rw[<-hr,h]<;>decide
 obtain⟨rm,ao⟩:=eX (a.a%2)
 rw[ao]at ah ad
 clear hr ao
 obtain⟨n,hn⟩:=eX (mO a.b)
 have ay:n.length<=20:=by rw[<-hn];exact Wt _
 rw[hn]at ai
 have aq:n∈IN:=by rw[<-hn];exact Wu _
 clear hn
 obtain⟨v,hv⟩:=eX (mO a.c)
 have az:v.length<=20:=by rw[<-hv];exact Wt _
 rw[hv]at aj
 have ar:v∈IN:=by rw[<-hv];exact Wu _
 clear hv ha
 obtain⟨wh,aa,ab,ac⟩:=a
 simp only at hw ah ai aj hg ht
 refine⟨GA r n g v tr w,wd2 ax ay av az aw w, ?_,r,af,n,aq,g,ak,v,ar,tr,al,w,ae,rfl⟩
 clear af aq ak ar al
 obtain⟨M,hM⟩:=eX (GA r n g v tr w)
 rw[hM]
 have ret: ∀(x:aiZ) (I:St),x=M->cx (some (.str x)) 0 (λr s=>r= .str M/\s= []) I:=λx I h=>by subst h;exact wR
 refine iV 0 func27 ntmps27 results27 λc hc hb=> ?_
 refine zA ?_
 simp[go_sem]
 refine yE [(2,0),(3,0),(6,0),(9,0)] 1 rfl kR kR ?_
 simp[go_sem]
 refine pD ah ?_
 simp[go_sem]
 refine pD ad ?_
 simp[go_sem]
 refine pD ai ?_
 simp[go_sem]
 refine pD hg ?_
 simp[go_sem]
 refine pC aj ?_
 simp[go_sem]
 refine pC hw ?_
 have au:w=0\/w=1\/w=2\/w=3\/w=4\/w=5\/w=6\/w=7\/w=8\/w=9\/w=10\/w=11\/w=12\/w=13\/w=14\/w=15\/w=16\/w=17\/w=18\/w=19:=om
 clear hw ae
 rcases au with rfl|rfl|rfl|rfl|rfl|rfl|rfl|rfl|rfl|rfl|rfl|rfl|rfl|rfl|rfl|rfl|rfl|rfl|rfl|rfl
 all_goals
  simp[go_sem]
  try (refine pC ht ?_;simp[go_sem])
  repeat (refine zJ (by first|omega|(simp;omega)) ?_;simp[go_sem])
  exact ret _ _ (by rw[<-hM];simp[GA])
end Go.Proofs.YtplackkccmeioaaGreat
namespace Go.Proofs.YtplackkccmeioaaGreat
open Go Go.Vx R Go.Proofs.Tryz
set_option maxRecDepth 100000
open Classical in
noncomputable def pE (a:gF):aiZ:=if h:a.ok then Classical.choose (WA a h)else []
theorem WB {a:gF} (h:a.ok):(pE a).length<=300/\Pure prog 27 [.agg a.row] (.str (pE a))/\Wz (pE a):=by
 unfold pE
 rw[dif_pos h]
 exact Classical.choose_spec (WA a h)
noncomputable def vu:List gF->Nat->aiZ->aiZ
 | [],_,s=>s
 |a::l,i,s=>if i<3 then vu l (i+1) ((if 0<i then s++ [59,32]else s)++pE a)else s
theorem WC: ∀{l:List gF} {i:Nat} {s:aiZ},(∀a∈l,a.ok)->i<=3->(vu l i s).length<=s.length+302*(3 - i)
 | [],i,s,_,_=>by rw[vu];omega
 |a::l,i,s,h,hi=>by
  rw[vu]
  split
  .rename_i q
   have ha:=(WB (h a (B1 ..))).1
   refine Aw (WC (λx hx=>h x (Ba _ hx)) om) ?_
   rw[An]
   have:(if 0<i then s++ [59,32]else s).length<=s.length+2:=by split<;>simp
   omega
  .omega
noncomputable def xw (l:List gF):aiZ:=if vu l 0 []= []then [83,69,76,69,67,84,32,42,32,70,82,79,77,32,71]else vu l 0 []
theorem xA3 {l:List gF} (h: ∀a∈l,a.ok):(xw l).length<=2000:=by
 unfold xw
 have:=WC (s:= []) h (A3 3)
 split
 .decide
 .simp at this;omega
theorem wp8 (l:List gF) (_hl:l.length<=maxLen) (cQ: ∀a∈l,a.ok):Pure prog 10 [.sl .ro (l.map gF.row),.int .i64 0,.int .i64 0] (.str (xw l)):=by
 obtain⟨M,hM⟩:=eX (xw l)
 rw[hM]
 unfold xw at hM
 obtain⟨T,hT⟩:=eX (vu l 0 [])
 rw[hT]at hM
 have ret: ∀(x:aiZ) (I:St),x=M->cx (some (.str x)) 0 (λr s=>r= .str M/\s= []) I:=λx I h=>by subst h;exact wR
 refine iV 0 func10 ntmps10 results10 λc hc hb=> ?_
 refine zA ?_
 simp[go_sem]
 refine zH (S:=Nat×aiZ) [0,1,7,8] (λu=> [.sl .ro (l.map gF.row),.int .i64 0,.str u.2,.int .i64 u.1]) (λ_=> []) (λu=>l.length - u.1) (λu=>u.1<=l.length/\u.1<=3/\u.2.length<=302*u.1/\vu (l.drop u.1) u.1 u.2=T) hc hb (0,[]) ⟨A3 _,A3 _,A3 _,hT⟩ ?_ ?_
 .exact aO
 rintro⟨i,s⟩ ⟨hi,af,hs,hinv⟩
 simp only at hi af hs hinv
 by_cases q:i<l.length/\i<3
 rotate_left
 .have ab:s=T:=by
   by_cases q1:i<l.length
   .rw[A5 q1,vu,aiu om]at hinv
    exact hinv
   .rw[A9 om]at hinv
    exact hinv
  refine zA ?_
  by_cases q1:i<l.length
  .have q3: ¬i<3:=om
   have ad:decide ((i:Int)<3)=false:=aiw om
   simp[go_sem,q1,ad]
   by_cases q0:s= []
   .have aa:s.isEmpty:=sU q0
    rw[aiv (by rw[<-ab];exact q0)]at hM
    simp[go_sem,aa]
    exact ret _ _ hM
   .have aa:s.isEmpty=false:=sU q0
    rw[aiu (by rw[<-ab];exact q0)]at hM
    simp[go_sem,aa]
    exact ret _ _ (by rw[ab];exact hM)
  .simp[go_sem,q1]
   by_cases q0:s= []
   .have aa:s.isEmpty:=sU q0
    rw[aiv (by rw[<-ab];exact q0)]at hM
    simp[go_sem,aa]
    exact ret _ _ hM
   .have aa:s.isEmpty=false:=sU q0
    rw[aiu (by rw[<-ab];exact q0)]at hM
    simp[go_sem,aa]
    exact ret _ _ (by rw[ab];exact hM)
 obtain⟨q1,q3⟩:=q
 have ei:=zQ q3 om
 have ad:decide ((i:Int)<3)=true:=aix om
 obtain⟨a,ha⟩:=eX (l[i])
 obtain⟨ah,ae,_⟩:=WB (cQ a (ha▸A8 q1))
 rw[A5 q1,ha,vu,aiv q3]at hinv
 by_cases q0:0<i
 .have aa:decide (0<(i:Int))=true:=aix om
  rw[aiv q0]at hinv
  refine zA ?_
  simp[go_sem,q1,ad,q0]
  refine zJ (by first|omega|(simp;omega)) ?_
  simp[go_sem,q1,ha]
  refine pC ae ?_
  simp[go_sem]
  refine zJ (by first|omega|(simp;omega)) ?_
  simp[go_sem,ei]
  exact zI (i+1,s++ [59,32]++pE a) ⟨by show l.length - (i+1)<l.length - i;omega,⟨q1,q3,by simp;omega,hinv⟩,aO⟩
 .have aa:decide (0<(i:Int))=false:=aiw om
  rw[aiu q0]at hinv
  refine zA ?_
  simp[go_sem,q1,ad,q0]
  simp[go_sem,ha]
  refine pC ae ?_
  simp[go_sem]
  refine zJ (by first|omega|(simp;omega)) ?_
  simp[go_sem,ei]
  exact zI (i+1,s++pE a) ⟨by show l.length - (i+1)<l.length - i;omega,⟨q1,q3,by simp;omega,hinv⟩,aO⟩
end Go.Proofs.YtplackkccmeioaaGreat
namespace Go.Proofs.YtplackkccmeioaaGreat
open Go Go.Vx R Go.Proofs.Tryz
set_option maxRecDepth 100000
section
variable {c:Pl->Bool}
end
theorem xL4 {r:Int} {x:ca} {uJ:US}: ∀y∈lZ r x uJ,y.1=r\/ ∃z∈uJ,y.1=z.1:=λy hy=>by
 unfold lZ at hy
 split at hy
 .exact .inr ⟨y,hy,rfl⟩
 unfold jd at hy
 split at hy
 .obtain⟨i,hi⟩:=Ar.1 hy
  rw[List.getElem?_modify]at hi
  cases e:uJ[i]? with
  |none=>rw[e]at hi;cases hi
  |some z=>
   rw[e]at hi
   refine .inr ⟨z,Bk e, ?_⟩
   simp only[Option.map_eq_map,Bb,aiy]at hi
   rw[<-hi]
   split<;>rfl
 .rcases Af.1 hy with hy|hy
  .exact .inr ⟨y,B5 hy,rfl⟩
  .rcases Ae.1 hy with rfl|hy
   .exact .inl rfl
   .exact .inr ⟨y,Bx hy,rfl⟩
theorem WD: ∀{ps:List (Int×ca)} {uJ:US},∀y∈nZ ps uJ,(∃p∈ps,y.1=p.1)\/ ∃z∈uJ,y.1=z.1
 | [],uJ,y,hy=> .inr ⟨y,hy,rfl⟩
 |p::ps,uJ,y,hy=>by
  rcases WD (ps:=ps) (uJ:=lZ p.1 p.2 uJ) y hy with ⟨q,hq,e⟩|⟨z,hz,e⟩
  .exact .inl ⟨q,Ba _ hq,e⟩
  .rcases xL4 z hz with h|⟨w,hw,h⟩
   .exact .inl ⟨p,B1 ..,by rw[e,h]⟩
   .exact .inr ⟨w,hw,by rw[e,h]⟩
theorem WE (t g:Int):0<=(xF t g).1/\(xF t g).1<4:=by
 unfold xF
 repeat' split
 all_goals decide
theorem wd3 {st:bW}: ∀p∈pY st,0<=p.1/\p.1<4:=λp hp=>by
 unfold pY at hp
 split at hp
 .cases hp
 split at hp
 .obtain⟨r,_,hp⟩:=List.mem_flatMap.1 hp
  unfold pn at hp
  split at hp
  .cases hp
  split at hp
  .cases hp
  split at hp
  .cases hp
  split at hp
  .cases hp
  split at hp
  .cases hp
  .rw[B2.1 hp];exact WE _ _
 .obtain⟨g,_,rfl⟩:=Ac.1 hp
  exact WE _ _
theorem PA (cR:dU): ∀y∈mZ cR,0<=y.1/\y.1<4:=λy hy=>by
 have hU:mZ cR=nZ (cR.stmts.flatMap pY) []:=Is cR.stmts []
 rw[hU]at hy
 rcases WD y hy with ⟨p,hp,e⟩|⟨z,hz,_⟩
 .obtain⟨st,_,hp⟩:=List.mem_flatMap.1 hp
  rw[e];exact wd3 p hp
 .cases hz
theorem WG: ∀{ps:List (Int×ca)} {uJ:US} {n:Nat},Bd n uJ->Bd (n+ps.length) (nZ ps uJ)
 | [],_,_,h=>h
 |p::ps,uJ,n,h=>by
  have:=WG (ps:=ps) (h.ee p.1 p.2)
  rw[Ah,show n+(ps.length+1)=n+1+ps.length by omega]
  exact this
theorem LK {U J:Type} {f:U->List J} {n:Nat}: ∀{l:List U},(∀x∈l,(f x).length<=n)->(l.flatMap f).length<=n*l.length
 | [],_=>by simp
 |x::l,h=>by
  have h1:=h x (B1 ..)
  have h2:=LK (l:=l) λy hy=>h y (Ba _ hy)
  rw[Bw,An,Ah,Nat.mul_add]
  omega
theorem wd4 {st:bW} (hs:kM st):(pY st).length<=20:=by
 unfold pY
 split
 .simp
 split
 .refine Aw (LK (n:=1) λr _=> ?_) (by have:=hs.rows.1;omega)
  unfold pn
  repeat' split
  all_goals simp
 .rw[Ag]
  unfold wA
  repeat' split
  .exact Aw (Oz _ _) dC
  all_goals simp
theorem WH {cR:dU} (hl:kN cR): ∀y∈mZ cR,y.2.length<=1000:=λy hy=>by
 have hU:mZ cR=nZ (cR.stmts.flatMap pY) []:=Is cR.stmts []
 have h1:=LK (n:=20) (l:=cR.stmts) (f:=pY) λst aa=>wd4 (hl.stmts.2 st aa)
 have h2:=(WG (ps:=cR.stmts.flatMap pY) (uJ:= []) (n:=0) ⟨A3 _,λy hy=>by cases hy⟩).2 y (by rw[<-hU];exact hy)
 have:=hl.stmts.1
 omega
structure oh (Q:List (Int×List Wr)):Prop where
 dy: ∀q∈Q,0<=q.1/\q.1<=3/\q.2≠ []
 up:Q.Pairwise λa b=>a.1<b.1
 keys: ∀q∈Q,q.2.Pairwise λa b=>Op.bytesLess a.p.2 b.p.2=true
 wr: ∀q∈Q,∀w∈q.2,(w.drop=true->w.data= [])/\(w.drop=false->l7 q.1 w.p.2 w.data=true)
theorem LL (l:List Wr) (r:Int):(gT l r).Pairwise λa b=>a.1<b.1:=by
 unfold gT;split<;>simp
theorem WI {l:List Wr} {r:Int} {q:Int×List Wr} (h:q∈gT l r):q=(r,l.filter λw=>w.p.1==r)/\q.2≠ []:=by
 unfold gT at h
 split at h
 .cases h
 .rename_i e
  simp at h
  subst h
  exact⟨rfl,e⟩
theorem xX8 (l:List Wr):(gT l 0++(gT l 1++(gT l 2++gT l 3))).Pairwise λa b=>a.1<b.1:=by
 simp only[Bs,Af]
 refine⟨LL ..,⟨LL ..,⟨LL ..,LL ..,λa ha b hb=> ?_⟩,λa ha b hb=> ?_⟩,λa ha b hb=> ?_⟩
 .rw[vo a ha,vo b hb];decide
 .rw[vo a ha]
  rcases hb with hb|hb<;>rw[vo b hb]<;>decide
 .rw[vo a ha]
  rcases hb with hb|hb|hb<;>rw[vo b hb]<;>decide
theorem jf {cR:dU} (hl:kN cR) {b:Mp aiZ} {aa:List Ln} (hn:cO b aa) (hk:oF aa):oh (pB cR aa):=by
 unfold pB
 by_cases e:(fD cR aa).1.1≠0
 .rw[aiv e]
  exact⟨λq h=>(by cases h),List.Pairwise.nil,λq h=>(by cases h),λq h=>(by cases h)⟩
 rw[aiu e]
 obtain⟨⟨b',ab⟩,af,_⟩:=Py hl hn hk (sU e)
 obtain⟨now,hN⟩:=eX ((fD cR aa).2)
 rw[hN]at ab af⊢
 have ah:=Wj hn.rows ab.rows hn.jh ab.jh rfl
 obtain⟨hr,ai⟩:=LB hn.jh ab.jh
 obtain⟨W,hW⟩:=eX (jg aa now)
 rw[hW]at ah hr ai⊢
 rw[VF hr ah]
 have ad: ∀q∈gT W 0++(gT W 1++(gT W 2++gT W 3)),∃r:Int,0<=r/\r<=3/\q=(r,W.filter λw=>w.p.1==r)/\q.2≠ []:=λq hq=>by
  simp only[Af]at hq
  rcases hq with h|h|h|h<;>exact⟨_,dC,dC,WI h⟩
 refine⟨λq hq=> ?_,xX8 W,λq hq=> ?_,λq hq w hw=> ?_⟩
 .obtain⟨r,h0,h3,rfl,ae⟩:=ad q hq
  exact⟨h0,h3,ae⟩
 .obtain⟨r,h0,h3,rfl,ae⟩:=ad q hq
  refine(List.Pairwise.and_mem.1 (List.Pairwise.sublist C2 hr)).imp fun{x y} h=> ?_
  obtain⟨hx,hy,aj⟩:=h
  have e1:x.p.1=r:=by simpa using (Bo.1 hx).2
  have e2:y.p.1=r:=by simpa using (Bo.1 hy).2
  simpa[xY,e1,e2]using aj
 .obtain⟨r,h0,h3,rfl,ae⟩:=ad q hq
  obtain⟨ak,al⟩:=Bo.1 hw
  have e1:w.p.1=r:=sU al
  rcases(ai w).1 ak with ⟨g1,g2,_⟩|⟨g1,x,hx,g2,g3,_⟩
  .exact⟨λ_=>g2,λh=>by rw[g1]at h;cases h⟩
  .refine⟨λh=>(by rw[g1]at h;cases h),λ_=> ?_⟩
   have:=(af x hx).2
   unfold xp at this
   show l7 r w.p.2 w.data=true
   rw[<-g3,<-e1,<-g2]
   exact this
theorem yM2 {g:Int} {k d:aiZ} (h:l7 g k d):(fC g).2.2=0/\(dZ bO (fC g).1 d).2=0/\fm (fC g).1.toNat (bO.getD (fC g).1.toNat eQ) (dZ bO (fC g).1 d).1=(g,k,0):=by
 unfold l7 at h
 simpa only[Ab,aiA]using h
end Go.Proofs.YtplackkccmeioaaGreat
namespace Go.Proofs.YtplackkccmeioaaGreat
open Go Go.Vx Go.Proofs.Tryz
set_option maxRecDepth 100000
def GB (x:fy):Bool:=decide (x.node<1)||(decide (9<x.node)||(decide (x.attempt<0)||(decide (15<x.attempt)||(decide (x.eU<0)||(decide (1048575<x.eU)||(decide (x.seq<0)||decide (16777215<x.seq)))))))
def mP (x:fy):Int:=if GB x=true then 0 else jr .or .i64 (jr .or .i64 (jr .or .i64 (IntKind.i64.wrap (x.node*281474976710656)) (IntKind.i64.wrap (x.eU*268435456))) (IntKind.i64.wrap (x.seq*16))) x.attempt
theorem wr5 (x:fy):Pure prog 61 [.int .i64 x.node,.int .i64 x.eU,.int .i64 x.seq,.int .i64 x.attempt] (.cy [.int .i64 (mP x),.int .i64 (if GB x=true then 1 else 0)]):=by
 obtain⟨M,hM⟩: ∃M:Int×Int,(mP x,if GB x=true then(1:Int)else 0)=M:=⟨_,rfl⟩
 have aa:mP x=M.1:=aiz Prod.fst hM
 have ab:(if GB x=true then(1:Int)else 0)=M.2:=aiz Prod.snd hM
 rw[aa,ab]
 clear aa ab
 unfold mP GB at hM
 have ret: ∀(r q:Int) (I:St),(r,q)=M->cx (some (.cy [.int .i64 r,.int .i64 q])) 0 (λr s=>r= .cy [.int .i64 M.1,.int .i64 M.2]/\s= []) I:=λr q I h=>by subst h;exact wR
 obtain⟨a,b,c,d⟩:=x
 simp only at hM
 refine iW 0 func61 ntmps61 results61 λc hc hb=>zM ?_
 simp[go_sem]
 repeat' (first
  |(refine xD (λq=> ?_) (λq=> ?_)<;>simp[go_sem,q])
  |(refine zV (λq=> ?_) (λq=> ?_)<;>simp[go_sem,q]))
 all_goals exact ret _ _ _ (by rw[<-hM];clear hM ret;first|(simp[*];done)|(simp;omega))
end Go.Proofs.YtplackkccmeioaaGreat
namespace Go.Vx
open Go
theorem PB (pick:aj0) {n0:Nat} {R:V->St->Prop} {I s:St} {v r:V} (ad:pick.Nodup) (hn:n0=0) (aa:bP (λo j=>I[j]? =some (yA (cK pick I.length) o)) s pick) (hr:cT (cK pick I.length) r v) (hR:R r s):cx (some v) n0 R I:=by
 subst hn
 refine⟨v,rfl,v,I,pick,s,r,.refl _ _,⟨aa.length,ad,λi j o hi ho=> ?_,λi h=>absurd h (Nat.not_lt_zero i)⟩,hr,hR⟩
 obtain⟨j',ab,hr⟩:=aa.get i o ho
 rw[hi]at ab
 cases ab
 exact hr
theorem GC {N i:Nat}:cK [] N i=N+i:=by simp[cK]
end Go.Vx
namespace Go.Proofs.YtplackkccmeioaaGreat
open Go Go.Vx R Go.Proofs.Tryz
set_option maxRecDepth 100000
variable {ρ:Nat->Nat}{g:Tag}
abbrev LM:=Int×Int×List Ot
@[go_sem] def p7 (x:LM):List V:= [.int .i64 x.1,.int .i64 x.2.1,.sl .ro (x.2.2.map Ot.row)]
structure Tx where
 id:fy
 cR:dU
 phase:Int
 at_:eZ
 bump:Int
 home:Int
 bV:List ct
 jo:LM
@[go_sem] def Tx.row (t:Tx):List V:= [.int .i64 t.id.node,.int .i64 t.id.eU,.int .i64 t.id.seq,.int .i64 t.id.attempt,.int .i64 t.cR.mode,.int .i64 t.cR.n,.sl .ro (t.cR.stmts.map bW.row),.int .i64 t.phase,.int .i64 t.at_.wall,.int .i64 t.at_.tie,.int .i64 t.bump,.int .i64 t.home,.sl .ro (t.bV.map ct.row),.int .i64 t.jo.1,.int .i64 t.jo.2.1,.sl .ro (t.jo.2.2.map Ot.row)]
@[go_sem] def Tx.eH (t:Tx) (v:V):List V:= [.int .i64 t.id.node,.int .i64 t.id.eU,.int .i64 t.id.seq,.int .i64 t.id.attempt,.int .i64 t.cR.mode,.int .i64 t.cR.n,.sl .ro (t.cR.stmts.map bW.row),.int .i64 t.phase,.int .i64 t.at_.wall,.int .i64 t.at_.tie,.int .i64 t.bump,.int .i64 t.home,v,.int .i64 t.jo.1,.int .i64 t.jo.2.1,.sl .ro (t.jo.2.2.map Ot.row)]
@[go_sem] def zT:fy:=⟨0,0,0,0⟩
@[go_sem] def zS:eZ:=⟨0,0⟩
def mx (a b:Int):Int:=if a<b then b else a
def mn (a b:Int):Int:=if b<a then b else a
theorem WJ (t:Tx) {rows:List (List V)} (h:t.bV.map ct.row=rows):cT ρ (.agg t.row) (.agg (t.eH (.sl g rows))):=by
 subst h
 unfold Tx.row Tx.eH
 exact wN ⟨zF rfl,zF rfl,zF rfl,zF rfl,zF rfl,zF rfl,zX,zF rfl,zF rfl,zF rfl,zF rfl,zF rfl,zX,zF rfl,zF rfl,zX,tV⟩
theorem we4 (t:Tx) {rows:List (List V)}:cT ρ (.agg (t.eH (.sl .ro rows))) (.agg (t.eH (.sl g rows))):=by
 unfold Tx.eH
 exact wN ⟨zF rfl,zF rfl,zF rfl,zF rfl,zF rfl,zF rfl,zX,zF rfl,zF rfl,zF rfl,zF rfl,zF rfl,zX,zF rfl,zF rfl,zX,tV⟩
def xx (a:cU) (v w:V):List V:= [.int .i64 a.range,.int .i64 a.cmd.kind,.int .i64 a.cmd.fq,.int .i64 a.cmd.node,.int .i64 a.cmd.home,.int .i64 a.cmd.eO.node,.int .i64 a.cmd.eO.eU,.int .i64 a.cmd.eO.seq,.int .i64 a.cmd.eO.attempt,.int .i64 a.cmd.at_.wall,.int .i64 a.cmd.at_.tie,.int .i64 a.cmd.wall,.bool a.cmd.yes,v,w]
theorem xD1 (a:cU) {k:Tag}:cT ρ (.agg a.row) (.agg (xx a (.sl g (a.cmd.cH.map ca.row)) (.sl k (a.cmd.writes.map dE.row)))):=by
 unfold cU.row xx
 exact wN ⟨zF rfl,zF rfl,zF rfl,zF rfl,zF rfl,zF rfl,zF rfl,zF rfl,zF rfl,zF rfl,zF rfl,zF rfl,zF rfl,zX,zX,tV⟩
theorem IP (a:cU) {k:Tag}:nk ρ (.agg a.row) (.agg (xx a (.sl g (a.cmd.cH.map ca.row)) (.sl k (a.cmd.writes.map dE.row)))):=by
 unfold cU.row xx
 exact wW ⟨zF rfl,zF rfl,zF rfl,zF rfl,zF rfl,zF rfl,zF rfl,zF rfl,zF rfl,zF rfl,zF rfl,zF rfl,zF rfl,zX,zX,tV⟩
def rE (t:Tx):Tx:={t with phase:=4,at_:=zS,bV:= []}
def wG (w:Wr):dE:=⟨w.p.2,w.drop,w.data⟩
def um (n:Int×List ca):ct:=⟨n.1,1,0,n.2,[],[],zT,false⟩
def vw (p:Int×List Wr):ct:=⟨p.1,2,0,[],p.2.map wG,[],zT,false⟩
@[go_sem] def PC:iK:=⟨0,0,0,0,zT,zS,0,false,[],[]⟩
def EH (g:Int) (eO:fy) (yes:Bool):cU:=⟨g,⟨5,0,0,0,eO,zS,0,yes,[],[]⟩⟩
def GD (t:Tx) (yes:Bool):List cU:=t.bV.map λx=>EH x.range t.id yes
def jC (t:Tx) (l:ct):Option cU:=
 if l.state=1 then some ⟨l.range,⟨2,0,0,0,t.id,t.at_,0,false,l.cH,[]⟩⟩
 else if l.state=2 then some ⟨l.range,⟨3,0,0,t.home,t.id,t.at_,0,false,[],l.writes⟩⟩
 else if l.state=3 then some ⟨l.home,⟨4,0,0,0,l.eO,zS,0,false,[],[]⟩⟩
 else if l.state=4 then some (EH l.range l.eO l.yes)
 else none
def PD (t:Tx):cU:=⟨t.home,⟨4,0,0,0,t.id,t.at_,0,true,[],[]⟩⟩
def la (t:Tx):List cU:=if t.phase=1\/t.phase=2 then t.bV.filterMap (jC t)else if t.phase=3 then [PD t]else []
def uo (w n:Int):Int:=mn w (4611686018427387904 - n)+n
def ig (phase:Int) (l:ct) (r:dm):ct×Int×Bool×Bool:=
 if l.state=3/\r.err=0 then({l with state:=4,yes:=r.yes},0,false,false)
 else if l.state=4/\r.err=0 then({l with state:=if phase=2 then 2 else 1,eO:=zT,home:=0,yes:=false},0,false,false)
 else if l.state=3\/l.state=4 then(l,0,false,false)
 else if r.err=20 then({l with state:=3,eO:=r.eO,home:=r.home},0,false,false)
 else if r.err=0 then({l with state:=5,cW:=if l.state=1 then r.cW else l.cW},0,false,false)
 else if l.state=1/\r.err=24 then(l,uo r.wall 1,true,false)
 else if l.state=1 then(l,0,false,true)
 else if r.err=21 then(l,uo r.wall 24,true,false)
 else if r.err=22 then(l,uo r.at_.wall 1,true,false)
 else if r.err=26 then(l,0,true,false)
 else(l,0,false,false)
inductive p8 where
 |done (bV:List ct)
 |wait
 |again (bV:List ct) (bump:Int)
def mQ (t:Tx) (a:cU) (r:dm):List ct->List ct->p8
 |acc,[]=> .done acc
 |acc,l::ls=>
  if jC t l=some a then
   if(ig t.phase l r).2.2.1=true then .again (acc++(ig t.phase l r).1::ls) (ig t.phase l r).2.1
   else if(ig t.phase l r).2.2.2=true then .wait
   else mQ t a r (acc++ [(ig t.phase l r).1]) ls
  else mQ t a r (acc++ [l]) ls
def lL (a:cU):cU:={a with cmd:={a.cmd with fq:=0}}
section
variable (ag:Tx->Int->Int->Tx×List cU) (ru:Tx->Tx)
def uq (t:Tx) (bV:List ct):Tx:=
 if bV.any (λl=>l.state !=5)=true then{t with bV:=bV}
 else if t.phase=1 then ru {t with bV:=bV}else{t with bV:=bV,phase:=3}
def IQ (t:Tx) (r:dm) (bT:Int):p8->Tx×List cU
 | .again bV b=>ag {t with bV:=bV} b bT
 | .wait=>(rE {t with jo:=(r.err,0,[])},[])
 | .done bV=>(uq ru t bV,[])
def BJ (t:Tx) (a:cU) (r:dm) (bT:Int):Tx×List cU:=
 if ¬((la t).any λy=>decide (y=lL a))=true\/r.err=25\/r.err=27 then(t,[])
 else if t.phase=3 then
  if r.err≠0 then(t,[])else if r.yes=true then({t with phase:=4},GD t true)else ag t 0 bT
 else IQ ag ru t r bT (mQ t (lL a) r [] t.bV)
end
structure j5 (l:ct):Prop where
 range:0<=l.range/\l.range<1000
 cH:l.cH.length<=100000
 writes:l.writes.length<=100000
 cW:l.cW.length<=1000/\ ∀p∈l.cW,p.data.length<=cG
structure jH (t:Tx):Prop where
 cR:kN t.cR
 lM:0<=t.id.attempt/\t.id.attempt<=10
 bV:t.bV.length<=4
 jW: ∀l∈t.bV,j5 l
 outs:t.jo.2.2.length<=100000/\ ∀x∈t.jo.2.2,x.rows.length<=100000/\ ∀r∈x.rows,r.length<=100000
end Go.Proofs.YtplackkccmeioaaGreat
namespace Go.Proofs.YtplackkccmeioaaGreat
open Go Go.Vx R Go.Proofs.Tryz
set_option maxRecDepth 100000
def kZ (l:ct):Vw:=(l.range.toNat,l.cW.map λp=>(p.key,p.data))
def oG (t:Tx):Tx:=
 match pB t.cR (lI (t.bV.map kZ))with
 | []=>{t with jo:=(fD t.cR (lI (t.bV.map kZ))).1,bV:= [],phase:=4}
 |p::l=>{t with jo:=(fD t.cR (lI (t.bV.map kZ))).1,phase:=2,home:=p.1,bV:=(p::l).map vw}
def xy (t:Tx) (bT:Int):Tx:={t with at_:=⟨mx bT t.bump,mP t.id⟩,phase:=1,home:=0,jo:=(0,0,[]),bV:=(mZ t.cR).map um}
def rF (t:Tx) (bT:Int):Tx:=if mZ t.cR= []then oG (xy t bT)else xy t bT
def vx (t:Tx) (bump bT:Int):Tx×List cU:=
 (if 10<=t.id.attempt+1 then rE {t with bump:=mx t.bump bump,id:={t.id with attempt:=t.id.attempt+1},jo:=(28,0,[])}
  else rF {t with bump:=mx t.bump bump,id:={t.id with attempt:=t.id.attempt+1}} bT,
  if t.phase=1 then []else GD t false)
def sr:=BJ vx oG
def rG (id:fy) (l:dU) (bT:Int):Tx:=
 if l.mode≠0 then⟨{id with attempt:=0},l,4,zS,0,0,[],(1,0,[])⟩
 else if(oA l).2≠0 then⟨{id with attempt:=0},l,4,zS,0,0,[],(fD l []).1⟩
 else rF ⟨{id with attempt:=0},l,0,zS,0,0,[],(0,0,[])⟩ bT
end Go.Proofs.YtplackkccmeioaaGreat
namespace Go.Proofs.YtplackkccmeioaaGreat
open Go Go.Vx Go.Proofs.Tryz
set_option maxRecDepth 100000
theorem WK (fn:FuncId) (aa:xE prog fn) (rows:List (List V)) (hl:rows.length<=100000) (hu:eI 6 rows) (ab: ∀r∈rows,gK (.agg r)=true/\oj (.agg r)=true/\r.map k5=r) (hx: ∀r∈rows,Pure prog fn [.agg r] (.agg r)):
  Pure prog 53 [.sl .ro rows,.fn fn []] (.sl .ro rows):=by
 refine iV 0 func53 ntmps53 results53 λc hc hb=> ?_
 refine zA ?_
 simp[go_sem]
 refine lU 5 6 dC sg ?_
 refine zH (S:=Nat×List (List V)) [1,5,8,9,10] (λu=> [.fn fn [],.sl (.app 0) u.2,.sl .ro rows,.int .i64 rows.length,.int .i64 u.1]) (λu=> [.app u.2.length 6]) (λu=>rows.length - u.1) (λu=>u.1<=rows.length/\u.2=rows.take u.1) hc hb (0,[]) ⟨A3 _,sm⟩ ?_ ?_
 .exact aN 1 rfl
 rintro⟨i,out⟩ ⟨hi,ho⟩
 simp only at hi ho
 have ai:out.length=i:=by rw[ho,Az];omega
 by_cases q:i<rows.length
 rotate_left
 .have h2:out=rows:=by rw[ho];exact Aa om
  refine zA ?_
  simp[go_sem,q]
  exact zW (by rw[h2];exact zK) ⟨rfl,rfl⟩
 have ei:=zQ q om
 obtain⟨r,hy⟩: ∃y,rows[i]=y:=⟨_,rfl⟩
 have hr:r∈rows:=hy▸A8 q
 have hw:=hu r hr
 have hn:=ab r hr
 have ad:=hx r hr
 have ae:out++ [r]=rows.take (i+1):=by rw[ho,Ai q,hy]
 obtain⟨hn,af,ah⟩:=hn
 have ht:r.take 6=r:=Aa om
 refine zA ?_
 simp[go_sem,q,hy,hw,ht]
 refine zL ad aa ⟨zC hn,tV⟩ hn ?_
 simp[go_sem]
 refine zJ ⟨by simpa[go_sem]using af,hw⟩ ?_
 simp[go_sem,ah]
 refine zJ ⟨om,zY hw⟩ ?_
 simp[go_sem,ei]
 exact zI (i+1,out++ [r]) ⟨by show rows.length - (i+1)<rows.length - i;omega,⟨q,ae⟩,aN 1 rfl⟩
theorem yY8 (fn:FuncId) (aa:xE prog fn) (rows:List (List V)) (hl:rows.length<=100000) (hu:eI 15 rows) (ab: ∀r∈rows,gK (.agg r)=true/\oj (.agg r)=true/\r.map k5=r) (hx: ∀r∈rows,Pure prog fn [.agg r] (.agg r)):
  Pure prog 46 [.sl .ro rows,.fn fn []] (.sl .ro rows):=by
 refine iV 0 func46 ntmps46 results46 λc hc hb=> ?_
 refine zA ?_
 simp[go_sem]
 refine lU 5 15 dC sg ?_
 refine zH (S:=Nat×List (List V)) [1,5,8,9,10] (λu=> [.fn fn [],.sl (.app 0) u.2,.sl .ro rows,.int .i64 rows.length,.int .i64 u.1]) (λu=> [.app u.2.length 15]) (λu=>rows.length - u.1) (λu=>u.1<=rows.length/\u.2=rows.take u.1) hc hb (0,[]) ⟨A3 _,sm⟩ ?_ ?_
 .exact aN 1 rfl
 rintro⟨i,out⟩ ⟨hi,ho⟩
 simp only at hi ho
 have ai:out.length=i:=by rw[ho,Az];omega
 by_cases q:i<rows.length
 rotate_left
 .have h2:out=rows:=by rw[ho];exact Aa om
  refine zA ?_
  simp[go_sem,q]
  exact zW (by rw[h2];exact zK) ⟨rfl,rfl⟩
 have ei:=zQ q om
 obtain⟨r,hy⟩: ∃y,rows[i]=y:=⟨_,rfl⟩
 have hr:r∈rows:=hy▸A8 q
 have hw:=hu r hr
 have hn:=ab r hr
 have ad:=hx r hr
 have ae:out++ [r]=rows.take (i+1):=by rw[ho,Ai q,hy]
 obtain⟨hn,af,ah⟩:=hn
 have ht:r.take 15=r:=Aa om
 refine zA ?_
 simp[go_sem,q,hy,hw,ht]
 refine zL ad aa ⟨zC hn,tV⟩ hn ?_
 simp[go_sem]
 refine zJ ⟨by simpa[go_sem]using af,hw⟩ ?_
 simp[go_sem,ah]
 refine zJ ⟨om,zY hw⟩ ?_
 simp[go_sem,ei]
 exact zI (i+1,out++ [r]) ⟨by show rows.length - (i+1)<rows.length - i;omega,⟨q,ae⟩,aN 1 rfl⟩
theorem yY7 (fn:FuncId) (aa:xE prog fn) (rows:List (List V)) (hl:rows.length<=100000) (hu:eI 7 rows) (ab: ∀r∈rows,gK (.agg r)=true/\oj (.agg r)=true/\r.map k5=r) (hx: ∀r∈rows,Pure prog fn [.agg r] (.agg r)):
  Pure prog 48 [.sl .ro rows,.fn fn []] (.sl .ro rows):=by
 refine iV 0 func48 ntmps48 results48 λc hc hb=> ?_
 refine zA ?_
 simp[go_sem]
 refine lU 5 7 dC sg ?_
 refine zH (S:=Nat×List (List V)) [1,5,8,9,10] (λu=> [.fn fn [],.sl (.app 0) u.2,.sl .ro rows,.int .i64 rows.length,.int .i64 u.1]) (λu=> [.app u.2.length 7]) (λu=>rows.length - u.1) (λu=>u.1<=rows.length/\u.2=rows.take u.1) hc hb (0,[]) ⟨A3 _,sm⟩ ?_ ?_
 .exact aN 1 rfl
 rintro⟨i,out⟩ ⟨hi,ho⟩
 simp only at hi ho
 have ai:out.length=i:=by rw[ho,Az];omega
 by_cases q:i<rows.length
 rotate_left
 .have h2:out=rows:=by rw[ho];exact Aa om
  refine zA ?_
  simp[go_sem,q]
  exact zW (by rw[h2];exact zK) ⟨rfl,rfl⟩
 have ei:=zQ q om
 obtain⟨r,hy⟩: ∃y,rows[i]=y:=⟨_,rfl⟩
 have hr:r∈rows:=hy▸A8 q
 have hw:=hu r hr
 have hn:=ab r hr
 have ad:=hx r hr
 have ae:out++ [r]=rows.take (i+1):=by rw[ho,Ai q,hy]
 obtain⟨hn,af,ah⟩:=hn
 have ht:r.take 7=r:=Aa om
 refine zA ?_
 simp[go_sem,q,hy,hw,ht]
 refine zL ad aa ⟨zC hn,tV⟩ hn ?_
 simp[go_sem]
 refine zJ ⟨by simpa[go_sem]using af,hw⟩ ?_
 simp[go_sem,ah]
 refine zJ ⟨om,zY hw⟩ ?_
 simp[go_sem,ei]
 exact zI (i+1,out++ [r]) ⟨by show rows.length - (i+1)<rows.length - i;omega,⟨q,ae⟩,aN 1 rfl⟩
theorem yY6 (fn:FuncId) (aa:xE prog fn) (rows:List (List V)) (hl:rows.length<=100000) (hu:eI 7 rows) (ab: ∀r∈rows,gK (.agg r)=true/\oj (.agg r)=true/\r.map k5=r) (hx: ∀r∈rows,Pure prog fn [.agg r] (.agg r)):
  Pure prog 54 [.sl .ro rows,.fn fn []] (.sl .ro rows):=by
 refine iV 0 func54 ntmps54 results54 λc hc hb=> ?_
 refine zA ?_
 simp[go_sem]
 refine lU 5 7 dC sg ?_
 refine zH (S:=Nat×List (List V)) [1,5,8,9,10] (λu=> [.fn fn [],.sl (.app 0) u.2,.sl .ro rows,.int .i64 rows.length,.int .i64 u.1]) (λu=> [.app u.2.length 7]) (λu=>rows.length - u.1) (λu=>u.1<=rows.length/\u.2=rows.take u.1) hc hb (0,[]) ⟨A3 _,sm⟩ ?_ ?_
 .exact aN 1 rfl
 rintro⟨i,out⟩ ⟨hi,ho⟩
 simp only at hi ho
 have ai:out.length=i:=by rw[ho,Az];omega
 by_cases q:i<rows.length
 rotate_left
 .have h2:out=rows:=by rw[ho];exact Aa om
  refine zA ?_
  simp[go_sem,q]
  exact zW (by rw[h2];exact zK) ⟨rfl,rfl⟩
 have ei:=zQ q om
 obtain⟨r,hy⟩: ∃y,rows[i]=y:=⟨_,rfl⟩
 have hr:r∈rows:=hy▸A8 q
 have hw:=hu r hr
 have hn:=ab r hr
 have ad:=hx r hr
 have ae:out++ [r]=rows.take (i+1):=by rw[ho,Ai q,hy]
 obtain⟨hn,af,ah⟩:=hn
 have ht:r.take 7=r:=Aa om
 refine zA ?_
 simp[go_sem,q,hy,hw,ht]
 refine zL ad aa ⟨zC hn,tV⟩ hn ?_
 simp[go_sem]
 refine zJ ⟨by simpa[go_sem]using af,hw⟩ ?_
 simp[go_sem,ah]
 refine zJ ⟨om,zY hw⟩ ?_
 simp[go_sem,ei]
 exact zI (i+1,out++ [r]) ⟨by show rows.length - (i+1)<rows.length - i;omega,⟨q,ae⟩,aN 1 rfl⟩
theorem xt9 (fn:FuncId) (aa:xE prog fn) (rows:List (List V)) (hl:rows.length<=100000) (hu:eI 2 rows) (ab: ∀r∈rows,gK (.agg r)=true/\oj (.agg r)=true/\r.map k5=r) (hx: ∀r∈rows,Pure prog fn [.agg r] (.agg r)):
  Pure prog 92 [.sl .ro rows,.fn fn []] (.sl .ro rows):=by
 refine iV 0 func92 ntmps92 results92 λc hc hb=> ?_
 refine zA ?_
 simp[go_sem]
 refine lU 5 2 dC sg ?_
 refine zH (S:=Nat×List (List V)) [1,5,8,9,10] (λu=> [.fn fn [],.sl (.app 0) u.2,.sl .ro rows,.int .i64 rows.length,.int .i64 u.1]) (λu=> [.app u.2.length 2]) (λu=>rows.length - u.1) (λu=>u.1<=rows.length/\u.2=rows.take u.1) hc hb (0,[]) ⟨A3 _,sm⟩ ?_ ?_
 .exact aN 1 rfl
 rintro⟨i,out⟩ ⟨hi,ho⟩
 simp only at hi ho
 have ai:out.length=i:=by rw[ho,Az];omega
 by_cases q:i<rows.length
 rotate_left
 .have h2:out=rows:=by rw[ho];exact Aa om
  refine zA ?_
  simp[go_sem,q]
  exact zW (by rw[h2];exact zK) ⟨rfl,rfl⟩
 have ei:=zQ q om
 obtain⟨r,hy⟩: ∃y,rows[i]=y:=⟨_,rfl⟩
 have hr:r∈rows:=hy▸A8 q
 have hw:=hu r hr
 have hn:=ab r hr
 have ad:=hx r hr
 have ae:out++ [r]=rows.take (i+1):=by rw[ho,Ai q,hy]
 obtain⟨hn,af,ah⟩:=hn
 have ht:r.take 2=r:=Aa om
 refine zA ?_
 simp[go_sem,q,hy,hw,ht]
 refine zL ad aa ⟨zC hn,tV⟩ hn ?_
 simp[go_sem]
 refine zJ ⟨by simpa[go_sem]using af,hw⟩ ?_
 simp[go_sem,ah]
 refine zJ ⟨om,zY hw⟩ ?_
 simp[go_sem,ei]
 exact zI (i+1,out++ [r]) ⟨by show rows.length - (i+1)<rows.length - i;omega,⟨q,ae⟩,aN 1 rfl⟩
theorem yJ9 (fn:FuncId) (ab:xE prog fn) (rows:List (List V)) (hl:rows.length<=100000) (hu:eI 1 rows) (ad: ∀r∈rows,∃q,r= [.sl .ro q]) (hx: ∀r∈rows,Pure prog fn [r.getD 0 (.int .i64 0)] (r.getD 0 (.int .i64 0))):
  Pure prog 51 [.sl .ro rows,.fn fn []] (.sl .ro rows):=by
 refine iV 0 func51 ntmps51 results51 λc hc hb=> ?_
 refine zA ?_
 simp[go_sem]
 refine lU 5 1 dC sg ?_
 refine zH (S:=Nat×List (List V)) [1,5,8,9,10] (λu=> [.fn fn [],.sl (.app 0) u.2,.sl .ro rows,.int .i64 rows.length,.int .i64 u.1]) (λu=> [.app u.2.length 1]) (λu=>rows.length - u.1) (λu=>u.1<=rows.length/\u.2=rows.take u.1) hc hb (0,[]) ⟨A3 _,sm⟩ ?_ ?_
 .exact aN 1 rfl
 rintro⟨i,out⟩ ⟨hi,ho⟩
 simp only at hi ho
 have af:out.length=i:=by rw[ho,Az];omega
 by_cases q:i<rows.length
 rotate_left
 .have h2:out=rows:=by rw[ho];exact Aa om
  refine zA ?_
  simp[go_sem,q]
  exact zW (by rw[h2];exact zK) ⟨rfl,rfl⟩
 have ei:=zQ q om
 obtain⟨r,hy⟩: ∃y,rows[i]=y:=⟨_,rfl⟩
 have hr:r∈rows:=hy▸A8 q
 have hw:=hu r hr
 have hn:=ad r hr
 have aa:=hx r hr
 have ae:out++ [r]=rows.take (i+1):=by rw[ho,Ai q,hy]
 obtain⟨v,rfl⟩:=hn
 change Pure prog fn [.sl .ro v] (.sl .ro v)at aa
 refine zA ?_
 simp[go_sem,q,hy]
 refine zL aa ab ⟨zK,tV⟩ rfl ?_
 simp[go_sem]
 refine zJ ⟨om,zY rfl⟩ ?_
 simp[go_sem,ei]
 exact zI (i+1,out++ [[.sl .ro v]]) ⟨by show rows.length - (i+1)<rows.length - i;omega,⟨q,ae⟩,aN 1 rfl⟩
theorem yY9 (fn:FuncId) (ab:xE prog fn) (rows:List (List V)) (hl:rows.length<=100000) (hu:eI 1 rows) (ad: ∀r∈rows,∃q,r= [.sl .ro q]) (hx: ∀r∈rows,Pure prog fn [r.getD 0 (.int .i64 0)] (r.getD 0 (.int .i64 0))):
  Pure prog 94 [.sl .ro rows,.fn fn []] (.sl .ro rows):=by
 refine iV 0 func94 ntmps94 results94 λc hc hb=> ?_
 refine zA ?_
 simp[go_sem]
 refine lU 5 1 dC sg ?_
 refine zH (S:=Nat×List (List V)) [1,5,8,9,10] (λu=> [.fn fn [],.sl (.app 0) u.2,.sl .ro rows,.int .i64 rows.length,.int .i64 u.1]) (λu=> [.app u.2.length 1]) (λu=>rows.length - u.1) (λu=>u.1<=rows.length/\u.2=rows.take u.1) hc hb (0,[]) ⟨A3 _,sm⟩ ?_ ?_
 .exact aN 1 rfl
 rintro⟨i,out⟩ ⟨hi,ho⟩
 simp only at hi ho
 have af:out.length=i:=by rw[ho,Az];omega
 by_cases q:i<rows.length
 rotate_left
 .have h2:out=rows:=by rw[ho];exact Aa om
  refine zA ?_
  simp[go_sem,q]
  exact zW (by rw[h2];exact zK) ⟨rfl,rfl⟩
 have ei:=zQ q om
 obtain⟨r,hy⟩: ∃y,rows[i]=y:=⟨_,rfl⟩
 have hr:r∈rows:=hy▸A8 q
 have hw:=hu r hr
 have hn:=ad r hr
 have aa:=hx r hr
 have ae:out++ [r]=rows.take (i+1):=by rw[ho,Ai q,hy]
 obtain⟨v,rfl⟩:=hn
 change Pure prog fn [.sl .ro v] (.sl .ro v)at aa
 refine zA ?_
 simp[go_sem,q,hy]
 refine zL aa ab ⟨zK,tV⟩ rfl ?_
 simp[go_sem]
 refine zJ ⟨om,zY rfl⟩ ?_
 simp[go_sem,ei]
 exact zI (i+1,out++ [[.sl .ro v]]) ⟨by show rows.length - (i+1)<rows.length - i;omega,⟨q,ae⟩,aN 1 rfl⟩
end Go.Proofs.YtplackkccmeioaaGreat
