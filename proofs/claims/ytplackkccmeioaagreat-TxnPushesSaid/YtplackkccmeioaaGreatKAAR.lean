/-
  Copies of lists, equality of lists and of commands, and the tie of an attempt; used by the walks of txn.
  Conditions: as each theorem states them.
-/
import Derived.Test.YtplackkccmeioaaGreatKAAQ
import Derived.Test.YtplackkccmeioaaGreatKAAO
import Derived.Test.YtplackkccmeioaaGreatKAAH
import Derived.Test.YtplackkccmeioaaGreatKAAN
import Derived.Test.YtplackkccmeioaaGreatKAAE
set_option maxHeartbeats 8000000
namespace Go.Proofs.YtplackkccmeioaaGreat
open Go Go.Vx R Go.Proofs.Tryz
set_option maxRecDepth 100000
variable {b:Mp aiA}{l:List Ln}{a:Mp aiA}{sn:Mp Int}{st:bW}{I:St}{T:bL}{tn:Nat}{cR:dZ}{P:Program}{c:Ctx}{x:Ln}{k:Nat}{n0:Kp}{f:FuncId}{bY:List V}{cj:List V}{KV:V->St->Prop}{m:List Ln}{p:Pl}{w:Wr}{r:Int}{C:List Wr}
@[go_sem] theorem BD {nt:Nat} {d:Option Tmp} {K:KT} {e:Env} {x k:Operand} {t1 t2:TypeId}:eN P c nt n0 4 d (.call ⟨.builtin .delete, #[x,k], #[t1,t2]⟩) K fx fx e I=eL P c nt d (.call ⟨.builtin .delete, #[x,k], #[t1,t2]⟩) K fx fx e I:=MH sm sm sm
theorem xR0 (k:Nat) {args:List V} {fj:St} {R:V->St->Prop} (hc:bN P f cj fj R) (hb:xE P f) (hk:I.take k=fj) (hl:fj.length=k) (db:fj.all (bT k))
  (aa:bP (cP (cK (List.range k) I.length)) cj (args++bY)) (hR: ∀r s,R r s-> ∃s0 ex,s=s0++ex/\s0.length=k/\s0.all (bT k)=true/\ex.all (bT 0))
  (hK: ∀r s0 ex,R r (s0++ex)->s0.length=k->KV (dH (cK (List.range k) I.length) r) (s0++I.drop k++ex)):jk P c (.fn f bY) args I KV fx:=by
 have ab:k<=I.length:=by grind
 refine VC.of hc hb (List.range k) Bf (by grind) (λi j o h1 h2=> ?_) aa λr s h _=> ?_
 .obtain⟨h3,h4⟩:=A4.1 h1
  simp at h3 h4
  subst h4
  have ho:bT k o:=by
   grind
  rw[yY (n:=k) (by grind[qE]) ho]
  grind
 .obtain⟨s0,ex,rfl,h1,h2,h3⟩:=hR r s h
  have e:yX (List.range k) I (s0++ex)=s0++I.drop k++ex:=by
   have e0:=QX ab h1 h2
   have ed:(s0++ex).drop (List.range k).length=ex:=by grind
   have et:(s0++ex).take (List.range k).length=s0.take (List.range k).length:=by grind
   have e2:(s0.drop (List.range k).length).map (yA (cK (List.range k) I.length))= []:=by
    grind
   have e3:ex.map (yA (cK (List.range k) I.length))=ex:=wH (λo h=>yY (n:=0) om h) h3
   unfold yX at e0⊢
   grind
  grind
theorem wn8 (i:Nat) {o o2:Ob} {args:List V} {v:V} (hc:bN P f cj [o] (λr s=>r=v/\s= [o2])) (hb:xE P f) (ho:I[i]? =some o) (db:bT 0 o) (ab:bT 0 o2)
  (aa:bP (cP (cK [i] I.length)) cj (args++bY)) (hK:KV (dH (cK [i] I.length) v) (I.set i o2)):pT P c n0 4 (.fn f bY) args I KV fx:=by
 refine QQ hc hb [i] sm rfl (λa j x h1 h2=> ?_) aa ?_
 .have e:a=0:=by
   grind
  subst e
  have e1:x=o:=by grind
  have e2:j=i:=by grind
  subst e1;subst e2
  rw[yY (n:=0) om db]
  exact ho
 .have e:yX [i] I [o2]=I.set i o2:=by
   simp only[yX,Bl,Cr,aiu,Ds,Bj,Ah,Bp,fI,Az]
   rw[yY (n:=0) om ab]
  grind
theorem wb1: ∀n,4<=n->(dm a b sn++([.cd (m.map Ln.row) 3]:St)).all (bT n)=true:=λn h=>by
 rw[E6,wC n om a b sn]
 simp[bT,cS,cN,Ln.row]
structure rE (st:bW):Prop where
 ok:k6 st
 vok:K8 st
 jA:0<=xK st.table
 items:st.kind=1->st.items≠ []
 cG:st.kind=3-> ∀x∈st.cG,0<=cU (bO.getD (xK st.table).toNat eQ) x.name
theorem Pj {tn:Nat} {T:bL} (hT:bO[tn]? =some T) {st:bW} (ab:k6 st): ∀{m:List Ln} {b:Mp aiA} {l:List Ln},cM b l->(∀x∈m,jD l x.at=true/\fM x/\(fC x.r).1=(tn:Int))->(gP T st.cG m l).2=0->cM (mP T st.cG m b) (gP T st.cG m l).1
 | [],_,_,hn,_,_=>hn
 |x::m,b,l,hn,hm,h0=>by
  obtain⟨ad,aa,ae⟩:=hm x sm
  rw[gP]at h0⊢
  rw[mP]
  obtain⟨E,hE⟩:=eX (gB T x.v st.cG x.v)
  rw[hE]at h0⊢
  by_cases q:E.2=0
  rotate_left
  .grind
  rw[ai1 om]at h0
  rw[ai1 om,ai1 (show ¬E.2≠0 from λh=>h q)]
  by_cases q2:ff T.cm E.1=0
  rotate_left
  .grind
  rw[ai1 om]at h0
  rw[ai1 om,ai1 om]
  have af: ∀v∈E.1,v.ok:=by
   have h1:=Lr (T:=T) aa.ok (cG:=st.cG) (row:=x.v) (λy hy=>(ab.cG.2 y hy).2) aa.ok
   grind
  refine Pj hT ab (hn.It x.at E.1 ad ⟨⟨tn,T,ae,hT,q2⟩,aa.err,af⟩) (λy hy=> ?_) h0
  grind[Vb]
def xw (n:Nat) (e:Int):V:= .cz [.agg (Ot.row (if e≠0 then⟨0,[]⟩else⟨n,[]⟩)),.int .i64 e]
theorem LC (h3:tn<3) (h:pq tn st x):(fC x.r).1=(tn:Int):=by
 unfold pq at h
 rw[Ac,List.any_eq_true]at h
 grind[Vl]
theorem wb8 (hT:bO[tn]? =some T) (hx:fM x) (aa:(fC x.r).1=(tn:Int)):x.v.length=T.cm.length:=by
 obtain⟨ab,T',h1,h2,h3⟩:=hx.jA
 grind[xo]
theorem VM {T:bL} {st:bW}: ∀{l acc:List Ln},(uh T st acc l).1.length<=acc.length+l.length
 | [],_=>A7 _
 |x::l,acc=>by
  rw[uh]
  split
  .simp
  .refine Ax VM ?_
   split<;>simp<;>omega
theorem VN {t:Int}:(gh t T st l).1.length<=l.length:=by
 grind[gh,VM]
theorem xW8 {N:Nat} (h4:I.take 4=dm a b sn) (cJ:I[k]? =some (.cd (m.map Ln.row) 3)) (i j:Nat) (o:Ob) (ab: [0,1,2,3,k][i]? =some j) (ho:(dm a b sn++([.cd (m.map Ln.row) 3]:St))[i]? =some o):I[j]? =some (yA (cK [0,1,2,3,k] N) o):=by
 by_cases q:i<4
 .have e:j=i:=by
   match i,q with
   |0,_=>grind
   |1,_=>grind
   |2,_=>grind
   |3,_=>grind
  subst e
  have h1:(dm a b sn)[j]? =some o:=by rw[Ao (by exact q)]at ho;exact ho
  have aa:bT 4 o:=Am.1 (by grind[wC]) o (Bk h1)
  rw[yY (n:=4) (λx hx=> ?_) aa]
  .grind
  .rw[wV (by grind)]
   match x,hx with
   |0,_=>rfl
   |1,_=>rfl
   |2,_=>rfl
   |3,_=>rfl
 .have e:i=4:=by
   grind
  subst e
  have e1:o= .cd (m.map Ln.row) 3:=by grind
  have e2:j=k:=by grind
  subst e1;subst e2
  rw[yY (n:=0) om (by grind[bT,cS,cN,Ln.row])]
  omega
theorem xw1 {o0 o1 o2 o3 o4 o5 o6:Ob}:yX [0,1,2,3,6] [o0,o1,o2,o3,o4,o5,o6] (dm a b sn++([.cd (m.map Ln.row) 3]:St))= [a.ob .str,b.ob .str,sn.ob (V.int .i64),fR,o4,o5,.cd (m.map Ln.row) 3]:=by
 have e:(dm a b sn++([.cd (m.map Ln.row) 3]:St)).map (yA (cK [0,1,2,3,6] 7))=dm a b sn++([.cd (m.map Ln.row) 3]:St):=
  wH (λo h=>yY (n:=4) dC h) (by grind[wb1])
 unfold yX
 rw[Aa (by simp[dm]),Bo (by simp[dm])]
 show fI _ _ (List.map (yA (cK [0,1,2,3,6] 7)) _)++_=_
 rw[e]
 rfl
def Pm (a:Mp aiA) (sn:Mp Int) (D:Ot×List Ln×Int) (r:V) (s:St):Prop:=
 ∃b',s=dm a b' sn/\r= .cz [.agg D.1.row,.int .i64 D.2.2]/\(D.2.2=0->cM b' D.2.1)
theorem xD7 {w:Nat×aiA} (h:b.at p=some w):Ob.mp ((gA V.str b.W).take (2*w.1)++(gA V.str b.W).drop (2*w.1+2)) (b.bs.eraseIdx w.1) b.cV=(b.del p).ob V.str:=by
 show Ob.mp (yp (gA V.str b.W) w.1) _ _=_
 unfold Mp.del Mp.ob
 rw[h]
 have:=(A4.1 (xp (W:=b.W) (i:=w.1) (v:=w.2) h)).1
 grind[UL]
theorem xD8 (h:b.at p=none):b.del p=b:=by
 grind[Mp.del]
theorem EC {D:Ot×List Ln×Int} {Il:St} {g:Tag} (o:Ot) (e:Int) (h1:D.1=o) (h2:D.2.2=e) (h3:e=0->cM b D.2.1):
  cw (some (.cz [.agg [.sl g (o.rows.map λr=> [.sl .ro (r.map bK.row)]),.int .i64 o.count],.int .i64 e])) 4 (Pm a sn D) (a.ob .str::b.ob .str::sn.ob (V.int .i64):: .box [.sl .ro xJ,.sl .ro (bO.map bL.row),.mp 0,.mp 1,.mp 2]::Il):=
 yZ 4 (s:=dm a b sn) (r:= .cz [.agg (Ot.row o),.int .i64 e]) rfl rfl (by grind[wC]) om (yW ⟨wX ⟨zX,zF rfl,tV⟩,xV rfl,tV⟩) ⟨b,rfl,by grind,(by grind)⟩
theorem xy3 (st:bW) (ad:rE st) (a b:Mp aiA) (sn:Mp Int) (l:List Ln) (ab:cM b l) (hl:l.length<=10000):
  bN prog 59 [.ptr 3 0,.agg st.row] (dm a b sn) (Pm a sn (la st l)):=by
 obtain⟨tn,a1⟩: ∃tn:Nat,xK st.table=tn:=⟨(xK st.table).toNat,by have:=ad.jA;omega⟩
 have aE:tn<3:=by
  have h:=Eo (λT:bL=>T.name==st.table) bO 0
  have h2:bO.length=3:=rfl
  grind[xK]
 obtain⟨T,hT⟩: ∃T,bO[tn]? =some T:=⟨_,A0 (show tn<bO.length from aE)⟩
 obtain⟨a6,a7⟩:=A4.1 hT
 have aF:bO.getD (xK st.table).toNat eQ=T:=by grind
 have ae:=ad.cG
 rw[aF]at ae
 have af:=Ov bO st.table dC
 have aG:iG (λt:bL=>t.name==st.table) bO 0=tn:=a1
 rw[aG]at af
 have ah:=yV0 tn T hT st ad.ok a b sn l ab
 have ai:=wr0 tn T hT st ad.ok ad.vok a b sn l ab hl
 obtain⟨D,hD⟩:=eX (la st l)
 rw[hD]
 have aa:=hD
 unfold la at aa
 simp only[a1,B1]at aa
 rw[show bO.getD tn eQ=T by grind]at aa
 refine iV 4 func59 ntmps59 results59 λc hc hb=> ?_
 refine zO (zA ?_)
 simp[go_sem,dm,fR]
 refine zO (zA ?_)
 simp[go_sem]
 refine yI [(6,0)] 6 rfl (by rfl) kR ?_
 simp[go_sem]
 refine pD af ?_
 simp[go_sem]
 have aj:=λb':Mp aiA=>wC 4 dC a b' sn
 by_cases k2:st.kind=2
 .rw[ai2 k2]at aa
  have aq:(st.kind==2)=true:=by grind
  obtain⟨uU,hI⟩:=eX (gK tn T st.rows l)
  rw[hI]at aa ah
  refine zA ?_
  simp[go_sem,aq]
  refine uR 4 ah cB rfl rfl (aj b) (rU (n:=4) rfl) (λr s h=> ?_) (λr s h=> ?_)
  .obtain⟨b',rfl,h⟩:=h
   refine⟨rfl,aj b', ?_⟩
   rcases h with ⟨_,rfl⟩|⟨_,rfl,_⟩
   all_goals rfl
  .obtain⟨b',rfl,h⟩:=h
   rcases h with ⟨h0,rfl⟩|⟨h0,rfl,hn⟩
   .rw[ai2 h0]at aa
    simp[go_sem,dm,fR,Ot.row]
    exact EC ⟨0,[]⟩ uU.2 (by grind) (by grind) om
   .rw[ai1 om]at aa
    simp[go_sem,dm,fR,Ot.row]
    exact EC ⟨st.rows.length,[]⟩ 0 (by grind) (by grind) (by grind)
 have aq:(st.kind==2)=false:=by grind
 rw[ai1 k2]at aa
 clear ah
 obtain⟨⟨m,me⟩,hM⟩: ∃M,gh tn T st l=M:=⟨_,rfl⟩
 rw[hM]at aa ai
 simp only at aa
 refine zO (zA ?_)
 simp[go_sem,aq]
 refine zO (zA ?_)
 simp[go_sem]
 refine xR0 4 ai cB rfl rfl (aj b) (rU (n:=4) rfl) (λr s h=> ?_) (λr s0 ex h h4=> ?_)
 .rcases h with ⟨_,rfl,_⟩|⟨_,rfl,_⟩
  .exact⟨_,[],(by rfl),rfl,aj b,rfl⟩
  .exact⟨_,_,rfl,rfl,aj b,by simp[bT,cS,cN,Ln.row]⟩
 rcases h with ⟨m0,hs,rfl⟩|⟨m0,hs,rfl⟩
 .have ar:=List.append_inj (hs.trans (Az _).symm) (by simpa)
  obtain⟨rfl,rfl⟩:=ar
  have m0:me≠0:=m0
  have aH:(me !=0)=true:=by grind
  rw[ai2 m0]at aa
  simp[go_sem,dm,fR]
  refine zO (zA ?_)
  simp[go_sem,aH]
  exact EC ⟨0,[]⟩ me (by grind) (by grind) om
 .have ar:=List.append_inj hs (by simpa)
  obtain⟨rfl,rfl⟩:=ar
  have m0:me=0:=m0
  rw[ai1 om]at aa
  subst m0
  have er:cK [0,1,2,3] 6 4=6:=rfl
  have a8:m.length<=10000:=by grind[VN]
  have al: ∀x∈m,x∈l/\(pq tn st x):=(by grind[Ls])
  simp[go_sem,dm,fR,er]
  refine zO (zA ?_)
  simp[go_sem]
  refine zO (zO (zA ?_))
  simp[go_sem]
  refine z7 (zO (zA ?_))
  simp[go_sem]
  by_cases k1:st.kind=1
  .have au:(st.kind==1)=true:=by grind
   rw[ai2 k1]at aa
   have av:=yC3 tn T hT st ad.ok (ad.items k1) m a8 (λx hx=>⟨ab.rows x (al x hx).1,wb8 hT (ab.rows x (al x hx).1) (by grind[LC])⟩)
   obtain⟨M,aI⟩:=eX (lL T st m)
   rw[aI]at av aa
   obtain⟨C,hC⟩:=eX (IH T st m)
   rw[hC]at av
   refine zA ?_
   simp[go_sem,au]
   refine nv [(10,4)] 6 sm (by rfl) kR ?_
   simp[go_sem,a6,a7]
   refine wn8 6 av cB rfl (by grind[bT,cS,cN,Ln.row]) (by grind[bT,cS,cN,Ln.row]) ⟨zC rfl,zC rfl,.inl rfl,tV⟩ ?_
   simp[go_sem,pz,Ot.row]
   exact EC M.1 M.2 (by grind) (by grind) (by grind)
  have au:(st.kind==1)=false:=by grind
  rw[ai1 k1]at aa
  refine zA ?_
  simp[go_sem,au]
  by_cases k3:st.kind=3
  .have aw:(st.kind==3)=true:=by grind
   rw[ai2 k3]at aa
   have aA: ∀x∈m,jD l x.at=true/\fM x/\(fC x.r).1=(tn:Int):=λx hx=>⟨gi.2 (by grind),ab.rows x (al x hx).1,(by grind[LC])⟩
   have ax:=xQ7 tn T hT st ad.ok (ae k3) a b sn l m ab aA a8
   have aJ:=Pj hT ad.ok ab aA
   obtain⟨uJ,hU⟩:=eX (gP T st.cG m l)
   obtain⟨B,hB⟩:=eX (mP T st.cG m b)
   rw[hU,hB]at ax aJ
   rw[hU]at aa
   have aB:=ax.mono (R':=λr s=>r=xw m.length uJ.2/\s=dm a B sn++ [.cd (m.map Ln.row) 3]) (λr s h=>by
    obtain⟨h1,h2⟩:=h
    refine⟨?_,h1⟩
    unfold xw
    grind)
   clear ax
   simp[go_sem,aw]
   refine nv [(11,4)] 5 sm (by rfl) kR ?_
   simp[go_sem,a6,a7]
   refine QQ aB cB [0,1,2,3,6] dC rfl (xW8 rfl rfl) ⟨.inl rfl,zC rfl,zC rfl,.inl rfl,tV⟩ ?_
   rw[xw1]
   by_cases u0:uJ.2=0
   .rw[ai1 om]at aa
    simp[go_sem,xw,Ot.row,u0]
    exact EC ⟨m.length,[]⟩ 0 (by grind) (by grind) (by grind)
   .rw[ai2 u0]at aa
    simp[go_sem,xw,Ot.row,u0]
    exact EC ⟨0,[]⟩ uJ.2 (by grind) (by grind) om
  .have aw:(st.kind==3)=false:=by grind
   rw[ai1 k3]at aa
   have ay: ∀(b':Mp aiA),([a.ob .str,b'.ob .str,sn.ob (V.int .i64),.box [.sl .ro xJ,.sl .ro (bO.map bL.row),.mp 0,.mp 1,.mp 2],.box st.row,.box dW,.cd (m.map Ln.row) 3]:St).all (bT 7)=true:=λb'=>by
    have h:=wC 7 om a b' sn
    simp_all[dm,bT,cS,cN,bW.row,Ln.row,dW]
   have hG: ∀(b':Mp aiA) (l':List Ln) (Il:St),cM b' l'->jS m l=l'->cw (some (.cz [.agg [.sl .full [],.int .i64 m.length],.int .i64 0])) 4 (Pm a sn D) (a.ob .str::b'.ob .str::sn.ob (V.int .i64):: .box [.sl .ro xJ,.sl .ro (bO.map bL.row),.mp 0,.mp 1,.mp 2]::Il):=λb' l' Il h1 h2=>
    EC ⟨m.length,[]⟩ 0 (by grind) (by grind) (by grind)
   generalize hQ:jS m l=Q at hG
   clear aa al ai hs
   simp[go_sem,aw]
   refine zO (zA ?_)
   simp[go_sem]
   refine zI (S:=Nat×Mp aiA×List Ln) [0,4,7,71,72,73] (λu=> [.ptr 3 0,.ptr 5 0,.cL 6 3 m.length 0 m.length,.cL 6 3 m.length 0 m.length,.int .i64 m.length,.int .i64 u.1])
    (λu=> [a.ob .str,u.2.1.ob .str,sn.ob (V.int .i64),.box [.sl .ro xJ,.sl .ro (bO.map bL.row),.mp 0,.mp 1,.mp 2],.box st.row,.box dW,.cd (m.map Ln.row) 3]) (λu=>m.length - u.1)
    (λu=>u.1<=m.length/\cM u.2.1 u.2.2/\jS (m.drop u.1) u.2.2=Q) hc hb (0,b,l) (by grind) ?_ ?_
   .exact cc 7 (by rfl) rfl (ay b) dC (zD (by rfl) rfl)
   rintro⟨i,b1,l1⟩ ⟨hi,az,an⟩
   simp only at hi az an
   by_cases q:i<m.length
   rotate_left
   .rw[A9 om,jS]at an
    refine zA ?_
    simp[go_sem,q,dW]
    refine zA ?_
    simp[go_sem]
    exact hG b1 l1 _ az an.symm
   have ei:=zU q om
   obtain⟨x,hx⟩:=eX (m[i])
   rw[A5 q,hx,jS]at an
   have eB:b1.ob .str= .mp (gA .str b1.W) b1.bs b1.cV:=rfl
   have aC:=az.del x.at
   refine zA ?_
   simp[go_sem,q,hx]
   refine yI [] 8 rfl (by rfl) kR ?_
   simp[go_sem]
   cases ao:b1.at x.at with
   |none=>
    have ak:dQ (x.r,x.k) b1.W=none:=ao
    rw[xD8 ao]at aC
    simp[go_sem,eB,po,ak,lv,lU,ei]
    exact zJ (i+1,b1,l1.filter λy=> !decide (y.at=x.at)) ⟨om,(by grind),cc 7 (by rfl) rfl (ay _) dC (zD (by rfl) rfl)⟩
   |some w=>
    have ak:dQ (x.r,x.k) b1.W=some w:=ao
    have aD:=xD7 ao
    simp[go_sem,eB,po,ak,lv,lU,aD,ei]
    exact zJ (i+1,b1.del x.at,l1.filter λy=> !decide (y.at=x.at)) ⟨om,(by grind),cc 7 (by rfl) rfl (ay _) dC (zD (by rfl) rfl)⟩
def pA (p:Pl):List V:= [.int .i64 p.1,.str p.2]
def LD (w:Wr):List V:= [.str w.p.2,.bool w.drop,.str w.data]
def kY (q:Int×List Wr):List V:= [.int .i64 q.1,.sl .ro (q.2.map LD)]
def lO (q:Int×List Wr×Nat):List V:= [.int .i64 q.1,.sl (.app (q.2.2+8)) (q.2.1.map LD)]
def vy (N:List (Int×List Wr×Nat)):List (Int×List Wr):=N.map λq=>(q.1,q.2.1)
theorem xU8 (N:List (Int×List Wr×Nat)):wY (N.map lO) 0 N.length=(vy N).map kY:=by
 unfold wY vy
 rw[Bj,Aa sm,Bb,Bb]
 rfl
theorem wm3 (N:List (Int×List Wr×Nat)):xI (N.map lO)=true:=by grind[xI,lO,pP]
def VO (N:List (Int×List Wr×Nat)) (τ:St) (i:Nat):Prop:= ∀O r C k,N=O++ [(r,C,k)]->τ[k]? =some (.app C.length 3)/\C.length<=i
theorem LF {U:Type} {g:U->V} {id:Nat} {rows:List (List V)} (hg: ∀v,gn id rows (g v)=g v): ∀W:List (Pl×U),(gA g W).map (gn id rows)=gA g W
 | []=>rfl
 |e::W=>by
  rw[gA,Ah,Ah,LF hg W,hg]
  rfl
theorem xW0 {id:Nat} {rows:List (List V)}:(dm a b sn).map (np id rows)=dm a b sn:=by
 unfold dm
 simp only[Ah,Bp,Mp.ob,np]
 rw[LF (λ_=>rfl),LF (λ_=>rfl),LF (λ_=>rfl)]
 rfl
theorem uq {n0:Nat} {keep:aiB} {vs:List V} {s:St} {e:Env} (hs:I=s) (hn:n0<=I.length) (h:keep.map e=vs):At n0 keep vs s e I:=by
 subst hs
 exact yG hn h
theorem xG9 {O:List (Int×List Wr×Nat)} (h:w.p.1=r):ic (vy (O++ [(r,C,k)])) w=vy (O++ [(r,C++ [w],k)]):=by
 grind[ic,vy]
theorem xW7 {O:List (Int×List Wr×Nat)} {r0:Int} {k':Nat} (h:w.p.1=r) (hr: ¬r0=r):ic (vy (O++ [(r0,C,k)])) w=vy ((O++ [(r0,C,k)])++ [(r,[w],k')]):=by
 unfold ic vy
 grind
theorem Pn {N:List (Int×List Wr×Nat)} {i:Nat} {τ:St} (h:τ[k]? =some (.app C.length 3)) (hl:C.length<=i):VO (N++ [(r,C,k)]) τ i:=λO r' C' k' e=>by
 simp_all
theorem xu4 (a:Mp aiA) (D:List (Pl×aiA)) (e:Pl×aiA):iN a (D++ [e])=if IG a e=true then iN a D++ [e.1]else iN a D:=by
 unfold iN
 grind
theorem xu5 (b:Mp aiA) (D:List (Pl×aiA)) (e:Pl×aiA):iE b (D++ [e])=if Gw b e=true then iE b D++ [e.1]else iE b D:=by
 unfold iE
 grind
theorem xX5 (a:Mp aiA) (D:List (Pl×aiA)):(iN a D).length<=D.length:=by
 grind[iN]
theorem xX6 (a:Mp aiA) (D:List (Pl×aiA)):(iE a D).length<=D.length:=by
 grind[iE]
theorem ib.le {U:Type} {seen:aiB} {W:List (Pl×U)} {bs:aiB} {D:List (Pl×U)} (h:ib seen W bs D):D.length<=W.length:=by
 have:=h.length_eq
 grind
theorem wm5 (a b:Mp aiA) (sn:Mp Int) (ar now:List Ln) (ha:cM a ar) (hn:cM b now) (aQ:ar.length<=10000) (aR:now.length<=10000):
  bN prog 60 [.ptr 3 0] (dm a b sn) (λr s=>r= .sl .ro ((mN (jd ar now)).map kY)/\s=dm a b sn):=by
 have eA:a.ob .str= .mp (gA .str a.W) a.bs a.cV:=rfl
 have eB:b.ob .str= .mp (gA .str b.W) b.bs b.cV:=rfl
 have aS:a.W.length<=10000:=by have:=ha.perm.length_eq;grind
 have aT:b.W.length<=10000:=by have:=hn.perm.length_eq;grind
 have aG: ∀x∈b.bs,x<b.cV:=hn.ok.lt
 have has: ∀x∈a.bs,x<a.cV:=ha.ok.lt
 have ak: ∀(L:List Pl) (se:aiB),([a.ob .str,b.ob .str,sn.ob (V.int .i64),.box [.sl .ro xJ,.sl .ro (bO.map bL.row),.mp 0,.mp 1,.mp 2],.cd (L.map pA) 2,.it (some 1) b.cV se b.cV]:St).all (bT 6)=true:=λL se=>by
  have h:=wC 6 om a b sn
  simp_all[dm,bT,cS,cN,pA]
 refine iV 4 func60 ntmps60 results60 λc hc hb=> ?_
 refine zO (zA ?_)
 simp[go_sem,dm,fR]
 refine zO (zA ?_)
 simp[go_sem]
 refine FM 3 2 dC (by rfl) ?_
 refine zO (zA ?_)
 simp[go_sem,eB]
 refine zI (S:=aiB×List (Pl×aiA)) [0,3,21] (λu=> [.ptr 3 0,.cL 4 2 (iN a u.2).length 0 (iN a u.2).length,.ptr 5 0])
   (λu=> [a.ob .str,b.ob .str,sn.ob (V.int .i64),.box [.sl .ro xJ,.sl .ro (bO.map bL.row),.mp 0,.mp 1,.mp 2],.cd ((iN a u.2).map pA) 2,.it (some 1) b.cV u.1 b.cV]) (λu=>(jX u.1 b.W b.bs).length)
   (λu=>ib u.1 b.W b.bs u.2) hc hb ([],[]) (ib.start hn.ok.len) ?_ ?_
 have k0:iN a []= []:=rfl
 .exact cc 6 (by rfl) rfl (ak _ _) dC (zD (by rfl) rfl)
 .rintro⟨se,D⟩ hD
  simp only at hD
  refine uO 22 dC ?_
  refine zA ?_
  simp[go_sem,eB]
  have a6:=hD.le
  have a7:=xX5 a D
  refine O6 (b:=b) (i:=5) (id:=1) (seen:=se) (cV:=b.cV) (by simp[ni]) rfl rfl aG (λhL=> ?_) (λp hp=> ?_)
  .have af:=hD.done hL
   obtain⟨K1,a8⟩:=eX (iN a D)
   have ay:K1.Perm (iN a b.W):=by rw[<-a8];exact(af.filter _).map _
   have aB:K1.length<=10000:=by grind
   rw[a8]
   clear a8 af hL a7 a6 hD
   have au: ∀(L:List Pl) (aC:aiB),([a.ob .str,b.ob .str,sn.ob (V.int .i64),.box [.sl .ro xJ,.sl .ro (bO.map bL.row),.mp 0,.mp 1,.mp 2],.cd (L.map pA) 2,.it (some 1) b.cV se b.cV,.it (some 0) a.cV aC a.cV]:St).all (bT 7)=true:=λL aC=>by
    have h:=wC 7 om a b sn
    simp_all[dm,bT,cS,cN,pA]
   simp[go_sem]
   refine zO (zA ?_)
   simp[go_sem,eA]
   have k0:iE b []= []:=rfl
   refine zI (S:=aiB×List (Pl×aiA)) [0,3,51] (λu=> [.ptr 3 0,.cL 4 2 (K1++iE b u.2).length 0 (K1++iE b u.2).length,.ptr 6 0])
     (λu=> [a.ob .str,b.ob .str,sn.ob (V.int .i64),.box [.sl .ro xJ,.sl .ro (bO.map bL.row),.mp 0,.mp 1,.mp 2],.cd ((K1++iE b u.2).map pA) 2,.it (some 1) b.cV se b.cV,.it (some 0) a.cV u.1 a.cV]) (λu=>(jX u.1 a.W a.bs).length)
     (λu=>ib u.1 a.W a.bs u.2) hc hb ([],[]) (ib.start ha.ok.len) ?_ ?_
   .exact cc 7 (by grind) rfl (au _ _) dC (zD (by simp[go_sem,k0]) rfl)
   rintro⟨aj,D⟩ hD
   simp only at hD
   refine uO 52 dC ?_
   refine zA ?_
   simp[go_sem,eA]
   have a6:=hD.le
   have a7:=xX6 b D
   refine O6 (b:=a) (i:=6) (id:=0) (seen:=aj) (cV:=a.cV) (by simp[ni]) rfl rfl has (λhL=> ?_) (λp hp=> ?_)
   .have af:=hD.done hL
    obtain⟨K2,av⟩:=eX (K1++iE b D)
    have az:K2.Perm (iN a b.W++iE b a.W):=by rw[<-av];exact ay.append ((af.filter _).map _)
    have aD:K2.length<=20000:=by grind
    have al:(K1++iE b D).map pA=K2.map pA:=by rw[av]
    have an:(K1++iE b D).length=K2.length:=by rw[av]
    rw[Ca]at al
    rw[An]at an
    clear av af hL a7 a6 hD aB ay k0 ak au
    simp[go_sem,al,an]
    refine zO (zA ?_)
    simp[go_sem]
    refine RU Tryz.Ex rfl cB dC Tryz.pw Tryz.rC cB Vc Vd (f:=pA) (kx:=λp=>p) (λx=>⟨_,rfl,rfl⟩) K2 rfl om (λL aw aE=> ?_)
    have a1:=xD2 ha hn (aw.symm.trans az) aE
    have aU:L.length<=20000:=by rw[<-aw.length_eq];omega
    rw[aw.length_eq]
    clear aw aE az aD an al
    simp[go_sem]
    refine zO (zA ?_)
    simp[go_sem]
    refine FM 11 2 dC (by rfl) ?_
    refine zO (zA ?_)
    simp[go_sem]
    obtain⟨G,hG⟩:=eX (mN (jd ar now))
    rw[hG]
    have aH:(L.map (p8 b)).foldl ic (vy [])=G:=by rw[a1];exact hG
    clear a1 hG
    refine zI (S:=Nat×List (Int×List Wr×Nat)×St) [0,11,73,74,75] (λu=> [.ptr 3 0,.cL 7 2 u.2.1.length 0 u.2.1.length,.cL 4 2 L.length 0 L.length,.int .i64 L.length,.int .i64 u.1])
      (λu=> [a.ob .str,b.ob .str,sn.ob (V.int .i64),.box [.sl .ro xJ,.sl .ro (bO.map bL.row),.mp 0,.mp 1,.mp 2],.cd (L.map pA) 2,.it (some 1) b.cV se b.cV,.it (some 0) a.cV aj a.cV,.cd (u.2.1.map lO) 2]++u.2.2) (λu=>L.length - u.1)
      (λu=>u.1<=L.length/\u.2.1.length<=u.1/\VO u.2.1 u.2.2 u.1/\((L.map (p8 b)).drop u.1).foldl ic (vy u.2.1)=G) hc hb (0,[],[]) ⟨om,sm,λO r C k h=>by simp_all,aH⟩ ?_ ?_
    .exact yG sm (by rfl)
    rintro⟨i,N,τ⟩ ⟨hi,aI,aF,ab⟩
    simp only at hi aI aF ab
    by_cases q:i<L.length
    rotate_left
    .rw[A9 (by grind),List.foldl_nil]at ab
     refine zA ?_
     simp[go_sem,q]
     refine zA ?_
     simp[go_sem]
     refine MA 7 2 (N.map lO) rfl (wm3 N) ?_
     simp only[gp,gn,gu,fZ,Ai,Ad,A7,and_self,aib,xU8,ab]
     refine yZ 4 (s:=dm a b sn) (r:= .sl .ro (G.map kY)) ?_ rfl (by grind[wC]) om zK (by trivial)
     exact xW0
    have ei:=zU q om
    obtain⟨⟨pr,pk⟩,hp⟩: ∃p,L[i]=p:=⟨_,rfl⟩
    rw[A5 (by grind),Bm,Cz,hp]at ab
    refine zO (zA ?_)
    simp[go_sem,q]
    refine zO (zA ?_)
    simp[go_sem]
    refine zO (z7 (zO (zA ?_)))
    simp[go_sem,q,hp,pA]
    refine ou (S:=Bool×aiA) [0,11,13,14,15,73,74,75] (λu=> [.ptr 3 0,.cL 7 2 N.length 0 N.length,.ptr (τ.length+8) 0,.str u.2,.bool (!u.1),.cL 4 2 L.length 0 L.length,.int .i64 L.length,.int .i64 i])
      (λu=> [a.ob .str,b.ob .str,sn.ob (V.int .i64),.box [.sl .ro xJ,.sl .ro (bO.map bL.row),.mp 0,.mp 1,.mp 2],.cd (L.map pA) 2,.it (some 1) b.cV se b.cV,.it (some 0) a.cV aj a.cV,.cd (N.map lO) 2]++(τ++ [.box [.int .i64 pr,.str pk]]))
      (λu=>p8 b (pr,pk)=⟨(pr,pk),u.1,u.2⟩) hc hb ?_ ?_
    .refine yI [] (τ.length+9) sm (by rfl) kR ?_
     simp[go_sem,eB]
     cases ah:b.at (pr,pk)with
     |none=>
      have aa:dQ (pr,pk) b.W=none:=ah
      have hw:p8 b (pr,pk)=⟨(pr,pk),true,[]⟩:=by grind[p8,Mp.get]
      simp[go_sem,po,aa,lv,lU]
      exact zJ (true,[]) ⟨hw,yG sm (by rfl)⟩
     |some w=>
      have aa:dQ (pr,pk) b.W=some w:=ah
      have hw:p8 b (pr,pk)=⟨(pr,pk),false,w.2⟩:=by grind[p8,Mp.get]
      simp[go_sem,po,aa,lv,lU]
      exact zJ (false,w.2) ⟨hw,yG sm (by rfl)⟩
    rintro⟨dr,ax⟩ hw
    simp only at hw
    rw[hw]at ab
    rcases List.eq_nil_or_concat N with hN|⟨O,⟨r0,C,k⟩,hN⟩
    .subst hN
     refine zO (zO ?_)
     refine yI [] (τ.length+9) sm (by rfl) kR ?_
     simp[go_sem]
     refine JR (b:=true) (by rfl) (λ_=> ?_) (λh=>by cases h)
     refine RZ 4 rfl rfl rfl ?_
     simp[go_sem,Cj]
     refine zH (zY rfl) ?_
     simp[go_sem]
     refine zO (zA ?_)
     simp[go_sem]
     refine nv [(4,2),(6,2),(12,3),(15,4)] 6 sm (by rfl) kR ?_
     simp[go_sem]
     refine zH ⟨(λr hr=>by cases hr),zY rfl⟩ ?_
     simp[go_sem]
     refine zA ?_
     simp[go_sem,ei]
     exact zJ (i+1,[(pr,[⟨(pr,pk),dr,ax⟩],τ.length+1)],τ++ [.box [.int .i64 pr,.str pk],.app 1 3]) ⟨om,⟨q,sm,Pn (N:= []) sm sm,ab⟩,uq (by rfl) sm (by rfl)⟩
    rw[List.concat_eq_append]at hN
    subst hN
    obtain⟨hk,hC⟩:=aF O r0 C k rfl
    have aV:=(A4.1 hk).1
    have aW:O.length+1<=i:=by grind
    have z0:((O.length:Int)+1==0)=false:=by rfl
    have es:IntKind.i64.wrap (O.length:Int)=O.length:=(by grind[bX])
    have aJ:IntKind.i64.wrap ((O.length:Int)+1)=((O.length+1:Nat):Int):=by grind[bX]
    by_cases hr:r0=pr
    .subst hr
     refine zO (zO ?_)
     refine yI [] (τ.length+9) sm (by rfl) kR ?_
     simp[go_sem,lO,z0,es]
     refine zH om ?_
     simp[go_sem]
     refine zA ?_
     simp[go_sem]
     refine zO (zA ?_)
     simp[go_sem,es]
     refine zH om ?_
     simp[go_sem]
     refine nv [(4,2),(6,2),(12,3),(15,4)] 6 sm (by rfl) kR ?_
     have aK:(τ++ [Ob.box [.int .i64 r0,.str pk]])[k]? =some (.app C.length 3):=by grind
     have aL: ∀o,(τ++ [Ob.box [.int .i64 r0,.str pk]]).set k o=τ.set k o++ [Ob.box [.int .i64 r0,.str pk]]:=(by grind)
     simp[go_sem,aK,aL]
     refine zH ⟨om,zY rfl⟩ ?_
     simp[go_sem]
     refine zA ?_
     simp[go_sem,ei]
     exact zJ (i+1,O++ [(r0,C++ [⟨(r0,pk),dr,ax⟩],k)],τ.set k (.app (C.length+1) 3)++ [.box [.int .i64 r0,.str pk]]) ⟨om,⟨q,by grind,(by grind[Pn]),by rw[xG9 (r:=r0) (w:=⟨(r0,pk),dr,ax⟩) rfl]at ab;omega⟩,uq (by simp[lO,LD]) sm sg⟩
    .have aP:(r0 !=pr)=true:=by grind
     refine zO (zO ?_)
     refine yI [] (τ.length+9) sm (by rfl) kR ?_
     simp[go_sem,lO,z0,es]
     refine zH om ?_
     simp[go_sem,aP]
     refine JR (b:=true) (by rfl) (λ_=> ?_) (λh=>by cases h)
     refine RZ 4 rfl rfl rfl ?_
     simp[go_sem,Cj]
     refine zH ⟨zY rfl,om⟩ ?_
     simp[go_sem]
     refine zO (zA ?_)
     simp[go_sem,aJ]
     refine zH om ?_
     simp[go_sem]
     refine nv [(4,2),(6,2),(12,3),(15,4)] 6 sm (by rfl) kR ?_
     simp[go_sem]
     refine zH ⟨(λr hr=>by cases hr),zY rfl⟩ ?_
     simp[go_sem]
     refine zA ?_
     simp[go_sem,ei]
     exact zJ (i+1,(O++ [(r0,C,k)])++ [(pr,[⟨(pr,pk),dr,ax⟩],τ.length+1)],τ++ [.box [.int .i64 pr,.str pk],.app 1 3]) ⟨om,⟨q,by grind,(by grind[Pn]),by rw[xW7 (k':=τ.length+1) rfl hr]at ab;omega⟩,uq (by grind[lO,LD]) sm sg⟩
   .have ao:=Lt (g:=V.str) ha.ok.nd (Lv hp)
    have ai:=hD.next ha.ok.nd hp
    have aq:=(Lu ha.ok.nd hp).length_eq
    obtain⟨⟨⟨pr,pk⟩,data⟩,ef⟩:=p
    simp only[ia]at ao ai aq
    have ad:(jX (aj++ [ef]) a.W a.bs).length<(jX aj a.W a.bs).length:=by grind
    clear aq hp
    have ae:=xu5 b D ((pr,pk),data)
    have aA:Gw b ((pr,pk),data)=((b.at (pr,pk)).map (·.2)).isNone:=rfl
    simp[go_sem,ia,qp,ao]
    refine yI [] 8 rfl (by rfl) kR ?_
    simp[go_sem,eB]
    cases ah:b.at (pr,pk)with
    |none=>
     have aa:dQ (pr,pk) b.W=none:=ah
     rw[ai2 (by grind)]at ae
     simp[go_sem,po,aa,lv,lU,Cj]
     refine zH ⟨zY rfl,om⟩ ?_
     simp[go_sem]
     exact zJ (aj++ [ef],D++ [((pr,pk),data)]) ⟨ad,ai,cc 7 (by grind[pA]) rfl (au _ _) dC (zD (by simp[go_sem,ae,Dx]) rfl)⟩
    |some w=>
     have aa:dQ (pr,pk) b.W=some w:=ah
     rw[ah]at aA
     rw[ai1 (by grind)]at ae
     simp[go_sem,po,aa,lv,lU]
     exact zJ (aj++ [ef],D++ [((pr,pk),data)]) ⟨ad,ai,cc 7 (by grind) rfl (au _ _) dC (zD (by simp[go_sem,ae]) rfl)⟩
  .have ao:=Lt (g:=V.str) hn.ok.nd (Lv hp)
   have ai:=hD.next hn.ok.nd hp
   have aq:=(Lu hn.ok.nd hp).length_eq
   obtain⟨⟨⟨pr,pk⟩,data⟩,ef⟩:=p
   simp only[ia]at ao ai aq
   have ad:(jX (se++ [ef]) b.W b.bs).length<(jX se b.W b.bs).length:=by grind
   clear aq hp
   have ae:=xu4 a D ((pr,pk),data)
   have aA:IG a ((pr,pk),data)=((a.at (pr,pk)).map (·.2) !=some data):=rfl
   simp[go_sem,ia,qp,ao]
   refine yI [] 7 rfl (by rfl) kR ?_
   simp[go_sem,eA]
   cases ah:a.at (pr,pk)with
   |none=>
    have aa:dQ (pr,pk) a.W=none:=ah
    rw[ai2 (by grind)]at ae
    simp[go_sem,po,aa,lv,lU,Cj]
    refine zH ⟨zY rfl,om⟩ ?_
    simp[go_sem]
    exact zJ (se++ [ef],D++ [((pr,pk),data)]) ⟨ad,ai,cc 6 (by simp[go_sem,ae,pA,eA];rfl) rfl (ak _ _) dC (zD (by simp[go_sem,ae]) rfl)⟩
   |some w=>
    have aa:dQ (pr,pk) a.W=some w:=ah
    rw[ah]at aA
    by_cases q:w.2=data
    .have q':(w.2==data)=true:=by grind
     rw[ai1 (by grind)]at ae
     simp[go_sem,po,aa,lv,lU,q']
     exact zJ (se++ [ef],D++ [((pr,pk),data)]) ⟨ad,ai,cc 6 (by grind) rfl (ak _ _) dC (zD (by simp[go_sem,ae]) rfl)⟩
    .have q':(w.2==data)=false:=by grind
     rw[ai2 (by grind)]at ae
     simp[go_sem,po,aa,lv,lU,q',Cj]
     refine zH ⟨zY rfl,om⟩ ?_
     simp[go_sem]
     exact zJ (se++ [ef],D++ [((pr,pk),data)]) ⟨ad,ai,cc 6 (by simp[go_sem,ae,pA,eA];rfl) rfl (ak _ _) dC (zD (by simp[go_sem,ae]) rfl)⟩
theorem VP {T:bL}: ∀{l p:List ct},ox T p l=0-> ∀x∈l,0<=cU T x.name
 | [],_,_,x,hx=>by cases hx
 |y::l,p,h,x,hx=>by
  rw[ox]at h
  by_cases q1:cU T y.name<0
  .omega
  rw[ai1 q1]at h
  by_cases q2:cU T y.name=T.key\/(cU T y.name=0/\T.place=0)
  .omega
  rw[ai1 q2]at h
  by_cases q3:(p.any λz=>z.name==y.name)=true
  .grind
  rw[ai1 q3]at h
  by_cases q4:pf T y.e (kS T (cU T y.name))≠0
  .omega
  rw[ai1 q4]at h
  rcases Ae.1 hx with rfl|hx
  .omega
  .exact VP h x hx
theorem Po {mode:Int}: ∀{l:List bW} {i:Nat},(Es mode l i).2=0-> ∀z∈l,rj z=0
 | [],_,_,z,h=>by cases h
 |y::l,i,h,z,hx=>by
  rw[Es]at h
  by_cases q1:mode≠0/\y.kind≠1
  .grind
  rw[ai1 q1]at h
  by_cases q2:rj y≠0
  .grind
  rw[ai1 q2]at h
  rcases Ae.1 hx with rfl|hx
  .simpa using q2
  .exact Po h z hx
theorem Pp (hl:k7 cR) (h:(oy cR).2=0): ∀st∈cR.stmts,rE st:=by
 unfold oy at h
 by_cases q:mK cR=true
 rotate_left
 .grind
 rw[ai2 q]at h
 intro st aa
 have hc:=Po h st aa
 have ab:=hl.stmts.2 st aa
 have hm:kg st:=by
  simp_all[mK]
 unfold rj at hc
 have ad:=K7 st.table
 have hT: ∃T,bO[(xK st.table).toNat]? =some T:=by
  grind
 obtain⟨T,hT⟩:=hT
 rw[hT]at hc
 simp only at hc
 have h0:0<=xK st.table:=by
  omega
 rw[ai1 om]at hc
 refine⟨ab,Uz ab.cE.dV,h0,λk1=> ?_,λk3=> ?_⟩
 .unfold kg at hm
  rw[Ac,Ac]at hm
  have hb:=hm.2.2
  unfold Oy at hb
  rw[ai2 k1,Ac]at hb
  intro he
  rw[he]at hb
  exact absurd hb.1 dC
 .rw[Al,hT]
  rw[ai1 om,ai1 om,ai2 k3]at hc
  by_cases q:ox T [] st.cG≠0
  .omega
  .exact VP (sU q)
theorem xA5 (l:List Ln) (x:Ln):(xr l x).length=l.length+1:=(AY l x).length_eq
theorem VQ {t:Nat} {T:bL}: ∀{rs:List (List bJ)} {l:List Ln},(gK t T rs l).1.length<=l.length+rs.length
 | [],l=>by grind[gK]
 |r::rs,l=>by
  rw[gK]
  split
  .simp
  split
  .simp
  split
  .simp
  refine Ax VQ ?_
  rw[xA5,Af];omega
theorem VR {T:bL} {cG:List ct}: ∀{m l:List Ln},(gP T cG m l).1.length<=l.length
 | [],l=>A7 _
 |x::m,l=>by
  rw[gP]
  split
  .simp
  split
  .simp
  refine Ax VR ?_
  simp[jy]
theorem VS: ∀{m l:List Ln},(jS m l).length<=l.length
 | [],l=>A7 _
 |x::m,l=>by
  rw[jS]
  exact Ax VS (Dj _ _)
theorem Pq:(la st l).2.1.length<=l.length+st.rows.length:=by
 grind[la,VQ,VR,VS]
abbrev Vw:=Nat×List (aiA×aiA)
def Pr (q:aiA×aiA):List V:= [.str q.1,.str q.2]
def ur (x:Vw):List V:= [.int .i64 x.1,.sl .ro (x.2.map Pr)]
def vz (g:Nat) (l:List (aiA×aiA)):List (Pl×aiA):=l.map λq=>(((g:Int),q.1),q.2)
def kn (vs:List Vw):List (Pl×aiA):=vs.flatMap λx=>vz x.1 x.2
def lf (vs:List Vw):List Ln:=((kn vs).foldl vx ([],[])).2
theorem yT2 (x:Vw) (vs:List Vw):kn (x::vs)=vz x.1 x.2++kn vs:=by rfl
theorem oB.uu {n:Nat} {s:List (Pl×aiA)×List Ln} (h:oB n s (a,b,sn)) (p:Pl) (h0:sn.at p=none):a.at p=none/\b.at p=none:=by
 have h1:=(h.seen p).1 (kX.2 h0)
 have hb:b.at p=none:=by
  rw[h.now.gT]
  cases e:jD s.2 p with
  |false=>rfl
  |true=>
   obtain⟨x,hx,aa⟩:=Ab.1 (gi.1 e)
   have:(s.1.any λe=>e.1==p)=true:=List.any_eq_true.2 ⟨_,(h.lines x hx).2,by grind⟩
   grind
 exact⟨by rw[show a=b from h.same];exact hb,hb⟩
theorem oB.pos {n:Nat} {s:List (Pl×aiA)×List Ln} (h:oB n s (a,b,sn)) (hn:n<=1000000) (p:Pl) (i:Nat) (v:Int) (h0:sn.at p=some (i,v)):1<=v/\v<=1000000:=by
 have:=h.OZ p v (by show(sn.at p).map (·.2)=some v;grind)
 omega
theorem xR3 (k:Nat) {args:List V} {fj:St} {v:V} (hc:bN P f cj fj (λr s=>r=v/\s=fj)) (hb:xE P f) (hk:I.take k=fj) (hl:fj.length=k) (db:fj.all (bT k)) (hv:iS k v)
  (hn: ∀i,i<k->n0.has i) (aa: ∀N,bP (cP (cK (List.range k) N)) cj (args++bY)) (hK:KV v I):pT P c n0 1 (.fn f bY) args I KV fx:=by
 refine⟨v,I, ?_,λ_=>rfl,λ_=>gV.refl,A7 _,hK⟩
 rw[ai1 dC,ai2 rfl]
 intro s hs
 have ab:s.take k=fj:=by
  rw[<-hk]
  refine Bh λi=> ?_
  rw[Ap,Ap]
  by_cases q:i<k
  .rw[ai2 q,ai2 q];exact Kp.get (hn i q) hs
  .rw[ai1 q,ai1 q]
 refine uR (P:=P) (c:=c) (KV:=λr s'=>r=v/\s'=s) k hc hb ab hl db (aa _) ?_ ?_
 .rintro r s' ⟨rfl,rfl⟩
  exact⟨hl,db,hv⟩
 .rintro r s' ⟨rfl,rfl⟩
  exact⟨rfl,by rw[<-ab];exact B8 k s⟩
theorem Ps (n:Nat) (h:3<=n) {τ:St} (hR:τ.all (bT n)):(dm a b sn++τ).all (bT n)=true:=by
 rw[E6,wC n h,hR];rfl
def rF (x:Int×Int×List Ot):List V:= [.int .i64 x.1,.int .i64 x.2.1,.sl .ro (x.2.2.map Ot.row)]
def xx (cR:dZ) (p5:List Ln):V:= .cz [.agg (rF (fD cR p5).1),.sl .ro ((if(fD cR p5).1.1≠0 then []else mN (jd p5 (fD cR p5).2)).map kY)]
def lP:Ob:= .box [.sl .ro xJ,.sl .ro (bO.map bL.row)]
theorem VT (cR:dZ) (hl:k7 cR) (vs:List Vw) (aE:vs.length<=100000) (hv: ∀x∈vs,x.1<1000/\x.2.length<=100000/\ ∀q∈x.2,q.2.length<=cH) (hN:(kn vs).length<=7500):
  Pure prog 24 [dG bO,.agg cR.row,.sl .ro (vs.map ur)] (xx cR (lf vs)):=by
 have ad:=T9 cR hl
 obtain⟨aF,aw⟩:=hl.stmts
 have aj:=Pp hl
 obtain⟨⟨ci,cr⟩,hP⟩: ∃P,oy cR=P:=⟨_,rfl⟩
 rw[hP]at ad aj
 generalize hM:xx cR (lf vs)=M
 unfold xx fD at hM
 rw[hP]at hM
 simp only at hM aj
 refine iV 0 func24 ntmps24 results24 λc hc hb=> ?_
 refine zO (zA ?_)
 simp[go_sem,dG]
 refine zO (zA ?_)
 simp[go_sem]
 refine zL ad cB (zP (by simp[go_sem,dG]) rfl) rfl ?_
 simp[go_sem,wI]
 by_cases c0:cr=0
 rotate_left
 .have au:(cr !=0)=true:=sU c0
  rw[ai2 c0]at hM
  simp[go_sem,au]
  have aG:M= .cz [.agg [.int .i64 cr,.int .i64 ci,.sl .ro []],.sl .ro []]:=by rw[<-hM];simp[c0,rF]
  exact zW (r:=M) (by rw[aG];exact yW ⟨wX ⟨zF rfl,zF rfl,zX,tV⟩,uQ,tV⟩) ⟨rfl,rfl⟩
 have au:(cr !=0)=false:=sU c0
 rw[ai1 (λh=>h c0)]at hM
 simp[go_sem,au]
 refine ou (S:=Unit) [2,4,6,10] (λ_=> [.sl .ro (vs.map ur),.ptr 5 0,.ptr 6 0,.ptr 3 0]) (λ_=>rp (vt _,vt _,vt _)++ [lP,.box cR.row,.box [.int .i64 0,.int .i64 0,.sl .full []]]) (λ_=>True) hc hb ?_ ?_
 .refine zA ?_
  simp[go_sem]
  exact zJ () ⟨tV,DB [3,4,5,6,0,1,2] dC rfl ⟨rfl,rfl,rfl,rfl,rfl,rfl,rfl,tV⟩ ⟨zC rfl,.inl rfl,.inl rfl,.inl rfl,tV⟩⟩
 rintro _ _
 have ax:=hl
 obtain⟨Q,hQ⟩:=eX ((kn vs).foldl vx ([],[]))
 have ay:lf vs=Q.2:=by unfold lf;rw[hQ]
 rw[ay]at hM
 clear ay
 refine zO (zA ?_)
 simp[go_sem]
 refine zI (S:=Nat×Nat×(List (Pl×aiA)×List Ln)×M3) [4,6,10,36,37,38] (λu=> [.ptr 5 0,.ptr 6 0,.ptr 3 0,.sl .ro (vs.map ur),.int .i64 vs.length,.int .i64 u.1])
  (λu=>rp u.2.2.2++ [lP,.box cR.row,.box [.int .i64 0,.int .i64 0,.sl .full []]]) (λu=>vs.length - u.1)
  (λu=>u.1<=vs.length/\oB u.2.1 u.2.2.1 u.2.2.2/\u.2.1+(kn (vs.drop u.1)).length=(kn vs).length/\(kn (vs.drop u.1)).foldl vx u.2.2.1=Q) hc hb (0,0,([],[]),(vt _,vt _,vt _)) ⟨A3 _,Vt,sm,hQ⟩ ?_ ?_
 .exact yG sm sg
 rintro⟨i,n,s,a,b,sn⟩ ⟨hi,hT,hn,aa⟩
 simp only at hi hT hn aa
 by_cases q:i<vs.length
 .have ei:=zU q om
  obtain⟨⟨g,ps⟩,hx⟩: ∃x,vs[i]=x:=⟨_,rfl⟩
  obtain⟨hg,az,a6⟩:=hv (g,ps) (hx▸A8 q)
  simp only at hg az a6
  rw[A5 q,hx,yT2]at hn aa
  rw[Cc]at aa
  rw[An]at hn
  refine zA ?_
  simp[go_sem,rp,dm,fR,lP,q,hx,ur]
  refine zI (S:=Nat×Nat×(List (Pl×aiA)×List Ln)×M3) [4,6,10,12,36,37,38,43,44,45] (λu=> [.ptr 5 0,.ptr 6 0,.ptr 3 0,.ptr 7 0,.sl .ro (vs.map ur),.int .i64 vs.length,.int .i64 i,.sl .ro (ps.map Pr),.int .i64 ps.length,.int .i64 u.1])
   (λu=>rp u.2.2.2++ [lP,.box cR.row,.box [.int .i64 0,.int .i64 0,.sl .full []],.box (ur (g,ps))]) (λu=>ps.length - u.1)
   (λu=>u.1<=ps.length/\oB u.2.1 u.2.2.1 u.2.2.2/\u.2.1+((vz g (ps.drop u.1)).length+(kn (vs.drop (i+1))).length)=(kn vs).length/\(kn (vs.drop (i+1))).foldl vx ((vz g (ps.drop u.1)).foldl vx u.2.2.1)=Q) hc hb (0,n,s,a,b,sn) ⟨A3 _,hT,hn,aa⟩ ?_ ?_
  .exact uq rfl sm sg
  rintro⟨j,n1,s1,a1,b1,ak⟩ ⟨hj,ae,al,ab⟩
  simp only at hj ae al ab
  by_cases qj:j<ps.length
  .have ej:=zU qj om
   obtain⟨⟨k,d⟩,hp⟩: ∃x,ps[j]=x:=⟨_,rfl⟩
   have hd:=a6 (k,d) (hp▸A8 qj)
   simp only at hd
   have a7:vz g (ps.drop j)=(((g:Int),k),d)::vz g (ps.drop (j+1)):=by
    rw[A5 qj,hp];rfl
   rw[a7,Af]at al
   rw[a7,Bm]at ab
   have ah:=wn4 g hg k d hd a1 b1 ak (by rw[show a1=b1 from ae.same];exact ae.now.ok) ae.now.ok ae.sn (ae.uu _) (ae.pos om _)
   have av:=ae.step (((g:Int),k),d)
   obtain⟨⟨a2,b2,a8⟩,aH⟩: ∃M3,AX ((g:Int),k) d (a1,b1,ak)=M3:=⟨_,rfl⟩
   simp only at av
   rw[aH]at ah av
   refine zA ?_
   simp[go_sem,rp,dm,fR,lP,qj,hp,ur,Pr]
   refine uR 4 ah cB rfl rfl (wC 4 dC a1 b1 ak) (rU (n:=4) rfl) ?_ ?_
   .rintro r s' ⟨rfl,rfl⟩
    exact⟨rfl,wC 4 dC a2 b2 a8,rfl⟩
   rintro r s' ⟨rfl,rfl⟩
   simp[go_sem,rp,dm,fR,ej]
   exact zJ (j+1,n1+1,vx s1 (((g:Int),k),d),a2,b2,a8) ⟨by show ps.length - (j+1)<ps.length - j;omega,⟨qj,av,by show n1+1+((vz g (ps.drop (j+1))).length+(kn (vs.drop (i+1))).length)=(kn vs).length;omega,ab⟩,cc 8 (by rfl) rfl (Ps 8 dC (by simp[bT,cS,cN])) dC (zD sg rfl)⟩
  .have:j=ps.length:=om
   subst this
   rw[Ci]at al ab
   refine zA ?_
   simp[go_sem,rp,dm,fR,lP,ei]
   exact zJ (i+1,n1,s1,a1,b1,ak) ⟨by show vs.length - (i+1)<vs.length - i;omega,⟨q,ae,by show n1+(kn (vs.drop (i+1))).length=(kn vs).length;simp[vz]at al;omega,ab⟩,cc 7 (by rfl) rfl (Ps 7 dC (by simp[bT,cS,cN])) dC (zD sg rfl)⟩
 .have:i=vs.length:=om
  subst this
  rw[Ci]at hn aa
  have hs:s=Q:=aa
  subst hs
  have aU:n<=7500:=by simp[kn]at hn;simp[kn]at hN;omega
  have aI:a=b:=hT.same
  subst aI
  have ai:cM a s.2:=hT.now
  have aJ:s.2.length<=n:=hT.len
  obtain⟨af,an⟩:=eX s.2
  rw[an]at hM ai aJ
  clear hT hn aa hN an hv aE
  obtain⟨D,hD⟩:=eX (lM cR.stmts 0 [] af)
  rw[hD]at hM
  have aK:D.1.1≠0->M= .cz [.agg (rF D.1),.sl .ro []]:=λh=>by rw[<-hM];simp[h]
  have aL:D.1.1=0->M= .cz [.agg (rF D.1),.sl .ro ((mN (jd af D.2)).map kY)]:=λh=>by rw[<-hM];simp[h]
  have az:D.1.1=0\/D.1.1≠0:=om
  have ao:=aj c0
  clear hM aj ad hl ax
  obtain⟨lm,ln,L⟩:=cR
  simp only at aF aw hD ao
  refine zA ?_
  simp[go_sem,rp,dm,fR,lP]
  refine DE 6 2 2 [.int .i64 0,.int .i64 0,.sl .full []] dC rfl rfl ?_
  refine zO (zA ?_)
  simp[go_sem]
  refine zI (S:=Nat×Mp aiA×List Ln×List Ot) [6,10,57,58,59] (λu=> [.ptr 6 0,.ptr 3 0,.sl .ro (L.map bW.row),.int .i64 L.length,.int .i64 u.1])
   (λu=>rp (a,u.2.1,sn)++ [lP,.box (dZ.row ⟨lm,ln,L⟩),.box [.int .i64 0,.int .i64 0,.sl (.app 7) (u.2.2.2.map Ot.row)],.app u.2.2.2.length 2]) (λu=>L.length - u.1)
   (λu=>u.1<=L.length/\cM u.2.1 u.2.2.1/\u.2.2.2.length=u.1/\u.2.2.1.length<=7500+20*u.1/\lM (L.drop u.1) u.1 u.2.2.2 u.2.2.1=D) hc hb (0,a,af,[]) ⟨A3 _,ai,rfl,by show af.length<=7500+20*0;omega,hD⟩ ?_ ?_
  .exact uq rfl sm sg
  rintro⟨i,b,l,outs⟩ ⟨hi,hn,aA,aP,aa⟩
  simp only at hi hn aA aP aa
  by_cases q:i<L.length
  rotate_left
  .rw[A9 om,lM]at aa
   refine zA ?_
   simp[go_sem,rp,dm,fR,lP,q]
   have aq:=wm5 a b sn af l ai hn om om
   have aQ:D.2=l:=by rw[<-aa]
   have aB:D.1=(0,0,outs):=by rw[<-aa]
   have hM:=aL (by rw[aB])
   rw[aB,aQ]at hM
   obtain⟨PW,aR⟩:=eX (mN (jd af l))
   rw[aR]at aq hM
   refine zO ?_
   refine nv [(2,1)] 7 sm kR kR ?_
   simp[go_sem]
   refine xR3 4 aq cB rfl rfl (wC 4 dC a b sn) rfl (λi hi=>by simp[go_sem];omega) (λN=>rU (n:=4) rfl) ?_
   simp[go_sem]
   refine zA ?_
   simp[go_sem]
   exact zW (r:=M) (by rw[hM];exact yW ⟨wX ⟨zF rfl,zF rfl,zX,tV⟩,uQ,tV⟩) ⟨rfl,rfl⟩
  have ei:=zU q om
  obtain⟨x,hx⟩:=eX (L[i])
  have aC:x∈L:=hx▸A8 q
  have ar:=xy3 x (ao x aC) a b sn l hn om
  have hlen:=Pq (st:=x) (l:=l)
  have aT:=(aw x aC).rows.1
  rw[A5 q,hx,lM]at aa
  obtain⟨E,hE⟩:=eX (la x l)
  rw[hE]at aa ar hlen
  refine zA ?_
  simp[go_sem,rp,dm,fR,lP,q,hx]
  refine uR 4 ar cB rfl rfl (wC 4 dC a b sn) (rU (n:=4) rfl) ?_ ?_
  .rintro r s' ⟨b',rfl,rfl,_⟩
   exact⟨rfl,wC 4 dC a b' sn,rfl⟩
  rintro r s' ⟨b',rfl,rfl,aS⟩
  by_cases e0:E.2.2=0
  rotate_left
  .have aD:(E.2.2 !=0)=true:=sU e0
   rw[ai2 e0]at aa
   have hM:=aK (by rw[<-aa];exact e0)
   simp[go_sem,dm,fR,aD,Ot.row]
   exact zW (r:=M) (by rw[hM,<-aa];exact yW ⟨wX ⟨zF rfl,zF rfl,zX,tV⟩,uQ,tV⟩) ⟨rfl,rfl⟩
  have aD:(E.2.2 !=0)=false:=sU e0
  rw[ai1 (λh=>h e0)]at aa
  simp[go_sem,dm,fR,e0,Ot.row]
  refine zH ⟨om,zY rfl⟩ ?_
  simp[go_sem,ei]
  exact zJ (i+1,b',E.2.1,outs++ [E.1]) ⟨by show L.length - (i+1)<L.length - i;omega,⟨q,aS e0,by show(outs++ [E.1]).length=i+1;simp[aA],by show E.2.1.length<=7500+20*(i+1);omega,aa⟩,cc 8 (by simp[Ot.row]) rfl (Ps 8 dC (by simp[bT,cS,cN])) dC (zD sg rfl)⟩
theorem yT4 (h:(oy cR).2=0): ∀st∈cR.stmts,kg st=true/\rj st=0:=by
 unfold oy at h
 by_cases q:mK cR=true
 rotate_left
 .grind
 rw[ai2 q]at h
 intro st aa
 refine⟨?_,Po h st aa⟩
 simp_all[mK]
theorem VU {tn:Nat} {T:bL} (hT:bO[tn]? =some T): ∀{R:List (List bJ)} {b:Mp aiA} {l:List Ln},(∀r∈R,∀e∈r,jl e)->cM b l->(gK tn T R l).2=0-> ∃b',cM b' (gK tn T R l).1
 | [],b,l,_,hn,_=>⟨b,hn⟩
 |r::R,b,l,he,hn,h=>by
  rw[gK]at h⊢
  have ab:=Lo r [] (he r (Av ..)) (λv hv=>by cases hv)
  by_cases q1:(eE eQ [] r []).2≠0
  .grind
  rw[ai1 q1]at h⊢
  obtain⟨_,ad⟩:=ab om
  have aa:=Lp tn T hT (eE eQ [] r []).1
  by_cases q2:(fo tn T (eE eQ [] r []).1).2.2≠0
  .grind
  rw[ai1 q2]at h⊢
  obtain⟨af,ah,ae⟩:=aa om
  by_cases q3:jD l ((fo tn T (eE eQ [] r []).1).1,(fo tn T (eE eQ [] r []).1).2.1)=true
  .grind
  rw[ai1 q3]at h⊢
  exact VU hT (by grind) (hn.ins (x:=⟨(fo tn T (eE eQ [] r []).1).1,(fo tn T (eE eQ [] r []).1).2.1,(eE eQ [] r []).1⟩) ⟨(by grind),ae,ad⟩ (Bool.eq_false_iff.2 q3)) h
theorem VV: ∀{m:List Ln} {b:Mp aiA} {l:List Ln},cM b l-> ∃b',cM b' (jS m l)
 | [],b,_,hn=>⟨b,hn⟩
 |x::m,b,l,hn=>by
  rw[jS]
  exact VV (hn.del x.at)
theorem VX (aa:rE st) (hn:cM b l) (h:(la st l).2.2=0): ∃b',cM b' (la st l).2.1:=by
 obtain⟨tn,ad⟩: ∃tn:Nat,xK st.table=tn:=⟨(xK st.table).toNat,by have:=aa.jA;omega⟩
 have ab:tn<3:=by
  have h:=Eo (λT:bL=>T.name==st.table) bO 0
  have h2:bO.length=3:=rfl
  grind[xK]
 obtain⟨T,hT⟩: ∃T,bO[tn]? =some T:=⟨_,A0 (show tn<bO.length from ab)⟩
 unfold la at h⊢
 simp only[ad,B1]at h⊢
 rw[show bO.getD tn eQ=T by grind]at h⊢
 by_cases k2:st.kind=2
 .rw[ai2 k2]at h⊢
  by_cases q:(gK tn T st.rows l).2≠0
  .grind
  .rw[ai1 q]
   exact VU hT (λr hr=>(aa.ok.rows.2 r hr).2) hn om
 rw[ai1 k2]at h⊢
 by_cases q:(gh tn T st l).2≠0
 .grind
 rw[ai1 q]at h⊢
 by_cases k1:st.kind=1
 .grind
 rw[ai1 k1]at h⊢
 by_cases k3:st.kind=3
 .rw[ai2 k3]at h⊢
  by_cases q2:(gP T st.cG (gh tn T st l).1 l).2≠0
  .grind
  .rw[ai1 q2]
   refine⟨_,Pj hT aa.ok hn (λx hx=> ?_) om⟩
   obtain⟨h1,h2⟩:=Ls x hx
   exact⟨gi.2 (by grind),hn.rows x h1,LC ab h2⟩
 .rw[ai1 k3]
  exact VV hn
theorem VY: ∀(tn:Nat) (T:bL),bO[tn]? =some T->tn=0->T.place=0:=by
 intro tn T h h0
 subst h0
 have e:bO[0]? =some T:=h
 exact(by decide: ∀T,bO[0]? =some T->T.place=0) T e
theorem xu7 (hT:bO[tn]? =some T) {row aa:List bK} (h1:ff T.cm row=0) (h2:ff T.cm aa=0) (hk:aa.getD T.key.toNat zeroV=row.getD T.key.toNat zeroV) (hp:T.place=0->aa.getD 0 zeroV=row.getD 0 zeroV):fo tn T aa=fo tn T row:=by
 have hr:Gq tn aa=Gq tn row:=by
  unfold Gq
  by_cases h0:tn=0
  .rw[ai2 h0,ai2 h0,hp (by grind[VY])]
  omega
 unfold fo
 rw[ai1 om,ai1 (show ¬ff T.cm row≠0 from λh=>h h1),hr,hk]
 by_cases h0:tn=0
 .grind[VY]
 grind
theorem VZ (h:fM x) (aa:(fC x.r).1=(tn:Int)) (hT:bO[tn]? =some T) (hk:fo tn T x.v=(x.r,x.k,0)):xt x:=by
 unfold xt ma
 rw[h.read,aa,B1,show bO.getD tn eQ=T by grind,hk,h.err]
 simp
theorem xY1 (h:fM x) (hK:xt x) (aa:(fC x.r).1=(tn:Int)) (hT:bO[tn]? =some T):fo tn T x.v=(x.r,x.k,0):=by
 unfold xt ma at hK
 rw[h.read,aa,B1,show bO.getD tn eQ=T by grind]at hK
 grind
theorem xH0 {l:List bK} {i j:Nat} {v:bK} (h:i≠j):(l.set i v).getD j zeroV=l.getD j zeroV:=by
 grind
theorem V0 {T:bL} {oz:List bK} {c:Nat} (hc:(c:Int)=T.key\/((c:Int)=0/\T.place=0)): ∀{cG p:List ct} {row:List bK},ox T p cG=0->(gB T oz cG row).2=0->(gB T oz cG row).1.getD c zeroV=row.getD c zeroV
 | [],_,row,_,_=>rfl
 |y::l,p,row,h,h2=>by
  rw[gB]at h2⊢
  by_cases q:(gN T oz y.e).2≠0
  .grind
  rw[ai1 q]at h2⊢
  rw[ox]at h
  by_cases q1:cU T y.name<0
  .omega
  rw[ai1 q1]at h
  by_cases q2:cU T y.name=T.key\/(cU T y.name=0/\T.place=0)
  .omega
  rw[ai1 q2]at h
  by_cases q3:(p.any λz=>z.name==y.name)=true
  .grind
  rw[ai1 q3]at h
  by_cases q4:pf T y.e (kS T (cU T y.name))≠0
  .omega
  rw[ai1 q4]at h
  rw[V0 hc h h2]
  refine xH0 λe=>q2 ?_
  have e2:cU T y.name=(c:Int):=om
  rw[e2]
  exact hc
def oD (l:List Ln):Prop:= ∀x∈l,fM x/\xt x
theorem V1 {tn:Nat} {T:bL} (hT:bO[tn]? =some T): ∀{R:List (List bJ)} {l:List Ln},(∀r∈R,∀e∈r,jl e)->oD l->(gK tn T R l).2=0->oD (gK tn T R l).1
 | [],l,_,hn,_=>hn
 |r::R,l,he,hn,h=>by
  rw[gK]at h⊢
  have ab:=Lo r [] (he r (Av ..)) (λv hv=>by cases hv)
  by_cases q1:(eE eQ [] r []).2≠0
  .grind
  rw[ai1 q1]at h⊢
  obtain⟨_,ad⟩:=ab om
  have aa:=Lp tn T hT (eE eQ [] r []).1
  obtain⟨⟨kr,kk,ke⟩,ae⟩: ∃ks,fo tn T (eE eQ [] r []).1=ks:=⟨_,rfl⟩
  rw[ae]at h aa⊢
  simp only at h aa⊢
  by_cases q2:ke≠0
  .grind
  rw[ai1 q2]at h⊢
  have af:ke=0:=om
  obtain⟨ai,aj,ah⟩:=aa af
  by_cases q3:jD l (kr,kk)=true
  .grind
  rw[ai1 q3]at h⊢
  have hx:fM ⟨kr,kk,(eE eQ [] r []).1⟩:=⟨(by grind),ah,ad⟩
  refine V1 hT (by grind) (λz hz=> ?_) h
  rcases Ae.1 ((AY l _).mem_iff.1 hz)with rfl|hz
  .grind[VZ]
  .exact hn z hz
theorem V2: ∀{m l:List Ln},oD l->oD (jS m l)
 | [],l,h=>h
 |x::m,l,h=>by
  rw[jS]
  exact V2 (λy hy=>h y (Bn.1 hy).1)
theorem V3 {tn:Nat} {T:bL} (hT:bO[tn]? =some T) {st:bW} (ad:k6 st) (hc:ox T [] st.cG=0): ∀{m l:List Ln},oD l->(∀x∈m,fM x/\xt x/\(fC x.r).1=(tn:Int))->(gP T st.cG m l).2=0->oD (gP T st.cG m l).1
 | [],_,hn,_,_=>hn
 |x::m,l,hn,hm,h0=>by
  obtain⟨aa,an,ao⟩:=hm x sm
  obtain⟨aq,ar⟩:=(by decide: ∀T∈bO,0<=T.key/\T.key<T.cm.length) T (by grind)
  rw[gP]at h0⊢
  have ab:=λ(c:Nat) (ai:(c:Int)=T.key\/((c:Int)=0/\T.place=0))=>V0 (T:=T) (oz:=x.v) ai (cG:=st.cG) (p:= []) (row:=x.v) hc
  have ae:=Lr (T:=T) aa.ok (cG:=st.cG) (row:=x.v) (λy hy=>(ad.cG.2 y hy).2) aa.ok
  obtain⟨E,hE⟩:=eX (gB T x.v st.cG x.v)
  rw[hE]at h0 ab ae⊢
  by_cases q:E.2≠0
  .grind
  rw[ai1 q]at h0⊢
  have q0:E.2=0:=om
  by_cases q2:ff T.cm E.1≠0
  .grind
  rw[ai1 q2]at h0⊢
  have m0:ff T.cm E.1=0:=om
  obtain⟨af,T',au,ah,aj⟩:=aa.jA
  have:af=tn:=om
  subst this
  rw[hT]at ah
  cases ah
  have ak:fM ⟨x.r,x.k,E.1⟩:=⟨(by grind),aa.err,(ae q0).2⟩
  have al:fo af T E.1=(x.r,x.k,0):=by
   rw[xu7 hT aj m0 (by grind) (by grind)]
   grind[xY1]
  refine V3 hT ad hc (λz hz=> ?_) (by grind) h0
  unfold jy at hz
  obtain⟨y,hy,rfl⟩:=Ab.1 hz
  by_cases e:y.at=x.at
  .rw[ai2 e]
   have e1:y.r=x.r:=ai6 Prod.fst e
   have e2:y.k=x.k:=ai6 Prod.snd e
   grind[VZ]
  .rw[ai1 e]
   exact hn y hy
theorem wq2 (aa:rE st) (hc:rj st=0) (_hn:cM b l) (hk:oD l) (h:(la st l).2.2=0):oD (la st l).2.1:=by
 obtain⟨tn,ab⟩: ∃tn:Nat,xK st.table=tn:=⟨(xK st.table).toNat,by have:=aa.jA;omega⟩
 have ad:tn<3:=by
  have h:=Eo (λT:bL=>T.name==st.table) bO 0
  have h2:bO.length=3:=rfl
  grind[xK]
 obtain⟨T,hT⟩: ∃T,bO[tn]? =some T:=⟨_,A0 (show tn<bO.length from ad)⟩
 unfold rj at hc
 rw[ab,B1,hT]at hc
 simp only at hc
 rw[ai1 om]at hc
 unfold la at h⊢
 simp only[ab,B1]at h⊢
 rw[show bO.getD tn eQ=T by grind]at h⊢
 by_cases k2:st.kind=2
 .rw[ai2 k2]at h⊢
  by_cases q:(gK tn T st.rows l).2≠0
  .grind
  .rw[ai1 q]
   exact V1 hT (λr hr=>(aa.ok.rows.2 r hr).2) hk om
 rw[ai1 k2]at h⊢
 by_cases q:(gh tn T st l).2≠0
 .grind
 rw[ai1 q]at h⊢
 by_cases k1:st.kind=1
 .grind
 rw[ai1 k1]at h⊢
 by_cases k3:st.kind=3
 .rw[ai2 k3]at h⊢
  by_cases q2:(gP T st.cG (gh tn T st l).1 l).2≠0
  .grind
  .rw[ai1 q2]
   have ae:ox T [] st.cG=0:=by
    omega
   refine V3 hT aa.ok ae hk (λx hx=> ?_) om
   obtain⟨h1,h2⟩:=Ls x hx
   exact⟨(hk x h1).1,(hk x h1).2,LC ad h2⟩
 simp_all[V2]
theorem V4: ∀{ss:List bW} {i:Nat} {acc:List Ot} {b:Mp aiA} {l:List Ln},(∀x∈ss,rE x/\rj x=0)->cM b l->oD l->(lM ss i acc l).1.1=0->(∃b',cM b' (lM ss i acc l).2)/\oD (lM ss i acc l).2/\(lM ss i acc l).2.length<=l.length+20*ss.length
 | [],i,acc,b,l,_,hn,hk,_=>(by grind[lM])
 |x::ss,i,acc,b,l,hs,hn,hk,h=>by
  rw[lM]at h⊢
  obtain⟨hx,ab⟩:=hs x sm
  by_cases q:(la x l).2.2≠0
  .grind
  rw[ai1 q]at h⊢
  have q0:(la x l).2.2=0:=om
  obtain⟨b',aa⟩:=VX hx hn q0
  have hlen:=Pq (st:=x) (l:=l)
  have hr:=hx.ok.rows.1
  obtain⟨h1,h2,h3⟩:=V4 (by grind) aa (by grind[wq2]) h
  grind
theorem oB.run: ∀(ps:List (Pl×aiA)) {n:Nat} {s:List (Pl×aiA)×List Ln} {m:M3},oB n s m-> ∃m',oB (n+ps.length) (ps.foldl vx s) m'
 | [],n,s,m,h=>⟨m,h⟩
 |p::ps,n,s,m,h=>by
  obtain⟨m',h'⟩:=oB.run ps (h.step p)
  grind
theorem V5 (vs:List Vw): ∃m,oB (kn vs).length ((kn vs).foldl vx ([],[])) m:=by
 obtain⟨m,h⟩:=oB.run (kn vs) Vt
 grind
theorem V6 {l:List Wr} {aa now:List Ln} (h1: ∀x∈aa,fM x) (h2: ∀x∈now,fM x) (hw:iB (aa.map Ln.at)) (hn:iB (now.map Ln.at)) (hl:l=jd aa now): ∀w∈l,w.p.1=0\/w.p.1=1\/w.p.1=2\/w.p.1=3:=λw ad=>by
 rw[hl]at ad
 have hr: ∀x:Ln,fM x->x.r=0\/x.r=1\/x.r=2\/x.r=3:=λx hx=>by
  have:=hx.err
  unfold fC at this
  grind
 rcases((Lw hw hn).2 w).1 ad with ⟨_,_,⟨x,hx,ab⟩,_⟩|⟨_,x,hx,ab,_,_⟩
 .rw[<-ab];exact hr x (h1 x hx)
 .rw[<-ab];exact hr x (h2 x hx)
theorem Pt (hl:k7 cR) (hn:cM b l) (hk:oD l) (h:(fD cR l).1.1=0):(∃b',cM b' (fD cR l).2)/\oD (fD cR l).2/\(fD cR l).2.length<=l.length+240:=by
 unfold fD at h⊢
 by_cases q:(oy cR).2≠0
 .grind
 rw[ai1 q]at h⊢
 have q0:(oy cR).2=0:=om
 by_cases q2:(lM cR.stmts 0 [] l).1.1≠0
 .grind
 rw[ai1 q2]at h⊢
 obtain⟨h1,h2,h3⟩:=V4 (λx hx=>⟨Pp hl q0 x hx,(yT4 q0 x hx).2⟩) hn hk h
 have:=hl.stmts.1
 grind
theorem yZ3 {data:aiA} (h:ma p.1 p.2 data):data.length<=20000:=by
 obtain⟨h1,h2⟩:=Vq h
 obtain⟨tn,T,_,hT,hm⟩:=h1.jA
 have hL:=Gr ((by decide: ∀T∈bO,T.cm.length<=20) T (by grind)) h1.ok hm
 have:=Of hL (ee bO (fC p.1).1 data).1.length
 rw[show si (ee bO (fC p.1).1 data).1 (ee bO (fC p.1).1 data).1.length=data from h2]at this
 omega
theorem V7 {T:bL} {row:List bK}: ∀{l:List bJ} {acc:List bK},(eE T row l acc).1.length<=acc.length+l.length
 | [],acc=>by grind[eE]
 |e::l,acc=>by
  rw[eE]
  split
  .simp
  .refine Ax V7 ?_
   simp;omega
theorem Pu {T:bL} {l:List Ln}: ∀{xs:List cO} {acc:List bK},(rk T l xs acc).1.length<=acc.length+xs.length
 | [],acc=>by grind[rk]
 |x::xs,acc=>by
  rw[rk]
  split
  .split
   .simp
   .refine Ax Pu ?_
    simp;omega
  .refine Ax Pu ?_
   simp;omega
def lQ (N:Nat) (rs:List (List bK)):Prop:=rs.length<=N/\ ∀r∈rs,r.length<=100
theorem V8 {T:bL} {items:List cO} (hi:items.length<=100): ∀{l:List Ln} {acc:List (List bK)} {N:Nat},(∀x∈l,x.v.length<=100)->lQ N acc->lQ (N+l.length) (pv T items l acc).1
 | [],acc,N,_,h=>by simpa
 |x::l,acc,N,hl,h=>by
  have aa: ∀y∈l,y.v.length<=100:=(by grind)
  have step: ∀r:List bK,r.length<=100->lQ (N+(x::l).length) (pv T items l (acc++ [r])).1:=λr hr=>by
   have h2:lQ (N+1) (acc++ [r]):=⟨by have:=h.1;grind,λy hy=>by
    rcases Ak.1 hy with hy|hy
    .exact h.2 y hy
    grind⟩
   have h3:=V8 hi aa h2 (T:=T)
   grind
  rw[pv]
  split
  .grind
  .split
   .exact⟨sm,sm⟩
   grind[V7]
theorem wa7 (hi:st.items.length<=100) (hl: ∀x∈l,x.v.length<=100):lQ (1+l.length) (lL T st l).1.rows:=by
 have none_:lQ (1+l.length) []:=⟨sm,sm⟩
 unfold lL
 split
 .split
  .omega
  .refine⟨sm,λr hr=> ?_⟩
   grind[Pu]
 .obtain⟨m,hm⟩:=eX (lK st.bS (if 0<=cU T st.order then pt (cU T st.order).toNat st.down l else l))
  rw[hm]
  simp only
  have aa:(∀x∈m,x∈l)/\m.length<=l.length:=by
   have h0: ∀k:List Ln,(∀x∈k,x∈l)/\k.length<=l.length->(∀x∈lK st.bS k,x∈l)/\(lK st.bS k).length<=l.length:=(by grind[lK])
   rw[<-hm]
   refine h0 _ ?_
   split
   .exact⟨(by grind[Ph]),by rw[(Ph _ _ _).length_eq];omega⟩
   simp
  split
  .omega
  .have h:=V8 (T:=T) hi (l:=m) (acc:= []) (N:=0) (by grind) (by trivial)
   exact⟨by have:=h.1;grind,h.2⟩
theorem xE1 (aa:k6 st) (hl: ∀x∈l,x.v.length<=100):lQ (1+l.length) (la st l).1.rows:=by
 have none_:lQ (1+l.length) []:=⟨sm,sm⟩
 unfold la
 simp only
 split
 .grind
 split
 .omega
 split
 .have h:=wa7 (T:=bO.getD (xK st.table).toNat eQ) (st:=st) (l:=(gh (xK st.table).toNat (bO.getD (xK st.table).toNat eQ) st l).1) (by have:=aa.items.1;omega) (λx hx=>hl x (Ls x hx).1)
  have hlen:=VN (t:=((xK st.table).toNat:Int)) (T:=bO.getD (xK st.table).toNat eQ) (st:=st) (l:=l)
  exact⟨Ax h.1 om,h.2⟩
 grind
theorem V9: ∀{ss:List bW} {i:Nat} {acc:List Ot} {b:Mp aiA} {l:List Ln} {N:Nat},(∀x∈ss,rE x)->cM b l->l.length+20*ss.length<=N->(∀o∈acc,lQ (1+N) o.rows)->(∀o∈(lM ss i acc l).1.2.2,lQ (1+N) o.rows)/\(lM ss i acc l).1.2.2.length<=acc.length+ss.length
 | [],i,acc,b,l,N,_,_,_,ha=>by grind[lM]
 |x::ss,i,acc,b,l,N,hs,hn,hN,ha=>by
  rw[lM]
  have hx:=hs x (Av ..)
  rw[Af]at hN
  by_cases q:(la x l).2.2≠0
  .grind
  rw[ai1 q]
  obtain⟨b',ab⟩:=VX hx hn om
  have hlen:=Pq (st:=x) (l:=l)
  have hr:=hx.ok.rows.1
  have ho:=xE1 hx.ok (l:=l) (λy hy=>by have:=(Pg (hn.rows y hy)).2;omega)
  obtain⟨h1,h2⟩:=V9 (i:=i+1) (acc:=acc++ [(la x l).1]) (N:=N) (λy hy=>hs y (B5 _ hy)) ab om (λo aa=>by
   rcases Ak.1 aa with aa|aa
   .grind
   .rw[B7]at aa;subst aa;exact⟨by have:=ho.1;omega,ho.2⟩)
  grind
theorem xv0 (hl:k7 cR) (hn:cM b l) (hlen:l.length<=7500):(fD cR l).1.2.2.length<=100000/\ ∀x∈(fD cR l).1.2.2,x.rows.length<=100000/\ ∀r∈x.rows,r.length<=100000:=by
 have aa:=hl.stmts.1
 unfold fD
 by_cases q:(oy cR).2≠0
 .grind
 rw[ai1 q]
 obtain⟨h1,h2⟩:=V9 (ss:=cR.stmts) (i:=0) (acc:= []) (N:=10000) (by grind[Pp]) hn om sm
 have h3:(lM cR.stmts 0 [] l).1.2.2.length<=100000/\ ∀x∈(lM cR.stmts 0 [] l).1.2.2,x.rows.length<=100000/\ ∀r∈x.rows,r.length<=100000:=
  ⟨by grind,λx hx=>⟨by have:=(h1 x hx).1;omega,λr hr=>by have:=(h1 x hx).2 r hr;omega⟩⟩
 grind
theorem xW6 {N:Nat} {out:List (Int×List Wr)} (h:out.length<=N/\ ∀q∈out,q.2.length<=N):(ic out w).length<=N+1/\ ∀q∈ic out w,q.2.length<=N+1:=by
 grind[ic,List.mem_of_getLast?,List.dropLast_subset]
theorem Wa: ∀{l:List Wr} {out:List (Int×List Wr)} {N:Nat},out.length<=N/\(∀q∈out,q.2.length<=N)->(l.foldl ic out).length<=N+l.length/\ ∀q∈l.foldl ic out,q.2.length<=N+l.length
 | [],out,N,h=>(by grind)
 |w::l,out,N,h=>by
  have h2:=Wa (l:=l) (xW6 (w:=w) h)
  grind
theorem Wb (aa now:List Ln):(jd aa now).length<=aa.length+now.length:=by
 have hf: ∀(f:Ln->Wr) (m:List Ln) (l:List Wr),(m.foldl (λl x=>kV l (f x)) l).length=l.length+m.length:=λf m=>by
  induction m with
  |nil=>simp
  |cons x m ih=>intro l;rw[Bm,ih,(O3 _ _).length_eq,Af,Af];omega
 unfold jd
 rw[hf (λx=>⟨x.at,false,xL x.v⟩),hf (λx=>⟨x.at,true,[]⟩)]
 grind
def oE (cR:dZ) (p5:List Ln):List (Int×List Wr):=if(fD cR p5).1.1≠0 then []else mN (jd p5 (fD cR p5).2)
theorem xM7 (hl:k7 cR) (hn:cM b l) (hk:oD l) (hlen:l.length<=7500):(oE cR l).length<=100000/\ ∀q∈oE cR l,q.2.length<=100000:=by
 unfold oE
 by_cases q:(fD cR l).1.1≠0
 .grind
 rw[ai1 q]
 obtain⟨_,_,h⟩:=Pt hl hn hk om
 have h2:=Wb l (fD cR l).2
 have h3:=Wa (l:=jd l (fD cR l).2) (out:= []) (N:=0) sm
 grind[mN]
def n9:Nat->Nat->aiA->aiA
 |0,_,acc=>acc
 |f+1,u,acc=>if u=0 then acc else n9 f (u/10) ((48+UInt8.ofNat (u%10))::acc)
def oc (n:Nat):aiA:=if n=0 then [48]else n9 20 n []
theorem xE0 (r:Nat) (h:r<10):((48:UInt8)::List.take r [49,50,51,52,53,54,55,56,57]).drop r= [(48+UInt8.ofNat r)]:=by
 have:r=0\/r=1\/r=2\/r=3\/r=4\/r=5\/r=6\/r=7\/r=8\/r=9:=om
 rcases this with rfl|rfl|rfl|rfl|rfl|rfl|rfl|rfl|rfl|rfl<;>rfl
theorem Wc: ∀(f u:Nat) (acc:aiA),(n9 f u acc).length<=f+acc.length
 |0,u,acc=>by rw[n9];omega
 |f+1,u,acc=>by
  rw[n9]
  split
  .omega
  .have:=Wc f (u/10) ((48+UInt8.ofNat (u%10))::acc);simp only[Af]at this;omega
theorem Wd (n:Nat):(oc n).length<=20:=by
 unfold oc
 split
 .decide
 .have:=Wc 20 n [];simpa using this
theorem We (n:Nat) (hn:n<=9223372036854775807):Pure prog 28 [.int .i64 n] (.str (oc n)):=by
 generalize hM:oc n=M
 unfold oc at hM
 have ret: ∀(r:aiA) (I:St),r=M->cw (some (.str r)) 0 (λr s=>r= .str M/\s= []) I:=λr I h=>by subst h;exact wR
 refine iV 0 func28 ntmps28 results28 λc hc hb=> ?_
 refine zA ?_
 simp[go_sem]
 by_cases q0:n=0
 .rw[ai2 q0]at hM
  simp[go_sem,q0]
  exact ret _ _ hM
 rw[ai1 q0]at hM
 have ae:((n:Int)==0)=false:=sU q0
 have ab:decide ((n:Int)<0)=false:=ai3 om
 have eu:IntKind.u64.wrap (n:Int)=(n:Int):=Vx.cW om om
 simp[go_sem,ae,ab,eu]
 refine zI (S:=Nat×aiA) [0,3,4] (λu=> [.int .i64 n,.int .u64 (u.1:Int),.str u.2]) (λ_=> []) (λu=>u.1)
  (λu=>u.1<=n/\ ∃f,u.1<10^f/\u.2.length+f<=20/\n9 f u.1 u.2=M) hc hb (n,[]) ⟨A7 _,20,by simp only;omega,sm,hM⟩ ?_ ?_
 .exact aO
 rintro⟨u,s⟩ ⟨hu,f,hf,hs,hinv⟩
 simp only at hu hf hs hinv
 by_cases q:u=0
 .subst q
  have hinv:s=M:=by
   rw[<-hinv]
   cases f with
   |zero=>rfl
   |succ f=>rw[n9,ai2 rfl]
  refine zA ?_
  simp[go_sem,ab]
  exact ret _ _ hinv
 obtain⟨f,rfl⟩: ∃g,f=g+1:=by
  cases f with
  |zero=>simp at hf;omega
  |succ f=>exact⟨f,rfl⟩
 rw[n9,ai1 q]at hinv
 have hq:0<u:=om
 have er:(u:Int).tmod 10=((u%10:Nat):Int):=by rw[Dm om];omega
 have aa:IntKind.u64.wrap (((u%10:Nat):Int)+1)=((u%10+1:Nat):Int):=by rw[Vx.cW om om];omega
 have af:(u:Int).tdiv 10=((u/10:Nat):Int):=by rw[Dl om];omega
 have ed:IntKind.u64.wrap ((u:Int).tdiv 10)=((u/10:Nat):Int):=by
  rw[Dl om,Vx.cW om om];omega
 have ad:=xE0 (u%10) (Cs _ dC)
 obtain⟨r,hr⟩:=eX (u%10)
 have ai:r<10:=om
 rw[hr]at er aa ad hinv
 have ah:IntKind.u64.wrap ((u:Int)/10)=(u:Int)/10:=Vx.cW om om
 have aj:((r:Int)).toNat=r:=B1 r
 have ak:((r+1:Nat):Int).toNat=r+1:=B1 _
 refine zA ?_
 simp only[Int.natCast_add,Bz]at aa
 simp[go_sem,hq,er,aa]
 refine zH om ?_
 simp[go_sem,ad]
 refine zH om ?_
 simp[go_sem,af,ah]
 refine zJ (u/10,(48+UInt8.ofNat r)::s) ⟨by simp only;omega,⟨by simp only;omega,f,by simp only;rw[E4]at hf;omega,by simp;omega,hinv⟩, ?_⟩
 exact aO
theorem LG (k n:Int) (hk:cZ k) (h1:1<=n) (h2:n<=1000):Pure prog 13 [.int .i64 k,.int .i64 n] (.int .i64 (k%n)):=by
 obtain⟨ae,af⟩:=hk
 have q1:decide (n<1)=false:=ai3 om
 have q0: ¬n<1:=om
 have qz: ¬n=0:=om
 have he:=E7 k (b:=n) om
 have hl:=E0 k (b:=n) om
 have ht:=Int.tmod_eq_emod (a:=k) (b:=n)
 obtain⟨r,hr⟩:=eX (k%n)
 obtain⟨t,ab⟩:=eX (k.tmod n)
 rw[hr]at he hl ht⊢
 rw[ab]at ht
 have ah:((n.natAbs:Nat):Int)=n:=om
 have ad:t=r\/t=r - n:=by
  split at ht
  .left;omega
  .right;omega
 have et:IntKind.i64.wrap t=t:=bX om om
 have er:IntKind.i64.wrap r=r:=bX om om
 have ret: ∀(v:Int) (I:St),v=r->cw (some (.int .i64 v)) 0 (λr' s=>r'= .int .i64 r/\s= []) I:=λv I h=>by subst h;exact wR
 refine iV 0 func13 ntmps13 results13 λc hc hb=> ?_
 refine zA ?_
 simp[go_sem,q0]
 refine zH qz ?_
 simp[go_sem,ab]
 rcases ad with e|e
 .have q2:decide (t<0)=false:=ai3 om
  have aa: ¬t<0:=om
  simp[go_sem,aa]
  exact ret _ _ e
 .have q2:decide (t<0)=true:=ai4 om
  have aa:t<0:=om
  have e3:t+n=r:=om
  simp[go_sem,aa,e3,er]
  exact wR
def mQ (k:Int):aiA:=if k.tmod 41=40 then [57,50,50,51,51,55,50,48,51,54,56,53,52,55,55,53,56,48,55]else oc (k%12).toNat
theorem Wf (k:Int):(mQ k).length<=20:=by
 unfold mQ
 split
 .decide
 .exact Wd _
def wq9:aiA:= [57,50,50,51,51,55,50,48,51,54,56,53,52,55,55,53,56,48,55]
def II:List aiA:=wq9::(List.range 12).map oc
theorem Wg (k:Int):mQ k∈II:=by
 unfold mQ
 split
 .exact Av ..
 .exact B5 _ (Ab.2 ⟨(k%12).toNat,Cm.2 om,rfl⟩)
theorem Wh (k:Int) (hk:cZ k):Pure prog 73 [.int .i64 k] (.str (mQ k)):=by
 have hp:=LG k 12 hk dC dC
 have hd:=We (k%12).toNat om
 rw[show(((k%12).toNat:Nat):Int)=k%12 by omega]at hd
 obtain⟨aa,ab⟩:=hk
 have ht:=Int.tmod_eq_emod (a:=k) (b:=41)
 have et:IntKind.i64.wrap (k.tmod 41)=k.tmod 41:=by
  have:=E7 k (b:=41) dC
  have:=E0 k (b:=41) dC
  split at ht<;>exact bX om om
 generalize hM:mQ k=M
 unfold mQ at hM
 obtain⟨u,hu⟩:=eX (k.tmod 41)
 rw[hu]at et hM
 clear ht
 have ret: ∀(v:aiA) (I:St),v=M->cw (some (.str v)) 0 (λr' s=>r'= .str M/\s= []) I:=λv I h=>by subst h;exact wR
 refine iV 0 func73 ntmps73 results73 λc hc hb=> ?_
 refine zA ?_
 by_cases q:u=40
 .rw[ai2 q]at hM
  have q':(u==40)=true:=sU q
  simp[go_sem,hu,q']
  exact ret _ _ hM
 .rw[ai1 q]at hM
  have q':(u==40)=false:=sU q
  simp[go_sem,hu,q']
  refine pC hp ?_
  simp[go_sem]
  refine pC hd ?_
  simp[go_sem]
  exact ret _ _ hM
def Wi:List aiA:= [[39,97,39],[39,98,39],[39,99,39],[39,100,39],[39,101,39]]
theorem wk6 (k:Int) (hk:cZ k): ∃t:aiA,t.length<=20/\Pure prog 74 [.int .i64 k] (.str t)/\t∈Wi:=by
 have hp:=LG k 5 hk dC dC
 have h0:=E7 k (b:=5) dC
 have h1:=E0 k (b:=5) dC
 obtain⟨r,hr⟩:=eX (k%5)
 rw[hr]at hp h0 h1
 have:r=0\/r=1\/r=2\/r=3\/r=4:=om
 have walk: ∀r:Int,(r=0\/r=1\/r=2\/r=3\/r=4)->Pure prog 13 [.int .i64 k,.int .i64 5] (.int .i64 r)->Pure prog 74 [.int .i64 k] (.str [39,97+UInt8.ofNat r.toNat,39]):=λr aa hp=>by
  refine iV 0 func74 ntmps74 results74 λc hc hb=> ?_
  refine zA ?_
  simp[go_sem]
  refine pC hp ?_
  rcases aa with rfl|rfl|rfl|rfl|rfl
  all_goals
   simp[go_sem]
   refine zH (λx hx=>⟨_,B7.1 hx⟩) ?_
   simp[go_sem,uD]
   exact wR
 exact⟨_,sm,walk r this hp,by rcases this with rfl|rfl|rfl|rfl|rfl<;>decide⟩
def Wj:List aiA:= [[84,82,85,69],[70,65,76,83,69]]
theorem xQ1 (k:Int) (_hk:cZ k): ∃t:aiA,t.length<=20/\Pure prog 75 [.int .i64 k] (.str t)/\t∈Wj:=by
 have ht:=Int.tmod_eq_emod (a:=k) (b:=2)
 have et:IntKind.i64.wrap (k.tmod 2)=k.tmod 2:=by
  have:=E7 k (b:=2) dC
  have:=E0 k (b:=2) dC
  split at ht<;>exact bX om om
 obtain⟨u,hu⟩:=eX (k.tmod 2)
 rw[hu]at et
 clear ht
 by_cases q:u=0
 .refine⟨[84,82,85,69],dC, ?_,dC⟩
  have q':(u==0)=true:=sU q
  refine iV 0 func75 ntmps75 results75 λc hc hb=> ?_
  refine zA ?_
  simp[go_sem,hu,q']
  exact wR
 .refine⟨[70,65,76,83,69],dC, ?_,dC⟩
  have q':(u==0)=false:=sU q
  refine iV 0 func75 ntmps75 results75 λc hc hb=> ?_
  refine zA ?_
  simp[go_sem,hu,q']
  exact wR
def Wk:List aiA:= [[48],[49]]
def Gx (r n g v b:aiA):Nat->aiA
 |0=> [73,78,83,69,82,84,32,73,78,84,79,32,84,32,86,65,76,85,69,83,32,40]++r++ [44,32]++n++ [44,32,39,118]++v++ [39,44,32]++v++ [41]
 |1=> [73,78,83,69,82,84,32,73,78,84,79,32,84,32,86,65,76,85,69,83,32,40]++r++ [44,32]++n++ [44,32,39,118]++v++ [39,44,32]++v++ [41]
 |2=> [73,78,83,69,82,84,32,73,78,84,79,32,71,32,86,65,76,85,69,83,32,40]++g++ [44,32]++v++ [44,32,78,85,76,76,41]
 |3=> [85,80,68,65,84,69,32,84,32,83,69,84,32,78,32,61,32,78,32,43,32]++v++ [32,87,72,69,82,69,32,75,32,61,32]++n
 |4=> [85,80,68,65,84,69,32,84,32,83,69,84,32,78,32,61,32]++v++ [44,32,86,32,61,32,39,120,39,32,87,72,69,82,69,32,82,32,61,32]++r++ [32,65,78,68,32,75,32,62,61,32]++n
 |5=> [85,80,68,65,84,69,32,71,32,83,69,84,32,78,32,61,32,78,32,42,32]++v++ [32,87,72,69,82,69,32,75,32,61,32]++g
 |6=> [68,69,76,69,84,69,32,70,82,79,77,32,84,32,87,72,69,82,69,32,75,32,60,32]++v
 |7=> [68,69,76,69,84,69,32,70,82,79,77,32,71,32,87,72,69,82,69,32,75,32,61,32]++g
 |8=> [83,69,76,69,67,84,32,42,32,70,82,79,77,32,84]
 |9=> [83,69,76,69,67,84,32,75,44,32,78,32,43,32,49,32,70,82,79,77,32,84,32,87,72,69,82,69,32,82,32,61,32]++r++ [32,79,82,68,69,82,32,66,89,32,78,32,68,69,83,67,32,76,73,77,73,84,32]++v
 |10=> [83,69,76,69,67,84,32,42,32,70,82,79,77,32,71]
 |11=> [83,69,76,69,67,84,32,67,79,85,78,84,40,42,41,44,32,83,85,77,40,78,41,32,70,82,79,77,32,84,32,87,72,69,82,69,32,75,32,60,62,32]++n
 |12=> [83,69,76,69,67,84,32,42,32,70,82,79,77,32,71,32,87,72,69,82,69,32,75,32,61,32]++g
 |13=> [73,78,83,69,82,84,32,73,78,84,79,32,72,32,86,65,76,85,69,83,32,40]++b++ [44,32]++v++ [41]
 |14=> [85,80,68,65,84,69,32,72,32,83,69,84,32,78,32,61,32,78,32,45,32]++v
 |15=> [83,69,76,69,67,84,32,83,85,77,40,78,32,47,32]++v++ [41,32,70,82,79,77,32,72]
 |16=> [73,78,83,69,82,84,32,73,78,84,79,32,84,32,86,65,76,85,69,83,32,40]++r++ [44,32]++n++ [44,32,78,85,76,76,44,32]++v++ [41,44,32,40,49,44,32]++v++ [44,32,39,116,119,111,39,44,32,78,85,76,76,41]
 |17=> [83,69,76,69,67,84,32,78,32,70,82,79,77,32,84,32,87,72,69,82,69,32,75,32,61,32]++n
 |18=> [85,80,68,65,84,69,32,71,32,83,69,84,32,78,32,61,32,78,32,43,32,49,44,32,66,32,61,32,78,32,62,32]++v
 |_=> [83,69,76,69,67,84,32,86,32,70,82,79,77,32,84,32,87,72,69,82,69,32,78,32,73,83,32,78,85,76,76,32,79,82,32,75,32,62,61,32]++n++ [32,79,82,68,69,82,32,66,89,32,86]
theorem wb2 {r n g v b:aiA} (hr:r.length<=20) (hn:n.length<=20) (hg:g.length<=20) (hv:v.length<=20) (hb:b.length<=20) (k:Nat):(Gx r n g v b k).length<=300:=by
 unfold Gx
 split<;>simp<;>omega
def Wl (t:aiA):Prop:= ∃r∈Wk,∃n∈II,∃g∈Wi,∃v∈II,∃b∈Wj,∃w<20,t=Gx r n g v b w
theorem Wm (a:gH) (ha:a.ok): ∃t:aiA,t.length<=300/\Pure prog 27 [.agg a.row] (.str t)/\Wl t:=by
 have hw:=LG a.lz 20 ha.lz dC dC
 have ah:=LG a.a 2 ha.a dC dC
 have ad:=We (a.a%2).toNat om
 rw[show(((a.a%2).toNat:Nat):Int)=a.a%2 by omega]at ad
 have ai:=Wh a.b ha.b
 have aj:=Wh a.c ha.c
 obtain⟨g,av,hg,ak⟩:=wk6 a.b ha.b
 obtain⟨tr,aw,ht,al⟩:=xQ1 a.a ha.a
 have h0:=E7 a.lz (b:=20) dC
 have h1:=E0 a.lz (b:=20) dC
 obtain⟨w,an⟩: ∃w:Nat,a.lz%20=w:=⟨(a.lz%20).toNat,om⟩
 have ae:w<20:=om
 rw[an]at hw
 clear an h0 h1
 obtain⟨r,hr⟩:=eX (oc (a.a%2).toNat)
 have ax:r.length<=20:=by rw[<-hr];exact Wd _
 rw[hr]at ad
 have af:r∈Wk:=by
  have:(a.a%2).toNat=0\/(a.a%2).toNat=1:=om
  rcases this with h|h<;>rw[<-hr,h]<;>decide
 obtain⟨rm,ao⟩:=eX (a.a%2)
 rw[ao]at ah ad
 clear hr ao
 obtain⟨n,hn⟩:=eX (mQ a.b)
 have ay:n.length<=20:=by rw[<-hn];exact Wf _
 rw[hn]at ai
 have aq:n∈II:=by rw[<-hn];exact Wg _
 clear hn
 obtain⟨v,hv⟩:=eX (mQ a.c)
 have az:v.length<=20:=by rw[<-hv];exact Wf _
 rw[hv]at aj
 have ar:v∈II:=by rw[<-hv];exact Wg _
 clear hv ha
 obtain⟨wh,aa,ab,ac⟩:=a
 simp only at hw ah ai aj hg ht
 refine⟨Gx r n g v tr w,wb2 ax ay av az aw w, ?_,r,af,n,aq,g,ak,v,ar,tr,al,w,ae,rfl⟩
 clear af aq ak ar al
 obtain⟨M,hM⟩:=eX (Gx r n g v tr w)
 rw[hM]
 have ret: ∀(x:aiA) (I:St),x=M->cw (some (.str x)) 0 (λr s=>r= .str M/\s= []) I:=λx I h=>by subst h;exact wR
 refine iV 0 func27 ntmps27 results27 λc hc hb=> ?_
 refine zA ?_
 simp[go_sem]
 refine yI [(2,0),(3,0),(6,0),(9,0)] 1 rfl kR kR ?_
 simp[go_sem]
 refine pD ah ?_
 simp[go_sem]
 refine pD ad ?_
 simp[go_sem]
 refine pD ai ?_
 simp[go_sem]
 refine pD hg ?_
 simp[go_sem]
 refine pC aj ?_
 simp[go_sem]
 refine pC hw ?_
 have au:w=0\/w=1\/w=2\/w=3\/w=4\/w=5\/w=6\/w=7\/w=8\/w=9\/w=10\/w=11\/w=12\/w=13\/w=14\/w=15\/w=16\/w=17\/w=18\/w=19:=om
 clear hw ae
 rcases au with rfl|rfl|rfl|rfl|rfl|rfl|rfl|rfl|rfl|rfl|rfl|rfl|rfl|rfl|rfl|rfl|rfl|rfl|rfl|rfl
 all_goals
  simp[go_sem]
  try (refine pC ht ?_;simp[go_sem])
  repeat (refine zH (by first|omega|(simp;omega)) ?_;simp[go_sem])
  exact ret _ _ (by rw[<-hM];simp[Gx])
end Go.Proofs.YtplackkccmeioaaGreat
namespace Go.Proofs.YtplackkccmeioaaGreat
open Go Go.Vx R Go.Proofs.Tryz
set_option maxRecDepth 100000
open Classical in
noncomputable def pB (a:gH):aiA:=if h:a.ok then Classical.choose (Wm a h)else []
theorem Wn {a:gH} (h:a.ok):(pB a).length<=300/\Pure prog 27 [.agg a.row] (.str (pB a))/\Wl (pB a):=by
 unfold pB
 rw[dif_pos h]
 exact Classical.choose_spec (Wm a h)
noncomputable def vC:List gH->Nat->aiA->aiA
 | [],_,s=>s
 |a::l,i,s=>if i<3 then vC l (i+1) ((if 0<i then s++ [59,32]else s)++pB a)else s
theorem Wo: ∀{l:List gH} {i:Nat} {s:aiA},(∀a∈l,a.ok)->i<=3->(vC l i s).length<=s.length+302*(3 - i)
 | [],i,s,_,_=>by rw[vC];omega
 |a::l,i,s,h,hi=>by
  rw[vC]
  split
  .rename_i q
   have ha:=(Wn (h a (Av ..))).1
   refine Ax (Wo (λx hx=>h x (B5 _ hx)) om) ?_
   rw[An]
   have:(if 0<i then s++ [59,32]else s).length<=s.length+2:=by split<;>simp
   omega
  .omega
noncomputable def xy (l:List gH):aiA:=if vC l 0 []= []then [83,69,76,69,67,84,32,42,32,70,82,79,77,32,71]else vC l 0 []
theorem xz4 {l:List gH} (h: ∀a∈l,a.ok):(xy l).length<=2000:=by
 unfold xy
 have:=Wo (s:= []) h (A3 3)
 split
 .decide
 .simp at this;omega
theorem wn5 (l:List gH) (_hl:l.length<=maxLen) (db: ∀a∈l,a.ok):Pure prog 10 [.sl .ro (l.map gH.row),.int .i64 0,.int .i64 0] (.str (xy l)):=by
 obtain⟨M,hM⟩:=eX (xy l)
 rw[hM]
 unfold xy at hM
 obtain⟨T,hT⟩:=eX (vC l 0 [])
 rw[hT]at hM
 have ret: ∀(x:aiA) (I:St),x=M->cw (some (.str x)) 0 (λr s=>r= .str M/\s= []) I:=λx I h=>by subst h;exact wR
 refine iV 0 func10 ntmps10 results10 λc hc hb=> ?_
 refine zA ?_
 simp[go_sem]
 refine zI (S:=Nat×aiA) [0,1,7,8] (λu=> [.sl .ro (l.map gH.row),.int .i64 0,.str u.2,.int .i64 u.1]) (λ_=> []) (λu=>l.length - u.1) (λu=>u.1<=l.length/\u.1<=3/\u.2.length<=302*u.1/\vC (l.drop u.1) u.1 u.2=T) hc hb (0,[]) ⟨A3 _,A3 _,A3 _,hT⟩ ?_ ?_
 .exact aO
 rintro⟨i,s⟩ ⟨hi,af,hs,hinv⟩
 simp only at hi af hs hinv
 by_cases q:i<l.length/\i<3
 rotate_left
 .have ab:s=T:=by
   by_cases q1:i<l.length
   .rw[A5 q1,vC,ai1 om]at hinv
    exact hinv
   .rw[A9 om]at hinv
    exact hinv
  refine zA ?_
  by_cases q1:i<l.length
  .have q3: ¬i<3:=om
   have ad:decide ((i:Int)<3)=false:=ai3 om
   simp[go_sem,q1,ad]
   by_cases q0:s= []
   .have aa:s.isEmpty:=sU q0
    rw[ai2 (by rw[<-ab];exact q0)]at hM
    simp[go_sem,aa]
    exact ret _ _ hM
   .have aa:s.isEmpty=false:=sU q0
    rw[ai1 (by rw[<-ab];exact q0)]at hM
    simp[go_sem,aa]
    exact ret _ _ (by rw[ab];exact hM)
  .simp[go_sem,q1]
   by_cases q0:s= []
   .have aa:s.isEmpty:=sU q0
    rw[ai2 (by rw[<-ab];exact q0)]at hM
    simp[go_sem,aa]
    exact ret _ _ hM
   .have aa:s.isEmpty=false:=sU q0
    rw[ai1 (by rw[<-ab];exact q0)]at hM
    simp[go_sem,aa]
    exact ret _ _ (by rw[ab];exact hM)
 obtain⟨q1,q3⟩:=q
 have ei:=zU q3 om
 have ad:decide ((i:Int)<3)=true:=ai4 om
 obtain⟨a,ha⟩:=eX (l[i])
 obtain⟨ah,ae,_⟩:=Wn (db a (ha▸A8 q1))
 rw[A5 q1,ha,vC,ai2 q3]at hinv
 by_cases q0:0<i
 .have aa:decide (0<(i:Int))=true:=ai4 om
  rw[ai2 q0]at hinv
  refine zA ?_
  simp[go_sem,q1,ad,q0]
  refine zH (by first|omega|(simp;omega)) ?_
  simp[go_sem,q1,ha]
  refine pC ae ?_
  simp[go_sem]
  refine zH (by first|omega|(simp;omega)) ?_
  simp[go_sem,ei]
  exact zJ (i+1,s++ [59,32]++pB a) ⟨by show l.length - (i+1)<l.length - i;omega,⟨q1,q3,by simp;omega,hinv⟩,aO⟩
 .have aa:decide (0<(i:Int))=false:=ai3 om
  rw[ai1 q0]at hinv
  refine zA ?_
  simp[go_sem,q1,ad,q0]
  simp[go_sem,ha]
  refine pC ae ?_
  simp[go_sem]
  refine zH (by first|omega|(simp;omega)) ?_
  simp[go_sem,ei]
  exact zJ (i+1,s++pB a) ⟨by show l.length - (i+1)<l.length - i;omega,⟨q1,q3,by simp;omega,hinv⟩,aO⟩
end Go.Proofs.YtplackkccmeioaaGreat
namespace Go.Proofs.YtplackkccmeioaaGreat
open Go Go.Vx R Go.Proofs.Tryz
set_option maxRecDepth 100000
section
variable {c:Pl->Bool}
end
theorem xJ8 {r:Int} {x:ca} {uJ:US}: ∀y∈l9 r x uJ,y.1=r\/ ∃z∈uJ,y.1=z.1:=λy hy=>by
 unfold l9 at hy
 split at hy
 .exact .inr ⟨y,hy,rfl⟩
 unfold ja at hy
 split at hy
 .obtain⟨i,hi⟩:=Ar.1 hy
  rw[List.getElem?_modify]at hi
  cases e:uJ[i]? with
  |none=>rw[e]at hi;cases hi
  |some z=>
   rw[e]at hi
   refine .inr ⟨z,Bk e, ?_⟩
   simp only[Option.map_eq_map,Ba,ai5]at hi
   rw[<-hi]
   split<;>rfl
 .rcases Ak.1 hy with hy|hy
  .exact .inr ⟨y,B4 hy,rfl⟩
  .rcases Ae.1 hy with rfl|hy
   .exact .inl rfl
   .exact .inr ⟨y,Bx hy,rfl⟩
theorem Wp: ∀{ps:List (Int×ca)} {uJ:US},∀y∈nX ps uJ,(∃p∈ps,y.1=p.1)\/ ∃z∈uJ,y.1=z.1
 | [],uJ,y,hy=> .inr ⟨y,hy,rfl⟩
 |p::ps,uJ,y,hy=>by
  rcases Wp (ps:=ps) (uJ:=l9 p.1 p.2 uJ) y hy with ⟨q,hq,e⟩|⟨z,hz,e⟩
  .exact .inl ⟨q,B5 _ hq,e⟩
  .rcases xJ8 z hz with h|⟨w,hw,h⟩
   .exact .inl ⟨p,Av ..,by rw[e,h]⟩
   .exact .inr ⟨w,hw,by rw[e,h]⟩
theorem Wq (t g:Int):0<=(xF t g).1/\(xF t g).1<4:=by
 unfold xF
 repeat' split
 all_goals decide
theorem wb3 {st:bW}: ∀p∈p0 st,0<=p.1/\p.1<4:=λp hp=>by
 unfold p0 at hp
 split at hp
 .cases hp
 split at hp
 .obtain⟨r,_,hp⟩:=List.mem_flatMap.1 hp
  unfold pn at hp
  split at hp
  .cases hp
  split at hp
  .cases hp
  split at hp
  .cases hp
  split at hp
  .cases hp
  split at hp
  .cases hp
  .rw[B7.1 hp];exact Wq _ _
 .obtain⟨g,_,rfl⟩:=Ab.1 hp
  exact Wq _ _
theorem Pv (cR:dZ): ∀y∈lJ cR,0<=y.1/\y.1<4:=λy hy=>by
 have hU:lJ cR=nX (cR.stmts.flatMap p0) []:=Io cR.stmts []
 rw[hU]at hy
 rcases Wp y hy with ⟨p,hp,e⟩|⟨z,hz,_⟩
 .obtain⟨st,_,hp⟩:=List.mem_flatMap.1 hp
  rw[e];exact wb3 p hp
 .cases hz
theorem Ws: ∀{ps:List (Int×ca)} {uJ:US} {n:Nat},Bd n uJ->Bd (n+ps.length) (nX ps uJ)
 | [],_,_,h=>h
 |p::ps,uJ,n,h=>by
  have:=Ws (ps:=ps) (h.ez p.1 p.2)
  rw[Af,show n+(ps.length+1)=n+1+ps.length by omega]
  exact this
theorem LH {U J:Type} {f:U->List J} {n:Nat}: ∀{l:List U},(∀x∈l,(f x).length<=n)->(l.flatMap f).length<=n*l.length
 | [],_=>by simp
 |x::l,h=>by
  have h1:=h x (Av ..)
  have h2:=LH (l:=l) λy hy=>h y (B5 _ hy)
  rw[Bw,An,Af,Nat.mul_add]
  omega
theorem wb4 {st:bW} (hs:k6 st):(p0 st).length<=20:=by
 unfold p0
 split
 .simp
 split
 .refine Ax (LH (n:=1) λr _=> ?_) (by have:=hs.rows.1;omega)
  unfold pn
  repeat' split
  all_goals simp
 .rw[Ai]
  unfold wA
  repeat' split
  .exact Ax (Ou _ _) dC
  all_goals simp
theorem Wt {cR:dZ} (hl:k7 cR): ∀y∈lJ cR,y.2.length<=1000:=λy hy=>by
 have hU:lJ cR=nX (cR.stmts.flatMap p0) []:=Io cR.stmts []
 have h1:=LH (n:=20) (l:=cR.stmts) (f:=p0) λst aa=>wb4 (hl.stmts.2 st aa)
 have h2:=(Ws (ps:=cR.stmts.flatMap p0) (uJ:= []) (n:=0) ⟨A3 _,λy hy=>by cases hy⟩).2 y (by rw[<-hU];exact hy)
 have:=hl.stmts.1
 omega
structure og (Q:List (Int×List Wr)):Prop where
 dw: ∀q∈Q,0<=q.1/\q.1<=3/\q.2≠ []
 up:Q.Pairwise λa b=>a.1<b.1
 keys: ∀q∈Q,q.2.Pairwise λa b=>Op.bytesLess a.p.2 b.p.2=true
 wr: ∀q∈Q,∀w∈q.2,(w.drop=true->w.data= [])/\(w.drop=false->ma q.1 w.p.2 w.data=true)
theorem LI (l:List Wr) (r:Int):(gU l r).Pairwise λa b=>a.1<b.1:=by
 unfold gU;split<;>simp
theorem Wu {l:List Wr} {r:Int} {q:Int×List Wr} (h:q∈gU l r):q=(r,l.filter λw=>w.p.1==r)/\q.2≠ []:=by
 unfold gU at h
 split at h
 .cases h
 .rename_i e
  simp at h
  subst h
  exact⟨rfl,e⟩
theorem xV9 (l:List Wr):(gU l 0++(gU l 1++(gU l 2++gU l 3))).Pairwise λa b=>a.1<b.1:=by
 simp only[Br,Ak]
 refine⟨LI ..,⟨LI ..,⟨LI ..,LI ..,λa ha b hb=> ?_⟩,λa ha b hb=> ?_⟩,λa ha b hb=> ?_⟩
 .rw[vw a ha,vw b hb];decide
 .rw[vw a ha]
  rcases hb with hb|hb<;>rw[vw b hb]<;>decide
 .rw[vw a ha]
  rcases hb with hb|hb|hb<;>rw[vw b hb]<;>decide
theorem jc {cR:dZ} (hl:k7 cR) {b:Mp aiA} {aa:List Ln} (hn:cM b aa) (hk:oD aa):og (oE cR aa):=by
 unfold oE
 by_cases e:(fD cR aa).1.1≠0
 .rw[ai2 e]
  exact⟨λq h=>(by cases h),List.Pairwise.nil,λq h=>(by cases h),λq h=>(by cases h)⟩
 rw[ai1 e]
 obtain⟨⟨b',ab⟩,af,_⟩:=Pt hl hn hk (sU e)
 obtain⟨now,hN⟩:=eX ((fD cR aa).2)
 rw[hN]at ab af⊢
 have ah:=V6 hn.rows ab.rows hn.je ab.je rfl
 obtain⟨hr,ai⟩:=Lw hn.je ab.je
 obtain⟨W,hW⟩:=eX (jd aa now)
 rw[hW]at ah hr ai⊢
 rw[Vp hr ah]
 have ad: ∀q∈gU W 0++(gU W 1++(gU W 2++gU W 3)),∃r:Int,0<=r/\r<=3/\q=(r,W.filter λw=>w.p.1==r)/\q.2≠ []:=λq hq=>by
  simp only[Ak]at hq
  rcases hq with h|h|h|h<;>exact⟨_,dC,dC,Wu h⟩
 refine⟨λq hq=> ?_,xV9 W,λq hq=> ?_,λq hq w hw=> ?_⟩
 .obtain⟨r,h0,h3,rfl,ae⟩:=ad q hq
  exact⟨h0,h3,ae⟩
 .obtain⟨r,h0,h3,rfl,ae⟩:=ad q hq
  refine(List.Pairwise.and_mem.1 (List.Pairwise.sublist C2 hr)).imp fun{x y} h=> ?_
  obtain⟨hx,hy,aj⟩:=h
  have e1:x.p.1=r:=by simpa using (Bn.1 hx).2
  have e2:y.p.1=r:=by simpa using (Bn.1 hy).2
  simpa[xY,e1,e2]using aj
 .obtain⟨r,h0,h3,rfl,ae⟩:=ad q hq
  obtain⟨ak,al⟩:=Bn.1 hw
  have e1:w.p.1=r:=sU al
  rcases(ai w).1 ak with ⟨g1,g2,_⟩|⟨g1,x,hx,g2,g3,_⟩
  .exact⟨λ_=>g2,λh=>by rw[g1]at h;cases h⟩
  .refine⟨λh=>(by rw[g1]at h;cases h),λ_=> ?_⟩
   have:=(af x hx).2
   unfold xt at this
   show ma r w.p.2 w.data=true
   rw[<-g3,<-e1,<-g2]
   exact this
theorem yP6 {g:Int} {k d:aiA} (h:ma g k d):(fC g).2.2=0/\(ee bO (fC g).1 d).2=0/\fo (fC g).1.toNat (bO.getD (fC g).1.toNat eQ) (ee bO (fC g).1 d).1=(g,k,0):=by
 unfold ma at h
 simpa only[Ac,ai7]using h
end Go.Proofs.YtplackkccmeioaaGreat
namespace Go.Proofs.YtplackkccmeioaaGreat
open Go Go.Vx Go.Proofs.Tryz
set_option maxRecDepth 100000
def Gy (x:fq):Bool:=decide (x.node<1)||(decide (9<x.node)||(decide (x.attempt<0)||(decide (15<x.attempt)||(decide (x.eZ<0)||(decide (1048575<x.eZ)||(decide (x.seq<0)||decide (16777215<x.seq)))))))
def lR (x:fq):Int:=if Gy x=true then 0 else jo .or .i64 (jo .or .i64 (jo .or .i64 (IntKind.i64.wrap (x.node*281474976710656)) (IntKind.i64.wrap (x.eZ*268435456))) (IntKind.i64.wrap (x.seq*16))) x.attempt
theorem wp3 (x:fq):Pure prog 61 [.int .i64 x.node,.int .i64 x.eZ,.int .i64 x.seq,.int .i64 x.attempt] (.cz [.int .i64 (lR x),.int .i64 (if Gy x=true then 1 else 0)]):=by
 obtain⟨M,hM⟩: ∃M:Int×Int,(lR x,if Gy x=true then(1:Int)else 0)=M:=⟨_,rfl⟩
 have aa:lR x=M.1:=ai6 Prod.fst hM
 have ab:(if Gy x=true then(1:Int)else 0)=M.2:=ai6 Prod.snd hM
 rw[aa,ab]
 clear aa ab
 unfold lR Gy at hM
 have ret: ∀(r q:Int) (I:St),(r,q)=M->cw (some (.cz [.int .i64 r,.int .i64 q])) 0 (λr s=>r= .cz [.int .i64 M.1,.int .i64 M.2]/\s= []) I:=λr q I h=>by subst h;exact wR
 obtain⟨a,b,c,d⟩:=x
 simp only at hM
 refine iW 0 func61 ntmps61 results61 λc hc hb=>zM ?_
 simp[go_sem]
 repeat' (first
  |(refine xD (λq=> ?_) (λq=> ?_)<;>simp[go_sem,q])
  |(refine zV (λq=> ?_) (λq=> ?_)<;>simp[go_sem,q]))
 all_goals exact ret _ _ _ (by rw[<-hM];clear hM ret;first|(simp[*];done)|(simp;omega))
end Go.Proofs.YtplackkccmeioaaGreat
namespace Go.Vx
open Go
theorem Pw (pick:aiB) {n0:Nat} {R:V->St->Prop} {I s:St} {v r:V} (ad:pick.Nodup) (hn:n0=0) (aa:bP (λo j=>I[j]? =some (yA (cK pick I.length) o)) s pick) (hr:cP (cK pick I.length) r v) (hR:R r s):cw (some v) n0 R I:=by
 subst hn
 refine⟨v,rfl,v,I,pick,s,r,.refl _ _,⟨aa.length,ad,λi j o hi ho=> ?_,λi h=>absurd h (Nat.not_lt_zero i)⟩,hr,hR⟩
 obtain⟨j',ab,hr⟩:=aa.get i o ho
 rw[hi]at ab
 cases ab
 exact hr
theorem xz {N i:Nat}:cK [] N i=N+i:=by simp[cK]
end Go.Vx
namespace Go.Proofs.YtplackkccmeioaaGreat
open Go Go.Vx R Go.Proofs.Tryz
set_option maxRecDepth 100000
variable {ρ:Nat->Nat}{g:Tag}
abbrev LJ:=Int×Int×List Ot
@[go_sem] def pE (x:LJ):List V:= [.int .i64 x.1,.int .i64 x.2.1,.sl .ro (x.2.2.map Ot.row)]
structure Tx where
 id:fq
 cR:dZ
 phase:Int
 at_:fJ
 bump:Int
 home:Int
 bV:List cp
 jz:LJ
@[go_sem] def Tx.row (t:Tx):List V:= [.int .i64 t.id.node,.int .i64 t.id.eZ,.int .i64 t.id.seq,.int .i64 t.id.attempt,.int .i64 t.cR.mode,.int .i64 t.cR.n,.sl .ro (t.cR.stmts.map bW.row),.int .i64 t.phase,.int .i64 t.at_.wall,.int .i64 t.at_.tie,.int .i64 t.bump,.int .i64 t.home,.sl .ro (t.bV.map cp.row),.int .i64 t.jz.1,.int .i64 t.jz.2.1,.sl .ro (t.jz.2.2.map Ot.row)]
@[go_sem] def Tx.eH (t:Tx) (v:V):List V:= [.int .i64 t.id.node,.int .i64 t.id.eZ,.int .i64 t.id.seq,.int .i64 t.id.attempt,.int .i64 t.cR.mode,.int .i64 t.cR.n,.sl .ro (t.cR.stmts.map bW.row),.int .i64 t.phase,.int .i64 t.at_.wall,.int .i64 t.at_.tie,.int .i64 t.bump,.int .i64 t.home,v,.int .i64 t.jz.1,.int .i64 t.jz.2.1,.sl .ro (t.jz.2.2.map Ot.row)]
@[go_sem] def zT:fq:=⟨0,0,0,0⟩
@[go_sem] def zS:fJ:=⟨0,0⟩
def mx (a b:Int):Int:=if a<b then b else a
def mn (a b:Int):Int:=if b<a then b else a
theorem Wv (t:Tx) {rows:List (List V)} (h:t.bV.map cp.row=rows):cP ρ (.agg t.row) (.agg (t.eH (.sl g rows))):=by
 subst h
 unfold Tx.row Tx.eH
 exact wN ⟨zF rfl,zF rfl,zF rfl,zF rfl,zF rfl,zF rfl,zX,zF rfl,zF rfl,zF rfl,zF rfl,zF rfl,zX,zF rfl,zF rfl,zX,tV⟩
theorem wc3 (t:Tx) {rows:List (List V)}:cP ρ (.agg (t.eH (.sl .ro rows))) (.agg (t.eH (.sl g rows))):=by
 unfold Tx.eH
 exact wN ⟨zF rfl,zF rfl,zF rfl,zF rfl,zF rfl,zF rfl,zX,zF rfl,zF rfl,zF rfl,zF rfl,zF rfl,zX,zF rfl,zF rfl,zX,tV⟩
def x5 (a:cT) (v w:V):List V:= [.int .i64 a.range,.int .i64 a.cmd.kind,.int .i64 a.cmd.fi,.int .i64 a.cmd.node,.int .i64 a.cmd.home,.int .i64 a.cmd.dN.node,.int .i64 a.cmd.dN.eZ,.int .i64 a.cmd.dN.seq,.int .i64 a.cmd.dN.attempt,.int .i64 a.cmd.at_.wall,.int .i64 a.cmd.at_.tie,.int .i64 a.cmd.wall,.bool a.cmd.yes,v,w]
theorem Ww (a:cT) {k:Tag}:cP ρ (.agg a.row) (.agg (x5 a (.sl g (a.cmd.cI.map ca.row)) (.sl k (a.cmd.writes.map dK.row)))):=by
 unfold cT.row x5
 exact wN ⟨zF rfl,zF rfl,zF rfl,zF rfl,zF rfl,zF rfl,zF rfl,zF rfl,zF rfl,zF rfl,zF rfl,zF rfl,zF rfl,zX,zX,tV⟩
theorem IJ (a:cT) {k:Tag}:nj ρ (.agg a.row) (.agg (x5 a (.sl g (a.cmd.cI.map ca.row)) (.sl k (a.cmd.writes.map dK.row)))):=by
 unfold cT.row x5
 exact wX ⟨zF rfl,zF rfl,zF rfl,zF rfl,zF rfl,zF rfl,zF rfl,zF rfl,zF rfl,zF rfl,zF rfl,zF rfl,zF rfl,zX,zX,tV⟩
def rG (t:Tx):Tx:={t with phase:=4,at_:=zS,bV:= []}
def wG (w:Wr):dK:=⟨w.p.2,w.drop,w.data⟩
def p9 (n:Int×List ca):cp:=⟨n.1,1,0,n.2,[],[],zT,false⟩
def rH (p:Int×List Wr):cp:=⟨p.1,2,0,[],p.2.map wG,[],zT,false⟩
@[go_sem] def Px:iy:=⟨0,0,0,0,zT,zS,0,false,[],[]⟩
def lS (g:Int) (dN:fq) (yes:Bool):cT:=⟨g,⟨5,0,0,0,dN,zS,0,yes,[],[]⟩⟩
def Gz (t:Tx) (yes:Bool):List cT:=t.bV.map λx=>lS x.range t.id yes
def gC (t:Tx) (l:cp):Option cT:=
 if l.state=1 then some ⟨l.range,⟨2,0,0,0,t.id,t.at_,0,false,l.cI,[]⟩⟩
 else if l.state=2 then some ⟨l.range,⟨3,0,0,t.home,t.id,t.at_,0,false,[],l.writes⟩⟩
 else if l.state=3 then some ⟨l.home,⟨4,0,0,0,l.dN,zS,0,false,[],[]⟩⟩
 else if l.state=4 then some (lS l.range l.dN l.yes)
 else none
def Py (t:Tx):cT:=⟨t.home,⟨4,0,0,0,t.id,t.at_,0,true,[],[]⟩⟩
def ji (t:Tx):List cT:=if t.phase=1\/t.phase=2 then t.bV.filterMap (gC t)else if t.phase=3 then [Py t]else []
def x6 (w n:Int):Int:=mn w (4611686018427387904 - n)+n
def gL (phase:Int) (l:cp) (r:dR):cp×Int×Bool×Bool:=
 if l.state=3/\r.err=0 then({l with state:=4,yes:=r.yes},0,false,false)
 else if l.state=4/\r.err=0 then({l with state:=if phase=2 then 2 else 1,dN:=zT,home:=0,yes:=false},0,false,false)
 else if l.state=3\/l.state=4 then(l,0,false,false)
 else if r.err=20 then({l with state:=3,dN:=r.dN,home:=r.home},0,false,false)
 else if r.err=0 then({l with state:=5,dO:=if l.state=1 then r.dO else l.dO},0,false,false)
 else if l.state=1/\r.err=24 then(l,x6 r.wall 1,true,false)
 else if l.state=1 then(l,0,false,true)
 else if r.err=21 then(l,x6 r.wall 24,true,false)
 else if r.err=22 then(l,x6 r.at_.wall 1,true,false)
 else if r.err=26 then(l,0,true,false)
 else(l,0,false,false)
inductive uv where
 |done (bV:List cp)
 |wait
 |again (bV:List cp) (bump:Int)
def mc (t:Tx) (a:cT) (r:dR):List cp->List cp->uv
 |acc,[]=> .done acc
 |acc,l::ls=>
  if gC t l=some a then
   if(gL t.phase l r).2.2.1=true then .again (acc++(gL t.phase l r).1::ls) (gL t.phase l r).2.1
   else if(gL t.phase l r).2.2.2=true then .wait
   else mc t a r (acc++ [(gL t.phase l r).1]) ls
  else mc t a r (acc++ [l]) ls
def mR (a:cT):cT:={a with cmd:={a.cmd with fi:=0}}
section
variable (ag:Tx->Int->Int->Tx×List cT) (ru:Tx->Tx)
def uw (t:Tx) (bV:List cp):Tx:=
 if bV.any (λl=>l.state !=5)=true then{t with bV:=bV}
 else if t.phase=1 then ru {t with bV:=bV}else{t with bV:=bV,phase:=3}
def IK (t:Tx) (r:dR) (bS:Int):uv->Tx×List cT
 | .again bV b=>ag {t with bV:=bV} b bS
 | .wait=>(rG {t with jz:=(r.err,0,[])},[])
 | .done bV=>(uw ru t bV,[])
def ED (t:Tx) (a:cT) (r:dR) (bS:Int):Tx×List cT:=
 if ¬((ji t).any λy=>decide (y=mR a))=true\/r.err=25\/r.err=27 then(t,[])
 else if t.phase=3 then
  if r.err≠0 then(t,[])else if r.yes=true then({t with phase:=4},Gz t true)else ag t 0 bS
 else IK ag ru t r bS (mc t (mR a) r [] t.bV)
end
structure jY (l:cp):Prop where
 range:0<=l.range/\l.range<1000
 cI:l.cI.length<=100000
 writes:l.writes.length<=100000
 dO:l.dO.length<=1000/\ ∀p∈l.dO,p.data.length<=cH
structure jm (t:Tx):Prop where
 cR:k7 t.cR
 pG:0<=t.id.attempt/\t.id.attempt<=10
 bV:t.bV.length<=4
 ko: ∀l∈t.bV,jY l
 outs:t.jz.2.2.length<=100000/\ ∀x∈t.jz.2.2,x.rows.length<=100000/\ ∀r∈x.rows,r.length<=100000
end Go.Proofs.YtplackkccmeioaaGreat
namespace Go.Proofs.YtplackkccmeioaaGreat
open Go Go.Vx R Go.Proofs.Tryz
set_option maxRecDepth 100000
def kC (l:cp):Vw:=(l.range.toNat,l.dO.map λp=>(p.key,p.data))
def oF (t:Tx):Tx:=
 match oE t.cR (lf (t.bV.map kC))with
 | []=>{t with jz:=(fD t.cR (lf (t.bV.map kC))).1,bV:= [],phase:=4}
 |p::l=>{t with jz:=(fD t.cR (lf (t.bV.map kC))).1,phase:=2,home:=p.1,bV:=(p::l).map rH}
def BE (t:Tx) (bS:Int):Tx:={t with at_:=⟨mx bS t.bump,lR t.id⟩,phase:=1,home:=0,jz:=(0,0,[]),bV:=(lJ t.cR).map p9}
def pH (t:Tx) (bS:Int):Tx:=if lJ t.cR= []then oF (BE t bS)else BE t bS
def BF (t:Tx) (bump bS:Int):Tx×List cT:=
 (if 10<=t.id.attempt+1 then rG {t with bump:=mx t.bump bump,id:={t.id with attempt:=t.id.attempt+1},jz:=(28,0,[])}
  else pH {t with bump:=mx t.bump bump,id:={t.id with attempt:=t.id.attempt+1}} bS,
  if t.phase=1 then []else Gz t false)
def sv:=ED BF oF
def oh (id:fq) (l:dZ) (bS:Int):Tx:=
 if l.mode≠0 then⟨{id with attempt:=0},l,4,zS,0,0,[],(1,0,[])⟩
 else if(oy l).2≠0 then⟨{id with attempt:=0},l,4,zS,0,0,[],(fD l []).1⟩
 else pH ⟨{id with attempt:=0},l,0,zS,0,0,[],(0,0,[])⟩ bS
end Go.Proofs.YtplackkccmeioaaGreat
namespace Go.Proofs.YtplackkccmeioaaGreat
open Go Go.Vx Go.Proofs.Tryz
set_option maxRecDepth 100000
theorem Wx (fn:FuncId) (aa:xE prog fn) (rows:List (List V)) (hl:rows.length<=100000) (hu:eK 6 rows) (ab: ∀r∈rows,gM (.agg r)=true/\oi (.agg r)=true/\r.map kZ=r) (hx: ∀r∈rows,Pure prog fn [.agg r] (.agg r)):
  Pure prog 53 [.sl .ro rows,.fn fn []] (.sl .ro rows):=by
 refine iV 0 func53 ntmps53 results53 λc hc hb=> ?_
 refine zA ?_
 simp[go_sem]
 refine l7 5 6 dC sg ?_
 refine zI (S:=Nat×List (List V)) [1,5,8,9,10] (λu=> [.fn fn [],.sl (.app 0) u.2,.sl .ro rows,.int .i64 rows.length,.int .i64 u.1]) (λu=> [.app u.2.length 6]) (λu=>rows.length - u.1) (λu=>u.1<=rows.length/\u.2=rows.take u.1) hc hb (0,[]) ⟨A3 _,sm⟩ ?_ ?_
 .exact aN 1 rfl
 rintro⟨i,out⟩ ⟨hi,ho⟩
 simp only at hi ho
 have ai:out.length=i:=by rw[ho,B0];omega
 by_cases q:i<rows.length
 rotate_left
 .have h2:out=rows:=by rw[ho];exact Aa om
  refine zA ?_
  simp[go_sem,q]
  exact zW (by rw[h2];exact zK) ⟨rfl,rfl⟩
 have ei:=zU q om
 obtain⟨r,hy⟩: ∃y,rows[i]=y:=⟨_,rfl⟩
 have hr:r∈rows:=hy▸A8 q
 have hw:=hu r hr
 have hn:=ab r hr
 have ad:=hx r hr
 have ae:out++ [r]=rows.take (i+1):=by rw[ho,Ag q,hy]
 obtain⟨hn,af,ah⟩:=hn
 have ht:r.take 6=r:=Aa om
 refine zA ?_
 simp[go_sem,q,hy,hw,ht]
 refine zL ad aa ⟨zC hn,tV⟩ hn ?_
 simp[go_sem]
 refine zH ⟨by simpa[go_sem]using af,hw⟩ ?_
 simp[go_sem,ah]
 refine zH ⟨om,zY hw⟩ ?_
 simp[go_sem,ei]
 exact zJ (i+1,out++ [r]) ⟨by show rows.length - (i+1)<rows.length - i;omega,⟨q,ae⟩,aN 1 rfl⟩
theorem yZ6 (fn:FuncId) (aa:xE prog fn) (rows:List (List V)) (hl:rows.length<=100000) (hu:eK 15 rows) (ab: ∀r∈rows,gM (.agg r)=true/\oi (.agg r)=true/\r.map kZ=r) (hx: ∀r∈rows,Pure prog fn [.agg r] (.agg r)):
  Pure prog 46 [.sl .ro rows,.fn fn []] (.sl .ro rows):=by
 refine iV 0 func46 ntmps46 results46 λc hc hb=> ?_
 refine zA ?_
 simp[go_sem]
 refine l7 5 15 dC sg ?_
 refine zI (S:=Nat×List (List V)) [1,5,8,9,10] (λu=> [.fn fn [],.sl (.app 0) u.2,.sl .ro rows,.int .i64 rows.length,.int .i64 u.1]) (λu=> [.app u.2.length 15]) (λu=>rows.length - u.1) (λu=>u.1<=rows.length/\u.2=rows.take u.1) hc hb (0,[]) ⟨A3 _,sm⟩ ?_ ?_
 .exact aN 1 rfl
 rintro⟨i,out⟩ ⟨hi,ho⟩
 simp only at hi ho
 have ai:out.length=i:=by rw[ho,B0];omega
 by_cases q:i<rows.length
 rotate_left
 .have h2:out=rows:=by rw[ho];exact Aa om
  refine zA ?_
  simp[go_sem,q]
  exact zW (by rw[h2];exact zK) ⟨rfl,rfl⟩
 have ei:=zU q om
 obtain⟨r,hy⟩: ∃y,rows[i]=y:=⟨_,rfl⟩
 have hr:r∈rows:=hy▸A8 q
 have hw:=hu r hr
 have hn:=ab r hr
 have ad:=hx r hr
 have ae:out++ [r]=rows.take (i+1):=by rw[ho,Ag q,hy]
 obtain⟨hn,af,ah⟩:=hn
 have ht:r.take 15=r:=Aa om
 refine zA ?_
 simp[go_sem,q,hy,hw,ht]
 refine zL ad aa ⟨zC hn,tV⟩ hn ?_
 simp[go_sem]
 refine zH ⟨by simpa[go_sem]using af,hw⟩ ?_
 simp[go_sem,ah]
 refine zH ⟨om,zY hw⟩ ?_
 simp[go_sem,ei]
 exact zJ (i+1,out++ [r]) ⟨by show rows.length - (i+1)<rows.length - i;omega,⟨q,ae⟩,aN 1 rfl⟩
theorem yZ5 (fn:FuncId) (aa:xE prog fn) (rows:List (List V)) (hl:rows.length<=100000) (hu:eK 7 rows) (ab: ∀r∈rows,gM (.agg r)=true/\oi (.agg r)=true/\r.map kZ=r) (hx: ∀r∈rows,Pure prog fn [.agg r] (.agg r)):
  Pure prog 48 [.sl .ro rows,.fn fn []] (.sl .ro rows):=by
 refine iV 0 func48 ntmps48 results48 λc hc hb=> ?_
 refine zA ?_
 simp[go_sem]
 refine l7 5 7 dC sg ?_
 refine zI (S:=Nat×List (List V)) [1,5,8,9,10] (λu=> [.fn fn [],.sl (.app 0) u.2,.sl .ro rows,.int .i64 rows.length,.int .i64 u.1]) (λu=> [.app u.2.length 7]) (λu=>rows.length - u.1) (λu=>u.1<=rows.length/\u.2=rows.take u.1) hc hb (0,[]) ⟨A3 _,sm⟩ ?_ ?_
 .exact aN 1 rfl
 rintro⟨i,out⟩ ⟨hi,ho⟩
 simp only at hi ho
 have ai:out.length=i:=by rw[ho,B0];omega
 by_cases q:i<rows.length
 rotate_left
 .have h2:out=rows:=by rw[ho];exact Aa om
  refine zA ?_
  simp[go_sem,q]
  exact zW (by rw[h2];exact zK) ⟨rfl,rfl⟩
 have ei:=zU q om
 obtain⟨r,hy⟩: ∃y,rows[i]=y:=⟨_,rfl⟩
 have hr:r∈rows:=hy▸A8 q
 have hw:=hu r hr
 have hn:=ab r hr
 have ad:=hx r hr
 have ae:out++ [r]=rows.take (i+1):=by rw[ho,Ag q,hy]
 obtain⟨hn,af,ah⟩:=hn
 have ht:r.take 7=r:=Aa om
 refine zA ?_
 simp[go_sem,q,hy,hw,ht]
 refine zL ad aa ⟨zC hn,tV⟩ hn ?_
 simp[go_sem]
 refine zH ⟨by simpa[go_sem]using af,hw⟩ ?_
 simp[go_sem,ah]
 refine zH ⟨om,zY hw⟩ ?_
 simp[go_sem,ei]
 exact zJ (i+1,out++ [r]) ⟨by show rows.length - (i+1)<rows.length - i;omega,⟨q,ae⟩,aN 1 rfl⟩
theorem yZ4 (fn:FuncId) (aa:xE prog fn) (rows:List (List V)) (hl:rows.length<=100000) (hu:eK 7 rows) (ab: ∀r∈rows,gM (.agg r)=true/\oi (.agg r)=true/\r.map kZ=r) (hx: ∀r∈rows,Pure prog fn [.agg r] (.agg r)):
  Pure prog 54 [.sl .ro rows,.fn fn []] (.sl .ro rows):=by
 refine iV 0 func54 ntmps54 results54 λc hc hb=> ?_
 refine zA ?_
 simp[go_sem]
 refine l7 5 7 dC sg ?_
 refine zI (S:=Nat×List (List V)) [1,5,8,9,10] (λu=> [.fn fn [],.sl (.app 0) u.2,.sl .ro rows,.int .i64 rows.length,.int .i64 u.1]) (λu=> [.app u.2.length 7]) (λu=>rows.length - u.1) (λu=>u.1<=rows.length/\u.2=rows.take u.1) hc hb (0,[]) ⟨A3 _,sm⟩ ?_ ?_
 .exact aN 1 rfl
 rintro⟨i,out⟩ ⟨hi,ho⟩
 simp only at hi ho
 have ai:out.length=i:=by rw[ho,B0];omega
 by_cases q:i<rows.length
 rotate_left
 .have h2:out=rows:=by rw[ho];exact Aa om
  refine zA ?_
  simp[go_sem,q]
  exact zW (by rw[h2];exact zK) ⟨rfl,rfl⟩
 have ei:=zU q om
 obtain⟨r,hy⟩: ∃y,rows[i]=y:=⟨_,rfl⟩
 have hr:r∈rows:=hy▸A8 q
 have hw:=hu r hr
 have hn:=ab r hr
 have ad:=hx r hr
 have ae:out++ [r]=rows.take (i+1):=by rw[ho,Ag q,hy]
 obtain⟨hn,af,ah⟩:=hn
 have ht:r.take 7=r:=Aa om
 refine zA ?_
 simp[go_sem,q,hy,hw,ht]
 refine zL ad aa ⟨zC hn,tV⟩ hn ?_
 simp[go_sem]
 refine zH ⟨by simpa[go_sem]using af,hw⟩ ?_
 simp[go_sem,ah]
 refine zH ⟨om,zY hw⟩ ?_
 simp[go_sem,ei]
 exact zJ (i+1,out++ [r]) ⟨by show rows.length - (i+1)<rows.length - i;omega,⟨q,ae⟩,aN 1 rfl⟩
theorem xt3 (fn:FuncId) (aa:xE prog fn) (rows:List (List V)) (hl:rows.length<=100000) (hu:eK 2 rows) (ab: ∀r∈rows,gM (.agg r)=true/\oi (.agg r)=true/\r.map kZ=r) (hx: ∀r∈rows,Pure prog fn [.agg r] (.agg r)):
  Pure prog 92 [.sl .ro rows,.fn fn []] (.sl .ro rows):=by
 refine iV 0 func92 ntmps92 results92 λc hc hb=> ?_
 refine zA ?_
 simp[go_sem]
 refine l7 5 2 dC sg ?_
 refine zI (S:=Nat×List (List V)) [1,5,8,9,10] (λu=> [.fn fn [],.sl (.app 0) u.2,.sl .ro rows,.int .i64 rows.length,.int .i64 u.1]) (λu=> [.app u.2.length 2]) (λu=>rows.length - u.1) (λu=>u.1<=rows.length/\u.2=rows.take u.1) hc hb (0,[]) ⟨A3 _,sm⟩ ?_ ?_
 .exact aN 1 rfl
 rintro⟨i,out⟩ ⟨hi,ho⟩
 simp only at hi ho
 have ai:out.length=i:=by rw[ho,B0];omega
 by_cases q:i<rows.length
 rotate_left
 .have h2:out=rows:=by rw[ho];exact Aa om
  refine zA ?_
  simp[go_sem,q]
  exact zW (by rw[h2];exact zK) ⟨rfl,rfl⟩
 have ei:=zU q om
 obtain⟨r,hy⟩: ∃y,rows[i]=y:=⟨_,rfl⟩
 have hr:r∈rows:=hy▸A8 q
 have hw:=hu r hr
 have hn:=ab r hr
 have ad:=hx r hr
 have ae:out++ [r]=rows.take (i+1):=by rw[ho,Ag q,hy]
 obtain⟨hn,af,ah⟩:=hn
 have ht:r.take 2=r:=Aa om
 refine zA ?_
 simp[go_sem,q,hy,hw,ht]
 refine zL ad aa ⟨zC hn,tV⟩ hn ?_
 simp[go_sem]
 refine zH ⟨by simpa[go_sem]using af,hw⟩ ?_
 simp[go_sem,ah]
 refine zH ⟨om,zY hw⟩ ?_
 simp[go_sem,ei]
 exact zJ (i+1,out++ [r]) ⟨by show rows.length - (i+1)<rows.length - i;omega,⟨q,ae⟩,aN 1 rfl⟩
theorem yN3 (fn:FuncId) (ab:xE prog fn) (rows:List (List V)) (hl:rows.length<=100000) (hu:eK 1 rows) (ad: ∀r∈rows,∃q,r= [.sl .ro q]) (hx: ∀r∈rows,Pure prog fn [r.getD 0 (.int .i64 0)] (r.getD 0 (.int .i64 0))):
  Pure prog 51 [.sl .ro rows,.fn fn []] (.sl .ro rows):=by
 refine iV 0 func51 ntmps51 results51 λc hc hb=> ?_
 refine zA ?_
 simp[go_sem]
 refine l7 5 1 dC sg ?_
 refine zI (S:=Nat×List (List V)) [1,5,8,9,10] (λu=> [.fn fn [],.sl (.app 0) u.2,.sl .ro rows,.int .i64 rows.length,.int .i64 u.1]) (λu=> [.app u.2.length 1]) (λu=>rows.length - u.1) (λu=>u.1<=rows.length/\u.2=rows.take u.1) hc hb (0,[]) ⟨A3 _,sm⟩ ?_ ?_
 .exact aN 1 rfl
 rintro⟨i,out⟩ ⟨hi,ho⟩
 simp only at hi ho
 have af:out.length=i:=by rw[ho,B0];omega
 by_cases q:i<rows.length
 rotate_left
 .have h2:out=rows:=by rw[ho];exact Aa om
  refine zA ?_
  simp[go_sem,q]
  exact zW (by rw[h2];exact zK) ⟨rfl,rfl⟩
 have ei:=zU q om
 obtain⟨r,hy⟩: ∃y,rows[i]=y:=⟨_,rfl⟩
 have hr:r∈rows:=hy▸A8 q
 have hw:=hu r hr
 have hn:=ad r hr
 have aa:=hx r hr
 have ae:out++ [r]=rows.take (i+1):=by rw[ho,Ag q,hy]
 obtain⟨v,rfl⟩:=hn
 change Pure prog fn [.sl .ro v] (.sl .ro v)at aa
 refine zA ?_
 simp[go_sem,q,hy]
 refine zL aa ab ⟨zK,tV⟩ rfl ?_
 simp[go_sem]
 refine zH ⟨om,zY rfl⟩ ?_
 simp[go_sem,ei]
 exact zJ (i+1,out++ [[.sl .ro v]]) ⟨by show rows.length - (i+1)<rows.length - i;omega,⟨q,ae⟩,aN 1 rfl⟩
theorem yZ7 (fn:FuncId) (ab:xE prog fn) (rows:List (List V)) (hl:rows.length<=100000) (hu:eK 1 rows) (ad: ∀r∈rows,∃q,r= [.sl .ro q]) (hx: ∀r∈rows,Pure prog fn [r.getD 0 (.int .i64 0)] (r.getD 0 (.int .i64 0))):
  Pure prog 94 [.sl .ro rows,.fn fn []] (.sl .ro rows):=by
 refine iV 0 func94 ntmps94 results94 λc hc hb=> ?_
 refine zA ?_
 simp[go_sem]
 refine l7 5 1 dC sg ?_
 refine zI (S:=Nat×List (List V)) [1,5,8,9,10] (λu=> [.fn fn [],.sl (.app 0) u.2,.sl .ro rows,.int .i64 rows.length,.int .i64 u.1]) (λu=> [.app u.2.length 1]) (λu=>rows.length - u.1) (λu=>u.1<=rows.length/\u.2=rows.take u.1) hc hb (0,[]) ⟨A3 _,sm⟩ ?_ ?_
 .exact aN 1 rfl
 rintro⟨i,out⟩ ⟨hi,ho⟩
 simp only at hi ho
 have af:out.length=i:=by rw[ho,B0];omega
 by_cases q:i<rows.length
 rotate_left
 .have h2:out=rows:=by rw[ho];exact Aa om
  refine zA ?_
  simp[go_sem,q]
  exact zW (by rw[h2];exact zK) ⟨rfl,rfl⟩
 have ei:=zU q om
 obtain⟨r,hy⟩: ∃y,rows[i]=y:=⟨_,rfl⟩
 have hr:r∈rows:=hy▸A8 q
 have hw:=hu r hr
 have hn:=ad r hr
 have aa:=hx r hr
 have ae:out++ [r]=rows.take (i+1):=by rw[ho,Ag q,hy]
 obtain⟨v,rfl⟩:=hn
 change Pure prog fn [.sl .ro v] (.sl .ro v)at aa
 refine zA ?_
 simp[go_sem,q,hy]
 refine zL aa ab ⟨zK,tV⟩ rfl ?_
 simp[go_sem]
 refine zH ⟨om,zY rfl⟩ ?_
 simp[go_sem,ei]
 exact zJ (i+1,out++ [[.sl .ro v]]) ⟨by show rows.length - (i+1)<rows.length - i;omega,⟨q,ae⟩,aN 1 rfl⟩
theorem yN7 (a b:List ca) (ha:a.length<=100000) (ae:b.length<=100000):Pure prog 125 [.sl .ro (a.map ca.row),.sl .ro (b.map ca.row)] (.bool (decide (a=b))):=by
 obtain⟨M,hM⟩:=eX (decide (a=b))
 rw[hM]
 have ret: ∀(r:Bool) (I:St),r=M->cw (some (.bool r)) 0 (λr s=>r= .bool M/\s= []) I:=λr I h=>by subst h;exact wR
 refine iV 0 func125 ntmps125 results125 λc hc hb=> ?_
 by_cases ql:a.length=b.length
 rotate_left
 .have aa:((a.length:Int) !=b.length)=true:=by simp;omega
  refine zA ?_
  simp[go_sem,aa]
  exact ret _ _ (by rw[<-hM];exact(ai3 λh=>ql (by rw[h])).symm)
 have aa:((a.length:Int) !=b.length)=false:=by simp;omega
 refine zA ?_
 simp[go_sem,aa]
 refine zI (S:=Nat) [0,1,12,13] (λi=> [.sl .ro (a.map ca.row),.sl .ro (b.map ca.row),.int .i64 a.length,.int .i64 (i:Int)]) (λ_=> []) (λi=>a.length - i) (λi=>i<=a.length/\a.take i=b.take i) hc hb 0 ⟨A3 _,sm⟩ ?_ ?_
 .exact aO
 rintro i ⟨hi,ht⟩
 by_cases q:i<a.length
 rotate_left
 .refine zA ?_
  simp[go_sem,q]
  exact ret _ _ (by rw[<-hM,Aa om,Aa om]at*;exact(ai4 ht).symm)
 have q2:i<b.length:=om
 have ei:=zU q om
 obtain⟨x,hx⟩:=eX (a[i])
 obtain⟨y,hy⟩:=eX (b[i])
 by_cases e:x=y
 .have ab:a.take (i+1)=b.take (i+1):=by rw[Ag q,Ag q2,hx,hy,ht,e]
  subst e
  refine zA ?_
  simp[go_sem,q]
  refine yI [] 0 rfl kR kR ?_
  simp[go_sem,q,q2,hx,hy,ei]
  exact zJ (i+1) ⟨om,⟨om,ab⟩,aO⟩
 .have ad:decide (a=b)=false:=ai3 λh=>e (by subst h;rw[<-hx,<-hy])
  have e2:(x.lo==y.lo&&x.hi==y.hi)=false:=by
   obtain⟨x1,x2⟩:=x
   obtain⟨y1,y2⟩:=y
   simp at e⊢
   exact e
  refine zA ?_
  simp[go_sem,q]
  refine yI [] 0 rfl kR kR ?_
  simp[go_sem,q,q2,hx,hy,e2]
  exact ret _ _ (by rw[<-hM,ad])
theorem yC0 (a b:List dK) (ha:a.length<=100000) (ae:b.length<=100000):Pure prog 126 [.sl .ro (a.map dK.row),.sl .ro (b.map dK.row)] (.bool (decide (a=b))):=by
 obtain⟨M,hM⟩:=eX (decide (a=b))
 rw[hM]
 have ret: ∀(r:Bool) (I:St),r=M->cw (some (.bool r)) 0 (λr s=>r= .bool M/\s= []) I:=λr I h=>by subst h;exact wR
 refine iV 0 func126 ntmps126 results126 λc hc hb=> ?_
 by_cases ql:a.length=b.length
 rotate_left
 .have aa:((a.length:Int) !=b.length)=true:=by simp;omega
  refine zA ?_
  simp[go_sem,aa]
  exact ret _ _ (by rw[<-hM];exact(ai3 λh=>ql (by rw[h])).symm)
 have aa:((a.length:Int) !=b.length)=false:=by simp;omega
 refine zA ?_
 simp[go_sem,aa]
 refine zI (S:=Nat) [0,1,12,13] (λi=> [.sl .ro (a.map dK.row),.sl .ro (b.map dK.row),.int .i64 a.length,.int .i64 (i:Int)]) (λ_=> []) (λi=>a.length - i) (λi=>i<=a.length/\a.take i=b.take i) hc hb 0 ⟨A3 _,sm⟩ ?_ ?_
 .exact aO
 rintro i ⟨hi,ht⟩
 by_cases q:i<a.length
 rotate_left
 .refine zA ?_
  simp[go_sem,q]
  exact ret _ _ (by rw[<-hM,Aa om,Aa om]at*;exact(ai4 ht).symm)
 have q2:i<b.length:=om
 have ei:=zU q om
 obtain⟨x,hx⟩:=eX (a[i])
 obtain⟨y,hy⟩:=eX (b[i])
 by_cases e:x=y
 .have ab:a.take (i+1)=b.take (i+1):=by rw[Ag q,Ag q2,hx,hy,ht,e]
  subst e
  refine zA ?_
  simp[go_sem,q]
  refine yI [] 0 rfl kR kR ?_
  simp[go_sem,q,q2,hx,hy,ei]
  exact zJ (i+1) ⟨om,⟨om,ab⟩,aO⟩
 .have ad:decide (a=b)=false:=ai3 λh=>e (by subst h;rw[<-hx,<-hy])
  have e2:(x.key==y.key&&(x.drop==y.drop&&x.data==y.data))=false:=by
   obtain⟨x1,x2,x3⟩:=x
   obtain⟨y1,y2,y3⟩:=y
   simp at e⊢
   exact e
  refine zA ?_
  simp[go_sem,q]
  refine yI [] 0 rfl kR kR ?_
  simp[go_sem,q,q2,hx,hy,e2]
  exact ret _ _ (by rw[<-hM,ad])
theorem Wy (rows:List (List V)) (hl:rows.length<=100000) (hu:eK 2 rows):Pure prog 76 [.sl .ro rows] (.sl .ro rows):=by
 refine iV 0 func76 ntmps76 results76 λc hc hb=> ?_
 refine zA ?_
 by_cases hp:0<rows.length
 .simp[go_sem,hp]
  refine zH ⟨om,by simp[eK],hu⟩ ?_
  simp[go_sem]
  exact zW zK ⟨rfl,rfl⟩
 .obtain rfl:rows= []:=As om
  simp[go_sem]
  refine Jw (λb=> ?_)
  cases b
  .simp[go_sem]
   refine zH (λr h=>by cases h) ?_
   simp[go_sem]
   exact zW zK ⟨rfl,rfl⟩
  .simp[go_sem]
   exact zW zK ⟨rfl,rfl⟩
theorem Wz (rows:List (List V)) (hl:rows.length<=100000) (hu:eK 3 rows):Pure prog 77 [.sl .ro rows] (.sl .ro rows):=by
 refine iV 0 func77 ntmps77 results77 λc hc hb=> ?_
 refine zA ?_
 by_cases hp:0<rows.length
 .simp[go_sem,hp]
  refine zH ⟨om,by simp[eK],hu⟩ ?_
  simp[go_sem]
  exact zW zK ⟨rfl,rfl⟩
 .obtain rfl:rows= []:=As om
  simp[go_sem]
  refine Jw (λb=> ?_)
  cases b
  .simp[go_sem]
   refine zH (λr h=>by cases h) ?_
   simp[go_sem]
   exact zW zK ⟨rfl,rfl⟩
  .simp[go_sem]
   exact zW zK ⟨rfl,rfl⟩
theorem WA (rows:List (List V)) (hl:rows.length<=100000) (hu:eK 2 rows):Pure prog 81 [.sl .ro rows] (.sl .ro rows):=by
 refine iV 0 func81 ntmps81 results81 λc hc hb=> ?_
 refine zA ?_
 by_cases hp:0<rows.length
 .simp[go_sem,hp]
  refine zH ⟨om,by simp[eK],hu⟩ ?_
  simp[go_sem]
  exact zW zK ⟨rfl,rfl⟩
 .obtain rfl:rows= []:=As om
  simp[go_sem]
  refine Jw (λb=> ?_)
  cases b
  .simp[go_sem]
   refine zH (λr h=>by cases h) ?_
   simp[go_sem]
   exact zW zK ⟨rfl,rfl⟩
  .simp[go_sem]
   exact zW zK ⟨rfl,rfl⟩
theorem xU9 (rows:List (List V)) (hl:rows.length<=100000) (hu:eK 3 rows):Pure prog 95 [.sl .ro rows] (.sl .ro rows):=by
 refine iV 0 func95 ntmps95 results95 λc hc hb=> ?_
 refine zA ?_
 by_cases hp:0<rows.length
 .simp[go_sem,hp]
  refine zH ⟨om,by simp[eK],hu⟩ ?_
  simp[go_sem]
  exact zW zK ⟨rfl,rfl⟩
 .obtain rfl:rows= []:=As om
  simp[go_sem]
  refine Jw (λb=> ?_)
  cases b
  .simp[go_sem]
   refine zH (λr h=>by cases h) ?_
   simp[go_sem]
   exact zW zK ⟨rfl,rfl⟩
  .simp[go_sem]
   exact zW zK ⟨rfl,rfl⟩
def oG (c:iy):Prop:=c.cI.length<=100000/\c.writes.length<=100000
theorem xg7 (a b:iy) (ha:oG a) (aa:oG b):Pure prog 80 [.agg a.row,.agg b.row] (.bool (decide (a=b))):=by
 have h1:=yN7 a.cI b.cI ha.1 aa.1
 have h2:=yC0 a.writes b.writes ha.2 aa.2
 obtain⟨M,hM⟩:=eX (decide (a=b))
 rw[hM]
 have ret: ∀(r:Bool) (I:St),r=M->cw (some (.bool r)) 0 (λr s=>r= .bool M/\s= []) I:=λr I h=>by subst h;exact wR
 obtain⟨ak,ae,an,ah,⟨a1,a2,a3,a4⟩,⟨a5,a6⟩,aw,ay,ab,ad⟩:=a
 obtain⟨bk,be,bn,bh,⟨b1,b2,b3,b4⟩,⟨b5,b6⟩,bw,dN,af,ai⟩:=b
 simp only at h1 h2
 simp only[iy.mk.injEq,fq.mk.injEq,fJ.mk.injEq,Bool.decide_and]at hM
 generalize decide (ab=af)=d1 at h1 hM
 generalize decide (ad=ai)=d2 at h2 hM
 refine iW 0 func80 ntmps80 results80 λc hc hb=>zM ?_
 simp[go_sem]
 repeat' (first
  |(refine xD (λq=> ?_) (λq=> ?_)<;>simp[go_sem,q])
  |(refine pC h1 ?_;simp[go_sem])
  |(refine pC h2 ?_;simp[go_sem]))
 all_goals exact ret _ _ (by rw[<-hM];simp_all)
end Go.Proofs.YtplackkccmeioaaGreat
