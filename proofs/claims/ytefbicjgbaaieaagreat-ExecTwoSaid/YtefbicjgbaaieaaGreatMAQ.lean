/-
  The lexer by what is left of a text; numbers in digits are read as they are (plain facts); used by the theorem at the end of the claim.
  Conditions: as each theorem states them.
-/
import Derived.Test.YtefbicjgbaaieaaGreatMAP
import Derived.Test.YtefbicjgbaaieaaGreatMAN
import Derived.Test.YtefbicjgbaaieaaGreatMAH
import Derived.Test.YtefbicjgbaaieaaGreatMAM
import Derived.Test.YtefbicjgbaaieaaGreatMAJ
set_option maxHeartbeats 8000000
namespace Go.Proofs.YtefbicjgbaaieaaGreat
open Go Go.Vx R Go.Proofs.Tryz
set_option maxRecDepth 100000
variable {b:Mp afE}{l:List Ln}{a:Mp afE}{sn:Mp Int}{st:bQ}{U:St}{T:bI}{w:Wr}{dz:fj}{tn:Nat}{p:Pl}{P:Program}{c:Ctx}{x:Ln}{k:Nat}{n:Nat}{n0:Kp}{d:afE}{f:FuncId}{bU:List V}{bZ:List V}{KV:V->St->Prop}{m:List Ln}{r:Int}{C:List Wr}{i:Nat}
@[go_sem] theorem y7 {nt:Nat} {d:Option Tmp} {K:KT} {e:Env} {x k:Operand} {t1 t2:TypeId}:dX P c nt n0 4 d (.call ⟨.builtin .delete, #[x,k], #[t1,t2]⟩) K fx fx e U=dU P c nt d (.call ⟨.builtin .delete, #[x,k], #[t1,t2]⟩) K fx fx e U:=K9 sm sm sm
theorem xH6 (k:Nat) {args:List V} {gi:St} {R:V->St->Prop} (hc:bK P f bZ gi R) (hb:wE P f) (hk:U.take k=gi) (hl:gi.length=k) (cH:gi.all (bP k))
  (aa:bL (cF (cz (List.range k) U.length)) bZ (args++bU)) (hR: ∀r s,R r s-> ∃s0 ex,s=s0++ex/\s0.length=k/\s0.all (bP k)=true/\ex.all (bP 0))
  (hK: ∀r s0 ex,R r (s0++ex)->s0.length=k->KV (dy (cz (List.range k) U.length) r) (s0++U.drop k++ex)):iZ P c (.fn f bU) args U KV fx:=by
 have ab:k<=U.length:=by grind
 refine VC.of hc hb (List.range k) Bm (by grind) (λi j o h1 h2=> ?_) aa λr s h _=> ?_
 .obtain⟨h3,h4⟩:=A1.1 h1
  simp at h3 h4
  subst h4
  have ho:bP k o:=by
   grind
  rw[xH (n:=k) (by grind[wZ]) ho]
  grind
 .obtain⟨s0,ex,rfl,h1,h2,h3⟩:=hR r s h
  have e:xQ (List.range k) U (s0++ex)=s0++U.drop k++ex:=by
   have e0:=PF ab h1 h2
   have ed:(s0++ex).drop (List.range k).length=ex:=by grind
   have et:(s0++ex).take (List.range k).length=s0.take (List.range k).length:=by grind
   have e2:(s0.drop (List.range k).length).map (yF (cz (List.range k) U.length))= []:=by
    grind
   have e3:ex.map (yF (cz (List.range k) U.length))=ex:=xU (λo h=>xH (n:=0) om h) h3
   unfold xQ at e0⊢
   grind
  grind
theorem wc6 (i:Nat) {o o2:Ob} {args:List V} {v:V} (hc:bK P f bZ [o] (λr s=>r=v/\s= [o2])) (hb:wE P f) (ho:U[i]? =some o) (cH:bP 0 o) (ab:bP 0 o2)
  (aa:bL (cF (cz [i] U.length)) bZ (args++bU)) (hK:KV (dy (cz [i] U.length) v) (U.set i o2)):pz P c n0 4 (.fn f bU) args U KV fx:=by
 refine Pz hc hb [i] sm rfl (λa j x h1 h2=> ?_) aa ?_
 .have e:a=0:=by
   grind
  subst e
  have e1:x=o:=by grind
  have e2:j=i:=by grind
  subst e1;subst e2
  rw[xH (n:=0) om cH]
  exact ho
 .have e:xQ [i] U [o2]=U.set i o2:=by
   simp only[xQ,Bf,Bl,Cy,Br,Az,Ai,Bk,fQ,B6]
   rw[xH (n:=0) om ab]
  grind
theorem xR1: ∀n,4<=n->(cM a b sn++([.cc (m.map Ln.row) 3]:St)).all (bP n)=true:=λn h=>by
 rw[E4,xY n om a b sn]
 simp[bP,cK,cG,Ln.row]
structure p5 (st:bQ):Prop where
 ok:kg st
 vok:MZ st
 iY:0<=iR st.table
 items:st.kind=1->st.items≠ []
 cu:st.kind=3-> ∀x∈st.cu,0<=cy (bM.getD (iR st.table).toNat ep) x.name
theorem NI {tn:Nat} {T:bI} (hT:bM[tn]? =some T) {st:bQ} (ab:kg st): ∀{m:List Ln} {b:Mp afE} {l:List Ln},cw b l->(∀x∈m,ib l x.at=true/\eQ x/\(fp x.r).1=(tn:Int))->(ga T st.cu m l).2=0->cw (lZ T st.cu m b) (ga T st.cu m l).1
 | [],_,_,hn,_,_=>hn
 |x::m,b,l,hn,hm,h0=>by
  obtain⟨ad,aa,ae⟩:=hm x sm
  rw[ga]at h0⊢
  rw[lZ]
  obtain⟨E,hE⟩:=eX (fM T x.v st.cu x.v)
  rw[hE]at h0⊢
  by_cases q:E.2=0
  rotate_left
  .grind
  rw[afa om]at h0
  rw[afa om,afa (show ¬E.2≠0 from λh=>h q)]
  by_cases q2:eD T.bW E.1=0
  rotate_left
  .grind
  rw[afa om]at h0
  rw[afa om,afa om]
  have af: ∀v∈E.1,v.ok:=by
   have h1:=JP (T:=T) aa.ok (cu:=st.cu) (row:=x.v) (λy hy=>(ab.cu.2 y hy).2) aa.ok
   grind
  refine NI hT ab (hn.G6 x.at E.1 ad ⟨⟨tn,T,ae,hT,q2⟩,aa.err,af⟩) (λy hy=> ?_) h0
  grind[Tf]
def vt (n:Nat) (e:Int):V:= .cm [.agg (Ot.row (if e≠0 then⟨0,[]⟩else⟨n,[]⟩)),.int .i64 e]
theorem JZ (h3:tn<3) (h:ou tn st x):(fp x.r).1=(tn:Int):=by
 unfold ou at h
 rw[A6,List.any_eq_true]at h
 grind[Tq]
theorem xR8 (hT:bM[tn]? =some T) (hx:eQ x) (aa:(fp x.r).1=(tn:Int)):x.v.length=T.bW.length:=by
 obtain⟨ab,T',h1,h2,h3⟩:=hx.iY
 grind[vj]
theorem TK {T:bI} {st:bQ}: ∀{l acc:List Ln},(sF T st acc l).1.length<=acc.length+l.length
 | [],_=>A3 _
 |x::l,acc=>by
  rw[sF]
  split
  .simp
  .refine An TK ?_
   split<;>simp<;>omega
theorem TL {t:Int}:(fD t T st l).1.length<=l.length:=by
 grind[fD,TK]
theorem xN2 {N:Nat} (h4:U.take 4=cM a b sn) (cv:U[k]? =some (.cc (m.map Ln.row) 3)) (i j:Nat) (o:Ob) (ab: [0,1,2,3,k][i]? =some j) (ho:(cM a b sn++([.cc (m.map Ln.row) 3]:St))[i]? =some o):U[j]? =some (yF (cz [0,1,2,3,k] N) o):=by
 by_cases q:i<4
 .have e:j=i:=by
   match i,q with
   |0,_=>grind
   |1,_=>grind
   |2,_=>grind
   |3,_=>grind
  subst e
  have h1:(cM a b sn)[j]? =some o:=by rw[Ak (by exact q)]at ho;exact ho
  have aa:bP 4 o:=Ad.1 (by grind[xY]) o (Bh h1)
  rw[xH (n:=4) (λx hx=> ?_) aa]
  .grind
  .rw[xX (by grind)]
   match x,hx with
   |0,_=>rfl
   |1,_=>rfl
   |2,_=>rfl
   |3,_=>rfl
 .have e:i=4:=by
   grind
  subst e
  have e1:o= .cc (m.map Ln.row) 3:=by grind
  have e2:j=k:=by grind
  subst e1;subst e2
  rw[xH (n:=0) om (by grind[bP,cK,cG,Ln.row])]
  omega
theorem xo1 {o0 o1 o2 o3 o4 o5 o6:Ob}:xQ [0,1,2,3,6] [o0,o1,o2,o3,o4,o5,o6] (cM a b sn++([.cc (m.map Ln.row) 3]:St))= [a.ob .str,b.ob .str,sn.ob (V.int .i64),fm,o4,o5,.cc (m.map Ln.row) 3]:=by
 have e:(cM a b sn++([.cc (m.map Ln.row) 3]:St)).map (yF (cz [0,1,2,3,6] 7))=cM a b sn++([.cc (m.map Ln.row) 3]:St):=
  xU (λo h=>xH (n:=4) dc h) (by grind[xR1])
 unfold xQ
 rw[Aj (by simp[cM]),C8 (by simp[cM])]
 show fQ _ _ (List.map (yF (cz [0,1,2,3,6] 7)) _)++_=_
 rw[e]
 rfl
def NJ (a:Mp afE) (sn:Mp Int) (D:Ot×List Ln×Int) (r:V) (s:St):Prop:=
 ∃b',s=cM a b' sn/\r= .cm [.agg D.1.row,.int .i64 D.2.2]/\(D.2.2=0->cw b' D.2.1)
theorem xv0 {w:Nat×afE} (h:b.at p=some w):Ob.mp ((fL V.str b.W).take (2*w.1)++(fL V.str b.W).drop (2*w.1+2)) (b.bs.eraseIdx w.1) b.cD=(b.del p).ob V.str:=by
 show Ob.mp (vS (fL V.str b.W) w.1) _ _=_
 unfold Mp.del Mp.ob
 rw[h]
 have:=(A1.1 (vl (W:=b.W) (i:=w.1) (v:=w.2) h)).1
 grind[SO]
theorem xv1 (h:b.at p=none):b.del p=b:=by
 grind[Mp.del]
theorem CL {D:Ot×List Ln×Int} {Ul:St} {g:Tag} (o:Ot) (e:Int) (h1:D.1=o) (h2:D.2.2=e) (h3:e=0->cw b D.2.1):
  cj (some (.cm [.agg [.sl g (o.rows.map λr=> [.sl .ro (r.map bG.row)]),.int .i64 o.count],.int .i64 e])) 4 (NJ a sn D) (a.ob .str::b.ob .str::sn.ob (V.int .i64):: .box [.sl .ro xZ,.sl .ro (bM.map bI.row),.mp 0,.mp 1,.mp 2]::Ul):=
 xM 4 (s:=cM a b sn) (r:= .cm [.agg (Ot.row o),.int .i64 e]) rfl rfl (by grind[xY]) om (wK ⟨oK ⟨yX,zU rfl,tV⟩,mf rfl,tV⟩) ⟨b,rfl,by grind,(by grind)⟩
theorem xq2 (st:bQ) (ad:p5 st) (a b:Mp afE) (sn:Mp Int) (l:List Ln) (ab:cw b l) (hl:l.length<=10000):
  bK prog 42 [.ptr 3 0,.agg st.row] (cM a b sn) (NJ a sn (iD st l)):=by
 obtain⟨tn,az⟩: ∃tn:Nat,iR st.table=tn:=⟨(iR st.table).toNat,by have:=ad.iY;omega⟩
 have aD:tn<3:=by
  have h:=BZ (λT:bI=>T.name==st.table) bM 0
  have h2:bM.length=3:=rfl
  grind[iR]
 obtain⟨T,hT⟩: ∃T,bM[tn]? =some T:=⟨_,A0 (show tn<bM.length from aD)⟩
 obtain⟨a1,a6⟩:=A1.1 hT
 have aE:bM.getD (iR st.table).toNat ep=T:=by grind
 have ae:=ad.cu
 rw[aE]at ae
 have af:=RP bM st.table dc
 have aF:jz (λt:bI=>t.name==st.table) bM 0=tn:=az
 rw[aF]at af
 have ag:=yM6 tn T hT st ad.ok a b sn l ab
 have ah:=wf1 tn T hT st ad.ok ad.vok a b sn l ab hl
 obtain⟨D,hD⟩:=eX (iD st l)
 rw[hD]
 have aa:=hD
 unfold iD at aa
 simp only[az,Ax]at aa
 rw[show bM.getD tn ep=T by grind]at aa
 refine iV 4 func42 ntmps42 results42 λc hc hb=> ?_
 refine zO (zA ?_)
 simp[go_sem,cM,fm]
 refine zO (zA ?_)
 simp[go_sem]
 refine yV [(6,0)] 6 rfl (by rfl) kR ?_
 simp[go_sem]
 refine pD af ?_
 simp[go_sem]
 have ai:=λb':Mp afE=>xY 4 dc a b' sn
 by_cases k2:st.kind=2
 .rw[afb k2]at aa
  have ao:(st.kind==2)=true:=by grind
  obtain⟨uI,hI⟩:=eX (fU tn T st.rows l)
  rw[hI]at aa ag
  refine zA ?_
  simp[go_sem,ao]
  refine rK 4 ag cB rfl rfl (ai b) (oJ (n:=4) rfl) (λr s h=> ?_) (λr s h=> ?_)
  .obtain⟨b',rfl,h⟩:=h
   refine⟨rfl,ai b', ?_⟩
   rcases h with ⟨_,rfl⟩|⟨_,rfl,_⟩
   all_goals rfl
  .obtain⟨b',rfl,h⟩:=h
   rcases h with ⟨h0,rfl⟩|⟨h0,rfl,hn⟩
   .rw[afb h0]at aa
    simp[go_sem,cM,fm,Ot.row]
    exact CL ⟨0,[]⟩ uI.2 (by grind) (by grind) om
   .rw[afa om]at aa
    simp[go_sem,cM,fm,Ot.row]
    exact CL ⟨st.rows.length,[]⟩ 0 (by grind) (by grind) (by grind)
 have ao:(st.kind==2)=false:=by grind
 rw[afa k2]at aa
 clear ag
 obtain⟨⟨m,me⟩,hM⟩: ∃M,fD tn T st l=M:=⟨_,rfl⟩
 rw[hM]at aa ah
 simp only at aa
 refine zO (zA ?_)
 simp[go_sem,ao]
 refine zO (zA ?_)
 simp[go_sem]
 refine xH6 4 ah cB rfl rfl (ai b) (oJ (n:=4) rfl) (λr s h=> ?_) (λr s0 ex h h4=> ?_)
 .rcases h with ⟨_,rfl,_⟩|⟨_,rfl,_⟩
  .exact⟨_,[],(by rfl),rfl,ai b,rfl⟩
  .exact⟨_,_,rfl,rfl,ai b,by simp[bP,cK,cG,Ln.row]⟩
 rcases h with ⟨m0,hs,rfl⟩|⟨m0,hs,rfl⟩
 .have aq:=List.append_inj (hs.trans (B6 _).symm) (by simpa)
  obtain⟨rfl,rfl⟩:=aq
  have m0:me≠0:=m0
  have aG:(me !=0)=true:=by grind
  rw[afb m0]at aa
  simp[go_sem,cM,fm]
  refine zO (zA ?_)
  simp[go_sem,aG]
  exact CL ⟨0,[]⟩ me (by grind) (by grind) om
 .have aq:=List.append_inj hs (by simpa)
  obtain⟨rfl,rfl⟩:=aq
  have m0:me=0:=m0
  rw[afa om]at aa
  subst m0
  have er:cz [0,1,2,3] 6 4=6:=rfl
  have a7:m.length<=10000:=by grind[TL]
  have ak: ∀x∈m,x∈l/\(ou tn st x):=(by grind[JQ])
  simp[go_sem,cM,fm,er]
  refine zO (zA ?_)
  simp[go_sem]
  refine zO (zO (zA ?_))
  simp[go_sem]
  refine qp (zO (zA ?_))
  simp[go_sem]
  by_cases k1:st.kind=1
  .have ar:(st.kind==1)=true:=by grind
   rw[afb k1]at aa
   have au:=yu4 tn T hT st ad.ok (ad.items k1) m a7 (λx hx=>⟨ab.rows x (ak x hx).1,xR8 hT (ab.rows x (ak x hx).1) (by grind[JZ])⟩)
   obtain⟨M,aH⟩:=eX (k5 T st m)
   rw[aH]at au aa
   obtain⟨C,hC⟩:=eX (Hk T st m)
   rw[hC]at au
   refine zA ?_
   simp[go_sem,ar]
   refine nR [(10,4)] 6 sm (by rfl) kR ?_
   simp[go_sem,a1,a6]
   refine wc6 6 au cB rfl (by grind[bP,cK,cG,Ln.row]) (by grind[bP,cK,cG,Ln.row]) ⟨zC rfl,zC rfl,.inl rfl,tV⟩ ?_
   simp[go_sem,oB,Ot.row]
   exact CL M.1 M.2 (by grind) (by grind) (by grind)
  have ar:(st.kind==1)=false:=by grind
  rw[afa k1]at aa
  refine zA ?_
  simp[go_sem,ar]
  by_cases k3:st.kind=3
  .have av:(st.kind==3)=true:=by grind
   rw[afb k3]at aa
   have a8: ∀x∈m,ib l x.at=true/\eQ x/\(fp x.r).1=(tn:Int):=λx hx=>⟨eE.2 (by grind),ab.rows x (ak x hx).1,(by grind[JZ])⟩
   have aw:=xH4 tn T hT st ad.ok (ae k3) a b sn l m ab a8 a7
   have aI:=NI hT ad.ok ab a8
   obtain⟨uU,hU⟩:=eX (ga T st.cu m l)
   obtain⟨B,hB⟩:=eX (lZ T st.cu m b)
   rw[hU,hB]at aw aI
   rw[hU]at aa
   have aA:=aw.mono (R':=λr s=>r=vt m.length uU.2/\s=cM a B sn++ [.cc (m.map Ln.row) 3]) (λr s h=>by
    obtain⟨h1,h2⟩:=h
    refine⟨?_,h1⟩
    unfold vt
    grind)
   clear aw
   simp[go_sem,av]
   refine nR [(11,4)] 5 sm (by rfl) kR ?_
   simp[go_sem,a1,a6]
   refine Pz aA cB [0,1,2,3,6] dc rfl (xN2 rfl rfl) ⟨.inl rfl,zC rfl,zC rfl,.inl rfl,tV⟩ ?_
   rw[xo1]
   by_cases u0:uU.2=0
   .rw[afa om]at aa
    simp[go_sem,vt,Ot.row,u0]
    exact CL ⟨m.length,[]⟩ 0 (by grind) (by grind) (by grind)
   .rw[afb u0]at aa
    simp[go_sem,vt,Ot.row,u0]
    exact CL ⟨0,[]⟩ uU.2 (by grind) (by grind) om
  .have av:(st.kind==3)=false:=by grind
   rw[afa k3]at aa
   have ax: ∀(b':Mp afE),([a.ob .str,b'.ob .str,sn.ob (V.int .i64),.box [.sl .ro xZ,.sl .ro (bM.map bI.row),.mp 0,.mp 1,.mp 2],.box st.row,.box dE,.cc (m.map Ln.row) 3]:St).all (bP 7)=true:=λb'=>by
    have h:=xY 7 om a b' sn
    simp_all[cM,bP,cK,cG,bQ.row,Ln.row,dE]
   have hG: ∀(b':Mp afE) (l':List Ln) (Ul:St),cw b' l'->jr m l=l'->cj (some (.cm [.agg [.sl .full [],.int .i64 m.length],.int .i64 0])) 4 (NJ a sn D) (a.ob .str::b'.ob .str::sn.ob (V.int .i64):: .box [.sl .ro xZ,.sl .ro (bM.map bI.row),.mp 0,.mp 1,.mp 2]::Ul):=λb' l' Ul h1 h2=>
    CL ⟨m.length,[]⟩ 0 (by grind) (by grind) (by grind)
   generalize hQ:jr m l=Q at hG
   clear aa ak ah hs
   simp[go_sem,av]
   refine zO (zA ?_)
   simp[go_sem]
   refine zH (S:=Nat×Mp afE×List Ln) [0,4,7,71,72,73] (λu=> [.ptr 3 0,.ptr 5 0,.cJ 6 3 m.length 0 m.length,.cJ 6 3 m.length 0 m.length,.int .i64 m.length,.int .i64 u.1])
    (λu=> [a.ob .str,u.2.1.ob .str,sn.ob (V.int .i64),.box [.sl .ro xZ,.sl .ro (bM.map bI.row),.mp 0,.mp 1,.mp 2],.box st.row,.box dE,.cc (m.map Ln.row) 3]) (λu=>m.length - u.1)
    (λu=>u.1<=m.length/\cw u.2.1 u.2.2/\jr (m.drop u.1) u.2.2=Q) hc hb (0,b,l) (by grind) ?_ ?_
   .exact ca 7 (by rfl) rfl (ax b) dc (zD (by rfl) rfl)
   rintro⟨i,b1,l1⟩ ⟨hi,ay,al⟩
   simp only at hi ay al
   by_cases q:i<m.length
   rotate_left
   .rw[A8 om,jr]at al
    refine zA ?_
    simp[go_sem,q,dE]
    refine zA ?_
    simp[go_sem]
    exact hG b1 l1 _ ay al.symm
   have ei:=zR q om
   obtain⟨x,hx⟩:=eX (m[i])
   rw[A2 q,hx,jr]at al
   have eB:b1.ob .str= .mp (fL .str b1.W) b1.bs b1.cD:=rfl
   have aB:=ay.del x.at
   refine zA ?_
   simp[go_sem,q,hx]
   refine yV [] 8 rfl (by rfl) kR ?_
   simp[go_sem]
   cases an:b1.at x.at with
   |none=>
    have aj:dw (x.r,x.k) b1.W=none:=an
    rw[xv1 an]at aB
    simp[go_sem,eB,ot,aj,kL,lh,ei]
    exact zG (i+1,b1,l1.filter λy=> !decide (y.at=x.at)) ⟨om,(by grind),ca 7 (by rfl) rfl (ax _) dc (zD (by rfl) rfl)⟩
   |some w=>
    have aj:dw (x.r,x.k) b1.W=some w:=an
    have aC:=xv0 an
    simp[go_sem,eB,ot,aj,kL,lh,aC,ei]
    exact zG (i+1,b1.del x.at,l1.filter λy=> !decide (y.at=x.at)) ⟨om,(by grind),ca 7 (by rfl) rfl (ax _) dc (zD (by rfl) rfl)⟩
def oC (p:Pl):List V:= [.int .i64 p.1,.str p.2]
def Hl (w:Wr):List V:= [.str w.p.2,.bool w.drop,.str w.data]
def ff (q:Int×List Wr):List V:= [.int .i64 q.1,.sl .ro (q.2.map Hl)]
def k8 (q:Int×List Wr×Nat):List V:= [.int .i64 q.1,.sl (.app (q.2.2+8)) (q.2.1.map Hl)]
def tR (N:List (Int×List Wr×Nat)):List (Int×List Wr):=N.map λq=>(q.1,q.2.1)
theorem xL4 (N:List (Int×List Wr×Nat)):ij (N.map k8) 0 N.length=(tR N).map ff:=by
 unfold ij tR
 rw[Az,Aj sm,Be,Be]
 rfl
theorem wb1 (N:List (Int×List Wr×Nat)):wF (N.map k8)=true:=by grind[wF,k8,o8]
def TM (N:List (Int×List Wr×Nat)) (τ:St) (i:Nat):Prop:= ∀O r C k,N=O++ [(r,C,k)]->τ[k]? =some (.app C.length 3)/\C.length<=i
theorem J0 {J:Type} {g:J->V} {id:Nat} {rows:List (List V)} (hg: ∀v,jh id rows (g v)=g v): ∀W:List (Pl×J),(fL g W).map (jh id rows)=fL g W
 | []=>rfl
 |e::W=>by
  rw[fL,Ai,Ai,J0 hg W,hg]
  rfl
theorem xM7 {id:Nat} {rows:List (List V)}:(cM a b sn).map (uh id rows)=cM a b sn:=by
 unfold cM
 simp only[Ai,Bk,Mp.ob,uh]
 rw[J0 (λ_=>rfl),J0 (λ_=>rfl),J0 (λ_=>rfl)]
 rfl
theorem p6 {n0:Nat} {keep:afF} {vs:List V} {s:St} {e:Env} (hs:U=s) (hn:n0<=U.length) (h:keep.map e=vs):At n0 keep vs s e U:=by
 subst hs
 exact zW hn h
theorem xy9 {O:List (Int×List Wr×Nat)} (h:w.p.1=r):iy (tR (O++ [(r,C,k)])) w=tR (O++ [(r,C++ [w],k)]):=by
 grind[iy,tR]
theorem xN1 {O:List (Int×List Wr×Nat)} {r0:Int} {k':Nat} (h:w.p.1=r) (hr: ¬r0=r):iy (tR (O++ [(r0,C,k)])) w=tR ((O++ [(r0,C,k)])++ [(r,[w],k')]):=by
 unfold iy tR
 grind
theorem NK {N:List (Int×List Wr×Nat)} {τ:St} (h:τ[k]? =some (.app C.length 3)) (hl:C.length<=i):TM (N++ [(r,C,k)]) τ i:=λO r' C' k' e=>by
 simp_all
theorem xm1 (a:Mp afE) (D:List (Pl×afE)) (e:Pl×afE):gZ a (D++ [e])=if Hj a e=true then gZ a D++ [e.1]else gZ a D:=by
 unfold gZ
 grind
theorem xm2 (b:Mp afE) (D:List (Pl×afE)) (e:Pl×afE):gQ b (D++ [e])=if Fa b e=true then gQ b D++ [e.1]else gQ b D:=by
 unfold gQ
 grind
theorem xN9 (a:Mp afE) (D:List (Pl×afE)):(gZ a D).length<=D.length:=by
 grind[gZ]
theorem xO0 (a:Mp afE) (D:List (Pl×afE)):(gQ a D).length<=D.length:=by
 grind[gQ]
theorem gD.le {J:Type} {seen:afF} {W:List (Pl×J)} {bs:afF} {D:List (Pl×J)} (h:gD seen W bs D):D.length<=W.length:=by
 have:=h.length_eq
 grind
theorem wb3 (a b:Mp afE) (sn:Mp Int) (aq now:List Ln) (ha:cw a aq) (hn:cw b now) (aP:aq.length<=10000) (aQ:now.length<=10000):
  bK prog 43 [.ptr 3 0] (cM a b sn) (λr s=>r= .sl .ro ((k7 (gb aq now)).map ff)/\s=cM a b sn):=by
 have eA:a.ob .str= .mp (fL .str a.W) a.bs a.cD:=rfl
 have eB:b.ob .str= .mp (fL .str b.W) b.bs b.cD:=rfl
 have aR:a.W.length<=10000:=by have:=ha.perm.length_eq;grind
 have aS:b.W.length<=10000:=by have:=hn.perm.length_eq;grind
 have aF: ∀x∈b.bs,x<b.cD:=hn.ok.lt
 have has: ∀x∈a.bs,x<a.cD:=ha.ok.lt
 have aj: ∀(L:List Pl) (se:afF),([a.ob .str,b.ob .str,sn.ob (V.int .i64),.box [.sl .ro xZ,.sl .ro (bM.map bI.row),.mp 0,.mp 1,.mp 2],.cc (L.map oC) 2,.it (some 1) b.cD se b.cD]:St).all (bP 6)=true:=λL se=>by
  have h:=xY 6 om a b sn
  simp_all[cM,bP,cK,cG,oC]
 refine iV 4 func43 ntmps43 results43 λc hc hb=> ?_
 refine zO (zA ?_)
 simp[go_sem,cM,fm]
 refine zO (zA ?_)
 simp[go_sem]
 refine Er 3 2 dc (by rfl) ?_
 refine zO (zA ?_)
 simp[go_sem,eB]
 refine zH (S:=afF×List (Pl×afE)) [0,3,21] (λu=> [.ptr 3 0,.cJ 4 2 (gZ a u.2).length 0 (gZ a u.2).length,.ptr 5 0])
   (λu=> [a.ob .str,b.ob .str,sn.ob (V.int .i64),.box [.sl .ro xZ,.sl .ro (bM.map bI.row),.mp 0,.mp 1,.mp 2],.cc ((gZ a u.2).map oC) 2,.it (some 1) b.cD u.1 b.cD]) (λu=>(jA u.1 b.W b.bs).length)
   (λu=>gD u.1 b.W b.bs u.2) hc hb ([],[]) (gD.start hn.ok.len) ?_ ?_
 have k0:gZ a []= []:=rfl
 .exact ca 6 (by rfl) rfl (aj _ _) dc (zD (by rfl) rfl)
 .rintro⟨se,D⟩ hD
  simp only at hD
  refine AR 22 dc ?_
  refine zA ?_
  simp[go_sem,eB]
  have a1:=hD.le
  have a6:=xN9 a D
  refine Nu (b:=b) (i:=5) (id:=1) (seen:=se) (cD:=b.cD) (by simp[mB]) rfl rfl aF (λhL=> ?_) (λp hp=> ?_)
  .have af:=hD.done hL
   obtain⟨K1,a7⟩:=eX (gZ a D)
   have ax:K1.Perm (gZ a b.W):=by rw[<-a7];exact(af.filter _).map _
   have aA:K1.length<=10000:=by grind
   rw[a7]
   clear a7 af hL a6 a1 hD
   have ar: ∀(L:List Pl) (aB:afF),([a.ob .str,b.ob .str,sn.ob (V.int .i64),.box [.sl .ro xZ,.sl .ro (bM.map bI.row),.mp 0,.mp 1,.mp 2],.cc (L.map oC) 2,.it (some 1) b.cD se b.cD,.it (some 0) a.cD aB a.cD]:St).all (bP 7)=true:=λL aB=>by
    have h:=xY 7 om a b sn
    simp_all[cM,bP,cK,cG,oC]
   simp[go_sem]
   refine zO (zA ?_)
   simp[go_sem,eA]
   have k0:gQ b []= []:=rfl
   refine zH (S:=afF×List (Pl×afE)) [0,3,51] (λu=> [.ptr 3 0,.cJ 4 2 (K1++gQ b u.2).length 0 (K1++gQ b u.2).length,.ptr 6 0])
     (λu=> [a.ob .str,b.ob .str,sn.ob (V.int .i64),.box [.sl .ro xZ,.sl .ro (bM.map bI.row),.mp 0,.mp 1,.mp 2],.cc ((K1++gQ b u.2).map oC) 2,.it (some 1) b.cD se b.cD,.it (some 0) a.cD u.1 a.cD]) (λu=>(jA u.1 a.W a.bs).length)
     (λu=>gD u.1 a.W a.bs u.2) hc hb ([],[]) (gD.start ha.ok.len) ?_ ?_
   .exact ca 7 (by grind) rfl (ar _ _) dc (zD (by simp[go_sem,k0]) rfl)
   rintro⟨ai,D⟩ hD
   simp only at hD
   refine AR 52 dc ?_
   refine zA ?_
   simp[go_sem,eA]
   have a1:=hD.le
   have a6:=xO0 b D
   refine Nu (b:=a) (i:=6) (id:=0) (seen:=ai) (cD:=a.cD) (by simp[mB]) rfl rfl has (λhL=> ?_) (λp hp=> ?_)
   .have af:=hD.done hL
    obtain⟨K2,au⟩:=eX (K1++gQ b D)
    have ay:K2.Perm (gZ a b.W++gQ b a.W):=by rw[<-au];exact ax.append ((af.filter _).map _)
    have aC:K2.length<=20000:=by grind
    have ak:(K1++gQ b D).map oC=K2.map oC:=by rw[au]
    have al:(K1++gQ b D).length=K2.length:=by rw[au]
    rw[Cr]at ak
    rw[Ah]at al
    clear au af hL a6 a1 hD aA ax k0 aj ar
    simp[go_sem,ak,al]
    refine zO (zA ?_)
    simp[go_sem]
    refine Qw Tryz.CG rfl cB dc Tryz.oz Tryz.pZ cB Tg Th (f:=oC) (kx:=λp=>p) (λx=>⟨_,rfl,rfl⟩) K2 rfl om (λL av aD=> ?_)
    have az:=xu5 ha hn (av.symm.trans ay) aD
    have aT:L.length<=20000:=by rw[<-av.length_eq];omega
    rw[av.length_eq]
    clear av aD ay aC al ak
    simp[go_sem]
    refine zO (zA ?_)
    simp[go_sem]
    refine Er 11 2 dc (by rfl) ?_
    refine zO (zA ?_)
    simp[go_sem]
    obtain⟨G,hG⟩:=eX (k7 (gb aq now))
    rw[hG]
    have aG:(L.map (oW b)).foldl iy (tR [])=G:=by rw[az];exact hG
    clear az hG
    refine zH (S:=Nat×List (Int×List Wr×Nat)×St) [0,11,73,74,75] (λu=> [.ptr 3 0,.cJ 7 2 u.2.1.length 0 u.2.1.length,.cJ 4 2 L.length 0 L.length,.int .i64 L.length,.int .i64 u.1])
      (λu=> [a.ob .str,b.ob .str,sn.ob (V.int .i64),.box [.sl .ro xZ,.sl .ro (bM.map bI.row),.mp 0,.mp 1,.mp 2],.cc (L.map oC) 2,.it (some 1) b.cD se b.cD,.it (some 0) a.cD ai a.cD,.cc (u.2.1.map k8) 2]++u.2.2) (λu=>L.length - u.1)
      (λu=>u.1<=L.length/\u.2.1.length<=u.1/\TM u.2.1 u.2.2 u.1/\((L.map (oW b)).drop u.1).foldl iy (tR u.2.1)=G) hc hb (0,[],[]) ⟨om,sm,λO r C k h=>by simp_all,aG⟩ ?_ ?_
    .exact zW sm (by rfl)
    rintro⟨i,N,τ⟩ ⟨hi,aH,aE,ab⟩
    simp only at hi aH aE ab
    by_cases q:i<L.length
    rotate_left
    .rw[A8 (by grind),List.foldl_nil]at ab
     refine zA ?_
     simp[go_sem,q]
     refine zA ?_
     simp[go_sem]
     refine Pt 7 2 (N.map k8) rfl (wb1 N) ?_
     simp only[fB,jh,jg,iI,Bb,A7,A3,and_self,afj,xL4,ab]
     refine xM 4 (s:=cM a b sn) (r:= .sl .ro (G.map ff)) ?_ rfl (by grind[xY]) om zK (by trivial)
     exact xM7
    have ei:=zR q om
    obtain⟨⟨pr,pk⟩,hp⟩: ∃p,L[i]=p:=⟨_,rfl⟩
    rw[A2 (by grind),B8,Dn,hp]at ab
    refine zO (zA ?_)
    simp[go_sem,q]
    refine zO (zA ?_)
    simp[go_sem]
    refine zO (qp (zO (zA ?_)))
    simp[go_sem,q,hp,oC]
    refine nM (S:=Bool×afE) [0,11,13,14,15,73,74,75] (λu=> [.ptr 3 0,.cJ 7 2 N.length 0 N.length,.ptr (τ.length+8) 0,.str u.2,.bool (!u.1),.cJ 4 2 L.length 0 L.length,.int .i64 L.length,.int .i64 i])
      (λu=> [a.ob .str,b.ob .str,sn.ob (V.int .i64),.box [.sl .ro xZ,.sl .ro (bM.map bI.row),.mp 0,.mp 1,.mp 2],.cc (L.map oC) 2,.it (some 1) b.cD se b.cD,.it (some 0) a.cD ai a.cD,.cc (N.map k8) 2]++(τ++ [.box [.int .i64 pr,.str pk]]))
      (λu=>oW b (pr,pk)=⟨(pr,pk),u.1,u.2⟩) hc hb ?_ ?_
    .refine yV [] (τ.length+9) sm (by rfl) kR ?_
     simp[go_sem,eB]
     cases ag:b.at (pr,pk)with
     |none=>
      have aa:dw (pr,pk) b.W=none:=ag
      have hw:oW b (pr,pk)=⟨(pr,pk),true,[]⟩:=by grind[oW,Mp.get]
      simp[go_sem,ot,aa,kL,lh]
      exact zG (true,[]) ⟨hw,zW sm (by rfl)⟩
     |some w=>
      have aa:dw (pr,pk) b.W=some w:=ag
      have hw:oW b (pr,pk)=⟨(pr,pk),false,w.2⟩:=by grind[oW,Mp.get]
      simp[go_sem,ot,aa,kL,lh]
      exact zG (false,w.2) ⟨hw,zW sm (by rfl)⟩
    rintro⟨dr,aw⟩ hw
    simp only at hw
    rw[hw]at ab
    rcases List.eq_nil_or_concat N with hN|⟨O,⟨r0,C,k⟩,hN⟩
    .subst hN
     refine zO (zO ?_)
     refine yV [] (τ.length+9) sm (by rfl) kR ?_
     simp[go_sem]
     refine It (b:=true) (by rfl) (λ_=> ?_) (λh=>by cases h)
     refine QB 4 rfl rfl rfl ?_
     simp[go_sem,Bi]
     refine zI (zX rfl) ?_
     simp[go_sem]
     refine zO (zA ?_)
     simp[go_sem]
     refine nR [(4,2),(6,2),(12,3),(15,4)] 6 sm (by rfl) kR ?_
     simp[go_sem]
     refine zI ⟨(λr hr=>by cases hr),zX rfl⟩ ?_
     simp[go_sem]
     refine zA ?_
     simp[go_sem,ei]
     exact zG (i+1,[(pr,[⟨(pr,pk),dr,aw⟩],τ.length+1)],τ++ [.box [.int .i64 pr,.str pk],.app 1 3]) ⟨om,⟨q,sm,NK (N:= []) sm sm,ab⟩,p6 (by rfl) sm (by rfl)⟩
    rw[List.concat_eq_append]at hN
    subst hN
    obtain⟨hk,hC⟩:=aE O r0 C k rfl
    have aU:=(A1.1 hk).1
    have aV:O.length+1<=i:=by grind
    have z0:((O.length:Int)+1==0)=false:=by rfl
    have es:IntKind.i64.wrap (O.length:Int)=O.length:=(by grind[bR])
    have aI:IntKind.i64.wrap ((O.length:Int)+1)=((O.length+1:Nat):Int):=by grind[bR]
    by_cases hr:r0=pr
    .subst hr
     refine zO (zO ?_)
     refine yV [] (τ.length+9) sm (by rfl) kR ?_
     simp[go_sem,k8,z0,es]
     refine zI om ?_
     simp[go_sem]
     refine zA ?_
     simp[go_sem]
     refine zO (zA ?_)
     simp[go_sem,es]
     refine zI om ?_
     simp[go_sem]
     refine nR [(4,2),(6,2),(12,3),(15,4)] 6 sm (by rfl) kR ?_
     have aJ:(τ++ [Ob.box [.int .i64 r0,.str pk]])[k]? =some (.app C.length 3):=by grind
     have aK: ∀o,(τ++ [Ob.box [.int .i64 r0,.str pk]]).set k o=τ.set k o++ [Ob.box [.int .i64 r0,.str pk]]:=(by grind)
     simp[go_sem,aJ,aK]
     refine zI ⟨om,zX rfl⟩ ?_
     simp[go_sem]
     refine zA ?_
     simp[go_sem,ei]
     exact zG (i+1,O++ [(r0,C++ [⟨(r0,pk),dr,aw⟩],k)],τ.set k (.app (C.length+1) 3)++ [.box [.int .i64 r0,.str pk]]) ⟨om,⟨q,by grind,(by grind[NK]),by rw[xy9 (r:=r0) (w:=⟨(r0,pk),dr,aw⟩) rfl]at ab;omega⟩,p6 (by simp[k8,Hl]) sm sg⟩
    .have aL:(r0 !=pr)=true:=by grind
     refine zO (zO ?_)
     refine yV [] (τ.length+9) sm (by rfl) kR ?_
     simp[go_sem,k8,z0,es]
     refine zI om ?_
     simp[go_sem,aL]
     refine It (b:=true) (by rfl) (λ_=> ?_) (λh=>by cases h)
     refine QB 4 rfl rfl rfl ?_
     simp[go_sem,Bi]
     refine zI ⟨zX rfl,om⟩ ?_
     simp[go_sem]
     refine zO (zA ?_)
     simp[go_sem,aI]
     refine zI om ?_
     simp[go_sem]
     refine nR [(4,2),(6,2),(12,3),(15,4)] 6 sm (by rfl) kR ?_
     simp[go_sem]
     refine zI ⟨(λr hr=>by cases hr),zX rfl⟩ ?_
     simp[go_sem]
     refine zA ?_
     simp[go_sem,ei]
     exact zG (i+1,(O++ [(r0,C,k)])++ [(pr,[⟨(pr,pk),dr,aw⟩],τ.length+1)],τ++ [.box [.int .i64 pr,.str pk],.app 1 3]) ⟨om,⟨q,by grind,(by grind[NK]),by rw[xN1 (k':=τ.length+1) rfl hr]at ab;omega⟩,p6 (by grind[k8,Hl]) sm sg⟩
   .have an:=JR (g:=V.str) ha.ok.nd (JT hp)
    have ah:=hD.next ha.ok.nd hp
    have ao:=(JS ha.ok.nd hp).length_eq
    obtain⟨⟨⟨pr,pk⟩,data⟩,dI⟩:=p
    simp only[gB]at an ah ao
    have ad:(jA (ai++ [dI]) a.W a.bs).length<(jA ai a.W a.bs).length:=by grind
    clear ao hp
    have ae:=xm2 b D ((pr,pk),data)
    have a8:Fa b ((pr,pk),data)=((b.at (pr,pk)).map (·.2)).isNone:=rfl
    simp[go_sem,gB,pg,an]
    refine yV [] 8 rfl (by rfl) kR ?_
    simp[go_sem,eB]
    cases ag:b.at (pr,pk)with
    |none=>
     have aa:dw (pr,pk) b.W=none:=ag
     rw[afb (by grind)]at ae
     simp[go_sem,ot,aa,kL,lh,Bi]
     refine zI ⟨zX rfl,om⟩ ?_
     simp[go_sem]
     exact zG (ai++ [dI],D++ [((pr,pk),data)]) ⟨ad,ah,ca 7 (by grind[oC]) rfl (ar _ _) dc (zD (by simp[go_sem,ae,Dp]) rfl)⟩
    |some w=>
     have aa:dw (pr,pk) b.W=some w:=ag
     rw[ag]at a8
     rw[afa (by grind)]at ae
     simp[go_sem,ot,aa,kL,lh]
     exact zG (ai++ [dI],D++ [((pr,pk),data)]) ⟨ad,ah,ca 7 (by grind) rfl (ar _ _) dc (zD (by simp[go_sem,ae]) rfl)⟩
  .have an:=JR (g:=V.str) hn.ok.nd (JT hp)
   have ah:=hD.next hn.ok.nd hp
   have ao:=(JS hn.ok.nd hp).length_eq
   obtain⟨⟨⟨pr,pk⟩,data⟩,dI⟩:=p
   simp only[gB]at an ah ao
   have ad:(jA (se++ [dI]) b.W b.bs).length<(jA se b.W b.bs).length:=by grind
   clear ao hp
   have ae:=xm1 a D ((pr,pk),data)
   have a8:Hj a ((pr,pk),data)=((a.at (pr,pk)).map (·.2) !=some data):=rfl
   simp[go_sem,gB,pg,an]
   refine yV [] 7 rfl (by rfl) kR ?_
   simp[go_sem,eA]
   cases ag:a.at (pr,pk)with
   |none=>
    have aa:dw (pr,pk) a.W=none:=ag
    rw[afb (by grind)]at ae
    simp[go_sem,ot,aa,kL,lh,Bi]
    refine zI ⟨zX rfl,om⟩ ?_
    simp[go_sem]
    exact zG (se++ [dI],D++ [((pr,pk),data)]) ⟨ad,ah,ca 6 (by simp[go_sem,ae,oC,eA];rfl) rfl (aj _ _) dc (zD (by simp[go_sem,ae]) rfl)⟩
   |some w=>
    have aa:dw (pr,pk) a.W=some w:=ag
    rw[ag]at a8
    by_cases q:w.2=data
    .have q':(w.2==data)=true:=by grind
     rw[afa (by grind)]at ae
     simp[go_sem,ot,aa,kL,lh,q']
     exact zG (se++ [dI],D++ [((pr,pk),data)]) ⟨ad,ah,ca 6 (by grind) rfl (aj _ _) dc (zD (by simp[go_sem,ae]) rfl)⟩
    .have q':(w.2==data)=false:=by grind
     rw[afb (by grind)]at ae
     simp[go_sem,ot,aa,kL,lh,q',Bi]
     refine zI ⟨zX rfl,om⟩ ?_
     simp[go_sem]
     exact zG (se++ [dI],D++ [((pr,pk),data)]) ⟨ad,ah,ca 6 (by simp[go_sem,ae,oC,eA];rfl) rfl (aj _ _) dc (zD (by simp[go_sem,ae]) rfl)⟩
theorem TN {T:bI}: ∀{l p:List bY},nw T p l=0-> ∀x∈l,0<=cy T x.name
 | [],_,_,x,hx=>by cases hx
 |y::l,p,h,x,hx=>by
  rw[nw]at h
  by_cases q1:cy T y.name<0
  .omega
  rw[afa q1]at h
  by_cases q2:cy T y.name=T.key\/(cy T y.name=0/\T.place=0)
  .omega
  rw[afa q2]at h
  by_cases q3:(p.any λz=>z.name==y.name)=true
  .grind
  rw[afa q3]at h
  by_cases q4:oi T y.e (km T (cy T y.name))≠0
  .omega
  rw[afa q4]at h
  rcases Ae.1 hx with rfl|hx
  .omega
  .exact TN h x hx
theorem NL {mode:Int}: ∀{l:List bQ} {i:Nat},(nx mode l i).2=0-> ∀z∈l,oq z=0
 | [],_,_,z,h=>by cases h
 |y::l,i,h,z,hx=>by
  rw[nx]at h
  by_cases q1:mode≠0/\y.kind≠1
  .grind
  rw[afa q1]at h
  by_cases q2:oq y≠0
  .grind
  rw[afa q2]at h
  rcases Ae.1 hx with rfl|hx
  .simpa using q2
  .exact NL h z hx
theorem NM (hl:nu dz) (h:(kY dz).2=0): ∀st∈dz.stmts,p5 st:=by
 unfold kY at h
 by_cases q:kX dz=true
 rotate_left
 .grind
 rw[afb q]at h
 intro st aa
 have hc:=NL h st aa
 have ab:=hl.stmts.2 st aa
 have hm:gY st:=by
  simp_all[kX]
 unfold oq at hc
 have ad:=Sf st.table
 have hT: ∃T,bM[(iR st.table).toNat]? =some T:=by
  grind
 obtain⟨T,hT⟩:=hT
 rw[hT]at hc
 simp only at hc
 have h0:0<=iR st.table:=by
  omega
 rw[afa om]at hc
 refine⟨ab,xH5 ab.ct.dD,h0,λk1=> ?_,λk3=> ?_⟩
 .unfold gY at hm
  rw[A6,A6]at hm
  have hb:=hm.2.2
  unfold MW at hb
  rw[afb k1,A6]at hb
  intro he
  rw[he]at hb
  exact absurd hb.1 dc
 .rw[A9,hT]
  rw[afa om,afa om,afb k3]at hc
  by_cases q:nw T [] st.cu≠0
  .omega
  .exact TN (sU q)
theorem xr7 (l:List Ln) (x:Ln):(vo l x).length=l.length+1:=(yz l x).length_eq
theorem TP {t:Nat} {T:bI}: ∀{rs:List (List bH)} {l:List Ln},(fU t T rs l).1.length<=l.length+rs.length
 | [],l=>by grind[fU]
 |r::rs,l=>by
  rw[fU]
  split
  .simp
  split
  .simp
  split
  .simp
  refine An TP ?_
  rw[xr7,Ab];omega
theorem TQ {T:bI} {cu:List bY}: ∀{m l:List Ln},(ga T cu m l).1.length<=l.length
 | [],l=>A3 _
 |x::m,l=>by
  rw[ga]
  split
  .simp
  split
  .simp
  refine An TQ ?_
  simp[iT]
theorem TS: ∀{m l:List Ln},(jr m l).length<=l.length
 | [],l=>A3 _
 |x::m,l=>by
  rw[jr]
  exact An TS (De _ _)
theorem NN:(iD st l).2.1.length<=l.length+st.rows.length:=by
 grind[iD,TP,TQ,TS]
abbrev Vw:=Nat×List (afE×afE)
def ic (q:afE×afE):List V:= [.str q.1,.str q.2]
def oZ (x:Vw):List V:= [.int .i64 x.1,.sl .ro (x.2.map ic)]
def qK (g:Nat) (l:List (afE×afE)):List (Pl×afE):=l.map λq=>(((g:Int),q.1),q.2)
def yJ (vs:List Vw):List (Pl×afE):=vs.flatMap λx=>qK x.1 x.2
def yZ (vs:List Vw):List Ln:=((yJ vs).foldl oy ([],[])).2
theorem J1 (x:Vw) (vs:List Vw):yJ (x::vs)=qK x.1 x.2++yJ vs:=by rfl
theorem nz.sK {s:List (Pl×afE)×List Ln} (h:nz n s (a,b,sn)) (p:Pl) (h0:sn.at p=none):a.at p=none/\b.at p=none:=by
 have h1:=(h.seen p).1 (ku.2 h0)
 have hb:b.at p=none:=by
  rw[h.now.gu]
  cases e:ib s.2 p with
  |false=>rfl
  |true=>
   obtain⟨x,hx,aa⟩:=Ac.1 (eE.1 e)
   have:(s.1.any λe=>e.1==p)=true:=List.any_eq_true.2 ⟨_,(h.lines x hx).2,by grind⟩
   grind
 exact⟨by rw[show a=b from h.same];exact hb,hb⟩
theorem nz.pos {s:List (Pl×afE)×List Ln} (h:nz n s (a,b,sn)) (hn:n<=1000000) (p:Pl) (i:Nat) (v:Int) (h0:sn.at p=some (i,v)):1<=v/\v<=1000000:=by
 have:=h.Nl p v (by show(sn.at p).map (·.2)=some v;grind)
 omega
theorem TT (k:Nat) {args:List V} {gi:St} {v:V} (hc:bK P f bZ gi (λr s=>r=v/\s=gi)) (hb:wE P f) (hk:U.take k=gi) (hl:gi.length=k) (cH:gi.all (bP k)) (hv:fW k v)
  (hn: ∀i,i<k->n0.has i) (aa: ∀N,bL (cF (cz (List.range k) N)) bZ (args++bU)) (hK:KV v U):pz P c n0 1 (.fn f bU) args U KV fx:=by
 refine⟨v,U, ?_,λ_=>rfl,λ_=>fY.refl,A3 _,hK⟩
 rw[afa dc,afb rfl]
 intro s hs
 have ab:s.take k=gi:=by
  rw[<-hk]
  refine Bn λi=> ?_
  rw[Av,Av]
  by_cases q:i<k
  .rw[afb q,afb q];exact Kp.get (hn i q) hs
  .rw[afa q,afa q]
 refine rK (P:=P) (c:=c) (KV:=λr s'=>r=v/\s'=s) k hc hb ab hl cH (aa _) ?_ ?_
 .rintro r s' ⟨rfl,rfl⟩
  exact⟨hl,cH,hv⟩
 .rintro r s' ⟨rfl,rfl⟩
  exact⟨rfl,by rw[<-ab];exact B9 k s⟩
theorem NO (n:Nat) (h:3<=n) {τ:St} (hR:τ.all (bP n)):(cM a b sn++τ).all (bP n)=true:=by
 rw[E4,xY n h,hR];rfl
def fo (x:Int×Int×List Ot):List V:= [.int .i64 x.1,.int .i64 x.2.1,.sl .ro (x.2.2.map Ot.row)]
def vu (dz:fj) (oT:List Ln):V:= .cm [.agg (fo (dd dz oT).1),.sl .ro ((if(dd dz oT).1.1≠0 then []else k7 (gb oT (dd dz oT).2)).map ff)]
def k9:Ob:= .box [.sl .ro xZ,.sl .ro (bM.map bI.row)]
theorem NP (dz:fj) (hl:nu dz) (vs:List Vw) (aD:vs.length<=100000) (hv: ∀x∈vs,x.1<1000/\x.2.length<=100000/\ ∀q∈x.2,q.2.length<=cZ) (hN:(yJ vs).length<=7500):
  Pure prog 21 [dS bM,.agg dz.row,.sl .ro (vs.map oZ)] (vu dz (yZ vs)):=by
 have ad:=yL3 dz hl
 obtain⟨aE,av⟩:=hl.stmts
 have ai:=NM hl
 obtain⟨⟨ci,cr⟩,hP⟩: ∃P,kY dz=P:=⟨_,rfl⟩
 rw[hP]at ad ai
 generalize hM:vu dz (yZ vs)=M
 unfold vu dd at hM
 rw[hP]at hM
 simp only at hM ai
 refine iV 0 func21 ntmps21 results21 λc hc hb=> ?_
 refine zO (zA ?_)
 simp[go_sem,dS]
 refine zO (zA ?_)
 simp[go_sem]
 refine zM ad cB (zN (by simp[go_sem,dS]) rfl) rfl ?_
 simp[go_sem,wJ]
 by_cases c0:cr=0
 rotate_left
 .have ar:(cr !=0)=true:=sU c0
  rw[afb c0]at hM
  simp[go_sem,ar]
  have aF:M= .cm [.agg [.int .i64 cr,.int .i64 ci,.sl .ro []],.sl .ro []]:=by rw[<-hM];simp[c0,fo]
  exact yL (r:=M) (by rw[aF];exact wK ⟨oK ⟨zU rfl,zU rfl,yX,tV⟩,xw,tV⟩) ⟨rfl,rfl⟩
 have ar:(cr !=0)=false:=sU c0
 rw[afa (λh=>h c0)]at hM
 simp[go_sem,ar]
 refine nM (S:=Unit) [2,4,6,10] (λ_=> [.sl .ro (vs.map oZ),.ptr 5 0,.ptr 6 0,.ptr 3 0]) (λ_=>pX (tP _,tP _,tP _)++ [k9,.box dz.row,.box [.int .i64 0,.int .i64 0,.sl .full []]]) (λ_=>True) hc hb ?_ ?_
 .refine zA ?_
  simp[go_sem]
  exact zG () ⟨tV,AQ [3,4,5,6,0,1,2] dc rfl ⟨rfl,rfl,rfl,rfl,rfl,rfl,rfl,tV⟩ ⟨zC rfl,.inl rfl,.inl rfl,.inl rfl,tV⟩⟩
 rintro _ _
 have aw:=hl
 obtain⟨Q,hQ⟩:=eX ((yJ vs).foldl oy ([],[]))
 have ax:yZ vs=Q.2:=by unfold yZ;rw[hQ]
 rw[ax]at hM
 clear ax
 refine zO (zA ?_)
 simp[go_sem]
 refine zH (S:=Nat×Nat×(List (Pl×afE)×List Ln)×M3) [4,6,10,36,37,38] (λu=> [.ptr 5 0,.ptr 6 0,.ptr 3 0,.sl .ro (vs.map oZ),.int .i64 vs.length,.int .i64 u.1])
  (λu=>pX u.2.2.2++ [k9,.box dz.row,.box [.int .i64 0,.int .i64 0,.sl .full []]]) (λu=>vs.length - u.1)
  (λu=>u.1<=vs.length/\nz u.2.1 u.2.2.1 u.2.2.2/\u.2.1+(yJ (vs.drop u.1)).length=(yJ vs).length/\(yJ (vs.drop u.1)).foldl oy u.2.2.1=Q) hc hb (0,0,([],[]),(tP _,tP _,tP _)) ⟨A5 _,Tv,sm,hQ⟩ ?_ ?_
 .exact zW sm sg
 rintro⟨i,n,s,a,b,sn⟩ ⟨hi,hT,hn,aa⟩
 simp only at hi hT hn aa
 by_cases q:i<vs.length
 .have ei:=zR q om
  obtain⟨⟨g,ps⟩,hx⟩: ∃x,vs[i]=x:=⟨_,rfl⟩
  obtain⟨hg,ay,az⟩:=hv (g,ps) (hx▸Aa q)
  simp only at hg ay az
  rw[A2 q,hx,J1]at hn aa
  rw[D8]at aa
  rw[Ah]at hn
  refine zA ?_
  simp[go_sem,pX,cM,fm,k9,q,hx,oZ]
  refine zH (S:=Nat×Nat×(List (Pl×afE)×List Ln)×M3) [4,6,10,12,36,37,38,43,44,45] (λu=> [.ptr 5 0,.ptr 6 0,.ptr 3 0,.ptr 7 0,.sl .ro (vs.map oZ),.int .i64 vs.length,.int .i64 i,.sl .ro (ps.map ic),.int .i64 ps.length,.int .i64 u.1])
   (λu=>pX u.2.2.2++ [k9,.box dz.row,.box [.int .i64 0,.int .i64 0,.sl .full []],.box (oZ (g,ps))]) (λu=>ps.length - u.1)
   (λu=>u.1<=ps.length/\nz u.2.1 u.2.2.1 u.2.2.2/\u.2.1+((qK g (ps.drop u.1)).length+(yJ (vs.drop (i+1))).length)=(yJ vs).length/\(yJ (vs.drop (i+1))).foldl oy ((qK g (ps.drop u.1)).foldl oy u.2.2.1)=Q) hc hb (0,n,s,a,b,sn) ⟨A5 _,hT,hn,aa⟩ ?_ ?_
  .exact p6 rfl sm sg
  rintro⟨j,n1,s1,a1,b1,aj⟩ ⟨hj,ae,ak,ab⟩
  simp only at hj ae ak ab
  by_cases qj:j<ps.length
  .have ej:=zR qj om
   obtain⟨⟨k,d⟩,hp⟩: ∃x,ps[j]=x:=⟨_,rfl⟩
   have hd:=az (k,d) (hp▸Aa qj)
   simp only at hd
   have a6:qK g (ps.drop j)=(((g:Int),k),d)::qK g (ps.drop (j+1)):=by
    rw[A2 qj,hp];rfl
   rw[a6,Ab]at ak
   rw[a6,B8]at ab
   have ag:=wc2 g hg k d hd a1 b1 aj (by rw[show a1=b1 from ae.same];exact ae.now.ok) ae.now.ok ae.sn (ae.sK _) (ae.pos om _)
   have au:=ae.step (((g:Int),k),d)
   obtain⟨⟨a2,b2,a7⟩,aG⟩: ∃M3,yy ((g:Int),k) d (a1,b1,aj)=M3:=⟨_,rfl⟩
   simp only at au
   rw[aG]at ag au
   refine zA ?_
   simp[go_sem,pX,cM,fm,k9,qj,hp,oZ,ic]
   refine rK 4 ag cB rfl rfl (xY 4 dc a1 b1 aj) (oJ (n:=4) rfl) ?_ ?_
   .rintro r s' ⟨rfl,rfl⟩
    exact⟨rfl,xY 4 dc a2 b2 a7,rfl⟩
   rintro r s' ⟨rfl,rfl⟩
   simp[go_sem,pX,cM,fm,ej]
   exact zG (j+1,n1+1,oy s1 (((g:Int),k),d),a2,b2,a7) ⟨by show ps.length - (j+1)<ps.length - j;omega,⟨qj,au,by show n1+1+((qK g (ps.drop (j+1))).length+(yJ (vs.drop (i+1))).length)=(yJ vs).length;omega,ab⟩,ca 8 (by rfl) rfl (NO 8 dc (by simp[bP,cK,cG])) dc (zD sg rfl)⟩
  .have:j=ps.length:=om
   subst this
   rw[Cd]at ak ab
   refine zA ?_
   simp[go_sem,pX,cM,fm,k9,ei]
   exact zG (i+1,n1,s1,a1,b1,aj) ⟨by show vs.length - (i+1)<vs.length - i;omega,⟨q,ae,by show n1+(yJ (vs.drop (i+1))).length=(yJ vs).length;simp[qK]at ak;omega,ab⟩,ca 7 (by rfl) rfl (NO 7 dc (by simp[bP,cK,cG])) dc (zD sg rfl)⟩
 .have:i=vs.length:=om
  subst this
  rw[Cd]at hn aa
  have hs:s=Q:=aa
  subst hs
  have aT:n<=7500:=by simp[yJ]at hn;simp[yJ]at hN;omega
  have aH:a=b:=hT.same
  subst aH
  have ah:cw a s.2:=hT.now
  have aI:s.2.length<=n:=hT.len
  obtain⟨af,al⟩:=eX s.2
  rw[al]at hM ah aI
  clear hT hn aa hN al hv aD
  obtain⟨D,hD⟩:=eX (eZ dz.stmts 0 [] af)
  rw[hD]at hM
  have aJ:D.1.1≠0->M= .cm [.agg (fo D.1),.sl .ro []]:=λh=>by rw[<-hM];simp[h]
  have aK:D.1.1=0->M= .cm [.agg (fo D.1),.sl .ro ((k7 (gb af D.2)).map ff)]:=λh=>by rw[<-hM];simp[h]
  have ay:D.1.1=0\/D.1.1≠0:=om
  have an:=ai c0
  clear hM ai ad hl aw
  obtain⟨lm,ln,L⟩:=dz
  simp only at aE av hD an
  refine zA ?_
  simp[go_sem,pX,cM,fm,k9]
  refine F0 6 2 2 [.int .i64 0,.int .i64 0,.sl .full []] dc rfl rfl ?_
  refine zO (zA ?_)
  simp[go_sem]
  refine zH (S:=Nat×Mp afE×List Ln×List Ot) [6,10,57,58,59] (λu=> [.ptr 6 0,.ptr 3 0,.sl .ro (L.map bQ.row),.int .i64 L.length,.int .i64 u.1])
   (λu=>pX (a,u.2.1,sn)++ [k9,.box (fj.row ⟨lm,ln,L⟩),.box [.int .i64 0,.int .i64 0,.sl (.app 7) (u.2.2.2.map Ot.row)],.app u.2.2.2.length 2]) (λu=>L.length - u.1)
   (λu=>u.1<=L.length/\cw u.2.1 u.2.2.1/\u.2.2.2.length=u.1/\u.2.2.1.length<=7500+20*u.1/\eZ (L.drop u.1) u.1 u.2.2.2 u.2.2.1=D) hc hb (0,a,af,[]) ⟨A5 _,ah,rfl,by show af.length<=7500+20*0;omega,hD⟩ ?_ ?_
  .exact p6 rfl sm sg
  rintro⟨i,b,l,outs⟩ ⟨hi,hn,a8,aL,aa⟩
  simp only at hi hn a8 aL aa
  by_cases q:i<L.length
  rotate_left
  .rw[A8 om,eZ]at aa
   refine zA ?_
   simp[go_sem,pX,cM,fm,k9,q]
   have ao:=wb3 a b sn af l ah hn om om
   have aP:D.2=l:=by rw[<-aa]
   have aA:D.1=(0,0,outs):=by rw[<-aa]
   have hM:=aK (by rw[aA])
   rw[aA,aP]at hM
   obtain⟨PW,aQ⟩:=eX (k7 (gb af l))
   rw[aQ]at ao hM
   refine zO ?_
   refine nR [(2,1)] 7 sm kR kR ?_
   simp[go_sem]
   refine TT 4 ao cB rfl rfl (xY 4 dc a b sn) rfl (λi hi=>by simp[go_sem];omega) (λN=>oJ (n:=4) rfl) ?_
   simp[go_sem]
   refine zA ?_
   simp[go_sem]
   exact yL (r:=M) (by rw[hM];exact wK ⟨oK ⟨zU rfl,zU rfl,yX,tV⟩,xw,tV⟩) ⟨rfl,rfl⟩
  have ei:=zR q om
  obtain⟨x,hx⟩:=eX (L[i])
  have aB:x∈L:=hx▸Aa q
  have aq:=xq2 x (an x aB) a b sn l hn om
  have hlen:=NN (st:=x) (l:=l)
  have aS:=(av x aB).rows.1
  rw[A2 q,hx,eZ]at aa
  obtain⟨E,hE⟩:=eX (iD x l)
  rw[hE]at aa aq hlen
  refine zA ?_
  simp[go_sem,pX,cM,fm,k9,q,hx]
  refine rK 4 aq cB rfl rfl (xY 4 dc a b sn) (oJ (n:=4) rfl) ?_ ?_
  .rintro r s' ⟨b',rfl,rfl,_⟩
   exact⟨rfl,xY 4 dc a b' sn,rfl⟩
  rintro r s' ⟨b',rfl,rfl,aR⟩
  by_cases e0:E.2.2=0
  rotate_left
  .have aC:(E.2.2 !=0)=true:=sU e0
   rw[afb e0]at aa
   have hM:=aJ (by rw[<-aa];exact e0)
   simp[go_sem,cM,fm,aC,Ot.row]
   exact yL (r:=M) (by rw[hM,<-aa];exact wK ⟨oK ⟨zU rfl,zU rfl,yX,tV⟩,xw,tV⟩) ⟨rfl,rfl⟩
  have aC:(E.2.2 !=0)=false:=sU e0
  rw[afa (λh=>h e0)]at aa
  simp[go_sem,cM,fm,e0,Ot.row]
  refine zI ⟨om,zX rfl⟩ ?_
  simp[go_sem,ei]
  exact zG (i+1,b',E.2.1,outs++ [E.1]) ⟨by show L.length - (i+1)<L.length - i;omega,⟨q,aR e0,by show(outs++ [E.1]).length=i+1;simp[a8],by show E.2.1.length<=7500+20*(i+1);omega,aa⟩,ca 8 (by simp[Ot.row]) rfl (NO 8 dc (by simp[bP,cK,cG])) dc (zD sg rfl)⟩
theorem yL2 (h:(kY dz).2=0): ∀st∈dz.stmts,gY st=true/\oq st=0:=by
 unfold kY at h
 by_cases q:kX dz=true
 rotate_left
 .grind
 rw[afb q]at h
 intro st aa
 refine⟨?_,NL h st aa⟩
 simp_all[kX]
theorem TU {tn:Nat} {T:bI} (hT:bM[tn]? =some T): ∀{R:List (List bH)} {b:Mp afE} {l:List Ln},(∀r∈R,∀e∈r,jL e)->cw b l->(fU tn T R l).2=0-> ∃b',cw b' (fU tn T R l).1
 | [],b,l,_,hn,_=>⟨b,hn⟩
 |r::R,b,l,he,hn,h=>by
  rw[fU]at h⊢
  have ab:=JM r [] (he r (B1 ..)) (λv hv=>by cases hv)
  by_cases q1:(dP ep [] r []).2≠0
  .grind
  rw[afa q1]at h⊢
  obtain⟨_,ad⟩:=ab om
  have aa:=JN tn T hT (dP ep [] r []).1
  by_cases q2:(eW tn T (dP ep [] r []).1).2.2≠0
  .grind
  rw[afa q2]at h⊢
  obtain⟨af,ag,ae⟩:=aa om
  by_cases q3:ib l ((eW tn T (dP ep [] r []).1).1,(eW tn T (dP ep [] r []).1).2.1)=true
  .grind
  rw[afa q3]at h⊢
  exact TU hT (by grind) (hn.ins (x:=⟨(eW tn T (dP ep [] r []).1).1,(eW tn T (dP ep [] r []).1).2.1,(dP ep [] r []).1⟩) ⟨(by grind),ae,ad⟩ (Bool.eq_false_iff.2 q3)) h
theorem TV: ∀{m:List Ln} {b:Mp afE} {l:List Ln},cw b l-> ∃b',cw b' (jr m l)
 | [],b,_,hn=>⟨b,hn⟩
 |x::m,b,l,hn=>by
  rw[jr]
  exact TV (hn.del x.at)
theorem TW (aa:p5 st) (hn:cw b l) (h:(iD st l).2.2=0): ∃b',cw b' (iD st l).2.1:=by
 obtain⟨tn,ad⟩: ∃tn:Nat,iR st.table=tn:=⟨(iR st.table).toNat,by have:=aa.iY;omega⟩
 have ab:tn<3:=by
  have h:=BZ (λT:bI=>T.name==st.table) bM 0
  have h2:bM.length=3:=rfl
  grind[iR]
 obtain⟨T,hT⟩: ∃T,bM[tn]? =some T:=⟨_,A0 (show tn<bM.length from ab)⟩
 unfold iD at h⊢
 simp only[ad,Ax]at h⊢
 rw[show bM.getD tn ep=T by grind]at h⊢
 by_cases k2:st.kind=2
 .rw[afb k2]at h⊢
  by_cases q:(fU tn T st.rows l).2≠0
  .grind
  .rw[afa q]
   exact TU hT (λr hr=>(aa.ok.rows.2 r hr).2) hn om
 rw[afa k2]at h⊢
 by_cases q:(fD tn T st l).2≠0
 .grind
 rw[afa q]at h⊢
 by_cases k1:st.kind=1
 .grind
 rw[afa k1]at h⊢
 by_cases k3:st.kind=3
 .rw[afb k3]at h⊢
  by_cases q2:(ga T st.cu (fD tn T st l).1 l).2≠0
  .grind
  .rw[afa q2]
   refine⟨_,NI hT aa.ok hn (λx hx=> ?_) om⟩
   obtain⟨h1,h2⟩:=JQ x hx
   exact⟨eE.2 (by grind),hn.rows x h1,JZ ab h2⟩
 .rw[afa k3]
  exact TV hn
abbrev Pr:=afE×afE
theorem TX: ∀(tn:Nat) (T:bI),bM[tn]? =some T->tn=0->T.place=0:=by
 intro tn T h h0
 subst h0
 have e:bM[0]? =some T:=h
 exact(by decide: ∀T,bM[0]? =some T->T.place=0) T e
theorem xm4 (hT:bM[tn]? =some T) {row aa:List bG} (h1:eD T.bW row=0) (h2:eD T.bW aa=0) (hk:aa.getD T.key.toNat zeroV=row.getD T.key.toNat zeroV) (hp:T.place=0->aa.getD 0 zeroV=row.getD 0 zeroV):eW tn T aa=eW tn T row:=by
 have hr:EY tn aa=EY tn row:=by
  unfold EY
  by_cases h0:tn=0
  .rw[afb h0,afb h0,hp (by grind[TX])]
  omega
 unfold eW
 rw[afa om,afa (show ¬eD T.bW row≠0 from λh=>h h1),hr,hk]
 by_cases h0:tn=0
 .grind[TX]
 grind
theorem TY (h:eQ x) (aa:(fp x.r).1=(tn:Int)) (hT:bM[tn]? =some T) (hk:eW tn T x.v=(x.r,x.k,0)):CF x:=by
 unfold CF mT
 rw[h.read,aa,Ax,show bM.getD tn ep=T by grind,hk,h.err]
 simp
theorem xO3 (h:eQ x) (hK:CF x) (aa:(fp x.r).1=(tn:Int)) (hT:bM[tn]? =some T):eW tn T x.v=(x.r,x.k,0):=by
 unfold CF mT at hK
 rw[h.read,aa,Ax,show bM.getD tn ep=T by grind]at hK
 grind
theorem xz0 {l:List bG} {j:Nat} {v:bG} (h:i≠j):(l.set i v).getD j zeroV=l.getD j zeroV:=by
 grind
theorem TZ {T:bI} {ny:List bG} {c:Nat} (hc:(c:Int)=T.key\/((c:Int)=0/\T.place=0)): ∀{cu p:List bY} {row:List bG},nw T p cu=0->(fM T ny cu row).2=0->(fM T ny cu row).1.getD c zeroV=row.getD c zeroV
 | [],_,row,_,_=>rfl
 |y::l,p,row,h,h2=>by
  rw[fM]at h2⊢
  by_cases q:(fX T ny y.e).2≠0
  .grind
  rw[afa q]at h2⊢
  rw[nw]at h
  by_cases q1:cy T y.name<0
  .omega
  rw[afa q1]at h
  by_cases q2:cy T y.name=T.key\/(cy T y.name=0/\T.place=0)
  .omega
  rw[afa q2]at h
  by_cases q3:(p.any λz=>z.name==y.name)=true
  .grind
  rw[afa q3]at h
  by_cases q4:oi T y.e (km T (cy T y.name))≠0
  .omega
  rw[afa q4]at h
  rw[TZ hc h h2]
  refine xz0 λe=>q2 ?_
  have e2:cy T y.name=(c:Int):=om
  rw[e2]
  exact hc
def nB (l:List Ln):Prop:= ∀x∈l,eQ x/\CF x
theorem T0 {tn:Nat} {T:bI} (hT:bM[tn]? =some T): ∀{R:List (List bH)} {l:List Ln},(∀r∈R,∀e∈r,jL e)->nB l->(fU tn T R l).2=0->nB (fU tn T R l).1
 | [],l,_,hn,_=>hn
 |r::R,l,he,hn,h=>by
  rw[fU]at h⊢
  have ab:=JM r [] (he r (B1 ..)) (λv hv=>by cases hv)
  by_cases q1:(dP ep [] r []).2≠0
  .grind
  rw[afa q1]at h⊢
  obtain⟨_,ad⟩:=ab om
  have aa:=JN tn T hT (dP ep [] r []).1
  obtain⟨⟨kr,kk,ke⟩,ae⟩: ∃ks,eW tn T (dP ep [] r []).1=ks:=⟨_,rfl⟩
  rw[ae]at h aa⊢
  simp only at h aa⊢
  by_cases q2:ke≠0
  .grind
  rw[afa q2]at h⊢
  have af:ke=0:=om
  obtain⟨ah,ai,ag⟩:=aa af
  by_cases q3:ib l (kr,kk)=true
  .grind
  rw[afa q3]at h⊢
  have hx:eQ ⟨kr,kk,(dP ep [] r []).1⟩:=⟨(by grind),ag,ad⟩
  refine T0 hT (by grind) (λz hz=> ?_) h
  rcases Ae.1 ((yz l _).mem_iff.1 hz)with rfl|hz
  .grind[TY]
  .exact hn z hz
theorem T3: ∀{m l:List Ln},nB l->nB (jr m l)
 | [],l,h=>h
 |x::m,l,h=>by
  rw[jr]
  exact T3 (λy hy=>h y (C5.1 hy).1)
theorem T4 {tn:Nat} {T:bI} (hT:bM[tn]? =some T) {st:bQ} (ad:kg st) (hc:nw T [] st.cu=0): ∀{m l:List Ln},nB l->(∀x∈m,eQ x/\CF x/\(fp x.r).1=(tn:Int))->(ga T st.cu m l).2=0->nB (ga T st.cu m l).1
 | [],_,hn,_,_=>hn
 |x::m,l,hn,hm,h0=>by
  obtain⟨aa,al,an⟩:=hm x sm
  obtain⟨ao,aq⟩:=(by decide: ∀T∈bM,0<=T.key/\T.key<T.bW.length) T (by grind)
  rw[ga]at h0⊢
  have ab:=λ(c:Nat) (ah:(c:Int)=T.key\/((c:Int)=0/\T.place=0))=>TZ (T:=T) (ny:=x.v) ah (cu:=st.cu) (p:= []) (row:=x.v) hc
  have ae:=JP (T:=T) aa.ok (cu:=st.cu) (row:=x.v) (λy hy=>(ad.cu.2 y hy).2) aa.ok
  obtain⟨E,hE⟩:=eX (fM T x.v st.cu x.v)
  rw[hE]at h0 ab ae⊢
  by_cases q:E.2≠0
  .grind
  rw[afa q]at h0⊢
  have q0:E.2=0:=om
  by_cases q2:eD T.bW E.1≠0
  .grind
  rw[afa q2]at h0⊢
  have m0:eD T.bW E.1=0:=om
  obtain⟨af,T',ar,ag,ai⟩:=aa.iY
  have:af=tn:=om
  subst this
  rw[hT]at ag
  cases ag
  have aj:eQ ⟨x.r,x.k,E.1⟩:=⟨(by grind),aa.err,(ae q0).2⟩
  have ak:eW af T E.1=(x.r,x.k,0):=by
   rw[xm4 hT ai m0 (by grind) (by grind)]
   grind[xO3]
  refine T4 hT ad hc (λz hz=> ?_) (by grind) h0
  unfold iT at hz
  obtain⟨y,hy,rfl⟩:=Ac.1 hz
  by_cases e:y.at=x.at
  .rw[afb e]
   have e1:y.r=x.r:=aff Prod.fst e
   have e2:y.k=x.k:=aff Prod.snd e
   grind[TY]
  .rw[afa e]
   exact hn y hy
theorem we6 (aa:p5 st) (hc:oq st=0) (_hn:cw b l) (hk:nB l) (h:(iD st l).2.2=0):nB (iD st l).2.1:=by
 obtain⟨tn,ab⟩: ∃tn:Nat,iR st.table=tn:=⟨(iR st.table).toNat,by have:=aa.iY;omega⟩
 have ad:tn<3:=by
  have h:=BZ (λT:bI=>T.name==st.table) bM 0
  have h2:bM.length=3:=rfl
  grind[iR]
 obtain⟨T,hT⟩: ∃T,bM[tn]? =some T:=⟨_,A0 (show tn<bM.length from ad)⟩
 unfold oq at hc
 rw[ab,Ax,hT]at hc
 simp only at hc
 rw[afa om]at hc
 unfold iD at h⊢
 simp only[ab,Ax]at h⊢
 rw[show bM.getD tn ep=T by grind]at h⊢
 by_cases k2:st.kind=2
 .rw[afb k2]at h⊢
  by_cases q:(fU tn T st.rows l).2≠0
  .grind
  .rw[afa q]
   exact T0 hT (λr hr=>(aa.ok.rows.2 r hr).2) hk om
 rw[afa k2]at h⊢
 by_cases q:(fD tn T st l).2≠0
 .grind
 rw[afa q]at h⊢
 by_cases k1:st.kind=1
 .grind
 rw[afa k1]at h⊢
 by_cases k3:st.kind=3
 .rw[afb k3]at h⊢
  by_cases q2:(ga T st.cu (fD tn T st l).1 l).2≠0
  .grind
  .rw[afa q2]
   have ae:nw T [] st.cu=0:=by
    omega
   refine T4 hT aa.ok ae hk (λx hx=> ?_) om
   obtain⟨h1,h2⟩:=JQ x hx
   exact⟨(hk x h1).1,(hk x h1).2,JZ ad h2⟩
 simp_all[T3]
theorem T5: ∀{ss:List bQ} {i:Nat} {acc:List Ot} {b:Mp afE} {l:List Ln},(∀x∈ss,p5 x/\oq x=0)->cw b l->nB l->(eZ ss i acc l).1.1=0->(∃b',cw b' (eZ ss i acc l).2)/\nB (eZ ss i acc l).2/\(eZ ss i acc l).2.length<=l.length+20*ss.length
 | [],i,acc,b,l,_,hn,hk,_=>(by grind[eZ])
 |x::ss,i,acc,b,l,hs,hn,hk,h=>by
  rw[eZ]at h⊢
  obtain⟨hx,ab⟩:=hs x sm
  by_cases q:(iD x l).2.2≠0
  .grind
  rw[afa q]at h⊢
  have q0:(iD x l).2.2=0:=om
  obtain⟨b',aa⟩:=TW hx hn q0
  have hlen:=NN (st:=x) (l:=l)
  have hr:=hx.ok.rows.1
  obtain⟨h1,h2,h3⟩:=T5 (by grind) aa (by grind[we6]) h
  grind
theorem nz.run: ∀(ps:List (Pl×afE)) {n:Nat} {s:List (Pl×afE)×List Ln} {m:M3},nz n s m-> ∃m',nz (n+ps.length) (ps.foldl oy s) m'
 | [],n,s,m,h=>⟨m,h⟩
 |p::ps,n,s,m,h=>by
  obtain⟨m',h'⟩:=nz.run ps (h.step p)
  grind
theorem Hm (vs:List Vw): ∃m,nz (yJ vs).length ((yJ vs).foldl oy ([],[])) m:=by
 obtain⟨m,h⟩:=nz.run (yJ vs) Tv
 grind
theorem T6 {l:List Wr} {aa now:List Ln} (h1: ∀x∈aa,eQ x) (h2: ∀x∈now,eQ x) (hw:fI (aa.map Ln.at)) (hn:fI (now.map Ln.at)) (hl:l=gb aa now): ∀w∈l,w.p.1=0\/w.p.1=1\/w.p.1=2\/w.p.1=3:=λw ad=>by
 rw[hl]at ad
 have hr: ∀x:Ln,eQ x->x.r=0\/x.r=1\/x.r=2\/x.r=3:=λx hx=>by
  have:=hx.err
  unfold fp at this
  grind
 rcases((JU hw hn).2 w).1 ad with ⟨_,_,⟨x,hx,ab⟩,_⟩|⟨_,x,hx,ab,_,_⟩
 .rw[<-ab];exact hr x (h1 x hx)
 .rw[<-ab];exact hr x (h2 x hx)
theorem NQ (hl:nu dz) (hn:cw b l) (hk:nB l) (h:(dd dz l).1.1=0):(∃b',cw b' (dd dz l).2)/\nB (dd dz l).2/\(dd dz l).2.length<=l.length+240:=by
 unfold dd at h⊢
 by_cases q:(kY dz).2≠0
 .grind
 rw[afa q]at h⊢
 have q0:(kY dz).2=0:=om
 by_cases q2:(eZ dz.stmts 0 [] l).1.1≠0
 .grind
 rw[afa q2]at h⊢
 obtain⟨h1,h2,h3⟩:=T5 (λx hx=>⟨NM hl q0 x hx,(yL2 q0 x hx).2⟩) hn hk h
 have:=hl.stmts.1
 grind
theorem yX4 (l:List (List bG)) (hl:l.length<=100000) (hw: ∀x∈l,x.length<=100000):Pure prog 29 [.sl .ro (l.map λr=> [V.sl .ro (r.map bG.row)]),.sl .ro (l.map λr=> [V.sl .ro (r.map bG.row)])] (.bool true):=by
 refine iV 0 func29 ntmps29 results29 λc hc hb=> ?_
 refine zA ?_
 simp[go_sem]
 refine zH (S:=Nat) [0,1,5] (λi=> [.sl .ro (l.map λr=> [V.sl .ro (r.map bG.row)]),.sl .ro (l.map λr=> [V.sl .ro (r.map bG.row)]),.int .i64 i]) (λ_=> []) (λi=>l.length - i) (λi=>i<=l.length) hc hb 0 (A5 _) ?_ ?_
 .exact aO
 rintro i hi
 by_cases q:i<l.length
 rotate_left
 .refine zA ?_
  simp[go_sem,q]
  exact wR
 have ei:=zR q om
 obtain⟨r,hy⟩: ∃y,l[i]=y:=⟨_,rfl⟩
 have hr:=hw r (hy▸Aa q)
 refine zA ?_
 simp[go_sem,q]
 refine yV [] 0 rfl kR kR ?_
 simp[go_sem,q,hy]
 refine zH (S:=Nat) [0,1,5,6] (λj=> [.sl .ro (l.map λr=> [V.sl .ro (r.map bG.row)]),.sl .ro (l.map λr=> [V.sl .ro (r.map bG.row)]),.int .i64 i,.int .i64 j]) (λ_=> []) (λj=>r.length - j) (λj=>j<=r.length) hc hb 0 (A5 _) ?_ ?_
 .exact aO
 rintro j hj
 by_cases qj:j<r.length
 rotate_left
 .refine zA ?_
  simp[go_sem,q,hy,qj,ei]
  exact zG (i+1) ⟨om,om,aO⟩
 have ej:=zR qj om
 obtain⟨⟨vk,vn,vs⟩,hv⟩: ∃y,r[j]=y:=⟨_,rfl⟩
 refine zA ?_
 simp[go_sem,q,hy,qj]
 refine yV [] 0 rfl kR kR ?_
 simp[go_sem,q,hy,qj,hv,bG.row,ej]
 exact zG (j+1) ⟨om,om,aO⟩
theorem T7 (er ix:Int) (outs:List Ot) (hl:outs.length<=100000) (hw: ∀x∈outs,x.rows.length<=100000/\ ∀r∈x.rows,r.length<=100000):Pure prog 22 [.agg (fo (er,ix,outs)),.agg (fo (er,ix,outs))] (.bool true):=by
 refine iV 0 func22 ntmps22 results22 λc hc hb=> ?_
 refine zA ?_
 simp[go_sem,fo]
 refine zH (S:=Nat) [2,3,5] (λi=> [.ptr 0 0,.ptr 1 0,.int .i64 i]) (λ_=> [.box (fo (er,ix,outs)),.box (fo (er,ix,outs))]) (λi=>outs.length - i) (λi=>i<=outs.length) hc hb 0 (A5 _) ?_ ?_
 .exact p6 (by simp[fo]) sm sg
 rintro i hi
 by_cases q:i<outs.length
 rotate_left
 .refine zA ?_
  simp[go_sem,q,fo]
  exact wR
 have ei:=zR q om
 obtain⟨⟨cn,rs⟩,hy⟩: ∃y,outs[i]=y:=⟨_,rfl⟩
 obtain⟨h1,h2⟩:=hw ⟨cn,rs⟩ (hy▸Aa q)
 have hs:=yX4 rs h1 h2
 refine zA ?_
 simp[go_sem,q,fo]
 refine PX [(12,3),(13,3)] 2 10 sm kR (by rw[hc];exact A5 _) hb kR rfl (by repeat' (first|exact jS.jC|refine jS.dK ?_ (by simp[fW,j6,cK,cG]))) (by simp only[Bl,Cy];exact rfl) (by simp only[Br,Az];exact rfl) ?_
 simp[go_sem,q,hy,Ot.row]
 refine⟨by repeat' (first|exact jS.jC|refine jS.dK ?_ (by simp[fW,j6,cK,cG])), ?_⟩
 refine pC hs ?_
 simp[go_sem,ei]
 exact zG (i+1) ⟨om,om,aN 2 (by simp[bP,cK,cG])⟩
def gv (k d:afE):Bool->List Pr->List Pr
 |b,[]=>if b=true then []else [(k,d)]
 |b,x::l=>(if(!b&&Op.bytesLess k x.1)=true then [(k,d)]else [])++((if x.1=k then []else [x])++gv k d (b||Op.bytesLess k x.1) l)
def mX (l:List Pr):Prop:=l.Pairwise λa b=>Op.bytesLess a.1 b.1=true
theorem Hn (k d:afE): ∀l:List Pr,gv k d true l=l.filter λx=> !decide (x.1=k)
 | []=>rfl
 |x::l=>by
  rw[gv,D5,Hn k d l,Cw]
  grind
theorem NR (k d:afE): ∀(b:Bool) (l:List Pr),(gv k d b l).Perm ((if b=true then []else [(k,d)])++l.filter λx=> !decide (x.1=k))
 |b,[]=>by rw[gv];simp
 |true,x::l=>by grind[Hn]
 |false,x::l=>by
  rw[gv]
  by_cases q:Op.bytesLess k x.1=true
  .rw[q,Dy,Hn]
   grind
  .have q':Op.bytesLess k x.1=false:=by grind
   rw[q',Bj]
   have ih:=NR k d false l
   by_cases e:x.1=k
   .simp[e]at ih⊢
    exact ih
   .simp[e]at ih⊢
    exact(ih.cons x).trans (List.Perm.swap ..)
theorem iU {k:afE} {b:Bool} {l:List Pr} {x:Pr}:x∈gv k d b l↔(b=false/\x=(k,d))\/(x∈l/\x.1≠k):=by
 grind[NR]
theorem T8 (k d:afE): ∀(b:Bool) {l:List Pr},mX l->mX (gv k d b l)
 |true,l,h=>by rw[Hn];exact List.Pairwise.sublist C1 h
 |false,[],_=>by rw[gv,afa dc];exact List.pairwise_singleton ..
 |false,x::l,h=>by
  have h2:=h
  unfold mX at h2
  rw[By]at h2
  rw[gv]
  by_cases q:Op.bytesLess k x.1=true
  .have hx:x.1≠k:=(by grind[tO])
   rw[q,Dy,Hn,afb (by rfl),afa hx]
   show mX ((k,d)::x::l.filter _)
   unfold mX
   refine By.2 ⟨λy hy=> ?_,By.2 (by grind)⟩
   rcases Ae.1 hy with rfl|hy
   all_goals grind[yw]
  .have q':Op.bytesLess k x.1=false:=by grind
   rw[q',Bj,Bool.and_false,afa dc,Bp]
   have ih:=T8 k d false h2.2
   by_cases e:x.1=k
   .grind
   .rw[afa e]
    show mX (x::gv k d false l)
    unfold mX
    refine By.2 ⟨λy hy=> ?_,ih⟩
    rcases iU.1 hy with ⟨_,rfl⟩|⟨hy,_⟩
    all_goals grind[GZ]
def NS (w:Wr) (l:List Pr):List Pr:=gv w.p.2 w.data w.drop l
def lf (g:Int) (P:List (List Pr)) (w:Wr):List (List Pr):=P.set g.toNat (NS w (P.getD g.toNat []))
def Fb (P:List (List Pr)) (q:Int×List Wr):List (List Pr):=if q.1<0\/8<=q.1 then P else q.2.foldl (lf q.1) P
def mm (P:List (List Pr)) (qs:List (Int×List Wr)):List (List Pr):=qs.foldl Fb P
theorem NT (g:Int) (P:List (List Pr)) (w:Wr):(lf g P w).length=P.length:=by grind[lf]
theorem xM9 {out:List (Int×List Wr)} (hw:0<=w.p.1/\w.p.1<8) (P:List (List Pr)):mm P (iy out w)=lf w.p.1 (mm P out) w:=by
 have hq: ∀P,Fb P (w.p.1,[w])=lf w.p.1 P w:=λP=>by unfold Fb;grind
 unfold iy
 cases q:out.getLast? with
 |none=>
  rw[List.getLast?_eq_none_iff.1 q]
  exact hq P
 |some p=>
  have ho:out=out.dropLast++ [p]:=by
   have h:=List.getLast?_eq_some_iff.1 q
   grind
  simp only
  by_cases e:p.1=w.p.1
  .rw[afb e]
   unfold mm
   rw[D8,B8,List.foldl_nil]
   conv=>rhs;rw[ho,D8,B8,List.foldl_nil]
   unfold Fb
   grind
  .rw[afa e]
   unfold mm
   grind
theorem NU (P:List (List Pr)): ∀(l:List Wr) (out:List (Int×List Wr)),(∀w∈l,0<=w.p.1/\w.p.1<8)->mm P (l.foldl iy out)=l.foldl (λP w=>lf w.p.1 P w) (mm P out)
 | [],_,_=>rfl
 |w::l,out,h=>by
  rw[B8,B8,NU P l _ λx hx=>h x (B7 _ hx),xM9 (h w (B1 ..))]
def jQ (P:List (List Pr)) (p:Pl) (d:afE):Prop:=0<=p.1/\ ∃l,P[p.1.toNat]? =some l/\(p.2,d)∈l
theorem T9 {P:List (List Pr)} (h0:0<=w.p.1) (h8:w.p.1.toNat<P.length):jQ (lf w.p.1 P w) p d↔(p=w.p/\w.drop=false/\d=w.data)\/(p≠w.p/\jQ P p d):=by
 obtain⟨g,k⟩:=p
 obtain⟨⟨wg,wk⟩,wd,wb⟩:=w
 simp only at h0 h8
 unfold jQ lf NS
 simp only
 rw[A9,A0 h8,Option.getD_some]
 by_cases e:g=wg
 .subst e
  rw[Bc h8,A0 h8]
  constructor
  .rintro⟨_,l,hl,hm⟩
   cases hl
   rcases iU.1 hm with ⟨h1,h2⟩|⟨h1,h2⟩
   all_goals grind
  .rintro(⟨h1,h2,h3⟩|⟨h1,_,l,hl,hm⟩)
   .cases h1;exact⟨h0,_,rfl,iU.2 (by grind)⟩
   .cases hl
    exact⟨h0,_,rfl,iU.2 (by grind)⟩
 grind
theorem Ua {p:Pl} {d:afE}: ∀{ws:List Wr} {P:List (List Pr)},(∀w∈ws,0<=w.p.1/\w.p.1.toNat<P.length)->jQ (ws.foldl (λP w=>lf w.p.1 P w) P) p d->(∃w∈ws,w.p=p/\w.drop=false/\d=w.data)\/((∀w∈ws,w.p≠p)/\jQ P p d)
 | [],P,_,h=>(by grind)
 |w::ws,P,hw,h=>by
  have aa:=hw w (B1 ..)
  rw[B8]at h
  rcases Ua (λx hx=>by rw[NT];exact hw x (B7 _ hx)) h with ⟨x,hx,h1⟩|⟨h1,h2⟩
  .grind
  .rcases(T9 aa.1 aa.2).1 h2 with ⟨h3,h4,h5⟩|⟨h3,h4⟩
   all_goals grind
theorem xv4 {g:Int} {P:List (List Pr)} (h: ∀l∈P,mX l): ∀l∈lf g P w,mX l:=λl hl=>by
 unfold lf at hl
 rcases Dj hl with hl|rfl
 .grind
 .refine T8 _ _ _ ?_
  rw[A9]
  cases q:P[g.toNat]? with
  |none=>exact List.Pairwise.nil
  |some l=>grind
theorem NV: ∀{ws:List Wr} {P:List (List Pr)},(∀l∈P,mX l)-> ∀l∈ws.foldl (λP w=>lf w.p.1 P w) P,mX l
 | [],_,h=>h
 |w::ws,P,h=>by rw[B8];exact NV (xv4 h)
theorem NW: ∀(ws:List Wr) (P:List (List Pr)),(ws.foldl (λP w=>lf w.p.1 P w) P).length=P.length
 | [],_=>rfl
 |w::ws,P=>by rw[B8,NW ws,NT]
def dN:Nat->List (List Pr)->List Vw
 |_,[]=> []
 |i,l::P=>(i,l)::dN (i+1) P
theorem J2: ∀(i:Nat) (P:List (List Pr)),(dN i P).length=P.length
 |_,[]=>rfl
 |i,l::P=>by rw[dN,Ab,Ab,J2]
theorem J3: ∀{i:Nat} {P:List (List Pr)} {x:Vw},x∈dN i P->i<=x.1/\x.1<i+P.length/\P[x.1 - i]? =some x.2
 |_,[],_,h=>by cases h
 |i,l::P,x,h=>by
  rw[dN]at h
  rcases Ae.1 h with rfl|h
  .simp
  .obtain⟨h1,h2,h3⟩:=J3 h
   grind
theorem Ub: ∀(i:Nat) (P:List (List Pr)),((dN i P).map (·.1)).Nodup
 |_,[]=>Ca
 |i,l::P=>by
  rw[dN,Ai,C0]
  refine⟨λh=> ?_,Ub (i+1) P⟩
  obtain⟨x,hx,e⟩:=Ac.1 h
  have:=(J3 hx).1
  simp only at e
  omega
theorem NX: ∀(P:List (List Pr)) (i j:Nat),(dN i P)[j]? =(P[j]?).map λl=>(i+j,l)
 | [],_,_=>rfl
 |l::P,i,0=>rfl
 |l::P,i,j+1=>by
  rw[dN,Cc,Cc,NX P (i+1) j]
  rw[show i+1+j=i+(j+1) by omega]
theorem Ud {P:List (List Pr)} {q:Pl×afE} (h:q∈yJ (dN i P)):(i:Int)<=q.1.1/\P[q.1.1.toNat - i]? ≠none/\ ∀l,P[q.1.1.toNat - i]? =some l->(q.1.2,q.2)∈l:=by
 unfold yJ at h
 obtain⟨x,hx,hq⟩:=List.mem_flatMap.1 h
 obtain⟨h1,h2,h3⟩:=J3 hx
 obtain⟨y,hy,rfl⟩:=Ac.1 hq
 grind
theorem Ue {P:List (List Pr)} {q:Pl×afE} (h:q∈yJ (dN 0 P)):jQ P q.1 q.2:=by
 obtain⟨h1,h2,h3⟩:=Ud h
 rw[Nat.sub_zero]at h2 h3
 obtain⟨l,hl⟩:=Option.ne_none_iff_exists'.1 h2
 exact⟨om,l,hl,h3 l hl⟩
theorem Uf: ∀{P:List (List Pr)} {i g:Nat} {k d:afE} {l:List Pr},P[g]? =some l->(k,d)∈l->((((i+g:Nat):Int),k),d)∈yJ (dN i P)
 | [],_,_,_,_,_,h,_=>by grind
 |m::P,i,0,k,d,l,h,hm=>by
  simp at h
  subst h
  rw[dN,J1]
  exact Di _ (Ac.2 (by grind))
 |m::P,i,g+1,k,d,l,h,hm=>by
  rw[Cc]at h
  rw[dN,J1]
  refine List.mem_append_right _ ?_
  rw[show i+(g+1)=i+1+g by omega]
  exact Uf h hm
theorem Ug {P:List (List Pr)} (h:jQ P p d):(p,d)∈yJ (dN 0 P):=by
 obtain⟨h0,l,hl,hm⟩:=h
 have:=Uf (i:=0) hl hm
 grind
theorem J4: ∀{P:List (List Pr)} {i:Nat},(∀l∈P,mX l)->fI ((yJ (dN i P)).map (·.1))
 | [],_,_=>List.Pairwise.nil
 |l::P,i,h=>by
  rw[dN,J1,Cr]
  refine Co.2 ⟨?_,J4 (by grind),λa ha b hb=> ?_⟩
  .unfold qK
   rw[Be]
   refine C3.2 ((h l (B1 ..)).imp fun{a b} aa=> ?_)
   grind[xW]
  .obtain⟨x,hx,rfl⟩:=Ac.1 ha
   obtain⟨y,hy,rfl⟩:=Ac.1 hb
   obtain⟨z,hz,rfl⟩:=Ac.1 hx
   have:=(Ud hy).1
   simp[xW];omega
theorem NY: ∀{ps:List (Pl×afE)} {s:List (Pl×afE)×List Ln},((s.1++ps).map (·.1)).Nodup->(ps.foldl oy s).1=s.1++ps
 | [],s,_=>by simp
 |q::ps,s,h=>by
  have hq:(s.1.any λe=>e.1==q.1)=false:=by
   grind
  have hs:(oy s q).1=s.1++ [q]:=by
   unfold oy
   grind
  rw[B8,NY (by rw[hs];simpa using h),hs]
  simp
structure mn (n:Nat) (P:List (List Pr)):Prop where
 eight:P.length=8
 eK: ∀l∈P,mX l
 rows: ∀q∈yJ (dN 0 P),mT q.1.1 q.1.2 q.2=true
 len:(yJ (dN 0 P)).length<=n
theorem yR5 {data:afE} (h:mT p.1 p.2 data):data.length<=20000:=by
 obtain⟨h1,h2⟩:=Ts h
 obtain⟨tn,T,_,hT,hm⟩:=h1.iY
 have hL:=EZ ((by decide: ∀T∈bM,T.bW.length<=20) T (by grind)) h1.ok hm
 have:=MJ hL (fu bM (fp p.1).1 data).1.length
 rw[show qF (fu bM (fp p.1).1 data).1 (fu bM (fp p.1).1 data).1.length=data from h2]at this
 omega
theorem wg4:mn 0 [[],[],[],[],[],[],[],[]]:=
 ⟨rfl,λl hl=>by
  have:l= []:=by simp_all
  subst this;exact List.Pairwise.nil,dc,dc⟩
theorem mn.vs {P:List (List Pr)} (h:mn n P) (hn:n<=7500):(dN 0 P).length=8/\(∀x∈dN 0 P,x.1<1000/\x.2.length<=7500/\ ∀q∈x.2,q.2.length<=cZ)/\((dN 0 P).map (·.1)).Nodup/\(yJ (dN 0 P)).length<=7500:=by
 refine⟨by rw[J2];exact h.eight,λx hx=> ?_,Ub _ _,An h.len hn⟩
 obtain⟨h1,h2,h3⟩:=J3 hx
 rw[h.eight]at h2
 refine⟨om, ?_,λq hq=> ?_⟩
 .have:(qK x.1 x.2).Sublist (yJ (dN 0 P)):=by
   unfold yJ
   obtain⟨A,B,e⟩:=List.append_of_mem hx
   grind
  have h4:=this.length_le
  have h5:(qK x.1 x.2).length=x.2.length:=by simp[qK]
  have:=h.len
  omega
 .have hm:(((x.1:Int),q.1),q.2)∈yJ (dN 0 P):=List.mem_flatMap.2 ⟨x,hx,Ac.2 (by grind)⟩
  have:=yR5 (p:=((x.1:Int),q.1)) (h.rows _ hm)
  grind
theorem mn.step {P:List (List Pr)} (h:mn n P) (hl:nu dz):mn (n+240) (mm P (if(dd dz (yZ (dN 0 P))).1.1≠0 then []else k7 (gb (yZ (dN 0 P)) (dd dz (yZ (dN 0 P))).2))):=by
 by_cases e0:(dd dz (yZ (dN 0 P))).1.1≠0
 .rw[afb e0]
  exact⟨h.eight,h.eK,h.rows,by show(yJ (dN 0 P)).length<=_;have:=h.len;omega⟩
 rw[afa e0]
 obtain⟨m,hT⟩:=Hm (dN 0 P)
 have ag:((yJ (dN 0 P)).map (·.1)).Nodup:=(J4 h.eK).nodup
 have ak:((yJ (dN 0 P)).foldl oy ([],[])).1=yJ (dN 0 P):=by
  rw[NY (sU ag)];rfl
 obtain⟨aa,hw⟩:=eX (yZ (dN 0 P))
 have ab:cw m.2.1 aa:=by rw[<-hw];exact hT.now
 have al:nB aa:=by rw[<-hw];exact λx hx=>⟨hT.now.rows x hx,(hT.lines x hx).1⟩
 have au:aa.length<=(yJ (dN 0 P)).length:=by rw[<-hw];exact hT.len
 have ae: ∀q∈yJ (dN 0 P),∃x∈aa,x.at=q.1/\yP x.v=q.2:=λq hq=>by
  rw[<-hw]
  exact hT.rows q (by grind) (h.rows q hq)
 rw[hw]at e0⊢
 obtain⟨now,hN⟩:=eX ((dd dz aa).2)
 obtain⟨⟨b',ad⟩,hk,hlen⟩:=NQ hl ab al (sU e0)
 rw[hN]at ad hk hlen⊢
 have an:=T6 ab.rows ad.rows ab.eK ad.eK rfl
 have af:=(JU ab.eK ad.eK).2
 unfold k7
 rw[NU P _ [] (λw hw=>by rcases an w hw with h|h|h|h<;>omega)]
 show mn (n+240) ((gb aa now).foldl (λP w=>lf w.p.1 P w) P)
 have ah: ∀q∈yJ (dN 0 ((gb aa now).foldl (λP w=>lf w.p.1 P w) P)),∃x∈now,(x.at,yP x.v)=q:=λq hq=>by
  rcases Ua (λw hw=>by rw[h.eight];grind) (Ue hq)with ⟨w,ao,h1,h2,h3⟩|⟨h1,h2⟩
  .rcases(af w).1 ao with ⟨g1,_⟩|⟨_,x,hx,g2,g3,_⟩
   all_goals grind
  .obtain⟨y,hy,av,aw⟩:=ae q (Ug h2)
   have aq:ib now q.1:=by
    cases e:ib now q.1 with
    |true=>rfl
    |false=>exact absurd rfl (h1 ⟨q.1,true,[]⟩ ((af _).2 (.inl (by grind))))
   obtain⟨x,hx,ar⟩:=Ac.1 (eE.1 aq)
   by_cases e:yP x.v=q.2
   .grind
   .refine absurd ar (h1 ⟨x.at,false,yP x.v⟩ ((af _).2 (.inr ⟨rfl,x,hx,rfl,rfl,λz hz ax e2=>e ?_⟩)))
    have ay:z=y:=by
     have az:=ab.eK.nodup
     obtain⟨i,hi,rfl⟩:=Ct hz
     obtain⟨j,hj,rfl⟩:=Ct hy
     have a1:i=j:=by
      have h1:(aa.map Ln.at)[i]'(by grind)=(aa.map Ln.at)[j]'(by grind):=by
       grind
      grind[Dm]
     grind
    grind
 have ai:=NV (ws:=gb aa now) h.eK
 refine⟨by rw[NW];exact h.eight,ai,λq hq=> ?_, ?_⟩
 .obtain⟨x,hx,rfl⟩:=ah q hq
  exact(hk x hx).2
 .have aj:(yJ (dN 0 ((gb aa now).foldl (λP w=>lf w.p.1 P w) P))).Nodup:=(C3.1 (J4 ai).nodup).imp (by grind)
  have hle:=aj.length_le_of_subset (l₂:=now.map λx=>(x.at,yP x.v)) (by grind)
  rw[Bb]at hle
  have:=h.len
  omega
theorem Uh {T:bI} {row:List bG}: ∀{l:List bH} {acc:List bG},(dP T row l acc).1.length<=acc.length+l.length
 | [],acc=>by grind[dP]
 |e::l,acc=>by
  rw[dP]
  split
  .simp
  .refine An Uh ?_
   simp;omega
theorem NZ {T:bI} {l:List Ln}: ∀{xs:List cx} {acc:List bG},(pV T l xs acc).1.length<=acc.length+xs.length
 | [],acc=>by grind[pV]
 |x::xs,acc=>by
  rw[pV]
  split
  .split
   .simp
   .refine An NZ ?_
    simp;omega
  .refine An NZ ?_
   simp;omega
def lg (N:Nat) (rs:List (List bG)):Prop:=rs.length<=N/\ ∀r∈rs,r.length<=100
theorem Ui {T:bI} {items:List cx} (hi:items.length<=100): ∀{l:List Ln} {acc:List (List bG)} {N:Nat},(∀x∈l,x.v.length<=100)->lg N acc->lg (N+l.length) (ow T items l acc).1
 | [],acc,N,_,h=>by simpa
 |x::l,acc,N,hl,h=>by
  have aa: ∀y∈l,y.v.length<=100:=(by grind)
  have step: ∀r:List bG,r.length<=100->lg (N+(x::l).length) (ow T items l (acc++ [r])).1:=λr hr=>by
   have h2:lg (N+1) (acc++ [r]):=⟨by have:=h.1;grind,λy hy=>by
    rcases Ar.1 hy with hy|hy
    .exact h.2 y hy
    grind⟩
   have h3:=Ui hi aa h2 (T:=T)
   grind
  rw[ow]
  split
  .grind
  .split
   .exact⟨sm,sm⟩
   grind[Uh]
theorem xQ7 (hi:st.items.length<=100) (hl: ∀x∈l,x.v.length<=100):lg (1+l.length) (k5 T st l).1.rows:=by
 have none_:lg (1+l.length) []:=⟨sm,sm⟩
 unfold k5
 split
 .split
  .omega
  .refine⟨sm,λr hr=> ?_⟩
   grind[NZ]
 .obtain⟨m,hm⟩:=eX (kZ st.dg (if 0<=cy T st.order then ov (cy T st.order).toNat st.down l else l))
  rw[hm]
  simp only
  have aa:(∀x∈m,x∈l)/\m.length<=l.length:=by
   have h0: ∀k:List Ln,(∀x∈k,x∈l)/\k.length<=l.length->(∀x∈kZ st.dg k,x∈l)/\(kZ st.dg k).length<=l.length:=(by grind[kZ])
   rw[<-hm]
   refine h0 _ ?_
   split
   .exact⟨(by grind[NH]),by rw[(NH _ _ _).length_eq];omega⟩
   simp
  split
  .omega
  .have h:=Ui (T:=T) hi (l:=m) (acc:= []) (N:=0) (by grind) (by trivial)
   exact⟨by have:=h.1;grind,h.2⟩
theorem xv5 (aa:kg st) (hl: ∀x∈l,x.v.length<=100):lg (1+l.length) (iD st l).1.rows:=by
 have none_:lg (1+l.length) []:=⟨sm,sm⟩
 unfold iD
 simp only
 split
 .grind
 split
 .omega
 split
 .have h:=xQ7 (T:=bM.getD (iR st.table).toNat ep) (st:=st) (l:=(fD (iR st.table).toNat (bM.getD (iR st.table).toNat ep) st l).1) (by have:=aa.items.1;omega) (λx hx=>hl x (JQ x hx).1)
  have hlen:=TL (t:=((iR st.table).toNat:Int)) (T:=bM.getD (iR st.table).toNat ep) (st:=st) (l:=l)
  exact⟨An h.1 om,h.2⟩
 grind
theorem Uj: ∀{ss:List bQ} {i:Nat} {acc:List Ot} {b:Mp afE} {l:List Ln} {N:Nat},(∀x∈ss,p5 x)->cw b l->l.length+20*ss.length<=N->(∀o∈acc,lg (1+N) o.rows)->(∀o∈(eZ ss i acc l).1.2.2,lg (1+N) o.rows)/\(eZ ss i acc l).1.2.2.length<=acc.length+ss.length
 | [],i,acc,b,l,N,_,_,_,ha=>by grind[eZ]
 |x::ss,i,acc,b,l,N,hs,hn,hN,ha=>by
  rw[eZ]
  have hx:=hs x (B1 ..)
  rw[Ab]at hN
  by_cases q:(iD x l).2.2≠0
  .grind
  rw[afa q]
  obtain⟨b',ab⟩:=TW hx hn om
  have hlen:=NN (st:=x) (l:=l)
  have hr:=hx.ok.rows.1
  have ho:=xv5 hx.ok (l:=l) (λy hy=>by have:=(NG (hn.rows y hy)).2;omega)
  obtain⟨h1,h2⟩:=Uj (i:=i+1) (acc:=acc++ [(iD x l).1]) (N:=N) (λy hy=>hs y (B7 _ hy)) ab om (λo aa=>by
   rcases Ar.1 aa with aa|aa
   .grind
   .rw[C4]at aa;subst aa;exact⟨by have:=ho.1;omega,ho.2⟩)
  grind
theorem xn0 (hl:nu dz) (hn:cw b l) (hlen:l.length<=7500):(dd dz l).1.2.2.length<=100000/\ ∀x∈(dd dz l).1.2.2,x.rows.length<=100000/\ ∀r∈x.rows,r.length<=100000:=by
 have aa:=hl.stmts.1
 unfold dd
 by_cases q:(kY dz).2≠0
 .grind
 rw[afa q]
 obtain⟨h1,h2⟩:=Uj (ss:=dz.stmts) (i:=0) (acc:= []) (N:=10000) (by grind[NM]) hn om sm
 have h3:(eZ dz.stmts 0 [] l).1.2.2.length<=100000/\ ∀x∈(eZ dz.stmts 0 [] l).1.2.2,x.rows.length<=100000/\ ∀r∈x.rows,r.length<=100000:=
  ⟨by grind,λx hx=>⟨by have:=(h1 x hx).1;omega,λr hr=>by have:=(h1 x hx).2 r hr;omega⟩⟩
 grind
theorem xN0 {N:Nat} {out:List (Int×List Wr)} (h:out.length<=N/\ ∀q∈out,q.2.length<=N):(iy out w).length<=N+1/\ ∀q∈iy out w,q.2.length<=N+1:=by
 grind[iy,List.mem_of_getLast?,List.dropLast_subset]
theorem Uk: ∀{l:List Wr} {out:List (Int×List Wr)} {N:Nat},out.length<=N/\(∀q∈out,q.2.length<=N)->(l.foldl iy out).length<=N+l.length/\ ∀q∈l.foldl iy out,q.2.length<=N+l.length
 | [],out,N,h=>(by grind)
 |w::l,out,N,h=>by
  have h2:=Uk (l:=l) (xN0 (w:=w) h)
  grind
theorem xu4 (aa now:List Ln):(gb aa now).length<=aa.length+now.length:=by
 have hf: ∀(f:Ln->Wr) (m:List Ln) (l:List Wr),(m.foldl (λl x=>kp l (f x)) l).length=l.length+m.length:=λf m=>by
  induction m with
  |nil=>simp
  |cons x m ih=>intro l;rw[B8,ih,(Nr _ _).length_eq,Ab,Ab];omega
 unfold gb
 rw[hf (λx=>⟨x.at,false,yP x.v⟩),hf (λx=>⟨x.at,true,[]⟩)]
 grind
def l6 (dz:fj) (oT:List Ln):List (Int×List Wr):=if(dd dz oT).1.1≠0 then []else k7 (gb oT (dd dz oT).2)
theorem xE1 (hl:nu dz) (hn:cw b l) (hk:nB l) (hlen:l.length<=7500):(l6 dz l).length<=100000/\ ∀q∈l6 dz l,q.2.length<=100000:=by
 unfold l6
 by_cases q:(dd dz l).1.1≠0
 .grind
 rw[afa q]
 obtain⟨_,_,h⟩:=NQ hl hn hk om
 have h2:=xu4 l (dd dz l).2
 have h3:=Uk (l:=gb l (dd dz l).2) (out:= []) (N:=0) sm
 grind[k7]
section
variable {c:Pl->Bool}
theorem xq0 {l m:List Ln} (h:fI (l.map Ln.at)) (g:fI (m.map Ln.at)) (hp:l.Perm m):l=m:=
 hp.eq_of_pairwise (λa b _ _ h g=>by rw[Ni h]at g;cases g) (C3.1 h) (C3.1 g)
end
variable {P:List (List Pr)}{l:List Ln}{dz:fj}
theorem xm9 {vs:List Vw} (hd:((yJ vs).map (·.1)).Nodup):fI ((yZ vs).map Ln.at)/\nB (yZ vs)/\(∀x∈yZ vs,(x.at,yP x.v)∈yJ vs)/\ ∀q∈yJ vs,mT q.1.1 q.1.2 q.2=true-> ∃x∈yZ vs,x.at=q.1/\yP x.v=q.2:=by
 obtain⟨m,hT⟩:=Hm vs
 have hs:((yJ vs).foldl oy ([],[])).1=yJ vs:=by rw[NY (sU hd)];rfl
 refine⟨hT.now.eK,λx hx=>⟨hT.now.rows x hx,(hT.lines x hx).1⟩,λx hx=>by rw[<-hs];exact(hT.lines x hx).2,λq hq=>hT.rows q (by rw[hs];exact hq)⟩
theorem Um {x y:Ln} (hx:eQ x) (hy:eQ y) (h1:x.at=y.at) (h2:yP x.v=yP y.v):x=y:=by
 have e1:=hx.read
 have e2:=hy.read
 obtain⟨xr,xk,xv⟩:=x
 obtain⟨yr,yk,yv⟩:=y
 cases h1
 simp only at e1 e2 h2
 rw[h2,e2]at e1
 cases e1;rfl
theorem Un {p:Pl} {d:afE}: ∀{ws:List Wr} {P:List (List Pr)},ox ws->(∀w∈ws,0<=w.p.1/\w.p.1.toNat<P.length)->(jQ (ws.foldl (λP w=>lf w.p.1 P w) P) p d↔(∃w∈ws,w.p=p/\w.drop=false/\d=w.data)\/((∀w∈ws,w.p≠p)/\jQ P p d))
 | [],P,_,_=>by simp
 |w::ws,P,hr,hw=>by
  have aa:=hr
  unfold ox at aa
  rw[By]at aa
  have ab:=hw w (B1 ..)
  have ad: ∀x∈ws,x.p≠w.p:=λx hx e=>by have:=aa.1 x hx;rw[e,G1]at this;cases this
  rw[B8,Un aa.2 λx hx=>by rw[NT];exact hw x (B7 _ hx)]
  rw[T9 ab.1 ab.2]
  constructor
  .rintro(⟨x,hx,h⟩|⟨h1,⟨h2,h3,h4⟩|⟨h2,h3⟩⟩)
   .exact .inl ⟨x,B7 _ hx,h⟩
   .exact .inl ⟨w,B1 ..,h2.symm,h3,h4⟩
   .refine .inr ⟨λx hx=> ?_,h3⟩
    rcases Ae.1 hx with rfl|hx
    .exact λe=>h2 e.symm
    .exact h1 x hx
  .rintro(⟨x,hx,h1,h2,h3⟩|⟨h1,h2⟩)
   .rcases Ae.1 hx with rfl|hx
    .exact .inr ⟨λy hy=>by rw[<-h1];exact ad y hy,.inl ⟨h1.symm,h2,h3⟩⟩
    .exact .inl ⟨x,hx,h1,h2,h3⟩
   .exact .inr ⟨λx hx=>h1 x (B7 _ hx),.inr ⟨λe=>h1 w (B1 ..) e.symm,h2⟩⟩
structure Tl (P:List (List Pr)) (l:List Ln):Prop where
 eight:P.length=8
 eK: ∀x∈P,mX x
 o7:fI (l.map Ln.at)
 Ho:nB l
 has: ∀p d,jQ P p d↔ ∃x∈l,x.at=p/\yP x.v=d
theorem mn.tl {n:Nat} (h:mn n P):Tl P (yZ (dN 0 P)):=by
 obtain⟨a1,a2,a3,a4⟩:=xm9 (J4 (i:=0) h.eK).nodup
 refine⟨h.eight,h.eK,a1,a2,λp d=>⟨λhp=> ?_, ?_⟩⟩
 .have:=Ug hp
  exact a4 (p,d) this (h.rows _ this)
 .rintro⟨x,hx,rfl,rfl⟩
  exact Ue (a3 x hx)
theorem Tl.uniq {m:List Ln} (h:Tl P l) (g:Tl P m):l=m:=by
 have nd: ∀{l:List Ln},fI (l.map Ln.at)->l.Nodup:=λh=>(C3.1 h.nodup).imp λaa e=>aa (aff _ e)
 refine xq0 h.o7 g.o7 ((Dg (nd h.o7) (nd g.o7)).2 λx=>⟨λhx=> ?_,λhx=> ?_⟩)
 .obtain⟨y,hy,e1,e2⟩:=(g.has _ _).1 ((h.has _ _).2 ⟨x,hx,rfl,rfl⟩)
  rw[<-Um (g.Ho y hy).1 (h.Ho x hx).1 e1 e2];exact hy
 .obtain⟨y,hy,e1,e2⟩:=(h.has _ _).1 ((g.has _ _).2 ⟨x,hx,rfl,rfl⟩)
  rw[<-Um (h.Ho y hy).1 (g.Ho x hx).1 e1 e2];exact hy
theorem yW8 {l m:List Pr} (h:mX l) (g:mX m) (e: ∀x,x∈l↔x∈m):l=m:=by
 have nd: ∀{l:List Pr},mX l->l.Nodup:=λh=>h.imp fun{a b} aa q=>by subst q;rw[tO]at aa;cases aa
 exact((Dg (nd h) (nd g)).2 e).eq_of_pairwise (λa b _ _ h g=>by rw[xL0 h]at g;cases g) h g
theorem Tl.same {Q:List (List Pr)} (h:Tl P l) (g:Tl Q l):P=Q:=by
 refine List.ext_getElem (by rw[h.eight,g.eight]) λi hi hj=>yW8 (h.eK _ (Aa hi)) (g.eK _ (Aa hj)) λ⟨k,d⟩=> ?_
 have e: ∀{P:List (List Pr)} (hi:i<P.length),((k,d)∈P[i]↔jQ P ((i:Int),k) d):=fun{P} hi=>by
  unfold jQ
  simp only[Ax,A0 hi]
  exact⟨λh=>⟨om,_,rfl,h⟩,λ⟨_,_,h,hm⟩=>by cases h;exact hm⟩
 rw[e hi,e hj,h.has,g.has]
theorem Tl.step {aa:List Ln} (h:Tl P aa) {b:Mp afE} (hn:cw b aa) (hl:nu dz) (h0:(dd dz aa).1.1=0):Tl (mm P (l6 dz aa)) (dd dz aa).2:=by
 obtain⟨⟨b',ab⟩,hk,_⟩:=NQ hl hn h.Ho h0
 obtain⟨now,hN⟩:=eX ((dd dz aa).2)
 unfold l6
 rw[afa (λq=>absurd h0 q)]
 rw[hN]at ab hk⊢
 have aj:=T6 hn.rows ab.rows hn.eK ab.eK rfl
 obtain⟨ak,ad⟩:=JU hn.eK ab.eK
 have al: ∀w∈gb aa now,0<=w.p.1/\w.p.1.toNat<P.length:=λw hw=>by rw[h.eight];rcases aj w hw with h|h|h|h<;>omega
 unfold k7
 rw[NU P _ [] (λw hw=>by rcases aj w hw with h|h|h|h<;>omega)]
 show Tl ((gb aa now).foldl (λP w=>lf w.p.1 P w) P) now
 have ae: ∀{x y:Ln},x∈now->y∈now->x.at=y.at->x=y:=fun{x y} hx hy e=>by
  have af:=ab.eK.nodup
  obtain⟨i,hi,rfl⟩:=Ct hx
  obtain⟨j,hj,rfl⟩:=Ct hy
  have ag:i=j:=(Dm af (h₀:=by simpa using hi) (h₁:=by simpa using hj)).1 (by rw[Dn,Dn,e])
  subst ag;rfl
 refine⟨by rw[NW];exact h.eight,NV h.eK,ab.eK,hk,λp d=>(Un ak al).trans ⟨?_, ?_⟩⟩
 .rintro(⟨w,hw,rfl,h1,rfl⟩|⟨h1,h2⟩)
  .rcases(ad w).1 hw with ⟨g1,_⟩|⟨_,x,hx,g2,g3,_⟩
   .rw[g1]at h1;cases h1
   .exact⟨x,hx,g2,g3⟩
  .obtain⟨y,hy,rfl,rfl⟩:=(h.has _ _).1 h2
   have an:ib now y.at:=by
    cases e:ib now y.at with
    |true=>rfl
    |false=>exact absurd rfl (h1 ⟨y.at,true,[]⟩ ((ad _).2 (.inl ⟨rfl,rfl,⟨y,hy,rfl⟩,e⟩)))
   obtain⟨x,hx,ah⟩:=Ac.1 (eE.1 an)
   refine⟨x,hx,ah,Cz λe=>h1 ⟨x.at,false,yP x.v⟩ ((ad _).2 (.inr ⟨rfl,x,hx,rfl,rfl,λz hz ai e2=> ?_⟩)) ah⟩
   have af:=hn.eK.nodup
   obtain⟨i,hi,rfl⟩:=Ct hz
   obtain⟨j,hj,rfl⟩:=Ct hy
   have ag:i=j:=(Dm af (h₀:=by simpa using hi) (h₁:=by simpa using hj)).1 (by rw[Dn,Dn,ai,ah])
   subst ag
   exact e e2.symm
 .rintro⟨x,hx,rfl,rfl⟩
  by_cases q: ∃y∈aa,y.at=x.at/\yP y.v=yP x.v
  .refine .inr ⟨λw hw e=> ?_,(h.has _ _).2 q⟩
   rcases(ad w).1 hw with ⟨_,_,_,g⟩|⟨_,z,hz,g2,_,g4⟩
   .rw[e,eE.2 (Ac.2 ⟨x,hx,rfl⟩)]at g;cases g
   .obtain⟨y,hy,y1,y2⟩:=q
    have ai:=ae hz hx (g2.trans e)
    subst ai
    exact g4 y hy y1 y2
  .exact .inl ⟨⟨x.at,false,yP x.v⟩,(ad _).2 (.inr ⟨rfl,x,hx,rfl,rfl,λy hy y1 y2=>q ⟨y,hy,y1,y2⟩⟩),rfl,rfl,rfl⟩
theorem Uo: ∀(xs ys:List bQ) (i:Nat) (acc:List Ot) (l:List Ln),((eZ xs i acc l).1.1=0->eZ (xs++ys) i acc l=eZ ys (i+xs.length) (eZ xs i acc l).1.2.2 (eZ xs i acc l).2)/\((eZ xs i acc l).1.1≠0->(eZ (xs++ys) i acc l).1.1≠0)
 | [],ys,i,acc,l=>⟨λ_=>rfl,λh=>absurd rfl h⟩
 |x::xs,ys,i,acc,l=>by
  rw[Ap,eZ,eZ]
  by_cases q:(iD x l).2.2≠0
  .rw[afb q,afb q]
   exact⟨λh=>absurd h q,λh=>h⟩
  .rw[afa q,afa q]
   obtain⟨h1,h2⟩:=Uo xs ys (i+1) (acc++ [(iD x l).1]) (iD x l).2.1
   exact⟨λh=>by rw[h1 h,Ab,show i+1+xs.length=i+(xs.length+1) by omega],h2⟩
theorem J5: ∀(ys:List bQ) (i j:Nat) (acc:List Ot) (l:List Ln),((eZ ys i acc l).1.1=0↔(eZ ys j [] l).1.1=0)/\((eZ ys i acc l).1.1=0->eZ ys i acc l=((0,0,acc++(eZ ys j [] l).1.2.2),(eZ ys j [] l).2)/\eZ ys j [] l=((0,0,(eZ ys j [] l).1.2.2),(eZ ys j [] l).2))
 | [],_,_,acc,l=>⟨Iff.rfl,λ_=>⟨by simp[eZ],rfl⟩⟩
 |x::ys,i,j,acc,l=>by
  rw[eZ,eZ]
  by_cases q:(iD x l).2.2≠0
  .rw[afb q,afb q]
   exact⟨⟨λh=>absurd h q,λh=>absurd h q⟩,λh=>absurd h q⟩
  .rw[afa q,afa q,Bp]
   obtain⟨a1,a2⟩:=J5 ys (i+1) 0 (acc++ [(iD x l).1]) (iD x l).2.1
   obtain⟨b1,b2⟩:=J5 ys (j+1) 0 [(iD x l).1] (iD x l).2.1
   refine⟨a1.trans b1.symm,λh=> ?_⟩
   have h2:=b1.2 (a1.1 h)
   rw[(b2 h2).1]
   exact⟨by rw[(a2 h).1];simp,rfl⟩
def ec (xs:List bQ):fj:=⟨0,0,xs⟩
theorem J6 (x:bQ) (l:List bQ) (i:Nat):(nx 0 (x::l) i).2=0↔oq x=0/\(nx 0 l (i+1)).2=0:=by
 rw[nx]
 rw[afa (show ¬((0:Int)≠0/\x.kind≠1) from λh=>h.1 rfl)]
 by_cases q:oq x≠0
 .rw[afb q];exact⟨λh=>absurd h q,λh=>absurd h.1 q⟩
 .rw[afa q];exact⟨λh=>⟨by simpa using q,h⟩,λh=>h.2⟩
theorem yQ9 (xs ys:List bQ): ∀(i j:Nat),(nx 0 (xs++ys) i).2=0↔(nx 0 xs i).2=0/\(nx 0 ys j).2=0:=by
 have two: ∀(l:List bQ) (i j:Nat),(nx 0 l i).2=0↔(nx 0 l j).2=0:=λl=>by
  induction l with
  |nil=>intro i j;exact Iff.rfl
  |cons x l ih=>intro i j;rw[J6,J6,ih (i+1) (j+1)]
 induction xs with
 |nil=>intro i j;exact⟨λh=>⟨rfl,(two ys _ _).1 h⟩,λh=>(two ys _ _).1 h.2⟩
 |cons x xs ih=>intro i j;rw[Ap,J6,J6,ih (i+1) j,and_assoc]
theorem J7 {xs ys:List bQ} (hx:xs≠ []/\xs.length<=3) (hy:ys≠ []/\ys.length<=3):(kY (ec (xs++ys))).2=0↔(kY (ec xs)).2=0/\(kY (ec ys)).2=0:=by
 have hm: ∀zs:List bQ,zs≠ []->zs.length<=8->((kY (ec zs)).2=0↔zs.all gY=true/\(nx 0 zs 0).2=0):=λzs h0 h8=>by
  have h1:1<=zs.length:=by cases zs with
   |nil=>exact absurd rfl h0
   |cons a l=>simp
  have hh:JA (ec zs):=by
   unfold JA ec
   simp only[afd h1,afd h8]
   rfl
  unfold kY kX
  rw[hh,B2]
  by_cases q:zs.all gY=true
  .rw[afb (show(ec zs).stmts.all gY=true from q)]
   exact⟨λh=>⟨q,h⟩,λh=>h.2⟩
  .rw[afa (show ¬(ec zs).stmts.all gY=true from q)]
   exact⟨λh=>(by cases h),λh=>absurd h.1 q⟩
 rw[hm _ (by simp[hx.1]) (by rw[Ah];omega),hm _ hx.1 om,hm _ hy.1 om,E4,A6,yQ9 xs ys 0 0]
 exact⟨λ⟨⟨a,b⟩,c,d⟩=>⟨⟨a,c⟩,b,d⟩,λ⟨⟨a,c⟩,b,d⟩=>⟨⟨a,b⟩,c,d⟩⟩
theorem fV:(dd dz l).1.1=0↔(kY dz).2=0/\(eZ dz.stmts 0 [] l).1.1=0:=by
 unfold dd
 by_cases q:(kY dz).2≠0
 .rw[afb q];exact⟨λh=>absurd h q,λh=>absurd h.1 q⟩
 rw[afa q]
 by_cases q2:(eZ dz.stmts 0 [] l).1.1≠0
 .rw[afb q2];exact⟨λh=>absurd h q2,λh=>absurd h.2 q2⟩
 .rw[afa q2];exact⟨λh=>⟨by simpa using q,h⟩,λh=>h.2⟩
theorem N1 (h:(dd dz l).1.1=0):dd dz l=eZ dz.stmts 0 [] l:=by
 obtain⟨h1,h2⟩:=fV.1 h
 unfold dd
 rw[afa (λq=>q h1),afa (λq=>q h2)]
theorem xH1 {xs ys:List bQ} (hx:xs≠ []/\xs.length<=3) (hy:ys≠ []/\ys.length<=3) (l:List Ln):
  ((dd (ec (xs++ys)) l).1.1=0↔(dd (ec xs) l).1.1=0/\(dd (ec ys) (dd (ec xs) l).2).1.1=0)/\
  ((dd (ec (xs++ys)) l).1.1=0-> ∃A B,(dd (ec xs) l).1=(0,0,A)/\(dd (ec ys) (dd (ec xs) l).2).1=(0,0,B)/\dd (ec (xs++ys)) l=((0,0,A++B),(dd (ec ys) (dd (ec xs) l).2).2)):=by
 obtain⟨h1,h2⟩:=Uo xs ys 0 [] l
 have hA:=J5 xs 0 0 [] l
 by_cases q:(dd (ec xs) l).1.1=0
 rotate_left
 .have: ¬(dd (ec (xs++ys)) l).1.1=0:=λh=>by
   obtain⟨p1,p2⟩:=fV.1 h
   have p3:=((J7 hx hy).1 p1).1
   have: ¬(eZ xs 0 [] l).1.1=0:=λh=>q (fV.2 ⟨p3,h⟩)
   exact h2 this p2
  exact⟨⟨λh=>absurd h this,λh=>absurd h.1 q⟩,λh=>absurd h this⟩
 have e1:=N1 q
 obtain⟨q1,q2⟩:=fV.1 q
 have e2:=h1 q2
 have hB:=J5 ys (0+xs.length) 0 (eZ xs 0 [] l).1.2.2 (eZ xs 0 [] l).2
 have e3:dd (ec xs) l=eZ xs 0 [] l:=e1
 rw[e3]
 refine⟨⟨λh=>⟨q2, ?_⟩,λh=> ?_⟩,λh=> ?_⟩
 .obtain⟨p1,p2⟩:=fV.1 h
  refine fV.2 ⟨((J7 hx hy).1 p1).2,hB.1.1 ?_⟩
  rw[<-e2];exact p2
 .obtain⟨p1,p2⟩:=fV.1 h.2
  refine fV.2 ⟨(J7 hx hy).2 ⟨q1,p1⟩, ?_⟩
  show(eZ (xs++ys) 0 [] l).1.1=0
  rw[e2]
  exact hB.1.2 p2
 .have e4:=N1 h
  obtain⟨p1,p2⟩:=fV.1 h
  change (eZ (xs++ys) 0 [] l).1.1=0 at p2
  rw[e2]at p2
  obtain⟨c1,c2⟩:=hB.2 p2
  have aa:(dd (ec ys) (eZ xs 0 [] l).2).1.1=0:=fV.2 ⟨((J7 hx hy).1 p1).2,hB.1.1 p2⟩
  have e5:=N1 aa
  rw[e5,e4]
  refine⟨(eZ xs 0 [] l).1.2.2,(eZ ys 0 [] (eZ xs 0 [] l).2).1.2.2,by rw[(hA.2 q2).2],aff Prod.fst c2, ?_⟩
  show eZ (xs++ys) 0 [] l=_
  rw[e2,c1]
  rfl
def Hp (t:bJ):Prop:=t.kind=0\/t.kind=4/\t.s= [59]
structure Ag (L M:List bJ) (k N:Nat):Prop where
 same: ∀i,i<N->(L.getD (k+i) xA).kind=(M.getD i xA).kind/\(L.getD (k+i) xA).s=(M.getD i xA).s/\(L.getD (k+i) xA).n=(M.getD i xA).n
 Hq:Hp (L.getD (k+N) xA)
 Hr:Hp (M.getD N xA)
 N2:N<=L.length
 N3:N<=M.length
structure Rl (k N:Nat) (s u:RS):Prop where
 at_:s.at_=k+u.at_
 le:u.at_<=N
 bS:s.bS=u.bS
 err:s.err=u.err
structure Rp {J:Type} (k N a:Nat) (x y:J×RS):Prop where
 eq:x.1=y.1
 rl:Rl k N x.2 y.2
 mono:a<=y.2.at_
section
variable {L M:List bJ} {k N:Nat} (hA:Ag L M k N) {s u:RS}
include hA
theorem Fc (h:Rl k N s u) (c:Int) (hc:c=1\/c=2\/c=3):((bV L s).kind=c↔(bV M u).kind=c)/\((bV M u).kind=c->u.at_<N/\(bV L s).s=(bV M u).s/\(bV L s).n=(bV M u).n):=by
 unfold bV
 rw[h.at_]
 rcases Bo u.at_ N with q|q
 .obtain⟨h1,h2,h3⟩:=hA.same _ q
  rw[h1]
  exact⟨Iff.rfl,λ_=>⟨q,h2,h3⟩⟩
 .have e:u.at_=N:=Nat.le_antisymm h.le q
  rw[e]
  have h1: ¬(L.getD (k+N) xA).kind=c:=λh=>by rcases hA.Hq with e|e<;>omega
  have h2: ¬(M.getD N xA).kind=c:=λh=>by rcases hA.Hr with e|e<;>omega
  exact⟨⟨λh=>absurd h h1,λh=>absurd h h2⟩,λh=>absurd h h2⟩
theorem kF (h:Rl k N s u) {w:afE} (hw:w≠ [59]):cC L w s=cC M w u/\(cC M w u=true->u.at_<N):=by
 have he:=h.err
 unfold cC bV
 rw[h.at_,he]
 rcases Bo u.at_ N with q|q
 .obtain⟨h1,h2,h3⟩:=hA.same _ q
  rw[h1,h2]
  exact⟨rfl,λ_=>q⟩
 .have e:u.at_=N:=Nat.le_antisymm h.le q
  rw[e]
  have no: ∀t:bJ,Hp t->((t.kind==1||t.kind==4)&&t.s==w)=false:=λt ht=>by
   rcases ht with ht|⟨ht,hs⟩
   .rw[ht];rfl
   .rw[ht,hs];simpa using λh=>hw h.symm
  rw[no _ hA.Hq,no _ hA.Hr]
  exact⟨rfl,λh=>by simp at h⟩
omit hA in
theorem yU (h:Rl k N s u) (hu:u.at_<N):Rl k N (zJ s) (zJ u):=⟨by show s.at_+1=k+(u.at_+1);rw[h.at_];rfl,hu,h.bS,h.err⟩
omit hA in
theorem Hs (h:Rl k N s u) (e p p':Int):Rl k N (wL e p s) (wL e p' u):=by
 unfold wL
 rw[h.err]
 split
 .exact⟨h.at_,h.le,h.bS,rfl⟩
 .exact h
omit hA in
theorem Ht (e p:Int) (s:RS):(wL e p s).at_=s.at_:=by unfold wL;split<;>rfl
theorem wU (h:Rl k N s u) {w:afE} (hw:w≠ [59]):Rl k N (zV L w s) (zV M w u)/\u.at_<=(zV M w u).at_:=by
 obtain⟨h1,h2⟩:=kF hA h hw
 unfold zV
 rw[h1]
 split
 .rename_i q;exact⟨yU h (h2 q),Du _⟩
 .exact⟨Hs h _ _ _,by rw[Ht];exact A3 _⟩
theorem CM (h:Rl k N s u):Rp k N u.at_ (yN L s) (yN M u):=by
 obtain⟨h1,h2⟩:=Fc hA h 1 (.inl rfl)
 have e:tj L s=tj M u/\(tj M u=true->u.at_<N/\(bV L s).s=(bV M u).s):=by
  unfold tj
  rw[h.err]
  by_cases q:(bV M u).kind=1
  .obtain⟨a,b,_⟩:=h2 q
   rw[h1.2 q,q,b]
   exact⟨rfl,λ_=>⟨a,rfl⟩⟩
  .have q1:((bV M u).kind==1)=false:=sU q
   have q2:((bV L s).kind==1)=false:=by simpa using λh=>q (h1.1 h)
   rw[q1,q2]
   exact⟨rfl,λh=>by simp at h⟩
 unfold yN
 rw[e.1]
 split
 .rename_i q;exact⟨(e.2 q).2,yU h (e.2 q).1,Du _⟩
 .exact⟨rfl,Hs h _ _ _,by rw[Ht];exact A3 _⟩
theorem xO9 (h:Rl k N s u):Rp k N u.at_ (fR L s) (fR M u):=by
 obtain⟨h1,h2⟩:=Fc hA h 2 (.inr (.inl rfl))
 have e:lL L s=lL M u/\(lL M u=true->u.at_<N/\(bV L s).n=(bV M u).n):=by
  unfold lL
  rw[h.err]
  by_cases q:(bV M u).kind=2
  .obtain⟨a,_,b⟩:=h2 q
   rw[h1.2 q,q]
   exact⟨rfl,λ_=>⟨a,b⟩⟩
  .have q1:((bV M u).kind==2)=false:=sU q
   have q2:((bV L s).kind==2)=false:=by simpa using λh=>q (h1.1 h)
   rw[q1,q2]
   exact⟨rfl,λh=>by simp at h⟩
 unfold fR
 rw[e.1]
 split
 .rename_i q;exact⟨(e.2 q).2,yU h (e.2 q).1,Du _⟩
 .exact⟨rfl,Hs h _ _ _,by rw[Ht];exact A3 _⟩
theorem Fe (h:Rl k N s u): ∀{ws:List afE},(∀w∈ws,w≠ [59]/\w≠ [])->dm L s ws=dm M u ws/\(dm M u ws≠ []->u.at_<N)
 | [],_=>⟨rfl,λh=>absurd rfl h⟩
 |w::ws,hw=>by
  obtain⟨h1,h2⟩:=kF hA h (hw w (B1 ..)).1
  rw[dm,dm,h1]
  split
  .rename_i q;exact⟨rfl,λ_=>h2 q⟩
  .exact Fe h λx hx=>hw x (B7 _ hx)
omit hA in
theorem Up (h:Rl k N s u) (p p':Int) (w:afE) (a:List bH):Rl k N (kB p w a s) (kB p' w a u)/\(kB p' w a u).at_=u.at_:=by
 unfold kB
 rw[h.err]
 split
 .exact⟨Hs h _ _ _,Ht ..⟩
 .exact⟨h,rfl⟩
omit hA in
theorem Ff {x y:RS} (h:Rl k N x y) (p p':Int) (w:afE) (a:List bH) {m:Nat} (hm:m<=y.at_):Rp k N m (gx p w a x) (gx p' w a y):=⟨rfl,(Up h p p' w a).1,by show m<=(kB p' w a y).at_;rw[(Up h p p' w a).2];exact hm⟩
theorem Hu {ws:List afE} (hw: ∀w∈ws,w≠ [59]/\w≠ []) {f g:RS->PR} (hf: ∀s u,Rl k N s u->Rp k N u.at_ (f s) (g u)): ∀(n m:Nat) {x y:PR} {a:Nat},Rp k N a x y->N - y.2.at_<=n->N - y.2.at_<=m->Rp k N a (dJ L ws f n x) (dJ M ws g m y)
 |0,0,_,_,_,h,_,_=>h
 |0,m+1,x,y,a,h,h1,_=>by
  have h2:=(Fe hA h.rl hw).2
  rw[dJ,dJ,afb (Cz λq=>by have:=h2 q;omega)]
  exact h
 |n+1,0,x,y,a,h,_,h1=>by
  have h2:=Fe hA h.rl hw
  rw[dJ,dJ,h2.1,afb (Cz λq=>by have:=h2.2 q;omega)]
  exact h
 |n+1,m+1,x,y,a,h,h1,h2=>by
  obtain⟨e1,e2⟩:=Fe hA h.rl hw
  rw[dJ,dJ,e1]
  by_cases q:dm M y.2 ws= []
  .rw[afb q,afb q];exact h
  rw[afa q,afa q]
  have hn:=yU h.rl (e2 q)
  have hs:=hf _ _ hn
  have hm:=hs.mono
  have aa:(zJ y.2).at_=y.2.at_+1:=rfl
  have ha:=h.mono
  rw[h.eq,hs.eq]
  have ho:=Ff hs.rl (bV L x.2).place (bV M y.2).place (dm M y.2 ws) [y.1,(g (zJ y.2)).1] (m:=y.2.at_+1) om
  have hb:=ho.mono
  exact Hu hw hf n m ⟨ho.eq,ho.rl,om⟩ om om
theorem xu7 {f g:RS->PR} (hf: ∀s u,Rl k N s u->Rp k N u.at_ (f s) (g u)) {x y:PR} {a:Nat} (h:Rp k N a x y):Rp k N a (ka L f x) (ka M g y):=by
 obtain⟨e1,e2⟩:=kF hA h.rl (w:=Ez) dc
 have ha:=h.mono
 unfold ka
 rw[e1,h.eq]
 by_cases q:cC M Ez y.2=true
 .rw[afb q,afb q]
  have hn:=yU h.rl (e2 q)
  obtain⟨e3,e4⟩:=kF hA hn (w:=iq) dc
  rw[e3]
  have aa:(zJ y.2).at_=y.2.at_+1:=rfl
  by_cases q2:cC M iq (zJ y.2)=true
  .rw[afb q2,afb q2]
   obtain⟨h5,h6⟩:=wU hA (yU hn (e4 q2)) (w:=lM) dc
   exact Ff h5 _ _ _ _ (by have:(zJ (zJ y.2)).at_=y.2.at_+2:=rfl;omega)
  .rw[afa q2,afa q2]
   obtain⟨h5,h6⟩:=wU hA hn (w:=lM) dc
   exact Ff h5 _ _ _ _ om
 rw[afa q,afa q]
 obtain⟨e5,e6⟩:=Fe hA h.rl (ws:=eO) dc
 rw[e5]
 by_cases q2:dm M y.2 eO= []
 .rw[afb q2,afb q2];exact h
 rw[afa q2,afa q2]
 have hs:=hf _ _ (yU h.rl (e6 q2))
 have hm:=hs.mono
 have aa:(zJ y.2).at_=y.2.at_+1:=rfl
 rw[hs.eq]
 exact Ff hs.rl _ _ _ _ om
theorem xt2 {f g f2 g2:RS->PR} (hf: ∀s u,Rl k N s u->Rp k N u.at_ (f s) (g u)) (aa: ∀s u,Rl k N s u->Rp k N u.at_ (f2 s) (g2 u)) (h:Rl k N s u):Rp k N u.at_ (oO L f f2 s) (oO M g g2 u):=by
 have hI:=λw hw=>kF hA h (w:=w) hw
 have ab:(zJ u).at_=u.at_+1:=rfl
 have lit: ∀(w:afE) (hw:w≠ [59]) (v:bH),cC M w u=true->Rp k N u.at_ (v,zJ s) (v,zJ u):=λw hw v q=>⟨rfl,yU h ((hI w hw).2 q),by show u.at_<=(zJ u).at_;omega⟩
 unfold oO
 rw[(hI [45] dc).1,(hI [40] dc).1,(hI [84,82,85,69] dc).1,(hI [70,65,76,83,69] dc).1,(hI lM dc).1]
 by_cases q1:cC M [45] u=true
 .rw[afb q1,afb q1]
  have hs:=hf _ _ (yU h ((hI [45] dc).2 q1))
  have hm:=hs.mono
  rw[hs.eq]
  exact Ff hs.rl _ _ _ _ om
 rw[afa q1,afa q1]
 by_cases q2:cC M [40] u=true
 .rw[afb q2,afb q2]
  have hs:=aa _ _ (yU h ((hI [40] dc).2 q2))
  have hm:=hs.mono
  obtain⟨h5,h6⟩:=wU hA hs.rl (w:= [41]) dc
  exact⟨hs.eq,h5,by show u.at_<=(zV M [41] (g2 (zJ u)).2).at_;omega⟩
 rw[afa q2,afa q2]
 by_cases q3:cC M [84,82,85,69] u=true
 .rw[afb q3,afb q3];exact lit _ dc _ q3
 rw[afa q3,afa q3]
 by_cases q4:cC M [70,65,76,83,69] u=true
 .rw[afb q4,afb q4];exact lit _ dc _ q4
 rw[afa q4,afa q4]
 by_cases q5:cC M lM u=true
 .rw[afb q5,afb q5];exact lit _ dc _ q5
 rw[afa q5,afa q5]
 obtain⟨t1,t2⟩:=Fc hA h 2 (.inr (.inl rfl))
 by_cases q6:(bV M u).kind=2
 .obtain⟨a,_,b⟩:=t2 q6
  rw[afb (t1.2 q6),afb q6,b]
  exact⟨rfl,yU h a,Du _⟩
 rw[afa (λh=>q6 (t1.1 h)),afa q6]
 obtain⟨t1,t2⟩:=Fc hA h 3 (.inr (.inr rfl))
 by_cases q7:(bV M u).kind=3
 .obtain⟨a,b,_⟩:=t2 q7
  rw[afb (t1.2 q7),afb q7,b]
  exact⟨rfl,yU h a,Du _⟩
 rw[afa (λh=>q7 (t1.1 h)),afa q7]
 have hn:=CM hA h
 exact⟨aff uR hn.eq,hn.rl,hn.mono⟩
omit hA in
theorem Uq {x y:PR} {a:Nat} (h:Rp k N a x y):Rp k N a (x.1,cW x.2) (y.1,cW y.2):=⟨h.eq,⟨h.rl.at_,h.rl.le,by show x.2.bS - 1=y.2.bS - 1;rw[h.rl.bS],h.rl.err⟩,h.mono⟩
theorem Ur: ∀(f w:Nat) {s u:RS},Rl k N s u->Rp k N u.at_ (pF L f w s) (pF M f w u)
 |0,_,s,u,h=>⟨rfl,h,A3 _⟩
 |f+1,w,s,u,h=>by
  have ih: ∀w s u,Rl k N s u->Rp k N u.at_ (pF L f w s) (pF M f w u):=λw s u h=>Ur f w h
  have hr:Rl k N (yD L s) (yD M u)/\(yD M u).at_=u.at_:=by
   unfold yD
   rw[h.err,h.bS]
   split
   .exact⟨⟨h.at_,h.le,rfl,rfl⟩,rfl⟩
   .exact⟨⟨h.at_,h.le,rfl,rfl⟩,rfl⟩
  have body: ∀s u,Rl k N s u->Rp k N u.at_ (jx L (pF L f) w s) (jx M (pF M f) w u):=λs u h=>by
   have hl:=hA.N2
   have hm:=hA.N3
   match w with
   |0=>exact Hu hA dc (ih 1) _ _ (ih 1 _ _ h) om om
   |1=>exact Hu hA dc (ih 2) _ _ (ih 2 _ _ h) om om
   |2=>
    show Rp k N u.at_ (j9 L (pF L f 2) (pF L f 3) s) (j9 M (pF M f 2) (pF M f 3) u)
    obtain⟨e1,e2⟩:=kF hA h (w:=iq) dc
    unfold j9
    rw[e1]
    split
    .rename_i q
     have hs:=ih 2 _ _ (yU h (e2 q))
     have hm:=hs.mono
     have aa:(zJ u).at_=u.at_+1:=rfl
     rw[hs.eq]
     exact Ff hs.rl _ _ _ _ om
    .exact ih 3 _ _ h
   |3=>exact xu7 hA (ih 4) (ih 4 _ _ h)
   |4=>exact Hu hA dc (ih 5) _ _ (ih 5 _ _ h) om om
   |5=>exact Hu hA dc (ih 6) _ _ (ih 6 _ _ h) om om
   |n+6=>exact xt2 hA (ih 6) (ih 0) h
  rw[pF,pF]
  unfold jm
  rw[hr.1.err]
  have hb:=body _ _ hr.1
  rw[hr.2]at hb
  split
  .exact Uq hb
  .exact Uq (x:=(dh,yD L s)) (y:=(dh,yD M u)) ⟨rfl,hr.1,by rw[hr.2];exact A3 _⟩
theorem Hv (h:Rl k N s u):Rp k N u.at_ (gq L s) (gq M u):=Ur hA 201 0 h
omit hA in
theorem J8 (h:Rl k N s u) (n m:Int) {b c:Bool} (hb:b=c):Rl k N (ir L n m b s) (ir M n m c u)/\(ir M n m c u).at_=u.at_:=by
 subst hb
 unfold ir
 rw[h.err]
 split
 .exact⟨Hs h _ _ _,Ht ..⟩
 .exact⟨h,rfl⟩
theorem Us (h:Rl k N s u) (it:Bool):gW L it s=gW M it u:=by
 have t:=λc hc=>Fc hA h c hc
 have kb: ∀c,c=1\/c=2\/c=3->((bV L s).kind==c)=((bV M u).kind==c):=λc hc=>by
  by_cases q:(bV M u).kind=c
  .rw[q,(t c hc).1.2 q]
  .have q2: ¬(bV L s).kind=c:=λh=>q ((t c hc).1.1 h)
   rw[beq_eq_false_iff_ne.2 q,beq_eq_false_iff_ne.2 q2]
 have kw:((bV L s).kind==1&&j8 (bV L s).s)=((bV M u).kind==1&&j8 (bV M u).s):=by
  rw[kb 1 (.inl rfl)]
  by_cases q:(bV M u).kind=1
  .rw[((t 1 (.inl rfl)).2 q).2.1]
  .rw[beq_eq_false_iff_ne.2 q];rfl
 unfold gW
 rw[kb 2 (.inr (.inl rfl)),kb 3 (.inr (.inr rfl)),kw,(kF hA h (w:=uV) dc).1,(kF hA h (w:=lO) dc).1,(Fe hA h (ws:=Jc) dc).1]
theorem N4 (h:Rl k N s u):ja L s=ja M u/\Rl k N (lP L s) (lP M u)/\u.at_<=(lP M u).at_:=by
 obtain⟨e1,e2⟩:=kF hA h (w:=uW) dc
 unfold ja lP
 rw[e1]
 by_cases q:cC M uW u=true
 .have hs:=Hv hA (yU h (e2 q))
  have hm:=hs.mono
  have aa:(zJ u).at_=u.at_+1:=rfl
  rw[afb q,afb q,afb q,afb q,hs.eq]
  exact⟨rfl,hs.rl,om⟩
 .rw[afa q,afa q,afa q,afa q]
  exact⟨rfl,h,A3 _⟩
theorem xz7 (h:Rl k N s u):Rp k N u.at_ (kS L s) (kS M u):=by
 obtain⟨e1,e2⟩:=kF hA h (w:=uV) dc
 obtain⟨e3,e4⟩:=kF hA h (w:=lO) dc
 have aa:(zJ u).at_=u.at_+1:=rfl
 unfold kS
 rw[e1,e3]
 by_cases q:cC M uV u=true
 .rw[afb q,afb q]
  obtain⟨h1,m1⟩:=wU hA (yU h (e2 q)) (w:= [40]) dc
  obtain⟨h2,m2⟩:=wU hA h1 (w:= [42]) dc
  obtain⟨h3,m3⟩:=wU hA h2 (w:= [41]) dc
  exact⟨rfl,h3,by simp only;omega⟩
 rw[afa q,afa q]
 by_cases q:cC M lO u=true
 .rw[afb q,afb q]
  obtain⟨h1,m1⟩:=wU hA (yU h (e4 q)) (w:= [40]) dc
  have h2:=Hv hA h1
  have m2:=h2.mono
  obtain⟨h3,m3⟩:=wU hA h2.rl (w:= [41]) dc
  exact⟨by simp only[h2.eq],h3,by simp only;omega⟩
 rw[afa q,afa q]
 have h2:=Hv hA h
 exact⟨by simp only[h2.eq],h2.rl,h2.mono⟩
theorem Ut: ∀(n:Nat) (l:List cx) {s u:RS},Rl k N s u->Rp k N u.at_ (nX L n l s) (nX M n l u)
 |0,_,_,_,h=>⟨rfl,h,A3 _⟩
 |n+1,l,s,u,h=>by
  have hm:=J8 (L:=L) (M:=M) h l.length 6 (Us hA h true)
  rw[nX,nX,hm.1.err]
  split
  .have hi:=xz7 hA h
   have m1:=hi.mono
   obtain⟨e1,e2⟩:=kF hA hi.rl (w:= [44]) dc
   rw[e1,hi.eq]
   split
   .rename_i q
    have hr:=Ut n (l++ [(kS M u).1]) (yU hi.rl (e2 q))
    have m2:=hr.mono
    have m3:(zJ (kS M u).2).at_=(kS M u).2.at_+1:=rfl
    exact⟨hr.eq,hr.rl,om⟩
   .exact⟨rfl,hi.rl,m1⟩
  .exact⟨rfl,hm.1,by simp only[hm.2];omega⟩
theorem xl7 (h:Rl k N s u):Rp k N u.at_ (nq L s) (nq M u):=by
 obtain⟨e1,e2⟩:=kF hA h (w:= [42]) dc
 unfold nq
 rw[e1]
 split
 .rename_i q;exact⟨rfl,yU h (e2 q),Du _⟩
 .exact Ut hA 7 [] h
theorem xp4 (h:Rl k N s u):Rp k N u.at_ (rW L s) (rW M u):=by
 obtain⟨e1,e2⟩:=kF hA h (w:=Gx) dc
 unfold rW
 rw[e1]
 by_cases q:cC M Gx u=true
 rotate_left
 .rw[afa q,afa q];exact⟨rfl,h,A3 _⟩
 have m0:(zJ u).at_=u.at_+1:=rfl
 obtain⟨h1,m1⟩:=wU hA (yU h (e2 q)) (w:=nr) dc
 have h2:=CM hA h1
 have m2:=h2.mono
 obtain⟨e3,e4⟩:=kF hA h2.rl (w:=uX) dc
 obtain⟨e5,e6⟩:=kF hA h2.rl (w:=Je) dc
 have m3:(zJ (yN M (zV M nr (zJ u))).2).at_=(yN M (zV M nr (zJ u))).2.at_+1:=rfl
 rw[afb q,afb q,e3,e5,h2.eq]
 split
 .rename_i q;exact⟨rfl,yU h2.rl (e4 q),by simp only;omega⟩
 split
 .rename_i q;exact⟨rfl,yU h2.rl (e6 q),by simp only;omega⟩
 .exact⟨rfl,h2.rl,by simp only;omega⟩
theorem xm8 (h:Rl k N s u):Rp k N u.at_ (rX L s) (rX M u):=by
 obtain⟨e1,e2⟩:=kF hA h (w:=tE) dc
 unfold rX
 rw[e1]
 split
 .rename_i q
  have hn:=xO9 hA (yU h (e2 q))
  have m1:=hn.mono
  have m0:(zJ u).at_=u.at_+1:=rfl
  exact⟨hn.eq,hn.rl,om⟩
 .exact⟨rfl,h,A3 _⟩
theorem yM9 (h:Rl k N s u):Rp k N u.at_ (pL L s) (pL M u):=by
 have h1:=xl7 hA h
 obtain⟨h2,m2⟩:=wU hA h1.rl (w:=nY) dc
 have h3:=CM hA h2
 obtain⟨h4,h5,m5⟩:=N4 hA h3.rl
 have h6:=xp4 hA h5
 have h7:=xm8 hA h6.rl
 have m1:=h1.mono
 have m3:=h3.mono
 have m6:=h6.mono
 have m7:=h7.mono
 unfold pL
 simp only
 rw[h1.eq,h3.eq,h4,h6.eq,h7.eq]
 exact⟨rfl,h7.rl,by simp only;omega⟩
theorem Uu: ∀(n:Nat) (l:List bH) {s u:RS},Rl k N s u->(eF L n l s).1=(eF M n l u).1/\(eF L n l s).2.1=(eF M n l u).2.1/\Rl k N (eF L n l s).2.2 (eF M n l u).2.2/\u.at_<=(eF M n l u).2.2.at_
 |0,_,_,_,h=>⟨rfl,rfl,h,A3 _⟩
 |n+1,l,s,u,h=>by
  have hm:=J8 (L:=L) (M:=M) h l.length 6 (Us hA h false)
  rw[eF,eF,hm.1.err]
  split
  .have hi:=Hv hA h
   have m1:=hi.mono
   obtain⟨e1,e2⟩:=kF hA hi.rl (w:= [44]) dc
   rw[e1,hi.eq]
   split
   .rename_i q
    obtain⟨r1,r2,r3,m2⟩:=Uu n (l++ [(gq M u).1]) (yU hi.rl (e2 q))
    have m3:(zJ (gq M u).2).at_=(gq M u).2.at_+1:=rfl
    exact⟨r1,r2,r3,om⟩
   .exact⟨rfl,rfl,hi.rl,m1⟩
  .exact⟨rfl,rfl,hm.1,by simp only[hm.2];omega⟩
theorem Uv: ∀(n:Nat) (R:List (List bH)) {s u:RS},Rl k N s u->Rp k N u.at_ (ns L n R s) (ns M n R u)
 |0,_,_,_,h=>⟨rfl,h,A3 _⟩
 |n+1,R,s,u,h=>by
  have hm:=J8 (L:=L) (M:=M) h R.length 16 (kF hA h (w:= [40]) dc).1
  rw[ns,ns,hm.1.err]
  split
  .obtain⟨h1,m1⟩:=wU hA h (w:= [40]) dc
   obtain⟨r1,r2,r3,m2⟩:=Uu hA 7 [] h1
   rw[r1,r2]
   split
   .obtain⟨h4,m4⟩:=wU hA r3 (w:= [41]) dc
    obtain⟨e1,e2⟩:=kF hA h4 (w:= [44]) dc
    rw[e1]
    split
    .rename_i q
     have hr:=Uv n (R++ [(eF M 7 [] (zV M [40] u)).2.1]) (yU h4 (e2 q))
     have m5:=hr.mono
     have m6:(zJ (zV M [41] (eF M 7 [] (zV M [40] u)).2.2)).at_=(zV M [41] (eF M 7 [] (zV M [40] u)).2.2).at_+1:=rfl
     exact⟨hr.eq,hr.rl,om⟩
    .exact⟨rfl,h4,by simp only;omega⟩
   .exact⟨rfl,r3,by simp only;omega⟩
  .exact⟨rfl,hm.1,by simp only[hm.2];omega⟩
theorem yI0 (h:Rl k N s u):Rp k N u.at_ (pM L s) (pM M u):=by
 obtain⟨h1,m1⟩:=wU hA h (w:=yg) dc
 have h2:=CM hA h1
 obtain⟨h3,m3⟩:=wU hA h2.rl (w:=BR) dc
 have h4:=Uv hA 17 [] h3
 have m2:=h2.mono
 have m4:=h4.mono
 unfold pM
 simp only
 rw[h2.eq,h4.eq]
 exact⟨rfl,h4.rl,by simp only;omega⟩
theorem yT7 (h:Rl k N s u):uZ L s=uZ M u:=by
 obtain⟨t1,t2⟩:=Fc hA h 1 (.inl rfl)
 unfold uZ
 by_cases q:(bV M u).kind=1
 .rw[t1.2 q,q,(t2 q).2.1]
 .rw[beq_eq_false_iff_ne.2 q,beq_eq_false_iff_ne.2 λh=>q (t1.1 h)];rfl
theorem Uw: ∀(n:Nat) (l:List bY) {s u:RS},Rl k N s u->(kC L n l s).1=(kC M n l u).1/\(kC L n l s).2.1=(kC M n l u).2.1/\Rl k N (kC L n l s).2.2 (kC M n l u).2.2/\u.at_<=(kC M n l u).2.2.at_
 |0,_,_,_,h=>⟨rfl,rfl,h,A3 _⟩
 |n+1,l,s,u,h=>by
  have hm:=J8 (L:=L) (M:=M) h l.length 6 (yT7 hA h)
  rw[kC,kC,hm.1.err]
  split
  .have h1:=CM hA h
   obtain⟨h2,m2⟩:=wU hA h1.rl (w:= [61]) dc
   have hi:=Hv hA h2
   have m1:=h1.mono
   have m4:=hi.mono
   obtain⟨e1,e2⟩:=kF hA hi.rl (w:= [44]) dc
   rw[e1,hi.eq,h1.eq]
   split
   .rename_i q
    obtain⟨r1,r2,r3,m5⟩:=Uw n (l++ [⟨(yN M u).1,(gq M (zV M [61] (yN M u).2)).1⟩]) (yU hi.rl (e2 q))
    have m3:(zJ (gq M (zV M [61] (yN M u).2)).2).at_=(gq M (zV M [61] (yN M u).2)).2.at_+1:=rfl
    exact⟨r1,r2,r3,om⟩
   .exact⟨rfl,rfl,hi.rl,by simp only;omega⟩
  .exact⟨rfl,rfl,hm.1,by simp only[hm.2];omega⟩
theorem yO5 (h:Rl k N s u):Rp k N u.at_ (pN L s) (pN M u):=by
 have h1:=CM hA h
 obtain⟨h2,m2⟩:=wU hA h1.rl (w:=mJ) dc
 obtain⟨r1,r2,r3,m3⟩:=Uw hA 7 [] h2
 have m1:=h1.mono
 unfold pN
 simp only
 rw[r1,r2,h1.eq]
 split
 .obtain⟨h4,h5,m5⟩:=N4 hA r3
  rw[h4]
  exact⟨rfl,h5,by simp only;omega⟩
 .exact⟨rfl,r3,by simp only;omega⟩
theorem xG2 (h:Rl k N s u):Rp k N u.at_ (iN L s) (iN M u):=by
 have hI:=λw hw=>kF hA h (w:=w) hw
 have m0:(zJ u).at_=u.at_+1:=rfl
 unfold iN
 rw[(hI EF dc).1,(hI EG dc).1,(hI EH dc).1]
 split
 .rename_i q
  have h1:=yM9 hA (yU h ((hI EF dc).2 q))
  have:=h1.mono
  exact⟨h1.eq,h1.rl,om⟩
 split
 .rename_i q
  have h1:=yI0 hA (yU h ((hI EG dc).2 q))
  have:=h1.mono
  exact⟨h1.eq,h1.rl,om⟩
 split
 .rename_i q
  have h1:=yO5 hA (yU h ((hI EH dc).2 q))
  have:=h1.mono
  exact⟨h1.eq,h1.rl,om⟩
 obtain⟨h1,m1⟩:=wU hA h (w:=yi) dc
 obtain⟨h2,m2⟩:=wU hA h1 (w:=nY) dc
 have h3:=CM hA h2
 have m3:=h3.mono
 obtain⟨h4,h5,m5⟩:=N4 hA h3.rl
 simp only
 rw[h3.eq,h4]
 exact⟨rfl,h5,by simp only;omega⟩
end
def mY:Nat->Nat->afE->afE
 |0,_,acc=>acc
 |f+1,u,acc=>if u=0 then acc else mY f (u/10) ((48+UInt8.ofNat (u%10))::acc)
def mZ (n:Nat):afE:=if n=0 then [48]else mY 20 n []
theorem xv3 (r:Nat) (h:r<10):((48:UInt8)::List.take r [49,50,51,52,53,54,55,56,57]).drop r= [(48+UInt8.ofNat r)]:=by
 have:r=0\/r=1\/r=2\/r=3\/r=4\/r=5\/r=6\/r=7\/r=8\/r=9:=om
 rcases this with rfl|rfl|rfl|rfl|rfl|rfl|rfl|rfl|rfl|rfl<;>rfl
theorem Ux: ∀(f u:Nat) (acc:afE),(mY f u acc).length<=f+acc.length
 |0,u,acc=>by rw[mY];omega
 |f+1,u,acc=>by
  rw[mY]
  split
  .omega
  .have:=Ux f (u/10) ((48+UInt8.ofNat (u%10))::acc);simp only[Ab]at this;omega
theorem Uy (n:Nat):(mZ n).length<=20:=by
 unfold mZ
 split
 .decide
 .have:=Ux 20 n [];simpa using this
theorem Uz (n:Nat) (hn:n<=9223372036854775807):Pure prog 27 [.int .i64 n] (.str (mZ n)):=by
 generalize hM:mZ n=M
 unfold mZ at hM
 have ret: ∀(r:afE) (U:St),r=M->cj (some (.str r)) 0 (λr s=>r= .str M/\s= []) U:=λr U h=>by subst h;exact wR
 refine iV 0 func27 ntmps27 results27 λc hc hb=> ?_
 refine zA ?_
 simp[go_sem]
 by_cases q0:n=0
 .rw[afb q0]at hM
  simp[go_sem,q0]
  exact ret _ _ hM
 rw[afa q0]at hM
 have ae:((n:Int)==0)=false:=sU q0
 have ab:decide ((n:Int)<0)=false:=afc om
 have eu:IntKind.u64.wrap (n:Int)=(n:Int):=Vx.dt om om
 simp[go_sem,ae,ab,eu]
 refine zH (S:=Nat×afE) [0,3,4] (λu=> [.int .i64 n,.int .u64 (u.1:Int),.str u.2]) (λ_=> []) (λu=>u.1)
  (λu=>u.1<=n/\ ∃f,u.1<10^f/\u.2.length+f<=20/\mY f u.1 u.2=M) hc hb (n,[]) ⟨A3 _,20,by simp only;omega,sm,hM⟩ ?_ ?_
 .exact aO
 rintro⟨u,s⟩ ⟨hu,f,hf,hs,hinv⟩
 simp only at hu hf hs hinv
 by_cases q:u=0
 .subst q
  have hinv:s=M:=by
   rw[<-hinv]
   cases f with
   |zero=>rfl
   |succ f=>rw[mY,afb rfl]
  refine zA ?_
  simp[go_sem,ab]
  exact ret _ _ hinv
 obtain⟨f,rfl⟩: ∃g,f=g+1:=by
  cases f with
  |zero=>simp at hf;omega
  |succ f=>exact⟨f,rfl⟩
 rw[mY,afa q]at hinv
 have hq:0<u:=om
 have er:(u:Int).tmod 10=((u%10:Nat):Int):=by rw[Int.tmod_eq_emod_of_nonneg om];omega
 have aa:IntKind.u64.wrap (((u%10:Nat):Int)+1)=((u%10+1:Nat):Int):=by rw[Vx.dt om om];omega
 have af:(u:Int).tdiv 10=((u/10:Nat):Int):=by rw[Int.tdiv_eq_ediv_of_nonneg om];omega
 have ed:IntKind.u64.wrap ((u:Int).tdiv 10)=((u/10:Nat):Int):=by
  rw[Int.tdiv_eq_ediv_of_nonneg om,Vx.dt om om];omega
 have ad:=xv3 (u%10) (Cj _ dc)
 obtain⟨r,hr⟩:=eX (u%10)
 have ah:r<10:=om
 rw[hr]at er aa ad hinv
 have ag:IntKind.u64.wrap ((u:Int)/10)=(u:Int)/10:=Vx.dt om om
 have ai:((r:Int)).toNat=r:=Ax r
 have aj:((r+1:Nat):Int).toNat=r+1:=Ax _
 refine zA ?_
 simp only[Int.natCast_add,Bx]at aa
 simp[go_sem,hq,er,aa]
 refine zI om ?_
 simp[go_sem,ad]
 refine zI om ?_
 simp[go_sem,af,ag]
 refine zG (u/10,(48+UInt8.ofNat r)::s) ⟨by simp only;omega,⟨by simp only;omega,f,by simp only;rw[afC]at hf;omega,by simp;omega,hinv⟩, ?_⟩
 exact aO
def dT (a:Nat) (l:afE):TR:=
 if wM (l.headD 0)=true then(⟨1,0,(l.takeWhile gX).map yG,0⟩,a+(l.takeWhile gX).length,0)
 else if xN (l.headD 0)=true then kf a l
 else if(l.headD 0).toNat=39 then xS (a+1) [] (l.drop 1)
 else if 2<=l.length/\(l.take 2= [60,61]\/l.take 2= [62,61]\/l.take 2= [60,62])then(⟨4,0,l.take 2,0⟩,a+2,0)
 else if eG.contains (l.headD 0)=true then(⟨4,0,[l.headD 0],0⟩,a+1,0)
 else(xA,0,13)
theorem UA (s:afE) (a:Nat) (ha:a<s.length):gr s a=dT a (s.drop a):=by
 have h1:(s.drop a).headD 0=s.getD a 0:=Zc s a
 have h2:(s.drop a).drop 1=s.drop (a+1):=by rw[Cn]
 have h3:(2<=(s.drop a).length)↔a+1<s.length:=by rw[C7];omega
 unfold gr dT
 rw[h1,h2]
 simp only[h3]
def iX:Nat->Nat->afE->List bJ->List bJ×Int
 |0,_,_,_=>([],0)
 |_+1,a,[],acc=>(acc++ [⟨0,a,[],0⟩],0)
 |n+1,a,c::l,acc=>
  if tF c=true then iX n (a+1) l acc
  else if(dT a (c::l)).2.2=0 then iX n (dT a (c::l)).2.1 ((c::l).drop ((dT a (c::l)).2.1 - a)) (acc++ [{(dT a (c::l)).1 with place:=a}])
  else([],(dT a (c::l)).2.2)
theorem N5 (s:afE): ∀(n a:Nat) (acc:List bJ),a<=s.length->kT s n a acc=iX n a (s.drop a) acc
 |0,a,acc,_=>rfl
 |n+1,a,acc,ha=>by
  rw[kT]
  by_cases q:a<s.length
  rotate_left
  .have:a=s.length:=om
   subst this
   rw[afa q,Cd,iX]
  have hd:=A2 q
  have hg:s.getD a 0=s[a]:=by rw[A9,A0 q];rfl
  have ho:=UA s a q
  rw[afb q,hg,hd,iX,<-hd,<-ho]
  by_cases q2:tF s[a]=true
  .rw[afb q2,afb q2]
   exact N5 s n (a+1) acc om
  rw[afa q2,afa q2]
  by_cases q3:(gr s a).2.2=0
  .have hk:=Jg q q3
   rw[afb q3,afb q3,N5 s n _ _ om,Cn]
   congr 2
   omega
  .rw[afa q3,afa q3]
theorem N6 {a:Nat} {c:UInt8} {l:afE} (h:(dT a (c::l)).2.2=0):a<(dT a (c::l)).2.1/\(dT a (c::l)).2.1<=a+(l.length+1):=by
 have hd:(List.replicate a (0:UInt8)++c::l).drop a=c::l:=by
  rw[Dz,A8 sm,List.length_replicate,Nat.sub_self]
  rfl
 have hl:a<(List.replicate a (0:UInt8)++c::l).length:=sm
 have he:=UA _ a hl
 rw[hd]at he
 rw[<-he]at h⊢
 have:=Jg hl h
 simp only[Ah,List.length_replicate,Ab]at this
 omega
theorem N7: ∀(n m a:Nat) (l:afE) (acc:List bJ),l.length<n->l.length<m->iX n a l acc=iX m a l acc
 |0,_,_,_,_,h,_=>by omega
 |_+1,0,_,_,_,_,h=>by omega
 |n+1,m+1,a,[],acc,_,_=>by rw[iX,iX]
 |n+1,m+1,a,c::l,acc,h1,h2=>by
  simp only[Ab]at h1 h2
  rw[iX,iX]
  split
  .exact N7 n m _ _ _ om om
  split
  .rename_i h3
   have:=N6 h3
   exact N7 n m _ _ _ (by simp only[C7,Ab];omega) (by simp only[C7,Ab];omega)
  .rfl
end Go.Proofs.YtefbicjgbaaieaaGreat
