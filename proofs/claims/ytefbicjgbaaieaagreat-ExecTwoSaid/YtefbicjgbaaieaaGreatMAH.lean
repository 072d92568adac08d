/-
  A region whose order is open and in which a variable is laid anywhere among operations that make other objects.
  No condition: a library text; nothing of the program is named.
-/
import Derived.Test.YtefbicjgbaaieaaGreatMAF
import Derived.Test.YtefbicjgbaaieaaGreatMAE
set_option maxHeartbeats 8000000
namespace Go.Vx
open Go
section
variable {P:Program} {c:Ctx} {nt:Nat} {e:Env} {U:St} {a:Act} {w:World} {L:Nat->Nat} {I:afG} {o:Oper}
def mF:V->V
 | .sl .full rows=> .sl .full rows
 |v=>o9 v
theorem cN.mF {v:V} {x:Value} (r:cN w L U I v x) (h:o8 v):cq w L (mF v) x:=by
 cases v with
 |sl g rows=>cases g with
  |full=>exact r
  |ro=>simpa
  |app id=>exact cN.o9 r h
 |_=>exact cN.o9 r h
def qx (v:V):List V:=(xG v).map mF
def IN (es:afK) (len:Nat) (parts:List (Nat×V)):R:=
 match es with
 |some s=>if qU 0 parts=true/\parts.length=len then .dW ((∀p∈parts,sQ p.2=true/\(xG p.2).length=s)/\len*s<=16777216/\0<s) (.sl .full (parts.map λp=>qx p.2))else .fail
 |none=> .fail
theorem Yc {v:V} {x:Value} (r:bL (cN w L U I) (xG v) x.cells.toList) (hp:sQ v):bL (cq w L) (qx v) x.cells.toList:=by
 unfold sQ at hp
 unfold qx
 refine bL.jX ?_
 revert r hp
 generalize xG v=cs
 generalize x.cells.toList=xs
 intro r hp
 induction cs generalizing xs with
 |nil=>cases xs<;>simpa
 |cons p cs ih=>cases xs with
  |nil=>simpa
  |cons y ys=>
   simp at hp
   exact⟨cN.mF r.1 hp.1,ih _ r.2 (by grind)⟩
theorem Qz {s:Nat}: ∀(parts:List (Nat×V)) (aa:List (Nat×Value)) (k:Nat) (arr:afI) (done:List V),qU k parts=true->(∀p∈parts,sQ p.2=true/\(xG p.2).length=s)->
  bL (λp q=>p.1=q.1/\cV w L U I p.2 q.2) parts aa->arr.size=(k+parts.length)*s->done.length=k*s->bL (cq w L) done (arr.toList.take (k*s))->
  ∃ab,Instr.fill (λi=>some (i*s,s)) arr aa=some ab/\ab.size=arr.size/\bL (cq w L) (done++(parts.map λp=>qx p.2).flatten) ab.toList
 | [],[],k,arr,done,_,_,_,af,hd,ae=>by
  refine⟨arr,rfl,rfl, ?_⟩
  grind[Aj]
 |(i,v)::parts,(i',x)::aa,k,arr,done,ho,hp,⟨⟨hi,hr⟩,ag⟩,af,hd,ae=>by
  simp only[qU,A6,afh]at ho
  obtain⟨⟨rfl,ah⟩,ho⟩:=ho
  have ai:=hp (i,v) sm
  simp only at hi ai
  subst hi
  have ad:=zc hr ah
  have hlen:=ad.length
  simp only[Ci]at hlen
  have al:x.cells.size=s:=om
  simp only[Ab]at af
  have hm:(i+(parts.length+1))*s=i*s+s+parts.length*s:=by grind
  have ao:(i+1)*s=i*s+s:=by grind
  rw[HH (s:=s) rfl al om]
  have aj:=Yc ad ai.1
  have aq:(qx v).length=s:=by grind[qx]
  obtain⟨ab,h1,h2,h3⟩:=Qz parts aa (i+1) (xI arr (i*s) x.cells.toList) (done++qx v) ho (λp an=>hp p (by simp[an])) ag (by rw[xJ,af];grind) (by grind) (by
   have ak:i*s+x.cells.toList.length<=arr.size:=by grind
   have e1:(xI arr (i*s) x.cells.toList).toList.take ((i+1)*s)=arr.toList.take (i*s)++x.cells.toList:=by
    apply Bn
    intro j
    rw[Av]
    have ar:(List.take (i*s) arr.toList).length=i*s:=by grind
    by_cases hj:j<(i+1)*s
    .rw[afb hj,Am,tS _ _ _ _ ak]
     grind
    grind
   rw[e1]
   exact ae.append aj)
  grind[xJ]
 | [],_::_,_,_,_,_,_,h,_,_,_=>h.elim
 |_::_,[],_,_,_,_,_,h,_,_,_=>h.elim
theorem Yd {dst:Option Tmp} {ty:TypeId} {pos:String} {dG:Array Edge} {g:Option (Nat×Bool)} (t:TypeId) (len:Nat) (ps:Array (Nat×Operand)) (h:dp c nt e U a w L I):
  fh (IN ((dQ P t).map (·.1)) len (ps.toList.map λp=>(p.1,zF e p.2))) U (bO P c ⟨dst,.buildSlice t len ps,ty,pos,dG,g⟩ a w L U I):=by
 unfold IN
 split
 .rename_i s ak
  split
  .rename_i ae
   obtain⟨ho,hlen⟩:=ae
   rintro⟨hp,al,hs⟩
   obtain⟨el,ai⟩: ∃b,dQ P t=some (s,b):=by
    simp_all
   obtain⟨el,i,z,hu,hi,hz,rfl,_,an,_,_⟩:=pd ai
   have ab:=bL.gI h ps.toList
   have af: ∀aa,Instr.fill (λk=>some (k*i.size,i.size)) ((Array.range (len*i.size)).map (z.cells[· %z.cells.size]!)) (ps.map λ(k,x)=>(k,a.eval x)).toList=some aa->
     (Instr.buildSlice t len (ps.map λ(k,x)=>(k,a.eval x))).run P w= .ok (.slice (some ⟨w.heap.size,0,none⟩) len len) (w.alloc (.cells aa el)):=by
    intro aa hf
    by_cases h0:len*i.size=0
    .have ao:len=0:=by
      rcases Nat.mul_eq_zero.1 h0 with h|h
      all_goals omega
     simp_all[Array.eq_empty_of_size_eq_zero,Instr.buildSlice,run_underlying,sizeOf,typeInfo,newRow]
    grind[run_buildSlice]
   have ag:(ps.map λ(k,x)=>(k,a.eval x)).toList=ps.toList.map λp=>(p.1,a.eval p.2):=sm
   obtain⟨aa,hf,aq,ad⟩:=Qz (s:=i.size) _ _ 0 ((Array.range (len*i.size)).map (z.cells[· %z.cells.size]!)) [] ho hp ab (by grind) sm (by simp[bL])
   rw[<-ag]at hf
   have hr:=af aa hf
   have aj:((ps.toList.map λp=>(p.1,zF e p.2)).map λp=>qx p.2).length=len:=by grind
   obtain⟨h1,h2⟩:=h.mem.alloc (.cells aa el) (len*i.size)
   refine⟨.slice (some ⟨w.heap.size,0,none⟩) len len,_,_,I,(by simp_all[execOp]),h1,h2,Ext.refl _ _, ?_⟩
   have ah:cq (w.alloc (.cells aa el)) (xE L w.heap.size (len*i.size)) (.sl .full ((ps.toList.map λp=>(p.1,zF e p.2)).map λp=>qx p.2)) (.slice (some ⟨w.heap.size,0,none⟩) ((ps.toList.map λp=>(p.1,zF e p.2)).map λp=>qx p.2).length len):=by
    refine .jW (xs:=aa.toList) hs (λr hr=> ?_) (by grind[xE]) om sm om (yH _ _) sm ?_
    .obtain⟨p,ar,rfl⟩:=Ac.1 hr
     grind[qx]
    .simp only[Bp]at ad
     exact ad.imp (by grind[cq.mono])
   rw[aj]at ah
   trivial
  trivial
 trivial
theorem QA {ops rest:List Oper} {Q:Exit->Act->World->Prop}: ∀(l:List Oper) (K:Env->St->Prop) (e:Env) (U:St) (a:Act) (w:World) (L:Nat->Nat) (I:afG),(∀o∈l,o.guard=none)->dp c nt e U a w L I->jG P c nt ops l K e U->
  (∀e' U' a' w' L' I',dp c nt e' U' a' w' L' I'->K e' U'->wpList P ops.toArray Q rest a' w')->wpList P ops.toArray Q (l++rest) a w
 | [],K,e,U,a,w,L,I,_,h,hK,hn=>hn _ _ _ _ _ _ h hK
 |o::l,K,e,U,a,w,L,I,hg,h,hK,hn=>by
  have ih:=QA (ops:=ops) (rest:=rest) (Q:=Q) l K
  have aa:=hg o (B1 ..)
  unfold jG at hK
  rw[Ap]
  unfold wpList
  rw[aa]at hK
  rw[afb (by grind[Region.wanted])]
  exact .inl (HR o h hK (by grind))
theorem Ye (o:Oper) {r:R} {K:Env->St->Prop} {next:Act->World->Prop} {Q:Exit->Act->World->Prop} (h:dp c nt e U a w L I) (hr:fh r U (bO P c o a w L U I)) (hv:ly nt o.dst r K e U)
  (hn: ∀e' U' a' w' L' I',dp c nt e' U' a' w' L' I'->K e' U'->next a' w'):o.wp P a w next Q:=by
 have done: ∀{v U'},bO P c o a w L U I v U'->eC nt o.dst v K e U'->o.wp P a w next Q:=by
  rintro v U' ⟨x,w',L',I',aa,hm,hle,ab,ad⟩ hp
  obtain⟨e',hs,hk⟩:=DB h hm hle ab ad hp
  unfold Oper.wp
  rcases aa with aa|⟨aa,rfl⟩
  .rw[aa];exact hn _ _ _ _ _ _ hs hk
  .rw[aa];exact hn _ _ _ _ _ _ hs hk
 cases r with
 |fail=>trivial
 |ok v=>exact done hr hv
 |dW p v=>exact done (hr hv.1) hv.2
 |st v U'=>exact done hr hv
 |cE p v U'=>exact done (hr hv.1) hv.2
 |all f=>obtain⟨b,hr⟩:=hr;exact done hr (hv b)
 |any l=>obtain⟨p,hp,hr⟩:=hr;exact done hr (hv p hp)
theorem QB {Q:QT} {id:Nat} {ops pre rest:List Oper} {d:Option Tmp} {t:TypeId} {n:Nat} {ps:List (Nat×Operand)} {ty:TypeId} {pos:String} {dG:Array Edge} (k:Nat) (h0:ops.take k=pre) (h1:ops.drop k=⟨d,.buildSlice t n ps.toArray,ty,pos,dG,none⟩::rest) (hg:(ops.all λo=>o.guard.isNone))
  (h:lC P c nt ops pre (λe' U'=>dC nt d (IN ((dQ P t).map (·.1)) n (ps.map λp=>(p.1,zF e' p.2))) (lC P c nt ops rest (Q .normal) fx fx fx) fx e' U') fx fx fx e U):fw P c nt (.region id ops.toArray false) Q fx fx e U:=by
 intro a w L I hs
 have ab:ops=pre++⟨d,.buildSlice t n ps.toArray,ty,pos,dG,none⟩::rest:=by grind[B9]
 have ad: ∀o∈ops,o.guard=none:=λo ho=>by
  have:=Ad.1 hg o ho
  simp_all
 refine wp_region_list (ops:=ops.toArray) ?_
 show wpList P ops.toArray (dH c nt Q) ops a w
 have key:=QA (P:=P) (ops:=ops) (rest:=⟨d,.buildSlice t n ps.toArray,ty,pos,dG,none⟩::rest) (Q:=dH c nt Q) pre _ e U a w L I (by grind) hs h (λe' U' a' w' L' I' aa hk=>by
  unfold wpList
  rw[afb (by rfl)]
  refine .inl (Ye (K:=jG P c nt ops rest (Q .normal)) ⟨d,.buildSlice t n ps.toArray,ty,pos,dG,none⟩ aa (Yd t n ps.toArray aa) (by
   simpa) λe2 U2 a2 w2 L2 I2 ae af=> ?_)
  grind[KN,dH])
 grind
attribute [go_sem] IN qx mF
end
section
variable {P:Program} {c:Ctx} {nt:Nat} {n0:Kp}
variable {e:Env}{ops:List Oper}{S:St}{q:List (Nat×Nat)}{z:List V}{o:Oper}{n1:Nat}{S':St}{n:Nat}{t:TypeId}{k2:Nat}{r1:List (List V)}{r2:List (List V)}{g:Tag}{d:Nat}{l1:List Oper}{l2:List Oper}{U:St}{bT:St}{tr:List (V×St)}{p:Nat}{dB:Nat}
def IP (P:Program) (n1:Nat) (z:List V) (e:Env) (S:St) (o:Oper) (v:V) (S':St):Prop:=
 o.guard=none/\(∀f az ts,o.op≠ .call ⟨.value f,az,ts⟩)/\ ∃v2 S2 pick p,p/\xB P o.dst e (S++ [.box z]) o.op= .cE p v2 S2/\
  eM n1 pick S2 (S'++ [.box z])/\cF (cz pick S2.length) v v2/\cz pick S2.length S'.length=S.length/\ ∀i,i<S.length->cz pick S2.length i=i
theorem Yf {E:Env} {v:V} (hx:IP P n1 z E S o v S') (he: ∀t∈kN ops o,e t=E t) (hd: ∀t,o.dst=some t->t<nt):
  rb o.guard ops e (ik P c nt o.dst o.op (λe' s'=> ∃v2 pick,eM n1 pick s' (S'++ [.box z])/\cF (cz pick s'.length) v v2/\cz pick s'.length S'.length=S.length/\(∀i,i<S.length->cz pick s'.length i=i)/\e'=eN e o.dst v2) e (S++ [.box z]))
   (eC nt o.dst (.cm []) (λe' s'=> ∃v2 pick,eM n1 pick s' (S'++ [.box z])/\cF (cz pick s'.length) v v2/\cz pick s'.length S'.length=S.length/\(∀i,i<S.length->cz pick s'.length i=i)/\e'=eN e o.dst v2) e (S++ [.box z])):=by
 obtain⟨hg,ad,v2,S2,pick,p,hp,aa,h1,h2,h3,h4⟩:=hx
 have ae:wP e o.dst=wP E o.dst:=Pu λt ht=>he _ (by simp[kN,ht])
 have ab: ∀x∈o.op.operands.toList,zF e x=zF E x:=λx hx=>by
  cases x with
  |tmp t=>exact he t (Di _ (Di _ (List.mem_filterMap.2 ⟨_,hx,rfl⟩)))
  |_=>rfl
 rw[<-Pw o.op ae ab]at aa
 rw[hg]
 show ik P c nt o.dst o.op _ e (S++ [.box z])
 unfold ik
 split
 .rename_i f args ts af
  exact absurd af (ad _ _ _)
 .rw[aa]
  exact⟨hp,uA (K:=(λe' s'=> ∃v2 pick,eM n1 pick s' (S'++ [.box z])/\cF (cz pick s'.length) v v2/\cz pick s'.length S'.length=S.length/\(∀i,i<S.length->cz pick s'.length i=i)/\e'=eN e o.dst v2)) hd ⟨v2,pick,h1,h2,h3,h4,rfl⟩⟩
theorem Yg (B:Nat->Nat->Prop) (sp: ∀{i j:Nat} {x y:Oper},i<j->ops[i]? =some x->ops[j]? =some y->nK ops q i j x y=false\/B i j)
  {D:Nat->Bool} {i:Nat} (ad:ops[i]? =some o) (af:D i=false) (ahead: ∀{k:Nat},k≠i->B k i->D k) (wX: ∀{k:Nat},B i k->D k=false) (ae:2<=zQ q i o):
  fS D q 0 ops tr bT=fS (λj=>decide (j<i)) q 0 ops tr bT:=by
 refine mD _ _ q ops tr 0 bT λk o' hk ab=> ?_
 rw[A7]at ab⊢
 rcases Aw k i with aa|aa|aa
 .rw[afd aa]
  rcases sp aa hk ad with hc|hb
  .have:=(zY hc).1
   rw[qm ab (yR _ _ _) ae (yR _ _ _)]at this
   cases this
  .exact ahead om hb
 .subst aa;rw[af];simp
 .rw[afc om]
  rcases sp aa ad hk with hc|hb
  .have:=(zY hc).1
   rw[Eh,qm ab (yR _ _ _) ae (yR _ _ _)]at this
   cases this
  .exact wX hb
theorem Yh {e0:Env} (hn:n0.n<=bT.length) (ht:mc P c nt n0 ops q 0 ops e0 bT tr) (B:Nat->Nat->Prop) (sp: ∀{i j:Nat} {x y:Oper},i<j->ops[i]? =some x->ops[j]? =some y->nK ops q i j x y=false\/B i j)
  {D:Nat->Bool} {i:Nat} (ab:ops[i]? =some o) (ahead: ∀{k:Nat},k≠i->B k i->D k) (wX: ∀{k:Nat},B i k->D k=false) (ah: ∀{k j:Nat},B k j->D j=true->D k) (af:zQ q i o=1):
  n0.of (fS D q 0 ops tr bT)=n0.of (fS (λj=>decide (j<i)) q 0 ops tr bT):=by
 have pre: ∀N,N<=ops.length-> ∃m,m<=N/\ ∀k o',k<N->ops[k]? =some o'->3<=zQ q k o'->D k=decide (k<m):=by
  intro N
  induction N with
  |zero=>exact λ_=>⟨0,A3 _,λk o' h=>om⟩
  |succ N ai=>
   intro hN
   obtain⟨m,hm,aa⟩:=ai om
   have ag:=A0 (show N<ops.length by omega)
   by_cases hw:3<=zQ q N (ops[N]'om)/\D N=true
   .refine⟨N+1,A3 _,λk o' hk ad h3=> ?_⟩
    rw[afd hk]
    by_cases ae:k=N
    .subst ae;exact hw.2
    .rcases sp (show k<N by omega) ad ag with hc|hb
     .have:=(zY hc).1
      rw[qm h3 (yR _ _ _) om (yR _ _ _)]at this
      cases this
     .exact ah hb hw.2
   .refine⟨m,om,λk o' hk ad h3=> ?_⟩
    by_cases ae:k=N
    .subst ae
     rw[ag]at ad;cases ad
     rw[afc om]
     cases hl:D k with
     |false=>rfl
     |true=>exact absurd ⟨h3,hl⟩ hw
    .exact aa k o' om ad h3
 obtain⟨m,hm,aa⟩:=pre ops.length (A3 _)
 have e1:fS D q 0 ops tr bT=fS (λx=>decide (x<m)) q 0 ops tr bT:=
  mD _ _ q ops tr 0 bT λk o' hk h3=>by
   rw[A7]at h3⊢
   exact aa k o' (A1.1 hk).1 hk h3
 rw[e1]
 have ak:i<ops.length:=(A1.1 ab).1
 rcases Nat.le_total m i with aj|aj
 .have:=(Ej ht hn (i - m) m om (λk o' h5 h6 hk h4=>by
   have h7:=aa k o' (A1.1 hk).1 hk om
   rw[afc om]at h7
   rcases sp (show k<i by omega) hk ab with hc|hb
   .have:=(zY hc).1
    rw[h4,af,Ei dc]at this
    cases this
   .rw[ahead om hb]at h7;cases h7)).2
  rw[show m+(i - m)=i by omega]at this
  grind
 .have:=(Ej ht hn (m - i) i om (λk o' h5 h6 hk h4=>by
   have h7:=aa k o' (A1.1 hk).1 hk om
   rw[afd om]at h7
   have al:k≠i:=λqq=>by
    subst qq
    rw[hk]at ab;cases ab
    omega
   rcases sp (show i<k by omega) ab hk with hc|hb
   .have:=(zY hc).1
    rw[Eh,h4,af,Ei dc]at this
    cases this
   .rw[wX hb]at h7;cases h7)).2
  rw[show i+(m - i)=m by omega]at this
  omega
theorem QC {m:Nat} {v:V} (hv:fW n v) (h:n<=m):fW m v=true:=by
 cases v with
 |cm vs=>simp only[fW,Ad]at hv⊢;exact λx hx=>IB h (hv x hx)
 |_=>simp only[fW]at hv⊢;exact IB h hv
theorem Mb {ops:List Oper} {q:List (Nat×Nat)} {m:Nat}: ∀(os:List Oper) (i:Nat) (e:Env) (U:St) (tr:List (V×St)),mc P c nt n0 ops q i os e U tr->m<=U.length-> ∀(k:Nat) v s,tr[k]? =some (v,s)->m<=s.length
 | [],_,_,_,[],_,_=>by simp
 | [],_,_,_,_::_,h,_=>h.elim
 |_::_,_,_,_,[],h,_=>h.elim
 |o::os,i,e,U,(v1,s1)::tr,h,hm=>λk v s hk=>by
  have h1:U.length<=s1.length:=h.1.2.2.2.1
  cases k with
  |zero=>simp at hk;obtain⟨_,rfl⟩:=hk;omega
  |succ k=>exact Mb os (i+1) _ s1 tr h.2 om k v s (sU hk)
theorem Mc (D:Nat->Bool) (q:List (Nat×Nat)) {m:Nat}: ∀(os:List Oper) (tr:List (V×St)) (i:Nat) (s:St),m<=s.length->(∀(k:Nat) v s,tr[k]? =some (v,s)->m<=s.length)->m<=(fS D q i os tr s).length
 | [],_,_,_,h,_=>by simpa[fS]
 |_::_,[],_,_,h,_=>by simpa[fS]
 |o::os,(v,s1)::tr,i,s,h,hv=>by
  rw[fS]
  refine Mc D q os tr (i+1) _ ?_ λk v s hk=>hv (k+1) v s (sU hk)
  split
  .exact hv 0 v s1 rfl
  .exact h
theorem Yi {Q:Exit->Env->St->Prop} {e0:Env} {tB:TypeId} {aE:String} {aB:Array Edge}
  (hn:n0.n<=bT.length) (bg:c.β0.length=c.bT.length)
  (hB:ops[p]? =some ⟨some dB,.alloc t,tB,aE,aB,none⟩) (b1:zQ q p ⟨some dB,.alloc t,tB,aE,aB,none⟩=3) (hz:wW P t=some z)
  (bh: ∀(k:Nat) o,k<p->ops[k]? =some o->zQ q k o≠2/\dB∉kN ops o/\o.dst≠some dB)
  (aS: ∀(k:Nat) o,p<k->ops[k]? =some o-> ∀j,j<=p->j∈(dM ops []).getD k [])
  (hd: ∀{i j:Nat} {x y:Oper},i<j->ops[i]? =some x->ops[j]? =some y->nK ops q i j x y=false\/(i∈(dM ops []).getD j []\/(i<p/\j=p/\3<=zQ q i x))) (ak:xT ops)
  (hx: ∀(k:Nat) o v S',k<p->ops[k]? =some o->3<=zQ q k o->tr[k]? =some (v,S')->IP P c.bT.length z (fE (λj=>decide (j<k)) 0 ops tr e0) (fS (λj=>decide (j<k)) q 0 ops tr bT) o v S')
  (h0: ∀s,fW bT.length (e0 s))
  (hv: ∀(k j:Nat) o v s,k<p->ops[k]? =some o->3<=zQ q k o->j<p->j≠k->tr[j]? =some (v,s)->k∈(dM ops []).getD j []\/fW (fS (λj=>decide (j<k)) q 0 ops tr bT).length v)
  (ht:mc P c nt n0 ops q 0 ops e0 bT tr) (hQ:Q .normal (fE (λ_=>true) 0 ops tr e0) (fS (λ_=>true) q 0 ops tr bT)):
  ∀(fuel:Nat) (bF:Array Bool) (a:Act) (w:World) (L:Nat->Nat) (I:afG),bF.size=ops.length->bF.toList.count false=fuel->
   (∀(j:Nat) o,ops[j]? =some o->bF.getD j false=true-> ∀e∈o.after.toList,Region.binds .any e=true->bF.getD e.on false=true)->
   ((bF.getD p false=true-> ∀(k:Nat) o,k<p->ops[k]? =some o->3<=zQ q k o->bF.getD k false=true)/\dp c nt (fE (λi=>bF.getD i false) 0 ops tr e0) (fS (λi=>bF.getD i false) q 0 ops tr bT) a w L I\/
    (bF.getD p false=true/\ ∃k,k<p/\bF.getD k false=false)/\dp c nt (dK (fE (λi=>bF.getD i false&&decide (i≠p)) 0 ops tr e0) dB (.ptr (fS (λi=>bF.getD i false&&decide (i≠p)) q 0 ops tr bT).length 0)) (fS (λi=>bF.getD i false&&decide (i≠p)) q 0 ops tr bT++ [.box z]) a w L I)->
   wpAny P .any ops.toArray (dH c nt Q) fuel bF a w:=by
 obtain⟨aJ,aT⟩:=rF ops q ops tr 0 e0 bT ht
 have b2:p<ops.length:=(A1.1 hB).1
 have aU: ∀(e:Env) (U:St) (d:Tmp),xB P (some d) e U (.alloc t)= .st (.ptr U.length 0) (U++ [.box z]):=λe U d=>by
  have h1:bX P e U (.alloc t)= .st (.ptr U.length 0) (U++ [.box z]):=by simp only[bX,pa,hz]
  have h2:gE P e U (.alloc t)=bX P e U (.alloc t):=rfl
  unfold xB
  rw[h2,h1];simp
 obtain⟨vB,sB,aF,aV⟩:=aT p _ hB
 rw[A7]at aV
 obtain⟨bj,al,bk⟩:vB= .ptr (fS (λj=>decide (j<p)) q 0 ops tr bT).length 0/\sB=fS (λj=>decide (j<p)) q 0 ops tr bT++ [.box z]/\dB<nt:=by
  obtain⟨bm,_,_,_,g,hg,hb⟩:=aV
  simp only at hg
  subst hg
  simp only[afj]at hb
  obtain⟨_,_,_,hb⟩:=hb
  rw[aU]at hb
  rcases hb with ⟨hr,_⟩|⟨_,hr,_⟩|⟨_,hr|⟨_,hr,_⟩⟩
  .cases hr
  .cases hr
  .cases hr;exact⟨rfl,rfl,bm _ rfl⟩
  .cases hr
 subst bj;subst al
 have fin: ∀(bF:Array Bool) (a:Act) (w:World) (L:Nat->Nat) (I:afG),dp c nt (fE (λi=>bF.getD i false) 0 ops tr e0) (fS (λi=>bF.getD i false) q 0 ops tr bT) a w L I->
   (∀i,i<ops.length->bF.getD i false=true)->dH c nt Q .normal a w:=by
  intro bF a w L I hs aj
  have e1:fE (λi=>bF.getD i false) 0 ops tr e0=fE (λ_=>true) 0 ops tr e0:=by
   funext t
   exact wT _ _ t ops tr 0 e0 e0 rfl λk o hk _=>by rw[A7];exact aj k (A1.1 hk).1
  have e2:fS (λi=>bF.getD i false) q 0 ops tr bT=fS (λ_=>true) q 0 ops tr bT:=
   mD _ _ q ops tr 0 bT λk o hk _=>by rw[A7];exact aj k (A1.1 hk).1
  rw[e1,e2]at hs
  exact⟨_,_,L,I,hs,hQ⟩
 have ay: ∀(bF:Array Bool),bF.size=ops.length->Region.ready .any ops.toArray bF= []-> ∀i,i<ops.length->bF.getD i false=true:=by
  intro bF aw hr i
  induction i using Nat.strongRecOn with
  |ind i ih=>
   intro hi
   cases a7:bF.getD i false with
   |true=>rfl
   |false=>
    exfalso
    have hm:i∈Region.ready .any ops.toArray bF:=by
     refine mem_ready.2 ⟨?_,ops[i],by simp[hi],λe he hb=> ?_⟩
     .have ad:i<bF.size:=om
      simpa[Array.getD,ad]using a7
     .unfold xT at ak
      simp only[Ad,Bz]at ak
      have:=ak i hi
      rw[A0 hi]at this
      simp only[Bd]at this
      have:=this e he
      simp only[hb,E0,Bj,afe]at this
      exact ih e.on this om
    rw[hr]at hm
    cases hm
 intro fuel
 induction fuel with
 |zero=>
  intro bF a w L I aw aW ax hs
  have aj: ∀i,i<ops.length->bF.getD i false:=by
   intro i hi
   have ad:i<bF.size:=om
   cases a7:bF[i]with
   |true=>simp[Array.getD,ad,a7]
   |false=>
    exfalso
    have:false∈bF.toList:=by
     rw[<-a7];simp
    have:=List.count_pos_iff.2 this
    omega
  rcases hs with ⟨_,hs⟩|⟨⟨_,k,hk,hp⟩,_⟩
  .refine⟨?_,fin bF a w L I hs aj⟩
   cases hr:Region.ready .any ops.toArray bF with
   |nil=>rfl
   |cons i l=>
    exfalso
    have hm:i∈Region.ready .any ops.toArray bF:=by rw[hr];simp
    obtain⟨h1,o,ho,_⟩:=mem_ready.1 hm
    have hi:i<ops.length:=(A1.1 (sU ho)).1
    have:=aj i hi
    have ad:i<bF.size:=om
    simp[Array.getD,ad]at this h1
    rw[this]at h1
    cases h1
  .rw[aj k om]at hp;cases hp
 |succ fuel ih=>
  intro bF a w L I aw aW ax hs
  refine⟨λhr=> ?_,λi hi=> ?_⟩
  .rcases hs with ⟨_,hs⟩|⟨⟨_,k,hk,hp⟩,_⟩
   .exact fin bF a w L I hs (ay bF aw hr)
   .rw[ay bF aw hr k om]at hp;cases hp
  obtain⟨h1,o,ho,aK⟩:=mem_ready.1 hi
  have aa:ops[i]? =some o:=sU ho
  have b3:i<ops.length:=(A1.1 aa).1
  have ad:i<bF.size:=om
  have af:bF.getD i false=false:=by
   simp[Array.getD,ad]at h1⊢;exact h1
  have ag: ∀k,k≠i->(bF.setIfInBounds i true).getD k false=bF.getD k false:=λk hk=>getD_set_ne false (λq=>hk q.symm)
  have a8:(bF.setIfInBounds i true).getD i false:=by simp[Array.getD,ad]
  have aG: ∀(j:Nat) o,ops[j]? =some o->(bF.setIfInBounds i true).getD j false=true-> ∀e∈o.after.toList,Region.binds .any e=true->(bF.setIfInBounds i true).getD e.on false=true:=by
   intro j o' hj aX e he hb
   by_cases aY:j=i
   .subst aY
    rw[aa]at hj
    cases hj
    exact getD_set_true (aK e (sU he) hb)
   .rw[ag j aY]at aX
    exact getD_set_true (ax j o' hj aX e he hb)
  have ahead: ∀{k:Nat},k≠i->k∈(dM ops []).getD i []->bF.getD k false=true:=fun{k} hk hb=>by
   have:=xO (D:=λj=>(bF.setIfInBounds i true).getD j false) aG hb a8
   rwa [ag k hk]at this
  have wX: ∀{k:Nat},i∈(dM ops []).getD k []->bF.getD k false=false:=fun{k} hb=>by
   cases hk:bF.getD k false with
   |false=>rfl
   |true=>
    have:=xO (D:=λj=>bF.getD j false) ax hb hk
    rw[af]at this;cases this
  have aA:(bF.setIfInBounds i true).toList.count false=fuel:=by
   have:=K3 (l:=bF) (i:=i) (by
    rw[As ad]
    have:=af
    simp[Array.getD,ad]at this
    rw[this])
   omega
  have next:=λa' w' L' I' h=>ih (bF.setIfInBounds i true) a' w' L' I' (sU aw) aA aG h
  unfold wpOp
  rw[ho]
  show if Region.wanted o (yielded ops.toArray a.tmps)then o.wp P a w (wpAny P .any ops.toArray (dH c nt Q) fuel (bF.setIfInBounds i true)) (dH c nt Q)\/_ else _
  have only:(∃k,k<=p/\bF.getD k false=false)-> ∀k,p<k->bF.getD k false=false:=λ⟨k0,bn,hf⟩ k hk=>by
   cases hl:bF.getD k false with
   |false=>rfl
   |true=>
    have bo:k<ops.length:=by
     rcases Bo k ops.length with h|h
     .exact h
     .exfalso;simp[Array.getD,aw,Nat.not_lt.2 h]at hl
    have:=xO (D:=λj=>bF.getD j false) ax (aS k _ hk (A0 bo) k0 bn) hl
    rw[hf]at this;cases this
  have bp:(i=p-> ∀(k:Nat) o,k<p->ops[k]? =some o->3<=zQ q k o->bF.getD k false=true)->(bF.getD p false=true-> ∀(k:Nat) o,k<p->ops[k]? =some o->3<=zQ q k o->bF.getD k false=true)->dp c nt (fE (λi=>bF.getD i false) 0 ops tr e0) (fS (λi=>bF.getD i false) q 0 ops tr bT) a w L I->
    if Region.wanted o (yielded ops.toArray a.tmps)then o.wp P a w (wpAny P .any ops.toArray (dH c nt Q) fuel (bF.setIfInBounds i true)) (dH c nt Q)\/(o.asks P a w/\LetsOut (dH c nt Q))else wpAny P .any ops.toArray (dH c nt Q) fuel (bF.setIfInBounds i true) (a.put o.dst undef) w:=by
   intro an hinv hs
   refine PV hn ht (λi j=>i∈(dM ops []).getD j []\/(i<p/\j=p/\ ∃x,ops[i]? =some x/\3<=zQ q i x)) (λh1 h2 h3=> ?_) aa af ad ?_ ?_ ?_ hs λa' w' L' I' ab=>next a' w' L' I' (.inl ⟨?_,ab⟩)
   .rcases hd h1 h2 h3 with h|h|⟨h4,h5,h6⟩
    .exact .inl h
    .exact .inr (.inl h)
    .exact .inr (.inr ⟨h4,h5,_,h2,h6⟩)
   .rintro k hk (hb|⟨h4,h5,x,h6,h7⟩)
    .exact ahead hk hb
    .exact an h5 k x h4 h6 h7
   .rintro k (hb|⟨h4,rfl,x,h6,h7⟩)
    .exact wX hb
    .cases hl:bF.getD k false with
     |false=>rfl
     |true=>rw[hinv hl i x h4 h6 h7]at af;cases af
   .rintro k j (hb|⟨h4,rfl,x,h6,h7⟩) hj
    .exact xO (D:=λj=>bF.getD j false) ax hb hj
    .exact hinv hj k x h4 h6 h7
   .intro h k x hk aZ h3
    by_cases ae:k=i
    .subst ae;exact a8
    .rw[ag k ae]
     by_cases ai:i=p
     .exact an ai k x hk aZ h3
     .rw[ag p (λq=>ai q.symm)]at h
      exact hinv h k x hk aZ h3
  have back: ∀(l:Array Bool) (a:Act) (w:World) (L:Nat->Nat) (I:afG),l.getD p false=true->(∀k,p<k->l.getD k false=false)->(∀k,k<p->l.getD k false=true)->
    dp c nt (dK (fE (λi=>l.getD i false&&decide (i≠p)) 0 ops tr e0) dB (.ptr (fS (λi=>l.getD i false&&decide (i≠p)) q 0 ops tr bT).length 0)) (fS (λi=>l.getD i false&&decide (i≠p)) q 0 ops tr bT++ [.box z]) a w L I->
    dp c nt (fE (λi=>l.getD i false) 0 ops tr e0) (fS (λi=>l.getD i false) q 0 ops tr bT) a w L I:=by
   intro l a w L I hp ar bq hs
   have e2:fS (λi=>l.getD i false&&decide (i≠p)) q 0 ops tr bT=fS (λj=>decide (j<p)) q 0 ops tr bT:=mD _ _ q ops tr 0 bT λk o hk h3=>by
    rw[A7]
    rcases Aw k p with h|rfl|h
    .rw[bq k h,afd h];simp;omega
    .simp
    .rw[ar k h];simp;omega
   have e3:fS (λi=>l.getD i false) q 0 ops tr bT=fS (λj=>decide (j<p)) q 0 ops tr bT++ [.box z]:=
    uz _ q ops tr 0 p bT _ _ _ hB aF (by rw[A7];omega) (by rw[A7];exact hp) λk' o' au _ _=>by rw[A7];exact ar k' au
   have e1:dK (fE (λi=>l.getD i false&&decide (i≠p)) 0 ops tr e0) dB (.ptr (fS (λj=>decide (j<p)) q 0 ops tr bT).length 0)=fE (λi=>l.getD i false) 0 ops tr e0:=by
    funext s
    simp only[dK]
    split
    .rename_i h;subst h
     exact(rD _ s ops tr 0 p e0 _ _ _ hB aF rfl (by rw[A7];exact hp) λk' o' au aC aD=>by rw[A7];exact ar k' au).symm
    .rename_i h
     refine wT _ _ s ops tr 0 e0 e0 rfl λk o hk ao=> ?_
     rw[A7]
     have:k≠p:=λe=>by
      subst e
      rw[hB]at hk;cases hk
      exact h (afp ao).symm
     simp[this]
   rw[e2,e1]at hs
   rw[e3]
   exact hs
  have b4: ∀(l:Array Bool),l.getD p false=false->(λi=>l.getD i false&&decide (i≠p))=λi=>l.getD i false:=λl h=>by
   funext k
   by_cases hk:k=p
   .subst hk;rw[h];rfl
   .simp[hk]
  have dec: ∀l:Array Bool,(∀k,k<p->l.getD k false=true)\/ ∃k,k<p/\l.getD k false=false:=λl=>by
   rcases Classical.em (∃k,k<p/\l.getD k false=false)with h|h
   .exact .inr h
   .refine .inl λk hk=> ?_
    cases hl:l.getD k false with
    |true=>rfl
    |false=>exact absurd ⟨k,hk,hl⟩ h
  rcases hs with ⟨hinv,hs⟩|⟨⟨aL,ba⟩,hs⟩
  .rcases Classical.em (i=p/\ ∃k,k<p/\bF.getD k false=false)with ⟨rfl,hp⟩|an
   ·
    rw[hB]at aa;cases aa
    refine LA (ops:=ops) (Q:=dH c nt Q) (next:=wpAny P .any ops.toArray (dH c nt Q) fuel (bF.setIfInBounds i true)) hz bk hs λa' w' L' I' ab=>next a' w' L' I' (.inr ⟨⟨a8, ?_⟩, ?_⟩)
    .obtain⟨k,hk,hf⟩:=hp
     exact⟨k,hk,by rw[ag k om];exact hf⟩
    .have:(λk=>(bF.setIfInBounds i true).getD k false&&decide (k≠i))=λk=>bF.getD k false:=by
      funext k
      by_cases hk:k=i
      .subst hk;rw[af];simp
      .rw[ag k hk];simp[hk]
     rw[this]
     exact ab
   .refine bp (λai k x hk _ _=> ?_) hinv hs
    cases hl:bF.getD k false with
    |true=>rfl
    |false=>exact absurd ⟨ai,k,hk,hl⟩ an
  ·
   have ai:i≠p:=λe=>by subst e;rw[aL]at af;cases af
   have ar:=only (by obtain⟨k,hk,hf⟩:=ba;exact⟨k,om,hf⟩)
   have az:i<p:=by
    rcases Aw i p with h|h|h
    .exact h
    .exact absurd h ai
    .exfalso
     obtain⟨k,hk,hf⟩:=ba
     have:=ahead (k:=k) om (aS i o h aa k om)
     rw[hf]at this;cases this
   obtain⟨b5,bb,bc⟩:=bh i o az aa
   have sp: ∀{i j:Nat} {x y:Oper},i<j->ops[i]? =some x->ops[j]? =some y->nK ops q i j x y=false\/(i∈(dM ops []).getD j []\/(i<p/\j=p)):=λh1 h2 h3=>by
    rcases hd h1 h2 h3 with h|h|⟨h4,h5,_⟩
    .exact .inl h
    .exact .inr (.inl h)
    .exact .inr (.inr ⟨h4,h5⟩)
   have ah: ∀{k:Nat},k≠i->(k∈(dM ops []).getD i []\/(k<p/\i=p))->(bF.getD k false&&decide (k≠p))=true:=by
    rintro k hk (hb|⟨_,h⟩)
    .rw[ahead hk hb]
     have:k≠p:=λe=>by
      subst e
      have:=ar
      have h9:=xO (D:=λj=>decide (j<i+1)) (λj o hj aP e he hb=>by
       unfold xT at ak
       simp only[Ad,Bz]at ak
       have h8:=ak j (A1.1 hj).1
       rw[hj]at h8
       simp only[Bd]at h8
       have h8:=h8 e (sU he)
       simp only[hb,E0,Bj,afe]at h8 aP⊢
       omega) hb sm
      simp only[afe]at h9
      omega
     simp[this]
    .exact absurd h ai
   have be: ∀{k:Nat},(i∈(dM ops []).getD k []\/(i<p/\k=p))->(bF.getD k false&&decide (k≠p))=false:=by
    rintro k (hb|⟨_,rfl⟩)
    .rw[wX hb];rfl
    .simp
   have cl: ∀{k j:Nat},(k∈(dM ops []).getD j []\/(k<p/\j=p))->(bF.getD j false&&decide (j≠p))=true->(bF.getD k false&&decide (k≠p))=true:=by
    rintro k j (hb|⟨_,rfl⟩) hj
    .simp only[A6,afe]at hj
     have b6:j<p:=by
      rcases Aw j p with h|h|h
      .exact h
      .subst h;simp at hj
      .rw[ar j h]at hj;cases hj.1
     have h9:=xO (D:=λx=>decide (x<j+1)) (λj o hj aP e he hb=>by
      unfold xT at ak
      simp only[Ad,Bz]at ak
      have h8:=ak j (A1.1 hj).1
      rw[hj]at h8
      simp only[Bd]at h8
      have h8:=h8 e (sU he)
      simp only[hb,E0,Bj,afe]at h8 aP⊢
      omega) hb sm
     simp only[afe]at h9
     rw[xO (D:=λj=>bF.getD j false) ax hb hj.1]
     have:k≠p:=om
     simp[this]
    .simp at hj
   have bd:(bF.getD i false&&decide (i≠p))=false:=by rw[af];rfl
   have a1:(λk=>(bF.setIfInBounds i true).getD k false&&decide (k≠p))=λk=>(bF.getD k false&&decide (k≠p))||decide (k=i):=by
    funext k
    by_cases hk:k=i
    .subst hk;rw[a8];simp[ai]
    .rw[ag k hk];simp[hk]
   have aH: ∀t∈kN ops o,fE (λi=>bF.getD i false&&decide (i≠p)) 0 ops tr e0 t=fE (λj=>decide (j<i)) 0 ops tr e0 t:=by
    intro t aJ
    refine wT _ _ t ops tr 0 e0 e0 rfl λk o' hk ao=> ?_
    rw[A7]
    rcases Aw k i with ae|ae|ae
    .rw[afd ae]
     rcases sp ae hk aa with hc|hb
     .exact absurd aJ ((zY hc).2.1 t ao).1
     .exact ah om hb
    .subst ae;rw[bd];simp
    .rw[show decide (k<i)=false from afc om]
     rcases sp ae aa hk with hc|hb
     .exact absurd aJ ((zY hc).2.2 t ao)
     .exact be hb
   obtain⟨v,U',aQ,av⟩:=aT i o aa
   rw[A7]at av
   have aR: ∀s,fE (λk=>(bF.getD k false&&decide (k≠p))||decide (k=i)) 0 ops tr e0 s=eN (fE (λi=>bF.getD i false&&decide (i≠p)) 0 ops tr e0) o.dst v s:=by
    intro s
    by_cases a6:o.dst=some s
    .rw[pw _ _ _ _ a6]
     refine rD _ s ops tr 0 i e0 o v U' aa aQ a6 sm λk' o' au aC aD=> ?_
     rw[A7]
     rcases sp au aa aC with hc|hb
     .exact absurd aD ((zY hc).2.1 s a6).2
     .rw[be hb];simp;omega
    .rw[wC _ _ _ _ a6]
     refine wT _ _ s ops tr 0 e0 e0 rfl λk o' hk ao=> ?_
     rw[A7]
     have:k≠i:=λe=>by
      subst e
      rw[aa]at hk;cases hk
      exact a6 ao
     simp[this]
   have aI: ∀a' w' L' I',dp c nt (dK (fE (λk=>(bF.setIfInBounds i true).getD k false&&decide (k≠p)) 0 ops tr e0) dB (.ptr (fS (λk=>(bF.setIfInBounds i true).getD k false&&decide (k≠p)) q 0 ops tr bT).length 0)) (fS (λk=>(bF.setIfInBounds i true).getD k false&&decide (k≠p)) q 0 ops tr bT++ [.box z]) a' w' L' I'->wpAny P .any ops.toArray (dH c nt Q) fuel (bF.setIfInBounds i true) a' w':=by
    intro a' w' L' I' ab
    rcases dec (bF.setIfInBounds i true)with h|h
    .refine next a' w' L' I' (.inl ⟨λ_ k x hk _ _=>h k hk,back _ a' w' L' I' (by rw[ag p (λe=>ai e.symm)];exact aL) (λk hk=>by rw[ag k om];exact ar k hk) h ab⟩)
    .exact next a' w' L' I' (.inr ⟨⟨by rw[ag p (λe=>ai e.symm)];exact aL,h⟩,ab⟩)
   by_cases h3:3<=zQ q i o
   ·
    have br:=Yg (tr:=tr) (bT:=bT) (λi j=>i∈(dM ops []).getD j []\/(i<p/\j=p)) sp (D:=λk=>bF.getD k false&&decide (k≠p)) aa bd ah be om
    rw[br]at hs
    have hex:=hx i o v U' az aa h3 aQ
    refine Eg (ops:=ops) (Q:=dH c nt Q) (next:=wpAny P .any ops.toArray (dH c nt Q) fuel (bF.setIfInBounds i true)) o hs (Yf hex (λs ab=> ?_) av.1) ?_
    .simp only[dK]
     split
     .rename_i h;subst h;exact absurd ab bb
     .exact aH s ab
    .rintro e' s' a' w' L' I' ab ⟨v2,pick,bt,bu,bw,bx,rfl⟩
     have bz:fS (λk=>(bF.setIfInBounds i true).getD k false&&decide (k≠p)) q 0 ops tr bT=U':=by
      rw[a1]
      refine uz _ q ops tr 0 i bT o v U' aa aQ (by rw[A7];exact h3) sm λk' o' au aC aD=> ?_
      rw[A7]at aD⊢
      rcases sp au aa aC with hc|hb
      .have:=(zY hc).1
       rw[qm h3 (yR _ _ _) om (yR _ _ _)]at this
       cases this
      .rw[be hb];simp;omega
     obtain⟨I2,bf⟩:=ab.pick (e':=dK (fE (λk=>(bF.setIfInBounds i true).getD k false&&decide (k≠p)) 0 ops tr e0) dB (.ptr U'.length 0)) bt bg λs=>by
      by_cases al:s=dB
      .subst al
       refine .inl ?_
       rw[wC _ _ _ _ bc]
       simp only[dK,afj,dy,dL,dv,du]
       rw[bw]
      .by_cases aq:o.dst=some s
       .rw[pw _ _ _ _ aq]
        simp only[dK,afa al]
        rw[a1,aR,pw _ _ _ _ aq]
        exact bu
       .rw[wC _ _ _ _ aq]
        simp only[dK,afa al]
        rw[a1,aR,wC _ _ _ _ aq]
        refine .inl (Ih bx ?_).symm
        refine Lz _ ops tr 0 e0 (λs=> ?_) (λk v s hk hD=> ?_) s
        .exact QC (h0 s) (Mc _ _ _ _ _ _ (A3 _) (Mb _ _ _ _ _ ht (A3 _)))
        .rw[A7]at hD
         simp only[A6,afe]at hD
         have ae:k≠i:=λe=>by subst e;rw[af]at hD;cases hD.1
         have b0:k<p:=by
          rcases Aw k p with h|h|h
          .exact h
          .subst h;simp at hD
          .rw[ar k h]at hD;cases hD.1
         rcases hv i k o v s az aa h3 b0 ae hk with h|h
         .rw[wX h]at hD;cases hD.1
         .exact h
     rw[<-bz]at bf
     exact aI a' w' L' _ bf
   ·
    have hS:fS (λk=>(bF.setIfInBounds i true).getD k false&&decide (k≠p)) q 0 ops tr bT=fS (λk=>bF.getD k false&&decide (k≠p)) q 0 ops tr bT:=by
     rw[a1]
     refine mD _ _ q ops tr 0 bT λk o' hk ao=> ?_
     rw[A7]at ao⊢
     have:k≠i:=λe=>by
      subst e
      rw[aa]at hk;cases hk
      exact h3 ao
     simp[this]
    refine Eg (ops:=ops) (Q:=dH c nt Q) (next:=wpAny P .any ops.toArray (dH c nt Q) fuel (bF.setIfInBounds i true)) o hs (av.step (λs ab=> ?_) (λh=>om) λh1=> ?_) ?_
    .simp only[dK]
     split
     .rename_i h;subst h;exact absurd ab bb
     .exact aH s ab
    .rw[Kp.ji (An hn ?_)]
     .exact Yh hn ht (λi j=>i∈(dM ops []).getD j []\/(i<p/\j=p)) sp (D:=λk=>bF.getD k false&&decide (k≠p)) aa ah be cl h1
     .exact Mc _ _ _ _ _ _ (A3 _) (Mb _ _ _ _ _ ht (A3 _))
    .rintro e' s' a' w' L' I' ab ⟨rfl,rfl⟩
     rw[afa h3]at ab
     refine aI a' w' L' I' ?_
     rw[hS]
     have:eN (dK (fE (λi=>bF.getD i false&&decide (i≠p)) 0 ops tr e0) dB (.ptr (fS (λi=>bF.getD i false&&decide (i≠p)) q 0 ops tr bT).length 0)) o.dst v=dK (fE (λk=>(bF.setIfInBounds i true).getD k false&&decide (k≠p)) 0 ops tr e0) dB (.ptr (fS (λi=>bF.getD i false&&decide (i≠p)) q 0 ops tr bT).length 0):=by
      funext s
      by_cases al:s=dB
      .subst al
       rw[wC _ _ _ _ bc]
       simp[dK]
      .simp only[dK,afa al]
       rw[a1,aR]
       by_cases aq:o.dst=some s
       .rw[pw _ _ _ _ aq,pw _ _ _ _ aq]
       .rw[wC _ _ _ _ aq,wC _ _ _ _ aq]
        simp only[dK,afa al]
     rw[<-this]
     exact ab
theorem Yj {el:Option (Nat×Nat)} {v:V} {p:Prop} (z:List V) (h:yS el k2 S (.sl .full r1) (.sl g r2)= .cE p v S'):
  ∃n s,S'=S++ [.app n s]/\v= .sl (.app S.length) (r1++r2)/\yS el k2 (S++ [.box z]) (.sl .full r1) (.sl g r2)= .cE p (.sl (.app (S.length+1)) (r1++r2)) (S++ [.box z]++ [.app n s]):=by
 unfold yS ua at h⊢
 simp only[pe]at h⊢
 split at h
 .rename_i s b r hr
  simp only[R.cE.injEq]at h
  obtain⟨rfl,rfl,rfl⟩:=h
  by_cases hk:k2=2
  .rw[afb hk]at hr;cases hr
   exact⟨_,_,rfl,rfl,sm⟩
  .rw[afa hk]at hr;cases hr
 .cases h
theorem Yk {el:Option (Nat×Nat)} {id:Nat} {v:V} {p:Prop} (z:List V) (hid:id<S.length) (h:yS el k2 S (.sl (.app id) r1) (.sl g r2)= .cE p v S'):
  ∃n s,S'=S.set id (.app n s)/\v= .sl (.app id) (r1++r2)/\yS el k2 (S++ [.box z]) (.sl (.app id) r1) (.sl g r2)= .cE p v (S.set id (.app n s)++ [.box z]):=by
 unfold yS ua at h⊢
 simp only[pe]at h⊢
 split at h
 .rename_i s b r hr
  by_cases hk:k2=2
  .rw[afb hk]at hr;cases hr
   rw[Ak hid]
   split at h
   .rename_i n s' hS
    simp only[R.cE.injEq]at h
    obtain⟨rfl,rfl,rfl⟩:=h
    rw[hS]
    exact⟨_,_,rfl,rfl,by simp[hid]⟩
   .cases h
  .rw[afa hk]at hr;cases hr
 .cases h
theorem Yl {a b:Ob} (hn:n1<=S.length) (aa:S.all (bP S.length)) (ha: ∀ρ,yF ρ a=a) (hb: ∀ρ,yF ρ b=b):
  eM n1 (List.range S.length++ [S.length+1,S.length]) (S++([b]++ [a])) (S++([a]++ [b])):=by
 have hr: ∀i,i<S.length->cz (List.range S.length++ [S.length+1,S.length]) (S++([b]++ [a])).length i=i:=(by grind[xX])
 refine⟨sm, ?_,λi j o hi ho=> ?_,λi hi=> ?_⟩
 .grind
 .by_cases h1:i<S.length
  .rw[Ak (by grind),Cs h1]at hi
   cases hi
   rw[Ak h1]at ho
   have h2:bP S.length o:=(by grind)
   grind[xH]
  .rw[Ay (by grind)]at hi
   grind
 grind
theorem Ym {x y:Nat} {t' tt:TypeId} {ps:String} {af:Array Edge} {v:V} {k:Nat}
  (ho:o=⟨some d,.call ⟨.builtin .append, #[.tmp x,.tmp y], #[t,t']⟩,tt,ps,af,none⟩) (hf:Fact P c nt n0 ops q k o e S v S') (hh:wP e (some d)=false) (hx:e x= .sl .full r1) (hy:e y= .sl g r2) (hn:n1<=S.length) (ab:S.all (bP S.length)) (hz:z.all j5):
  IP P n1 z e S o v S'/\(∃n s,S'=S++ [.app n s])/\v= .sl (.app S.length) (r1++r2)/\3<=zQ q k o:=by
 subst ho
 obtain⟨_,_,_,_,g',hg,hb⟩:=hf
 simp only at hg
 subst hg
 simp only[afj]at hb
 obtain⟨_,_,_,hb⟩:=hb
 have aa: ∀S,xB P (some d) e S (.call ⟨.builtin .append, #[.tmp x,.tmp y], #[t,t']⟩)=yS (dQ P t) (de P t') S (.sl .full r1) (.sl g r2):=λS=>by
  unfold xB
  rw[afa (by rw[hh];simp)]
  show yS (dQ P t) (de P t') S (e x) (e y)=_
  rw[hx,hy]
 rw[aa]at hb
 have ad: ∃p,yS (dQ P t) (de P t') S (.sl .full r1) (.sl g r2)= .cE p v S'/\p/\3<=zQ q k ⟨some d,.call ⟨.builtin .append, #[.tmp x,.tmp y], #[t,t']⟩,tt,ps,af,none⟩:=by
  rcases hb with ⟨hr,_⟩|⟨_,hr,_⟩|⟨h3,hr|⟨p,hr,hp⟩⟩
  .unfold yS at hr;(repeat' split at hr)<;>cases hr
  .unfold yS at hr;(repeat' split at hr)<;>cases hr
  .unfold yS at hr;(repeat' split at hr)<;>cases hr
  .exact⟨p,hr,hp,h3⟩
 obtain⟨p,hp,ae,h3⟩:=ad
 obtain⟨n,s,rfl,rfl,h2⟩:=Yj z hp
 refine⟨⟨rfl,(λf az ts h=>by cases h),_,_,List.range S.length++ [S.length+1,S.length],p,ae,(aa _).trans h2, ?_, ?_, ?_,λi hi=> ?_⟩,⟨n,s,rfl⟩,rfl,h3⟩
 .rw[Bu,Bu]
  exact Yl hn ab (λρ=>rfl) (λρ=>by grind [yF,xU,xf])
 .refine .inl ?_
  simp only[dy,dL,dv,du]
  rw[xX sm,List.getElem_append_right sm]
  simp
 .rw[xX sm];simp
 .rw[xX (by simp;omega)];grind
theorem Md {v:V} (h:nJ v):cG n v=true:=by
 cases v with
 |sl g rows=>cases g<;>simp_all[nJ,cG]
 |_=>simp_all[nJ,cG]
theorem Yn {v:V} (h:j5 v):cK n v=true:=by
 cases v with
 |fn f bU=>simp only[j5,cK,Ad]at h⊢;exact λx hx=>Md (h x hx)
 |gy t vs=>simp only[j5,cK,Ad]at h⊢;exact λx hx=>Md (h x hx)
 |_=>simp only[j5,cK]at h⊢;exact Md h
theorem Yo (hn:n1<=S.length) (aa:S.all (bP S.length)):eM n1 (List.range S.length) S S:=by
 have hr: ∀i,i<S.length->cz (List.range S.length) S.length i=i:=λi hi=>wZ hi
 refine⟨sm,Bm,λi j o hi ho=> ?_,λi hi=>by rw[Cs om]⟩
 have h1:=(A1.1 ho).1
 rw[Cs h1]at hi
 cases hi
 rw[xH hr (by grind)]
 exact ho
theorem Yp {x y id:Nat} {t' tt:TypeId} {ps:String} {af:Array Edge} {v:V} {k:Nat}
  (ho:o=⟨some d,.call ⟨.builtin .append, #[.tmp x,.tmp y], #[t,t']⟩,tt,ps,af,none⟩) (hf:Fact P c nt n0 ops q k o e S v S') (hh:wP e (some d)=false) (hx:e x= .sl (.app id) r1) (hy:e y= .sl g r2) (hid:id<S.length) (hn:n1<=S.length) (ab:S.all (bP S.length)) (hz:z.all j5):
  IP P n1 z e S o v S'/\3<=zQ q k o:=by
 subst ho
 obtain⟨_,_,_,_,g',hg,hb⟩:=hf
 simp only at hg
 subst hg
 simp only[afj]at hb
 obtain⟨_,_,_,hb⟩:=hb
 have aa: ∀S,xB P (some d) e S (.call ⟨.builtin .append, #[.tmp x,.tmp y], #[t,t']⟩)=yS (dQ P t) (de P t') S (.sl (.app id) r1) (.sl g r2):=λS=>by
  unfold xB
  rw[afa (by rw[hh];simp)]
  show yS (dQ P t) (de P t') S (e x) (e y)=_
  rw[hx,hy]
 rw[aa]at hb
 have ad: ∃p,yS (dQ P t) (de P t') S (.sl (.app id) r1) (.sl g r2)= .cE p v S'/\p/\3<=zQ q k ⟨some d,.call ⟨.builtin .append, #[.tmp x,.tmp y], #[t,t']⟩,tt,ps,af,none⟩:=by
  rcases hb with ⟨hr,_⟩|⟨_,hr,_⟩|⟨h3,hr|⟨p,hr,hp⟩⟩
  .unfold yS at hr;(repeat' split at hr)<;>cases hr
  .unfold yS at hr;(repeat' split at hr)<;>cases hr
  .unfold yS at hr;(repeat' split at hr)<;>cases hr
  .exact⟨p,hr,hp,h3⟩
 obtain⟨p,hp,ae,h3⟩:=ad
 obtain⟨n,s,rfl,rfl,h2⟩:=Yk z hid hp
 have ag: ∀n,bP n (Ob.box z):=λn=>by
  simp only[bP,Ad]
  intro v hv
  exact Yn (Ad.1 hz v hv)
 have hl:(S.set id (Ob.app n s)++ [Ob.box z]).length=S.length+1:=sm
 have ah:=Yo (n1:=n1) (S:=S.set id (Ob.app n s)++ [Ob.box z]) (by rw[hl];omega) (by
  rw[hl,Ad]
  intro o ho
  rcases Ar.1 ho with ho|ho
  .rcases Dj ho with ho|rfl
   .exact IC om (Ad.1 ab o ho)
   .rfl
  .rw[C4.1 ho];exact ag _)
 refine⟨⟨rfl,(λf az ts h=>by cases h),_,_,_,p,ae,(aa _).trans h2,ah, ?_, ?_,λi hi=> ?_⟩,h3⟩
 .refine .inl ?_
  simp only[dy,dL,dv,du]
  rw[wZ (by rw[hl];omega)]
 .rw[wZ (by rw[hl];simp)];simp
 .exact wZ (by rw[hl];omega)
theorem QD {fk fG:List (V×St)} (h:fk.length=l1.length):fE (λj=>decide (j<l1.length)) 0 (l1++l2) (fk++fG) e=fE (λ_=>true) 0 l1 fk e:=by
 rw[x6 _ _ _ _ _ _ _ h]
 funext t
 rw[Ef _ t l2 fG _ _ λk o _ _=>sm]
 exact wT _ _ t l1 fk 0 e e rfl λk o hk _=>by have:=(A1.1 hk).1;simp;omega
theorem QE {fk fG:List (V×St)} (h:fk.length=l1.length):fS (λj=>decide (j<l1.length)) q 0 (l1++l2) (fk++fG) U=fS (λ_=>true) q 0 l1 fk U:=by
 rw[AW _ _ _ _ _ _ _ _ h]
 rw[rE _ q l2 fG _ _ λk o _ _=>sm]
 exact mD _ _ q l1 fk 0 U λk o hk _=>by have:=(A1.1 hk).1;simp;omega
def IQ (ops:List Oper) (q:List (Nat×Nat)) (k1 k2 p d1 dB:Nat):Bool:=
 decide (k1<k2)&&decide (k2<p)&&
 ((List.range ops.length).all λk=>match ops[k]? with
  |some o=>if k<p then(if k=k1\/k=k2 then true else decide (zQ q k o<2))&& !(kN ops o).contains dB&&(match o.dst with|some d=> !Nat.beq d dB&&(Nat.beq k k1|| !Nat.beq d d1)|none=>false)&&(!Nat.blt k1 k||k !=k2&&Nat.blt k k2||((dM ops []).getD k []).contains k1)&&(!Nat.blt k2 k||((dM ops []).getD k []).contains k2)
   else if p<k then(List.range (p+1)).all λj=>((dM ops []).getD k []).contains j else true
  |none=>true)&&
 ((List.range ops.length).all λj=>(List.range j).all λi=>match ops[i]?,ops[j]? with
  |some x,some y=>(!nK ops q i j x y||((dM ops []).getD j []).contains i||(Nat.beq j p&&decide (3<=zQ q i x)))&&(!Nat.blt j p||(match x.dst,y.dst with|some d,some d'=> !Nat.beq d d'|_,_=>true))
  |_,_=>true)
theorem VW.Gl {id:Nat} {Q:Exit->Env->St->Prop} {l3 l4:List Oper} {k1 d1 d2 x1 y1 x2 y2:Nat} {t1 u1 t2 u2 c1 c2 c3:TypeId} {aS aT a7:String} {aU aV a8:Array Edge}
  (ad:ops=l1++(l2++(l3++l4))) (af:l1.length=k1) (aA:l1.length+l2.length=k2) (hp:l1.length+l2.length+l3.length=p)
  (hm:P.follows .mixedOrders) (hn:n0.n<=U.length) (hc:c.bT.length<=U.length) (aW:c.β0.length=c.bT.length)
  (aj:ops[k1]? =some ⟨some d1,.call ⟨.builtin .append, #[.tmp x1,.tmp y1], #[t1,u1]⟩,c1,aS,aU,none⟩) (aw:ops[k2]? =some ⟨some d2,.call ⟨.builtin .append, #[.tmp x2,.tmp y2], #[t2,u2]⟩,c2,aT,aV,none⟩)
  (hB:ops[p]? =some ⟨some dB,.alloc t,c3,a7,a8,none⟩) (aX:zQ q p ⟨some dB,.alloc t,c3,a7,a8,none⟩=3) (hz:wW P t=some z) (aB:z.all j5)
  (hf:IQ ops q k1 k2 p d1 dB) (aY:xT ops) (aC:U.all (bP U.length)) (h0: ∀s,fW U.length (e s))
  (h:nj P c nt n0 ops q 0 l1 (λe1 U1=>((∃r1 g r2,e1 x1= .sl .full r1/\e1 y1= .sl g r2)/\wP e1 (some d1)=false/\ ∀s,fW U.length (e1 s)=true)/\
   nj P c nt n0 ops q k1 l2 (λe2 U2=>((∃r1 g r2,e2 x2= .sl (.app U.length) r1/\e2 y2= .sl g r2)/\wP e2 (some d2)=false/\ ∀s,s≠d1->fW U.length (e2 s)=true)/\
    nj P c nt n0 ops q k2 l3 (λe3 U3=>nj P c nt n0 ops q p l4 (Q .normal) e3 U3) e2 U2) e1 U1) e U):VW P c nt (.region id ops.toArray true) Q e U:=by
 obtain⟨fk,aD,⟨⟨r1,g1,s1,aZ,ba⟩,bb,aE⟩,h⟩:=rG _ _ _ _ _ h
 obtain⟨fG,aF,⟨⟨r2,g2,s2,bc,bd⟩,bf,aG⟩,h⟩:=rG _ _ _ _ _ h
 obtain⟨aa,aH,h⟩:=rG _ _ _ _ _ h
 obtain⟨ab,bg,hK⟩:=rG _ _ _ _ _ h
 obtain⟨n1,br⟩:=rF ops q _ _ _ _ _ aD
 obtain⟨n2,bt⟩:=rF ops q _ _ _ _ _ aF
 obtain⟨n3,bu⟩:=rF ops q _ _ _ _ _ aH
 have t34:=F4 l3 l4 aa ab k2 _ _ aH (by rw[show k2+l3.length=p by omega];exact bg)
 have t24:=F4 l2 (l3++l4) fG (aa++ab) k1 _ _ aF (by rw[show k1+l2.length=k2 by omega];exact t34)
 have ht:=F4 l1 (l2++(l3++l4)) fk (fG++(aa++ab)) 0 e U aD (by rw[show 0+l1.length=k1 by omega];exact t24)
 have E1:fE (λj=>decide (j<k1)) 0 (l1++(l2++(l3++l4))) (fk++(fG++(aa++ab))) e=fE (λ_=>true) 0 l1 fk e:=by rw[<-af];exact QD n1
 have S1:fS (λj=>decide (j<k1)) q 0 (l1++(l2++(l3++l4))) (fk++(fG++(aa++ab))) U=fS (λ_=>true) q 0 l1 fk U:=by rw[<-af];exact QE n1
 have E2:fE (λj=>decide (j<k2)) 0 (l1++(l2++(l3++l4))) (fk++(fG++(aa++ab))) e=fE (λ_=>true) k1 l2 fG (fE (λ_=>true) 0 l1 fk e):=by
  have:=QD (l1:=l1++l2) (l2:=l3++l4) (fk:=fk++fG) (fG:=aa++ab) (e:=e) (by simp[n1,n2])
  rw[Ah,aA,x6 _ _ _ _ _ _ _ n1]at this
  simpa[af]using this
 have S2:fS (λj=>decide (j<k2)) q 0 (l1++(l2++(l3++l4))) (fk++(fG++(aa++ab))) U=fS (λ_=>true) q k1 l2 fG (fS (λ_=>true) q 0 l1 fk U):=by
  have:=QE (q:=q) (l1:=l1++l2) (l2:=l3++l4) (fk:=fk++fG) (fG:=aa++ab) (U:=U) (by simp[n1,n2])
  rw[Ah,aA,AW _ _ _ _ _ _ _ _ n1]at this
  simpa[af]using this
 rw[<-ad]at ht E1 S1 E2 S2
 generalize ak:fk++(fG++(aa++ab))=tr at ht E1 S1 E2 S2
 unfold IQ at hf
 simp only[A6,afe,Ad,Bz]at hf
 obtain⟨⟨⟨bw,bx⟩,hk⟩,hd⟩:=hf
 have b0:p<ops.length:=(A1.1 hB).1
 have stat: ∀(k:Nat) o,k<p->ops[k]? =some o->(k=k1\/k=k2\/zQ q k o<2)/\dB∉kN ops o/\(∃d,o.dst=some d/\d≠dB/\(k=k1\/d≠d1))/\(k1<k->k<k2\/k1∈(dM ops []).getD k [])/\(k2<k->k2∈(dM ops []).getD k []):=by
  intro k o ae ho
  have:=hk k om
  rw[ho]at this
  simp only[afb ae,A6]at this
  obtain⟨⟨⟨⟨a1,a2⟩,a3⟩,a4⟩,a5⟩:=this
  refine⟨?_,by simpa using a2, ?_,λh=> ?_,λh=> ?_⟩
  .split at a1
   .rename_i h;rcases h with h|h
    .exact .inl h
    .exact .inr (.inl h)
   .exact .inr (.inr (sU a1))
  .cases aI:o.dst with
   |none=>rw[aI]at a3;cases a3
   |some d=>
    rw[aI]at a3
    simp only[A6,Bg,Bt]at a3
    refine⟨d,rfl,λq=> ?_, ?_⟩
    .subst q;simp at a3
    .rcases a3.2 with h|h
     .exact .inl (sU h)
     .exact .inr λq=>by subst q;simp at h
  .simp only[Bg,A6,Bt]at a4
   rcases a4 with (h4|h4)|h4
   .rw[<-Bool.not_eq_true,Nat.blt_eq]at h4;omega
   .exact .inl (by rw[Nat.blt_eq]at h4;exact h4.2)
   .exact .inr (sU h4)
  .simp only[Bg,Bt]at a5
   rcases a5 with h4|h4
   .rw[<-Bool.not_eq_true,Nat.blt_eq]at h4;omega
   .simpa using h4
 have aJ: ∀(k:Nat) o,l1[k]? =some o->k<k1/\ops[k]? =some o:=λk o hk=>by
  have:=(A1.1 hk).1
  exact⟨om,by rw[ad,Ak this];exact hk⟩
 have bh: ∀(k:Nat) o,(l1++l2)[k]? =some o->k<k2/\ops[k]? =some o:=λk o hk=>by
  have:=(A1.1 hk).1
  rw[Ah]at this
  exact⟨om,by rw[ad,<-Bu,Ak (by rw[Ah];exact this)];exact hk⟩
 have ax:fS (λ_=>true) q 0 l1 fk U=U:=rE _ q l1 fk 0 U λk o hk h3=>by
  obtain⟨b5,ho⟩:=aJ k o hk
  rw[A7]at h3
  rcases(stat k o om ho).1 with h|h|h<;>omega
 obtain⟨b6,aK⟩:=rF ops q ops tr 0 e U ht
 obtain⟨w1,T1,ag,aq⟩:=aK k1 _ aj
 obtain⟨w2,T2,aL,ar⟩:=aK k2 _ aw
 rw[A7,E1,S1,ax]at aq
 obtain⟨aP,⟨m1,b1,rfl⟩,rfl,bj⟩:=Ym rfl aq bb aZ ba hc aC aB
 have ay:fS (λj=>decide (j<k2)) q 0 ops tr U=U++ [.app m1 b1]:=by
  refine uz _ q ops tr 0 k1 U _ _ _ aj ag (by rw[A7];exact bj) (by simp;omega) λk' o' al ah h3=> ?_
  rw[A7]at h3⊢
  rw[afi]
  intro bz
  rcases(stat k' o' om ah).1 with h|h|h<;>omega
 rw[A7,E2,ay]at ar
 have hlen:(U++ [Ob.app m1 b1]).length=U.length+1:=sm
 obtain⟨aQ,b7⟩:=Yp rfl ar bf bc bd (by rw[hlen];omega) (n1:=c.bT.length) (by rw[hlen];omega) (by
  rw[hlen,Ad]
  intro o ho
  rcases Ar.1 ho with ho|ho
  .exact IC om (Ad.1 aC o ho)
  .rw[C4.1 ho];rfl) aB
 refine λa w L I hs=> ?_
 refine wp_region_any hm ?_
 have hg: ∀j,(Array.replicate ops.toArray.size false).getD j false=false:=λj=>by
  simp[Array.getD]
 have e1:fE (λi=>(Array.replicate ops.toArray.size false).getD i false) 0 ops tr e=e:=by
  funext t
  exact Ef _ t ops tr 0 e λk o _ _=>hg _
 have e2:fS (λi=>(Array.replicate ops.toArray.size false).getD i false) q 0 ops tr U=U:=rE _ q ops tr 0 U λk o _ _=>hg _
 have bk:fE (λ_=>true) 0 ops tr e=fE (λ_=>true) p l4 ab (fE (λ_=>true) k2 l3 aa (fE (λ_=>true) k1 l2 fG (fE (λ_=>true) 0 l1 fk e))):=by
  rw[ad,<-ak,x6 _ _ _ _ _ _ _ n1,x6 _ _ _ _ _ _ _ n2,x6 _ _ _ _ _ _ _ n3,A7,af,show k1+l2.length=k2 by omega,show k2+l3.length=p by omega]
 have bm:fS (λ_=>true) q 0 ops tr U=fS (λ_=>true) q p l4 ab (fS (λ_=>true) q k2 l3 aa (fS (λ_=>true) q k1 l2 fG (fS (λ_=>true) q 0 l1 fk U))):=by
  rw[ad,<-ak,AW _ _ _ _ _ _ _ _ n1,AW _ _ _ _ _ _ _ _ n2,AW _ _ _ _ _ _ _ _ n3,A7,af,show k1+l2.length=k2 by omega,show k2+l3.length=p by omega]
 have au: ∀{i j:Nat} {x y:Oper} {d:Nat},i<j->j<p->ops[i]? =some x->ops[j]? =some y->x.dst=some d->y.dst≠some d:=by
  intro i j x y d az b8 hx hy bn bo
  have:=hd j om i az
  rw[hx,hy]at this
  simp only[A6,Bg,Bt]at this
  have:=this.2
  rw[bn,bo]at this
  rcases this with h|h
  .rw[<-Bool.not_eq_true,Nat.blt_eq]at h;omega
  .simp at h
 have aR: ∀(j:Nat) o v s,j<k1->ops[j]? =some o->tr[j]? =some (v,s)->fW U.length v=true:=by
  intro j o v s hj ho hv
  obtain⟨_,_,⟨d,ai,_⟩,_⟩:=stat j o om ho
  have:=rD (λ_=>true) d l1 fk 0 j e o v s (by rw[ad,Ak om]at ho;exact ho) (by rw[<-ak,Ak om]at hv;exact hv) ai rfl λk' o' al ah a6=>by
   obtain⟨h5,h6⟩:=aJ k' o' ah
   exact absurd a6 (au al om ho h6 ai)
  rw[<-this]
  exact aE d
 have av: ∀(j:Nat) o v s,j<k2->j≠k1->ops[j]? =some o->tr[j]? =some (v,s)->fW U.length v=true:=by
  intro j o v s hj an ho hv
  obtain⟨_,_,⟨d,ai,_,bp⟩,_⟩:=stat j o om ho
  have:=rD (λ_=>true) d (l1++l2) (fk++fG) 0 j e o v s (by rw[ad,<-Bu,Ak (by rw[Ah];omega)]at ho;exact ho) (by rw[<-ak,<-Bu,Ak (by rw[Ah];omega)]at hv;exact hv) ai rfl λk' o' al ah a6=>by
   obtain⟨h5,h6⟩:=bh k' o' ah
   exact absurd a6 (au al om ho h6 ai)
  rw[x6 _ _ _ _ _ _ _ n1,A7,af]at this
  rw[<-this]
  exact aG d (bp.resolve_left an)
 refine Yi hn aW hB aX hz (λk o ae ho=> ?_) (λk o ae ho j hj=> ?_) (fun{i j x y} az hx hy=> ?_) aY (λk o v S' ae ho h3 hv=> ?_) h0 (λk j o v s ae ho h3 hj b9 hv=> ?_) ht (by rw[bk,bm];exact hK) _ _ a w.drew L I sm sm (λj o _ hj=>by rw[hg]at hj;cases hj) (.inl ⟨λh=>(by rw[hg]at h;cases h), ?_⟩)
 .obtain⟨b1,b2,⟨d,b3,b4,_⟩,_⟩:=stat k o ae ho
  refine⟨?_,b2,λq=>by rw[b3]at q;cases q;exact b4 rfl⟩
  rcases b1 with rfl|rfl|h
  .rw[aj]at ho;cases ho
   omega
  .rw[aw]at ho;cases ho
   omega
  .omega
 .have:=hk k (A1.1 ho).1
  rw[ho]at this
  simp only[afa (show ¬k<p by omega),afb ae,Ad,Bz]at this
  simpa using this j om
 .have:=hd j (A1.1 hy).1 i az
  rw[hx,hy]at this
  simp only[A6,Bg,Bt,afe]at this
  rcases this.1 with (h|h)|h
  .exact .inl h
  .exact .inr (.inl (sU h))
  .obtain⟨h5,h6⟩:=h
   have:j=p:=sU h5
   exact .inr (.inr ⟨om,this,h6⟩)
 .rcases(stat k o ae ho).1 with rfl|rfl|h
  .rw[aj]at ho;cases ho
   rw[ag]at hv;cases hv
   rw[E1,S1,ax]
   exact aP
  .rw[aw]at ho;cases ho
   rw[aL]at hv;cases hv
   rw[E2,ay]
   exact aQ
  .omega
 .obtain⟨oj,ao⟩: ∃oj,ops[j]? =some oj:=⟨_,A0 om⟩
  obtain⟨_,_,_,c4,c5⟩:=stat j oj hj ao
  rcases(stat k o ae ho).1 with rfl|rfl|h
  .rw[S1,ax]
   rcases Bo j k with h|h
   .exact .inr (aR j oj v s h ao hv)
   .rcases c4 om with h|h
    .exact .inr (av j oj v s h om ao hv)
    .exact .inl h
  .rw[ay,hlen]
   rcases Bo j k with h|h
   .by_cases an:j=k1
    .subst an
     rw[ag]at hv;cases hv
     exact .inr (by simp[fW,j6,cK,cG])
    .exact .inr (QC (av j oj v s h an ao hv) om)
   .exact .inl (c5 om)
  .omega
 .rw[e1,e2]
  obtain⟨bq,hle⟩:=hs.mem.drew
  exact⟨bq,hs.size,hs.defs,λt=>(hs.env t).mono hle (Ext.refl _ _)⟩
def yb (n d:Nat) (e:Env):Prop:= ∀s,s≠d->fW n (e s)=true
theorem yb.dK {t:Tmp} {v:V} (he:yb n d e) (hv:fW n v):yb n d (dK e t v):=λs hs=>by
 simp only[Vx.dK]
 split
 .exact hv
 .exact he s hs
theorem yb.own {v:V} (he:jS n e):yb n d (Vx.dK e d v):=λs hs=>by
 simp only[Vx.dK,afa hs]
 exact he s
theorem Yq {keep:afF} {aa:List V} {s:St} {y:Code} {Q:QT} (n0:Nat) (hn:c.bT.length=n0) (hc:c.β0.length=c.bT.length) (h0:At n0 keep aa s e U) (h:fw P c nt y Q fx fx (kM (keep.zip aa)) s):fw P c nt y Q fx fx e U:=by
 subst hn
 intro a w L I hs
 obtain⟨pick,hp,ab⟩:=h0
 obtain⟨gp,s',I',⟨rfl,rfl⟩,_,ad⟩:=HT (Inv:=λgp s' _=>gp=aa/\s'=s) (m:=0) hs hc ⟨_,_,pick,hp,ab,rfl,rfl⟩
 exact h a w L I' ad
theorem Yr {id:Nat} {Q:QT} (q:List (Nat×Nat)) (n0:Nat) {l3 l4:List Oper} {k1 d1 d2 x1 y1 x2 y2:Nat} {t1 u1 t2 u2 c1 c2 c3:TypeId} {ag ah ab:String} {ai aj ad:Array Edge}
  (hn:n0<=U.length) (hm:P.follows .mixedOrders) (hc:c.bT.length<=U.length) (ak:c.β0.length=c.bT.length)
  (h1:ops.take k1=l1) (h2:(ops.drop k1).take (k2 - k1)=l2) (h3:(ops.drop k2).take (p - k2)=l3) (h4:ops.drop p=l4)
  (al:ops[k1]? =some ⟨some d1,.call ⟨.builtin .append, #[.tmp x1,.tmp y1], #[t1,u1]⟩,c1,ag,ai,none⟩) (an:ops[k2]? =some ⟨some d2,.call ⟨.builtin .append, #[.tmp x2,.tmp y2], #[t2,u2]⟩,c2,ah,aj,none⟩)
  (hB:ops[p]? =some ⟨some dB,.alloc t,c3,ab,ad,none⟩) (hz:wW P t=some z)
  (hf:(Nat.beq (zQ q p ⟨some dB,.alloc t,c3,ab,ad,none⟩) 3&&z.all j5&&IQ ops q k1 k2 p d1 dB&&xT ops)) (ao:U.all (bP U.length)) (h0:jS U.length e)
  (h:nk P c nt (Kp.pre n0) ops q 0 l1 (λe1 U1=>((∃r1 g r2,e1 x1= .sl .full r1/\e1 y1= .sl g r2)/\wP e1 (some d1)=false/\jS U.length e1)/\
   nk P c nt (Kp.pre n0) ops q k1 l2 (λe2 U2=>((∃r1 g r2,e2 x2= .sl (.app U.length) r1/\e2 y2= .sl g r2)/\wP e2 (some d2)=false/\yb U.length d1 e2)/\
    nk P c nt (Kp.pre n0) ops q k2 l3 (nk P c nt (Kp.pre n0) ops q p l4 (Q .normal) fx fx fx) fx fx fx e2 U2) fx fx fx e1 U1) fx fx fx e U):fw P c nt (.region id ops.toArray true) Q fx fx e U:=by
 simp only[A6,Nat.beq_eq]at hf
 obtain⟨⟨⟨hk,aq⟩,ae⟩,ar⟩:=hf
 have aa:=ae
 unfold IQ at aa
 simp only[A6,afe]at aa
 obtain⟨⟨⟨au,av⟩,_⟩,_⟩:=aa
 have aw:p<ops.length:=(A1.1 hB).1
 have n1:l1.length=k1:=by rw[<-h1,Cx];omega
 have n2:l2.length=k2 - k1:=by rw[<-h2,Cx,C7];omega
 have n3:l3.length=p - k2:=by rw[<-h3,Cx,C7];omega
 have af:ops=l1++(l2++(l3++l4)):=by
  have a3:l3++l4=ops.drop k2:=by
   rw[<-h3,<-h4,show ops.drop p=(ops.drop k2).drop (p - k2) by rw[Cn];congr 1;omega]
   exact B9 _ _
  have a2:l2++ops.drop k2=ops.drop k1:=by
   rw[<-h2,show ops.drop k2=(ops.drop k1).drop (k2 - k1) by rw[Cn];congr 1;omega]
   exact B9 _ _
  rw[a3,a2,<-h1]
  exact(B9 _ _).symm
 exact VW.Gl (n0:=Kp.pre n0) af n1 om om hm hn hc ak al an hB hk hz aq ae ar ao h0 h
end
end Go.Vx
