/-
  Running code over trees: whole functions, their calls, loops, regions whose order is open.
  No condition: a library text; nothing of the program is named.
-/
import Derived.Test.YtefbicjgbaaieaaGreatKAG
set_option maxHeartbeats 8000000
namespace Go.Vx
open Go
section
variable {P:Program} {c:Ctx} {nt:Nat} {n0:Kp}
variable {ops:List Oper}{q:List (Nat×Nat)}{σ:St}{e:Env}{e0:Env}{tr:List (V×St)}{listed:Array Bool}{i:Nat}{o:Oper}{z:List V}
theorem xu0 {Q:Exit->Act->World->Prop} {σ0:St} (hn:n0.n<=σ0.length) (ht:zu4 P c nt n0 ops q 0 ops e0 σ0 tr)
  (B:Nat->Nat->Prop) (sp: ∀{i j:Nat} {x y:Oper},i<j->ops[i]? =some x->ops[j]? =some y->zM7 ops q i j x y=false∨B i j)
  {a:Act} {w:World} {L:Nat->Nat} {β:List Value} (aa:ops[i]? =some o) (av:listed.getD i false=false) (a8:i<listed.size)
  (ahead: ∀{k:Nat},k≠i->B k i->listed.getD k false=true) (zc2: ∀{k:Nat},B i k->listed.getD k false=false) (aA: ∀{k j:Nat},B k j->listed.getD j false=true->listed.getD k false=true)
  (hs:Sim c nt (fE (fun i=>listed.getD i false) 0 ops tr e0) (fS (fun i=>listed.getD i false) q 0 ops tr σ0) a w L β) {next:Act->World->Prop}
  (al: ∀a' w' L' β',Sim c nt (fE (fun k=>(listed.setIfInBounds i true).getD k false) 0 ops tr e0) (fS (fun k=>(listed.setIfInBounds i true).getD k false) q 0 ops tr σ0) a' w' L' β'->next a' w'):
  if Region.wanted o (yielded ops.toArray a.tmps)then o.wp P a w next Q∨(o.asks P a w/\LetsOut Q)else next (a.put o.dst undef) w:=by
 have aj: ∀k,k≠i->(listed.setIfInBounds i true).getD k false=listed.getD k false:=fun k hk=>getD_set_ne false (fun q=>hk q.symm)
 have aw:(listed.setIfInBounds i true).getD i false=true:=by simp[Array.getD,a8]
 obtain⟨an,aB⟩:=zC2 ops q ops tr 0 e0 σ0 ht
 obtain⟨v,σ',ax,ag⟩:=aB i o aa
 rw[Ad]at ag
 have ay: ∀t∈zv4 ops o,fE (fun i=>listed.getD i false) 0 ops tr e0 t=fE (fun j=>decide (j<i)) 0 ops tr e0 t:=by
  intro t an
  refine ze1 _ _ t ops tr 0 e0 e0 rfl fun k o' hk ad=> ?_
  rw[Ad]
  rcases Br k i with ab|ab|ab
  .rw[decide_eq_true ab]
   rcases sp ab hk aa with hc|hb
   .exact absurd an ((yU hc).2.1 t ad).1
   .exact ahead om hb
  .subst ab;rw[av];simp
  .rw[decide_eq_false om]
   rcases sp ab aa hk with hc|hb
   .exact absurd an ((yU hc).2.2 t ad)
   .exact zc2 hb
 have ak:2<=zU q i o->fS (fun i=>listed.getD i false) q 0 ops tr σ0=fS (fun j=>decide (j<i)) q 0 ops tr σ0:=by
  intro af
  refine zh3 _ _ q ops tr 0 σ0 fun k o' hk ad=> ?_
  rw[Ad]at ad⊢
  rcases Br k i with ab|ab|ab
  .rw[decide_eq_true ab]
   rcases sp ab hk aa with hc|hb
   .have:=(yU hc).1
    rw[zm4 ad (xW _ _ _) af (xW _ _ _)]at this
    cases this
   .exact ahead om hb
  .subst ab;rw[av];simp
  .rw[decide_eq_false om]
   rcases sp ab aa hk with hc|hb
   .have:=(yU hc).1
    rw[zD9,zm4 ad (xW _ _ _) af (xW _ _ _)]at this
    cases this
   .exact zc2 hb
 have az:zU q i o=1->n0.of (fS (fun i=>listed.getD i false) q 0 ops tr σ0)=n0.of (fS (fun j=>decide (j<i)) q 0 ops tr σ0):=by
  intro a1
  have pre: ∀N,N<=ops.length-> ∃m,m<=N/\ ∀k o',k<N->ops[k]? =some o'->3<=zU q k o'->listed.getD k false=decide (k<m):=by
   intro N
   induction N with
   |zero=>exact fun _=>⟨0,A5 _,fun k o' h=>om⟩
   |succ N aC=>
    intro hN
    obtain⟨m,hm,ae⟩:=aC om
    have a6:=A0 (show N<ops.length by omega)
    by_cases hw:3<=zU q N (ops[N]'om)/\listed.getD N false=true
    .refine⟨N+1,A5 _,fun k o' hk ah h3=> ?_⟩
     rw[decide_eq_true hk]
     by_cases ao:k=N
     .subst ao;exact hw.2
     .rcases sp (show k<N by omega) ah a6 with hc|hb
      .have:=(yU hc).1
       rw[zm4 h3 (xW _ _ _) om (xW _ _ _)]at this
       cases this
      .exact aA hb hw.2
    .refine⟨m,om,fun k o' hk ah h3=> ?_⟩
     by_cases ao:k=N
     .subst ao
      rw[a6]at ah;cases ah
      rw[decide_eq_false om]
      cases hl:listed.getD k false with
      |false=>rfl
      |true=>exact absurd ⟨h3,hl⟩ hw
     .exact ae k o' om ah h3
  obtain⟨m,hm,ae⟩:=pre ops.length (A5 _)
  have e1:fS (fun i=>listed.getD i false) q 0 ops tr σ0=fS (fun x=>decide (x<m)) q 0 ops tr σ0:=
   zh3 _ _ q ops tr 0 σ0 fun k o' hk h3=>by
    rw[Ad]at h3⊢
    exact ae k o' (A3.1 hk).1 hk h3
  rw[e1]
  have aE:i<ops.length:=(A3.1 aa).1
  rcases Nat.le_total m i with aD|aD
  .have:=(xb1 ht hn (i - m) m om (fun k o' h5 h6 hk h4=>by
    have h7:=ae k o' (A3.1 hk).1 hk om
    rw[decide_eq_false om]at h7
    rcases sp (show k<i by omega) hk aa with hc|hb
    .have:=(yU hc).1
     rw[h4,a1,zE0 dC]at this
     cases this
    .rw[ahead om hb]at h7;cases h7)).2
   rw[show m+(i - m)=i by omega]at this
   exact this.symm
  .have:=(xb1 ht hn (m - i) i om (fun k o' h5 h6 hk h4=>by
    have h7:=ae k o' (A3.1 hk).1 hk om
    rw[decide_eq_true om]at h7
    have ab:k≠i:=fun qq=>by
     subst qq
     rw[hk]at aa;cases aa
     omega
    rcases sp (show i<k by omega) aa hk with hc|hb
    .have:=(yU hc).1
     rw[zD9,h4,a1,zE0 dC]at this
     cases this
    .rw[zc2 hb]at h7;cases h7)).2
   rw[show i+(m - i)=m by omega]at this
   exact this
 refine zT8 (ops:=ops) (Q:=Q) (next:=next) o hs (ag.step ay ak az) ?_
 rintro e' s' a' w' L' β' a7 ⟨rfl,rfl⟩
 have e1:updO (fE (fun i=>listed.getD i false) 0 ops tr e0) o.dst v=fE (fun k=>(listed.setIfInBounds i true).getD k false) 0 ops tr e0:=by
  funext t
  by_cases ai:o.dst=some t
  .rw[zi5 _ _ _ _ ai]
   refine(zD6 _ t ops tr 0 i e0 o v σ' aa ax ai (by rw[Ad];exact aw) fun k' o' aq ar au=> ?_).symm
   rw[Ad,aj k' om]
   rcases sp aq aa ar with hc|hb
   .exact absurd au ((yU hc).2.1 t ai).2
   .exact zc2 hb
  .rw[ze8 _ _ _ _ ai]
   refine ze1 _ _ t ops tr 0 e0 e0 rfl fun k o' hk ad=> ?_
   rw[Ad]
   refine(aj k fun q=> ?_).symm
   subst q
   rw[aa]at hk;cases hk
   exact ai ad
 have e2:(if 3<=zU q i o then σ' else fS (fun i=>listed.getD i false) q 0 ops tr σ0)=fS (fun k=>(listed.setIfInBounds i true).getD k false) q 0 ops tr σ0:=by
  split
  .rename_i af
   refine(zL2 _ q ops tr 0 i σ0 o v σ' aa ax (by rw[Ad];exact af) (by rw[Ad];exact aw) fun k' o' aq ar au=> ?_).symm
   rw[Ad]at au⊢
   rw[aj k' om]
   rcases sp aq aa ar with hc|hb
   .have:=(yU hc).1
    rw[zm4 af (xW _ _ _) om (xW _ _ _)]at this
    cases this
   .exact zc2 hb
  .rename_i af
   refine zh3 _ _ q ops tr 0 σ0 fun k o' hk ad=> ?_
   rw[Ad]at ad⊢
   refine(aj k fun q=> ?_).symm
   subst q
   rw[aa]at hk;cases hk
   exact af ad
 rw[e1,e2]at a7
 exact al _ _ _ _ a7
theorem xx3 (B:Nat->Nat->Prop) (sp: ∀{i j:Nat} {x y:Oper},i<j->ops[i]? =some x->ops[j]? =some y->zM7 ops q i j x y=false∨B i j)
  (ab:ops[i]? =some o) (af:listed.getD i false=false)
  (ahead: ∀{k:Nat},k≠i->B k i->listed.getD k false=true) (zc2: ∀{k:Nat},B i k->listed.getD k false=false):
  ∀t∈zv4 ops o,fE (fun i=>listed.getD i false) 0 ops tr e0 t=fE (fun j=>decide (j<i)) 0 ops tr e0 t:=by
 intro t ad
 refine ze1 _ _ t ops tr 0 e0 e0 rfl fun k o' hk ae=> ?_
 rw[Ad]
 rcases Br k i with aa|aa|aa
 .rw[decide_eq_true aa]
  rcases sp aa hk ab with hc|hb
  .exact absurd ad ((yU hc).2.1 t ae).1
  .exact ahead om hb
 .subst aa;rw[af];simp
 .rw[decide_eq_false om]
  rcases sp aa ab hk with hc|hb
  .exact absurd ad ((yU hc).2.2 t ae)
  .exact zc2 hb
theorem xx2 (B:Nat->Nat->Prop) (sp: ∀{i j:Nat} {x y:Oper},i<j->ops[i]? =some x->ops[j]? =some y->zM7 ops q i j x y=false∨B i j)
  {v:V} {σ':St} (ab:ops[i]? =some o) (ae:tr[i]? =some (v,σ')) (af:i<listed.size) (zc2: ∀{k:Nat},B i k->listed.getD k false=false):
  updO (fE (fun i=>listed.getD i false) 0 ops tr e0) o.dst v=fE (fun k=>(listed.setIfInBounds i true).getD k false) 0 ops tr e0:=by
 have ad: ∀k,k≠i->(listed.setIfInBounds i true).getD k false=listed.getD k false:=fun k hk=>getD_set_ne false (fun q=>hk q.symm)
 have ag:(listed.setIfInBounds i true).getD i false=true:=by simp[Array.getD,af]
 funext t
 by_cases aa:o.dst=some t
 .rw[zi5 _ _ _ _ aa]
  refine(zD6 _ t ops tr 0 i e0 o v σ' ab ae aa (by rw[Ad];exact ag) fun k' o' ah ai aj=> ?_).symm
  rw[Ad,ad k' om]
  rcases sp ah ab ai with hc|hb
  .exact absurd aj ((yU hc).2.1 t aa).2
  .exact zc2 hb
 .rw[ze8 _ _ _ _ aa]
  refine ze1 _ _ t ops tr 0 e0 e0 rfl fun k o' hk ak=> ?_
  rw[Ad]
  refine(ad k fun q=> ?_).symm
  subst q
  rw[ab]at hk;cases hk
  exact aa ak
theorem xW5 {n:Nat} (D:Nat->Bool): ∀(os:List Oper) (tr:List (V×St)) (i:Nat) (e:Env),(∀t,ltS n (e t)=true)->(∀(k:Nat) v s,tr[k]? =some (v,s)->D (i+k)=true->ltS n v=true)-> ∀t,ltS n (fE D i os tr e t)=true
 | [],_,_,_,h,_=>by simpa[fE]using h
 |o::os,[],_,_,h,_=>by simpa[fE]using h
 |o::os,(v,s)::tr,i,e,h,hv=>by
  rw[fE]
  refine xW5 D os tr (i+1) _ (fun t=> ?_) (fun k v' s' hk hD=>hv (k+1) v' s' (by simpa using hk) (by rwa [show i+(k+1)=i+1+k by omega]))
  split
  .rename_i ab
   by_cases aa:o.dst=some t
   .rw[zi5 _ _ _ _ aa];exact hv 0 v s rfl (by simpa using ab)
   .rw[ze8 _ _ _ _ aa];exact h t
  .exact h t
theorem Sim.pick {e e':Env} {σ s:St} {a:Act} {w:World} {L:Nat->Nat} {β:List Value} {pick:List Nat} (h:Sim c nt e σ a w L β) (hp:Picks c.σ0.length pick σ s) (hc:c.β0.length=c.σ0.length) (he: ∀t,argS (ren pick σ.length) (e' t) (e t)):
  ∃β',Sim c nt e' s a w L β':=
 ⟨_,h.mem.pick hp hc,h.size,h.defs,fun t=>zx1 (hp.bak h.mem.len) (he t) (h.env t)⟩
theorem yX3 {n0:Nat} (hn:n0<=σ.length) (aa:σ.all (ltOb σ.length)=true) (hz:z.all noC=true):
  Picks n0 (List.range σ.length++ [σ.length+1,σ.length]) (σ++ [.box z,.box z]) (σ++ [.box z,.box z]):=by
 have hb: ∀ρ,yF ρ (.box z)= .box z:=fun ρ=>by simp only[yF];rw[xX (fun _=>zF0) hz]
 have hr: ∀i,i<σ.length->ren (List.range σ.length++ [σ.length+1,σ.length]) (σ++ [Ob.box z,Ob.box z]).length i=i:=fun i hi=>by
  rw[wM (by simp;omega),List.getElem_append_left (by simpa using hi)];simp
 refine⟨sm, ?_,fun i j o hi ho=> ?_,fun i hi=> ?_⟩
 .rw[Co]
  refine⟨Bm,sm, ?_⟩
  intro x hx y hy
  simp at hx hy
  omega
 .by_cases h1:i<σ.length
  .rw[Ah (by simpa using h1),C4 h1]at hi
   cases hi
   rw[Ah h1]at ho
   have h2:ltOb σ.length o=true:=Af.1 aa o (As ho)
   rw[xT hr h2,Ah h1];exact ho
  .rw[Am (by simp;omega)]at hi
   rw[Am om]at ho
   simp only[Cc]at hi
   rcases Cf (i - σ.length) 2 with h2|h2
   .rcases(show i - σ.length=0∨i - σ.length=1 by omega)with h3|h3
    .rw[h3]at hi ho
     simp at hi ho
     subst hi ho
     rw[hb,Am om]
     simp
    .rw[h3]at hi ho
     simp at hi ho
     subst hi ho
     rw[hb,Am om]
     simp
   .rw[Bh (by simp;omega)]at ho;cases ho
 .rw[Ah (by simp;omega),C4 om]
theorem ye1 {Q:Exit->Act->World->Prop} {next:Act->World->Prop} {a:Act} {w:World} {L:Nat->Nat} {β:List Value} {d:Tmp} {t ty:TypeId} {pos:String} {aft:Array Edge}
  (hz:wI P t=some z) (hd:d<nt) (h:Sim c nt e σ a w L β) (hn: ∀a' w' L' β',Sim c nt (upd e d (.ptr σ.length 0)) (σ++ [.box z]) a' w' L' β'->next a' w'):
  if Region.wanted (⟨some d,.alloc t,ty,pos,aft,none⟩:Oper) (yielded ops.toArray a.tmps)then(⟨some d,.alloc t,ty,pos,aft,none⟩:Oper).wp P a w next Q∨((⟨some d,.alloc t,ty,pos,aft,none⟩:Oper).asks P a w/\LetsOut Q)else next (a.put (some d) undef) w:=by
 refine zT8 (ops:=ops) (Q:=Q) (next:=next) ⟨some d,.alloc t,ty,pos,aft,none⟩ (K:=fun e' s'=>e'=upd e d (.ptr σ.length 0)/\s'=σ++ [.box z]) h ?_ ?_
 .have aa:xP P (some d) e σ (.alloc t)= .st (.ptr σ.length 0) (σ++ [.box z]):=by
   have h1:evOp P e σ (.alloc t)= .st (.ptr σ.length 0) (σ++ [.box z]):=by simp only[evOp,zl1,hz]
   have h2:wX P e σ (.alloc t)=evOp P e σ (.alloc t):=rfl
   unfold xP
   rw[h2,h1];simp
  show vfin nt (some d) (xP P (some d) e σ (.alloc t)) _ e σ
  rw[aa]
  exact⟨hd,rfl,rfl⟩
 .rintro e' s' a' w' L' β' hs ⟨rfl,rfl⟩
  exact hn _ _ _ _ hs
theorem xL5 {Q:Exit->Env->St->Prop} {σ0:St} {p dA dB:Nat} {t tA tB:TypeId} {aC aD:String} {aA aB:Array Edge}
  (hn:n0.n<=σ0.length) (bb:c.σ0.length<=σ0.length) (bc:c.β0.length=c.σ0.length)
  (hA:ops[p]? =some ⟨some dA,.alloc t,tA,aC,aA,none⟩) (hB:ops[p+1]? =some ⟨some dB,.alloc t,tB,aD,aB,none⟩) (bd:dA≠dB)
  (b6:zU q p ⟨some dA,.alloc t,tA,aC,aA,none⟩=3) (b7:zU q (p+1) ⟨some dB,.alloc t,tB,aD,aB,none⟩=3) (hz:wI P t=some z) (bf:z.all noC=true)
  (az: ∀(k:Nat) o,k<p->ops[k]? =some o->zU q k o<2/\dA∉zv4 ops o/\dB∉zv4 ops o/\o.dst≠some dA/\o.dst≠some dB)
  (aQ: ∀(k:Nat) o,p+1<k->ops[k]? =some o->p∈(befs ops []).getD k []/\(p+1)∈(befs ops []).getD k [])
  (hd: ∀{i j:Nat} {x y:Oper},i<j->ops[i]? =some x->ops[j]? =some y->zM7 ops q i j x y=false∨(i∈(befs ops []).getD j []∨(i=p/\j=p+1))) (aH:zc4 ops=true)
  (bg:σ0.all (ltOb σ0.length)=true) (h0: ∀s,ltS σ0.length (e0 s)=true) (hv: ∀(k:Nat) v s,k<p->tr[k]? =some (v,s)->ltS σ0.length v=true)
  (ht:zu4 P c nt n0 ops q 0 ops e0 σ0 tr) (hQ:Q .normal (fE (fun _=>true) 0 ops tr e0) (fS (fun _=>true) q 0 ops tr σ0)):
  ∀(fuel:Nat) (listed:Array Bool) (a:Act) (w:World) (L:Nat->Nat) (β:List Value),listed.size=ops.length->listed.toList.count false=fuel->
   (∀(j:Nat) o,ops[j]? =some o->listed.getD j false=true-> ∀e∈o.after.toList,Region.binds .any e=true->listed.getD e.on false=true)->
   ((listed.getD (p+1) false=true->listed.getD p false=true)/\Sim c nt (fE (fun i=>listed.getD i false) 0 ops tr e0) (fS (fun i=>listed.getD i false) q 0 ops tr σ0) a w L β∨
    (listed.getD (p+1) false=true/\listed.getD p false=false)/\Sim c nt (upd (fE (fun i=>listed.getD i false) 0 ops tr e0) dB (.ptr σ0.length 0)) (σ0++ [.box z]) a w L β)->
   wpAny P .any ops.toArray (Lift c nt Q) fuel listed a w:=by
 obtain⟨b8,aI⟩:=zC2 ops q ops tr 0 e0 σ0 ht
 have b9:p+1<ops.length:=(A3.1 hB).1
 have bh:fS (fun j=>decide (j<p)) q 0 ops tr σ0=σ0:=zx8 _ q ops tr 0 σ0 fun k o hk h3=>by
  rw[Ad]at h3⊢
  by_cases al:k<p
  .have:=(az k o al hk).1;omega
  .simp;omega
 have aR: ∀(e:Env) (σ:St) (d:Tmp),xP P (some d) e σ (.alloc t)= .st (.ptr σ.length 0) (σ++ [.box z]):=fun e σ d=>by
  have h1:evOp P e σ (.alloc t)= .st (.ptr σ.length 0) (σ++ [.box z]):=by simp only[evOp,zl1,hz]
  have h2:wX P e σ (.alloc t)=evOp P e σ (.alloc t):=rfl
  unfold xP
  rw[h2,h1];simp
 have fact: ∀{k d tt ps af E S v s'},Fact P c nt n0 ops q k ⟨some d,.alloc t,tt,ps,af,none⟩ E S v s'->v= .ptr S.length 0/\s'=S++ [.box z]/\d<nt:=by
  intro k d tt ps af E S v s' hf
  obtain⟨bj,_,_,_,g,hg,hb⟩:=hf
  simp only at hg
  subst hg
  simp only[if_true]at hb
  obtain⟨_,_,_,hb⟩:=hb
  rw[aR]at hb
  rcases hb with ⟨hr,_⟩|⟨_,hr,_⟩|⟨_,hr|⟨_,hr,_⟩⟩
  .cases hr
  .cases hr
  .cases hr;exact⟨rfl,rfl,bj d rfl⟩
  .cases hr
 obtain⟨vA,sA,aE,aS⟩:=aI p _ hA
 rw[Ad,bh]at aS
 obtain⟨rfl,rfl,bk⟩:=fact aS
 have bm:fS (fun j=>decide (j<p+1)) q 0 ops tr σ0=σ0++ [.box z]:=
  zL2 _ q ops tr 0 p σ0 _ _ _ hA aE (by rw[Ad];omega) sm fun k' o' ao _ _=>by simp;omega
 obtain⟨vB,sB,aq,aT⟩:=aI (p+1) _ hB
 rw[Ad,bm]at aT
 obtain⟨rfl,rfl,bn⟩:=fact aT
 simp only[Ak,Bn,Cy,List.singleton_append]at aq
 have fin: ∀(listed:Array Bool) (a:Act) (w:World) (L:Nat->Nat) (β:List Value),Sim c nt (fE (fun i=>listed.getD i false) 0 ops tr e0) (fS (fun i=>listed.getD i false) q 0 ops tr σ0) a w L β->
   (∀i,i<ops.length->listed.getD i false=true)->Lift c nt Q .normal a w:=by
  intro listed a w L β hs aj
  have e1:fE (fun i=>listed.getD i false) 0 ops tr e0=fE (fun _=>true) 0 ops tr e0:=by
   funext t
   exact ze1 _ _ t ops tr 0 e0 e0 rfl fun k o hk _=>by rw[Ad];exact aj k (A3.1 hk).1
  have e2:fS (fun i=>listed.getD i false) q 0 ops tr σ0=fS (fun _=>true) q 0 ops tr σ0:=
   zh3 _ _ q ops tr 0 σ0 fun k o hk _=>by rw[Ad];exact aj k (A3.1 hk).1
  rw[e1,e2]at hs
  exact⟨_,_,L,β,hs,hQ⟩
 have ar: ∀(listed:Array Bool),listed.size=ops.length->Region.ready .any ops.toArray listed= []-> ∀i,i<ops.length->listed.getD i false=true:=by
  intro listed an hr i
  induction i using Nat.strongRecOn with
  |ind i ih=>
   intro hi
   cases a1:listed.getD i false with
   |true=>rfl
   |false=>
    exfalso
    have hm:i∈Region.ready .any ops.toArray listed:=by
     refine mem_ready.2 ⟨?_,ops[i],by simp[hi],fun e he hb=> ?_⟩
     .have ab:i<listed.size:=om
      simpa[Array.getD,ab]using a1
     .unfold zc4 at aH
      simp only[Af,C3]at aH
      have:=aH i hi
      rw[A0 hi]at this
      simp only[Df]at this
      have:=this e he
      simp only[hb,Bool.not_true,Cb,decide_eq_true_eq]at this
      exact ih e.on this om
    rw[hr]at hm
    cases hm
 intro fuel
 induction fuel with
 |zero=>
  intro listed a w L β an aU au hs
  have aj: ∀i,i<ops.length->listed.getD i false=true:=by
   intro i hi
   have ab:i<listed.size:=om
   cases a1:listed[i]with
   |true=>simp[Array.getD,ab,a1]
   |false=>
    exfalso
    have:false∈listed.toList:=by
     rw[<-a1];simp
    have:=List.count_pos_iff.2 this
    omega
  rcases hs with ⟨_,hs⟩|⟨⟨_,hp⟩,_⟩
  .refine⟨?_,fin listed a w L β hs aj⟩
   cases hr:Region.ready .any ops.toArray listed with
   |nil=>rfl
   |cons i l=>
    exfalso
    have hm:i∈Region.ready .any ops.toArray listed:=by rw[hr];simp
    obtain⟨h1,o,ho,_⟩:=mem_ready.1 hm
    have hi:i<ops.length:=(A3.1 (by simpa using ho)).1
    have:=aj i hi
    have ab:i<listed.size:=om
    simp[Array.getD,ab]at this h1
    rw[this]at h1
    cases h1
  .rw[aj p om]at hp;cases hp
 |succ fuel ih=>
  intro listed a w L β an aU au hs
  refine⟨fun hr=> ?_,fun i hi=> ?_⟩
  .rcases hs with ⟨_,hs⟩|⟨⟨_,hp⟩,_⟩
   .exact fin listed a w L β hs (ar listed an hr)
   .rw[ar listed an hr p om]at hp;cases hp
  obtain⟨h1,o,ho,aJ⟩:=mem_ready.1 hi
  have ad:ops[i]? =some o:=by simpa using ho
  have bA:i<ops.length:=(A3.1 ad).1
  have ab:i<listed.size:=om
  have ai:listed.getD i false=false:=by
   simp[Array.getD,ab]at h1⊢;exact h1
  have ae: ∀k,k≠i->(listed.setIfInBounds i true).getD k false=listed.getD k false:=fun k hk=>getD_set_ne false (fun q=>hk q.symm)
  have av:(listed.setIfInBounds i true).getD i false=true:=by simp[Array.getD,ab]
  have aF: ∀(j:Nat) o,ops[j]? =some o->(listed.setIfInBounds i true).getD j false=true-> ∀e∈o.after.toList,Region.binds .any e=true->(listed.setIfInBounds i true).getD e.on false=true:=by
   intro j o' hj aV e he hb
   by_cases aW:j=i
   .subst aW
    rw[ad]at hj
    cases hj
    exact getD_set_true (aJ e (by simpa using he) hb)
   .rw[ae j aW]at aV
    exact getD_set_true (au j o' hj aV e he hb)
  have ahead: ∀{k:Nat},k≠i->k∈(befs ops []).getD i []->listed.getD k false=true:=fun{k} hk hb=>by
   have:=zg8 (D:=fun j=>(listed.setIfInBounds i true).getD j false) aF hb av
   rwa [ae k hk]at this
  have zc2: ∀{k:Nat},i∈(befs ops []).getD k []->listed.getD k false=false:=fun{k} hb=>by
   cases hk:listed.getD k false with
   |false=>rfl
   |true=>
    have:=zg8 (D:=fun j=>listed.getD j false) au hb hk
    rw[ai]at this;cases this
  have a6:(listed.setIfInBounds i true).toList.count false=fuel:=by
   have:=yq3 (l:=listed) (i:=i) (by
    rw[B9 ab]
    have:=ai
    simp[Array.getD,ab]at this
    rw[this])
   omega
  have next:=fun a' w' L' β' h=>ih (listed.setIfInBounds i true) a' w' L' β' (by simpa using an) a6 aF h
  unfold wpOp
  rw[ho]
  show if Region.wanted o (yielded ops.toArray a.tmps)then o.wp P a w (wpAny P .any ops.toArray (Lift c nt Q) fuel (listed.setIfInBounds i true)) (Lift c nt Q)∨_ else _
  have only:listed.getD p false=false-> ∀k,p+1<k->listed.getD k false=false:=fun hp k hk=>by
   cases hl:listed.getD k false with
   |false=>rfl
   |true=>
    have bo:k<ops.length:=by
     rcases Cf k ops.length with h|h
     .exact h
     .exfalso;simp[Array.getD,an,Nat.not_lt.2 h]at hl
    have:=zg8 (D:=fun j=>listed.getD j false) au (aQ k _ hk (A0 bo)).1 hl
    rw[hp]at this;cases this
  have bp:(i≠p+1∨listed.getD p false=true)->(listed.getD (p+1) false=true->listed.getD p false=true)->Sim c nt (fE (fun i=>listed.getD i false) 0 ops tr e0) (fS (fun i=>listed.getD i false) q 0 ops tr σ0) a w L β->
    if Region.wanted o (yielded ops.toArray a.tmps)then o.wp P a w (wpAny P .any ops.toArray (Lift c nt Q) fuel (listed.setIfInBounds i true)) (Lift c nt Q)∨(o.asks P a w/\LetsOut (Lift c nt Q))else wpAny P .any ops.toArray (Lift c nt Q) fuel (listed.setIfInBounds i true) (a.put o.dst undef) w:=by
   intro ag hinv hs
   refine xu0 hn ht (fun i j=>i∈(befs ops []).getD j []∨(i=p/\j=p+1)) (fun h1 h2 h3=>hd h1 h2 h3) ad ai ab ?_ ?_ ?_ hs fun a' w' L' β' aa=>next a' w' L' β' (.inl ⟨?_,aa⟩)
   .rintro k hk (hb|⟨rfl,rfl⟩)
    .exact ahead hk hb
    .rcases ag with h|h
     .exact absurd rfl h
     .exact h
   .rintro k (hb|⟨rfl,rfl⟩)
    .exact zc2 hb
    .cases hl:listed.getD (i+1) false with
     |false=>rfl
     |true=>rw[hinv hl]at ai;cases ai
   .rintro k j (hb|⟨rfl,rfl⟩) hj
    .exact zg8 (D:=fun j=>listed.getD j false) au hb hj
    .exact hinv hj
   .intro h
    by_cases aw:i=p
    .subst aw;exact av
    .rw[ae p (fun q=>aw q.symm)]
     by_cases aG:i=p+1
     .rcases ag with h'|h'
      .exact absurd aG h'
      .exact h'
     .rw[ae (p+1) (fun q=>aG q.symm)]at h
      exact hinv h
  rcases hs with ⟨hinv,hs⟩|⟨⟨a7,a8⟩,hs⟩
  .by_cases ag:i=p+1/\listed.getD p false=false
   ·
    obtain⟨rfl,hp⟩:=ag
    rw[hB]at ad;cases ad
    have aX:fS (fun i=>listed.getD i false) q 0 ops tr σ0=σ0:=zx8 _ q ops tr 0 σ0 fun k o hk h3=>by
     rw[Ad]at h3⊢
     rcases Br k p with al|rfl|al
     .have:=(az k o al hk).1;omega
     .exact hp
     .by_cases ax:k=p+1
      .subst ax;exact ai
      .exact only hp k om
    rw[aX]at hs
    refine ye1 (ops:=ops) (Q:=Lift c nt Q) (next:=wpAny P .any ops.toArray (Lift c nt Q) fuel (listed.setIfInBounds (p+1) true)) hz bn hs fun a' w' L' β' aa=>next a' w' L' β' (.inr ⟨⟨av,by rw[ae p om];exact hp⟩, ?_⟩)
    have:upd (fE (fun i=>(listed.setIfInBounds (p+1) true).getD i false) 0 ops tr e0) dB (.ptr σ0.length 0)=upd (fE (fun i=>listed.getD i false) 0 ops tr e0) dB (.ptr σ0.length 0):=by
     funext s
     simp only[upd]
     split
     .rfl
     .rename_i bq
      refine ze1 _ _ s ops tr 0 e0 e0 rfl fun k o hk ay=> ?_
      rw[Ad]
      refine ae k fun e=> ?_
      subst e
      rw[hB]at hk;cases hk
      exact bq (Option.some.inj ay).symm
    rw[this];exact aa
   .exact bp (by
     by_cases h:i=p+1
     .right
      cases hl:listed.getD p false with
      |true=>rfl
      |false=>exact absurd ⟨h,hl⟩ ag
     .exact .inl h) hinv hs
  ·
   by_cases aw:i=p
   .subst aw
    rw[hA]at ad;cases ad
    refine ye1 (ops:=ops) (Q:=Lift c nt Q) (next:=wpAny P .any ops.toArray (Lift c nt Q) fuel (listed.setIfInBounds i true)) hz bk hs fun a' w' L' β' aa=> ?_
    have hlen:(σ0++ [Ob.box z]).length=σ0.length+1:=sm
    rw[hlen,Cy,List.singleton_append]at aa
    have aK: ∀k,i+1<k->(listed.setIfInBounds i true).getD k false=false:=fun k hk=>by rw[ae k om];exact only a8 k hk
    have br:fS (fun k=>(listed.setIfInBounds i true).getD k false) q 0 ops tr σ0=σ0++ [.box z,.box z]:=
     zL2 _ q ops tr 0 (i+1) σ0 _ _ _ hB aq (by rw[Ad];omega) (by rw[Ad,ae (i+1) om];exact a7) fun k' o' ao _ _=>by rw[Ad];exact aK k' ao
    have bt:fE (fun k=>(listed.setIfInBounds i true).getD k false) 0 ops tr e0 dA= .ptr σ0.length 0:=
     zD6 _ dA ops tr 0 i e0 _ _ _ hA aE rfl (by rw[Ad];exact av) fun k' o' ao aL aY=>by
      rw[Ad]
      by_cases ax:k'=i+1
      .subst ax
       rw[hB]at aL;cases aL
       exact absurd (Option.some.inj aY).symm bd
      .exact aK k' om
    have bu:fE (fun k=>(listed.setIfInBounds i true).getD k false) 0 ops tr e0 dB= .ptr (σ0.length+1) 0:=
     zD6 _ dB ops tr 0 (i+1) e0 _ _ _ hB aq rfl (by rw[Ad,ae (i+1) om];exact a7) fun k' o' ao aL aY=>by
      rw[Ad];exact aK k' ao
    have bw: ∀s,s≠dA->s≠dB->fE (fun k=>(listed.setIfInBounds i true).getD k false) 0 ops tr e0 s=fE (fun k=>listed.getD k false) 0 ops tr e0 s/\ltS σ0.length (fE (fun k=>listed.getD k false) 0 ops tr e0 s)=true:=by
     intro s bx bz
     refine⟨ze1 _ _ s ops tr 0 e0 e0 rfl fun k o hk ay=> ?_, ?_⟩
     .rw[Ad]
      refine ae k fun e=> ?_
      subst e
      rw[hA]at hk;cases hk
      exact bx (Option.some.inj ay).symm
     .have e1:fE (fun k=>listed.getD k false) 0 ops tr e0 s=fE (fun k=>decide (k<i)&&listed.getD k false) 0 ops tr e0 s:=by
       refine ze1 _ _ s ops tr 0 e0 e0 rfl fun k o hk ay=> ?_
       rw[Ad]
       rcases Br k i with h|rfl|h
       .simp[h]
       .rw[ai];simp
       .by_cases ax:k=i+1
        .subst ax
         rw[hB]at hk;cases hk
         exact absurd (Option.some.inj ay).symm bz
        .rw[only a8 k om];simp
      rw[e1]
      refine xW5 _ ops tr 0 e0 h0 (fun k v s hk hD=> ?_) s
      rw[Ad]at hD
      simp only[A6,decide_eq_true_eq]at hD
      exact hv k v s hD.1 hk
    have aP:=yX3 (n0:=c.σ0.length) bb bg bf
    have hr: ∀k,k<σ0.length->ren (List.range σ0.length++ [σ0.length+1,σ0.length]) (σ0++ [Ob.box z,Ob.box z]).length k=k:=fun k hk=>by
     rw[wM (by simp;omega),List.getElem_append_left (by simpa using hk)];simp
    obtain⟨β2,b0⟩:=aa.pick (e':=fE (fun k=>(listed.setIfInBounds i true).getD k false) 0 ops tr e0) aP bc fun s=>by
     by_cases h1:s=dA
     .subst h1
      rw[bt]
      refine .inl ?_
      simp only[upd,if_true,renS,renA,renC,renK]
      rw[wM sm,List.getElem_append_right sm]
      simp
     .by_cases h2:s=dB
      .subst h2
       rw[bu]
       refine .inl ?_
       simp only[upd,if_neg h1,if_true,renS,renA,renC,renK]
       rw[wM sm,List.getElem_append_right sm]
       simp
      .obtain⟨q1,q2⟩:=bw s h1 h2
       rw[q1]
       simp only[upd,if_neg h1,if_neg h2]
       exact .inl (yD1 hr q2).symm
    refine next a' w' L' β2 (.inl ⟨fun _=>av, ?_⟩)
    rw[br]
    exact b0
   ·
    have bB:i≠p+1:=fun e=>by subst e;rw[a7]at ai;cases ai
    have aZ:i<p:=by
     rcases Br i p with h|h|h
     .exact h
     .exact absurd h aw
     .exfalso
      have:=ahead (k:=p) om (aQ i o om ad).1
      rw[a8]at this;cases this
    obtain⟨bC,bD,b1,bE,b2⟩:=az i o aZ ad
    have sp: ∀{i j:Nat} {x y:Oper},i<j->ops[i]? =some x->ops[j]? =some y->zM7 ops q i j x y=false∨(i∈(befs ops []).getD j []∨(i=p/\j=p+1)):=fun h1 h2 h3=>hd h1 h2 h3
    have ah: ∀{k:Nat},k≠i->(k∈(befs ops []).getD i []∨(k=p/\i=p+1))->listed.getD k false=true:=by
     rintro k hk (hb|⟨_,h⟩)
     .exact ahead hk hb
     .omega
    have be: ∀{k:Nat},(i∈(befs ops []).getD k []∨(i=p/\k=p+1))->listed.getD k false=false:=by
     rintro k (hb|⟨h,_⟩)
     .exact zc2 hb
     .omega
    have ba:=xx3 (e0:=e0) (tr:=tr) (fun i j=>i∈(befs ops []).getD j []∨(i=p/\j=p+1)) sp ad ai ah be
    obtain⟨v,σ',b3,ak⟩:=aI i o ad
    rw[Ad]at ak
    have b4:fS (fun j=>decide (j<i)) q 0 ops tr σ0=σ0:=zx8 _ q ops tr 0 σ0 fun k o hk h3=>by
     rw[Ad]at h3⊢
     by_cases al:k<p
     .have:=(az k o al hk).1;omega
     .simp;omega
    rw[b4]at ak
    refine zT8 (ops:=ops) (Q:=Lift c nt Q) (next:=wpAny P .any ops.toArray (Lift c nt Q) fuel (listed.setIfInBounds i true)) o hs (ak.step (fun s aa=> ?_) (fun h=>om) fun _=> ?_) ?_
    .simp only[upd]
     split
     .rename_i h;subst h;exact absurd aa b1
     .exact ba s aa
    .rw[Kp.of_append hn]
    .rintro e' s' a' w' L' β' aa ⟨rfl,rfl⟩
     rw[if_neg om]at aa
     refine next a' w' L' β' (.inr ⟨⟨by rw[ae (p+1) om];exact a7,by rw[ae p om];exact a8⟩, ?_⟩)
     have b5:=xx2 (e0:=e0) (fun i j=>i∈(befs ops []).getD j []∨(i=p/\j=p+1)) sp ad b3 ab be
     have:updO (upd (fE (fun i=>listed.getD i false) 0 ops tr e0) dB (.ptr σ0.length 0)) o.dst v=upd (fE (fun k=>(listed.setIfInBounds i true).getD k false) 0 ops tr e0) dB (.ptr σ0.length 0):=by
      rw[<-b5]
      funext s
      by_cases h2:s=dB
      .subst h2
       rw[ze8 _ _ _ _ b2]
       simp[upd]
      .by_cases h3:o.dst=some s
       .rw[zi5 _ _ _ _ h3]
        simp only[upd,if_neg h2]
        rw[zi5 _ _ _ _ h3]
       .rw[ze8 _ _ _ _ h3]
        simp only[upd,if_neg h2]
        rw[ze8 _ _ _ _ h3]
     rw[this]at aa
     exact aa
theorem xy4 (D:Nat->Bool): ∀(ad aa:List Oper) (ae ab:List (V×St)) (i:Nat) (e:Env),ae.length=ad.length->fE D i (ad++aa) (ae++ab) e=fE D (i+ad.length) aa ab (fE D i ad ae e)
 | [],aa,[],ab,i,e,_=>by simp[fE]
 | [],_,_::_,_,_,_,h=>by simp at h
 |_::_,_,[],_,_,_,h=>by simp at h
 |o::os,aa,(v,s)::tr,ab,i,e,h=>by
  simp only[Bz,fE,Ag]
  rw[xy4 D os aa tr ab (i+1) _ (by simpa using h),show i+1+os.length=i+(os.length+1) by omega]
theorem xy5 (D:Nat->Bool) (q:List (Nat×Nat)): ∀(ad aa:List Oper) (ae ab:List (V×St)) (i:Nat) (σ:St),ae.length=ad.length->fS D q i (ad++aa) (ae++ab) σ=fS D q (i+ad.length) aa ab (fS D q i ad ae σ)
 | [],aa,[],ab,i,e,_=>by simp[fS]
 | [],_,_::_,_,_,_,h=>by simp at h
 |_::_,_,[],_,_,_,h=>by simp at h
 |o::os,aa,(v,s)::tr,ab,i,e,h=>by
  simp only[Bz,fS,Ag]
  rw[xy5 D q os aa tr ab (i+1) _ (by simpa using h),show i+1+os.length=i+(os.length+1) by omega]
theorem yw2 {ops:List Oper} {q:List (Nat×Nat)}: ∀(aa ab:List Oper) (ae ad:List (V×St)) (i:Nat) (e:Env) (σ:St),zu4 P c nt n0 ops q i aa e σ ae->
  zu4 P c nt n0 ops q (i+aa.length) ab (fE (fun _=>true) i aa ae e) (fS (fun _=>true) q i aa ae σ) ad->zu4 P c nt n0 ops q i (aa++ab) e σ (ae++ad)
 | [],ab,[],ad,i,e,σ,_,h=>by simpa[fE,fS]using h
 | [],_,_::_,_,_,_,_,h,_=>h.elim
 |_::_,_,[],_,_,_,_,h,_=>h.elim
 |o::os,ab,(v,s)::tr,ad,i,e,σ,h1,h2=>by
  refine⟨h1.1,yw2 os ab tr ad (i+1) _ _ h1.2 ?_⟩
  rw[fE,fS,if_pos rfl]at h2
  have:(if((fun _=>true) i&&decide (3<=zU q i o))=true then s else σ)=s:=by
   by_cases h3:3<=zU q i o
   .rw[if_pos (by simp[h3])]
   .rw[if_neg (by simp[h3])];exact(h1.1.2.1 om).symm
  rw[this,Ag,show i+(os.length+1)=i+1+os.length by omega]at h2
  exact h2
def two (P:Program) (ops:List Oper) (q:List (Nat×Nat)) (p:Nat):Bool:=
 match ops[p]?,ops[p+1]? with
 |some ⟨some dA,.alloc t,tA,posA,aA,none⟩,some ⟨some dB,.alloc t',tB,posB,aB,none⟩=>
  Nat.beq t t'&& !Nat.beq dA dB&&Nat.beq (zU q p ⟨some dA,.alloc t,tA,posA,aA,none⟩) 3&&Nat.beq (zU q (p+1) ⟨some dB,.alloc t',tB,posB,aB,none⟩) 3&&
  (match wI P t with|some z=>z.all noC|none=>false)&&
  ((List.range ops.length).all fun k=>match ops[k]? with
   |some o=>if k<p then decide (zU q k o<2)&& !(zv4 ops o).contains dA&& !(zv4 ops o).contains dB&&(match o.dst with|some d=> !Nat.beq d dA&& !Nat.beq d dB|none=>false)
    else if p+1<k then((befs ops []).getD k []).contains p&&((befs ops []).getD k []).contains (p+1)else true
   |none=>true)&&
  ((List.range ops.length).all fun j=>(List.range j).all fun i=>match ops[i]?,ops[j]? with
   |some x,some y=>(!zM7 ops q i j x y||((befs ops []).getD j []).contains i||(Nat.beq i p&&Nat.beq j (p+1)))&&(!Nat.blt j p||(match x.dst,y.dst with|some d,some d'=> !Nat.beq d d'|_,_=>true))
   |_,_=>true)
 |_,_=>false
theorem VW.draw2 {id:Nat} {Q:Exit->Env->St->Prop} (p:Nat) (hm:P.follows .mixedOrders=true) (hn:n0.n<=σ.length) (hc:c.σ0.length<=σ.length) (an:c.β0.length=c.σ0.length)
  (h2:two P ops q p=true) (ao:zc4 ops=true) (aq:σ.all (ltOb σ.length)=true) (h0: ∀s,ltS σ.length (e s)=true)
  (h:vtr P c nt n0 ops q 0 (ops.take p) (fun e' σ'=>(∀s,ltS σ.length (e' s)=true)/\vtr P c nt n0 ops q p (ops.drop p) (Q .normal) e' σ') e σ):VW P c nt (.region id ops.toArray true) Q e σ:=by
 obtain⟨aa,ai,ar,h⟩:=zp4 _ _ _ _ _ h
 obtain⟨ab,au,hK⟩:=zp4 _ _ _ _ _ h
 unfold two at h2
 split at h2
 case h_2=>cases h2
 rename_i dA t tA aH aA dB t' tB aI aB hA hB
 simp only[A6,Nat.beq_eq,D8,Af,C3]at h2
 obtain⟨⟨⟨⟨⟨⟨av,aw⟩,ax⟩,ay⟩,hz⟩,hk⟩,hd⟩:=h2
 subst av
 have aK:p+1<ops.length:=(A3.1 hB).1
 have ae:(ops.take p).length=p:=by simp;omega
 obtain⟨ag,aJ⟩:=zC2 ops q _ _ _ _ _ ai
 have ht:=yw2 (ops.take p) (ops.drop p) aa ab 0 e σ ai (by rw[ae,Ad];exact au)
 have hE:=xy4 (fun _=>true) (ops.take p) (ops.drop p) aa ab 0 e ag
 have hS:=xy5 (fun _=>true) q (ops.take p) (ops.drop p) aa ab 0 σ ag
 rw[ae,Ad]at hE hS
 rw[Bf]at ht hE hS
 rw[<-hE,<-hS]at hK
 obtain⟨z,az,a6⟩: ∃z,wI P t=some z/\z.all noC=true:=by
  split at hz
  .exact⟨_,by assumption,hz⟩
  .cases hz
 have aj:dA≠dB:=fun q=>by subst q;simp at aw
 have ak: ∀(k:Nat) o,k<p->ops[k]? =some o->(zU q k o<2/\dA∉zv4 ops o/\dB∉zv4 ops o/\o.dst≠some dA/\o.dst≠some dB)/\ ∃d,o.dst=some d:=by
  intro k o ad ho
  have:=hk k om
  rw[ho]at this
  simp only[if_pos ad,A6,decide_eq_true_eq,D8]at this
  obtain⟨⟨⟨a1,a2⟩,a3⟩,a4⟩:=this
  cases hd:o.dst with
  |none=>rw[hd]at a4;cases a4
  |some d=>
   rw[hd]at a4
   simp only[A6,D8]at a4
   refine⟨⟨a1,by simpa using a2,by simpa using a3,fun q=> ?_,fun q=> ?_⟩,d,rfl⟩
   .cases q;simp at a4
   .cases q;simp at a4
 refine fun a w L β hs=> ?_
 refine wp_region_any hm ?_
 have hg: ∀j,(Array.replicate ops.toArray.size false).getD j false=false:=fun j=>by
  simp[Array.getD]
 have e1:fE (fun i=>(Array.replicate ops.toArray.size false).getD i false) 0 ops (aa++ab) e=e:=by
  funext t
  exact yb8 _ t ops (aa++ab) 0 e fun k o _ _=>hg _
 have e2:fS (fun i=>(Array.replicate ops.toArray.size false).getD i false) q 0 ops (aa++ab) σ=σ:=zx8 _ q ops (aa++ab) 0 σ fun k o _ _=>hg _
 refine xL5 hn hc an hA hB aj ax ay az a6 (fun k o a b=>(ak k o a b).1) (fun k o a7 ho=> ?_) (fun{i j x y} a8 hx hy=> ?_) ao aq h0 (fun k v s ad hv=> ?_) ht hK _ _ a w.drew L β sm sm (fun j o _ hj=>by rw[hg]at hj;cases hj) (.inl ⟨fun h=>(by rw[hg]at h;cases h), ?_⟩)
 .have:=hk k (A3.1 ho).1
  rw[ho]at this
  simp only[if_neg (show ¬k<p by omega),if_pos a7,A6]at this
  exact⟨by simpa using this.1,by simpa using this.2⟩
 .have:=hd j (A3.1 hy).1 i a8
  rw[hx,hy]at this
  simp only[A6,Bv,D8,Nat.beq_eq]at this
  rcases this.1 with (h|h)|h
  .exact .inl h
  .exact .inr (.inl (by simpa using h))
  .exact .inr (.inr h)
 .obtain⟨o,ho⟩: ∃o,ops[k]? =some o:=⟨ops[k],by simp[A0 (show k<ops.length by omega)]⟩
  obtain⟨_,d,al⟩:=ak k o ad ho
  have aC:aa[k]? =some (v,s):=by
   rw[Ah (by rw[ag,ae];exact ad)]at hv
   exact hv
  have aD:(ops.take p)[k]? =some o:=by rw[Da ad];exact ho
  have:=zD6 (fun _=>true) d (ops.take p) aa 0 k e o v s aD aC al rfl fun k' o' aE ah aF=>by
   exfalso
   have af:k'<p:=by rw[<-ae];exact(A3.1 ah).1
   rw[Da af]at ah
   have:=hd k' om k aE
   rw[ho,ah]at this
   simp only[A6]at this
   have:=this.2
   rw[al,aF]at this
   simp at this
   rw[<-Bool.not_eq_true,Nat.blt_eq]at this
   exact this af
  rw[<-this]
  exact ar d
 .rw[e1,e2]
  obtain⟨aG,hle⟩:=hs.mem.drew
  exact⟨aG,hs.size,hs.defs,fun t=>(hs.env t).mono hle (Ext.refl _ _)⟩
def LtE (n:Nat) (e:Env):Prop:= ∀s,ltS n (e s)=true
theorem LtE.upd {n:Nat} {d:Tmp} {v:V} (he:LtE n e) (hv:ltS n v=true):LtE n (upd e d v):=fun s=>by
 simp only[Vx.upd]
 split
 .exact hv
 .exact he s
theorem xJ4 {id:Nat} {Q:QT} {l1 l2:List Oper} (q:List (Nat×Nat)) (n0 p:Nat) (hn:n0<=σ.length) (hm:P.follows .mixedOrders=true) (hc:c.σ0.length<=σ.length) (aa:c.β0.length=c.σ0.length)
  (h2:(two P ops q p&&zc4 ops)=true) (ab:σ.all (ltOb σ.length)=true) (h0:LtE σ.length e)
  (h1:ops.take p=l1) (h3:ops.drop p=l2)
  (h:wtr P c nt (Kp.pre n0) ops q 0 l1 (fun e' σ'=>LtE σ.length e'/\wtr P c nt (Kp.pre n0) ops q p l2 (Q .normal) fx fx fx e' σ') fx fx fx e σ):wVW P c nt (.region id ops.toArray true) Q fx fx e σ:=by
 subst h1;subst h3
 simp only[A6]at h2
 exact VW.draw2 (n0:=Kp.pre n0) p hm hn hc aa h2.1 h2.2 ab h0 h
theorem Kp.out_or {k:Kp} {id:Nat} (h:k.out id=true):(id<k.x/\k.ob=none)∨k.n<=id:=by simpa[Kp.out]using h
def xb7 (n0:Kp):V->Bool
 | .sl .full _=>true
 | .sl (.app id) _=>n0.out id
 | .lsv id _ _ _ _=>n0.out id
 |_=>false
attribute [go_sem] xb7
@[go_sem] theorem wtop_append3 {K:KT} {d:Option Tmp} {x y:Operand} {t1 t2:TypeId} (h:xb7 n0 (zD e x)=true):wtop P c nt n0 3 d (.call ⟨.builtin .append, #[x,y], #[t1,t2]⟩) K fx fx e σ=wop P c nt d (.call ⟨.builtin .append, #[x,y], #[t1,t2]⟩) K fx fx e σ:=by
 show vtop P c nt n0 3 d (.call ⟨.builtin .append, #[x,y], #[t1,t2]⟩) K e σ=vop P c nt d (.call ⟨.builtin .append, #[x,y], #[t1,t2]⟩) K e σ
 have h1:zZ3 (xP P d e σ (.call ⟨.builtin .append, #[x,y], #[t1,t2]⟩))=false:=by
  unfold xP
  split
  .exact zZ1 _ (fun _ _ _ _ _ h=>by cases h) (fun _ _ h=>by cases h)
  .exact ze6 _ (fun _ _ _ _ _ h=>by cases h)
 have hA: ∀(el:Option (Nat×Nat)) (k2:Nat) (y:V),stOk n0 3 σ (zg9 el k2 σ (zD e x) y):=fun el k2 y=>by
  unfold zg9
  split
  .split
   .exact⟨sm,fun _=> .inl ⟨_,rfl⟩⟩
   .rename_i hx
    rw[hx]at h
    have h:=Kp.out_or (k:=n0) h
    split<;>first|trivial|exact⟨sm,fun _=> .inr (Kp.of_set h)⟩
   .rename_i hx
    rw[hx]at h
    have h:=Kp.out_or (k:=n0) h
    (repeat' split)<;>first|trivial|exact⟨sm,fun _=> .inr (Kp.of_set h)⟩
   .trivial
  .trivial
 have hL: ∀(el:Option (Nat×Nat)) (k2:Nat) (y:V),stOk n0 3 σ (ze0 el k2 σ (zD e x) y):=fun el k2 y=>by
  unfold ze0
  split
  .rename_i hx
   rw[hx]at h
   have h:=Kp.out_or (k:=n0) h
   (repeat' split)<;>first|trivial|exact⟨sm,fun _=> .inr (Kp.of_set h)⟩
  ·(repeat' split)<;>first|trivial|exact⟨sm,fun _=> .inl ⟨_,rfl⟩⟩
 have h2:stOk n0 3 σ (xP P d e σ (.call ⟨.builtin .append, #[x,y], #[t1,t2]⟩)):=by
  unfold xP
  split
  .exact hL (elT P t1) (lenT P t2) (zD e y)
  .exact hA (elT P t1) (lenT P t2) (zD e y)
 simp only[vtop,vop]
 exact propext ⟨fun q=>q.2.2.2.2.2.2,fun q=>⟨fun q=>om,h1,fun q=>by simp at q,fun q=>by simp at q,fun _=>om,h2,q⟩⟩
theorem LtE.env0 {n:Nat}:LtE n env0:=fun _=>rfl
end
variable {σ:St}{P:Program}{e:Env}{σ':St}{n:Nat}{c:Ctx}{nt:Nat}{k:Nat}{τ:St}{d:Option Tmp}{o:Ob}{f:FuncId}{m:Nat}{ρ:Nat->Nat}{ρ':Nat->Nat}{K:KT}{op:Op}{caps:List V}{args':List V}{KV:V->St->Prop}{ms:List Nat}{l:List V}
theorem xJ2 (t s:Nat) (rows:List (List V)) {Q:QT} {y:Code} (h0:0<s) (hu:uni s rows) (ht:e t= .sl .full rows) (hy:wVW P c nt y Q fx fx (upd e t (.sl (.app σ.length) rows)) (σ++ [.app rows.length s])):wVW P c nt y Q fx fx e σ:=by
 intro a w L β hs
 have hr:=hs.env t
 rw[ht]at hr
 have hr:RdP w L (.sl .full rows) (a.tmps.getD t undef):=hr
 obtain⟨ad,hx,ab⟩: ∃ad,a.tmps.getD t undef= .slice ad rows.length rows.length/\RdP w L (.sl .ro rows) (.slice ad rows.length rows.length):=by
  generalize a.tmps.getD t undef=x at hr
  cases hr with
  |sl0 g ad cap hg ha=>have:=hg rfl;subst this;exact⟨ad,rfl,.sl0 .ro ad 0 (fun h=>by cases h) (fun _ h=>by cases h)⟩
  |sl g rows s b o cap c ha hs hlen hlim hcap hg hc hr=>have:=hg rfl;subst this;exact⟨_,rfl,.sl .ro rows s b o _ c (fun _ h=>by cases h) hs hlen hlim hcap (fun h=>by cases h) hc hr⟩
 have aa:=Ext.push σ β hs.mem.len (.app rows.length s) (.slice ad rows.length rows.length)
 refine hy a w L (β++ [.slice ad rows.length rows.length]) ⟨hs.mem.own h0,hs.size,hs.defs,fun k=> ?_⟩
 simp only[upd]
 split
 .rename_i hk
  subst hk
  rw[hx]
  exact⟨ab,rows.length,s,sm,A5 _,fun _=>by rw[<-hs.mem.len];simp,hu⟩
 .exact(hs.env k).mono (Le.refl _ _) aa
theorem xU7 (i j:Nat) {p:Ob} {args:List V} {R:V->St->Prop} (hc:VCalls P f args' [o,p] R) (hb:wB P f=true) (ad:i≠j) (ho:σ[i]? =some o) (hp:σ[j]? =some p) (hok:ltOb 0 o=true) (ae:ltOb 0 p=true)
  (ab:All2 (argS (ren [i,j] σ.length)) args' (args++caps)) (hR: ∀r s,R r s-> ∃o2 p2,s= [o2,p2]/\ltOb 0 o2=true/\ltOb 0 p2=true) (hK: ∀r o2 p2,R r [o2,p2]->KV (renS (ren [i,j] σ.length) r) ((σ.set i o2).set j p2)):wVC P c (.fn f caps) args σ KV fx:=by
 have aa: ∀q:Ob,ltOb 0 q=true->yF (ren [i,j] σ.length) q=q:=fun q h=>xT (n:=0) (fun _ h=>absurd h (Bc _)) h
 refine VC.of hc hb [i,j] (by simpa using ad) rfl (fun k l q h1 h2=> ?_) ab fun r s h _=> ?_
 .match k with
  |0=>simp at h1 h2;subst h1;subst h2;rw[aa _ hok];exact ho
  |1=>simp at h1 h2;subst h1;subst h2;rw[aa _ ae];exact hp
  |k+2=>simp at h1
 .obtain⟨o2,p2,rfl,h1,h2⟩:=hR r s h
  have e:xD [i,j] σ [o2,p2]=(σ.set i o2).set j p2:=by
   simp only[xD,Ag,Dp,C8,Dt,Dm,Bg,Aj,Bx,mset,Az,aa _ h1,aa _ h2]
  rw[e];exact hK r o2 p2 h
theorem zQ1 (pick:List Nat) {n0:Nat} {R:V->St->Prop} {s:St} {v r:V} (aa:pick.Nodup) (hn: ∀i,i<n0->pick[i]? =some i) (hlen:s.length=pick.length) (ab: ∀(i j:Nat) (o:Ob),pick[i]? =some j->s[i]? =some o->σ[j]? =some (yF (ren pick σ.length) o)) (hr:argS (ren pick σ.length) r v) (hR:R r s):wret (some v) n0 R σ:=
 ⟨v,rfl,v,σ,pick,s,r,.refl _ _,⟨hlen,aa,ab,hn⟩,hr,hR⟩
theorem VCalls.frz {args:List V} {v:V} {R:V->St->Prop} (h:VCalls P f args [] R) (hR: ∀r s,R r s-> ∃r' s',Frz [r] s [r'] s'/\argS (ren [] s'.length) v r'):Pure P f args v:=by
 intro w L β aa hm ha
 refine(h w L β aa hm ha).mono ?_
 rintro e w' ⟨x,r,L',σ',β',he,hr,hl,ad,ae⟩
 obtain⟨r',s',hf,hv⟩:=hR r σ' hr
 obtain⟨L2,β2,ab,ai,af,ag⟩:=hf.ok ad (show All2 (RdS w' L' σ' β') [r] [x] from⟨ae,tV⟩)
 have hβ:β.length=([]:St).length:=hm.len
 have hp:Picks (entry w L [] β).σ0.length [] s' []:=⟨rfl,D9,fun i j o q=>by simp at q,fun i q=>absurd q (Bc i)⟩
 have ah:=ab.pick hp hβ
 refine⟨x,v,L2,[],[],he,⟨rfl,rfl⟩,A5 _,ah, ?_⟩
 exact zx1 (hp.bak ab.len) hv ag.1
structure Front (k:Nat) (τ s σ':St) (pick:List Nat):Prop where
 picks:Picks 0 pick σ' (s++τ)
 first: ∀i,i<k->pick[i]? =some i
 rest: ∀i,i<τ.length->pick[s.length+i]? =some (k+i)
theorem Front.ren1 {s:St} {pick:List Nat} (h:Front k τ s σ' pick) {M i:Nat} (hi:i<k):ren pick M i=i:=by
 have h1:=h.first i hi
 obtain⟨hl,e⟩:=A3.1 h1
 unfold ren;rw[dif_pos hl];exact e
theorem Front.ren2 {s:St} {pick:List Nat} (h:Front k τ s σ' pick) {M i:Nat} (hi:i<τ.length):ren pick M (s.length+i)=k+i:=by
 have h1:=h.rest i hi
 obtain⟨hl,e⟩:=A3.1 h1
 unfold ren;rw[dif_pos hl];exact e
theorem yh4 (h:n<=m) {v:V} (hv:ltK n v=true):ltK m v=true:=by
 cases v with
 |sl g rows=>cases g<;>simp_all[ltK]<;>omega
 |_=>simp_all[ltK]<;>omega
theorem zS0 (h:n<=m) {v:V} (hv:ltC n v=true):ltC m v=true:=by
 cases v with
 |fn f caps=>
  simp only[ltC,Af]at hv⊢
  exact fun x hx=>yh4 h (hv x hx)
 |ifc t v=>
  simp only[ltC,Af]at hv⊢
  exact fun x hx=>yh4 h (hv x hx)
 |_=>simp only[ltC]at hv⊢;exact yh4 h hv
theorem yL8 (h:n<=m) {v:V} (hv:ltA n v=true):ltA m v=true:=by
 cases v with
 |agg cs=>
  simp only[ltA,Af]at hv⊢
  exact fun x hx=>zS0 h (hv x hx)
 |_=>simp only[ltA]at hv⊢;exact zS0 h hv
theorem zW5 (h:n<=m) (ho:ltOb n o=true):ltOb m o=true:=by
 cases o with
 |box cells=>simp only[ltOb,Af]at ho⊢;exact fun x hx=>zS0 h (ho x hx)
 |lst rows s=>simp only[ltOb,Af]at ho⊢;exact fun r hr x hx=>zS0 h (ho r hr x hx)
 |mp kvs borns clk=>simp only[ltOb,Af]at ho⊢;exact fun x hx=>yL8 h (ho x hx)
 |it m' since seen last=>cases m' with
  |none=>rfl
  |some i=>simp only[ltOb,decide_eq_true_eq]at ho⊢;omega
 |_=>rfl
theorem zP3 {v:V} (h: ∀i,i<n->ρ i=ρ' i) (hv:ltK n v=true):renK ρ v=renK ρ' v:=by
 cases v with
 |sl g rows=>cases g<;>simp_all[renK,ltK]
 |_=>simp_all[renK,ltK]
theorem zE9 {v:V} (h: ∀i,i<n->ρ i=ρ' i) (hv:ltC n v=true):renC ρ v=renC ρ' v:=by
 cases v with
 |fn f caps=>
  simp only[ltC,Af]at hv
  simp only[renC]
  congr 1
  exact B6 fun x hx=>zP3 h (hv x hx)
 |ifc t v=>
  simp only[ltC,Af]at hv
  simp only[renC]
  congr 1
  exact B6 fun x hx=>zP3 h (hv x hx)
 |_=>simp only[renC];exact zP3 (n:=n) h (by simpa only[ltC]using hv)
theorem yX9 {v:V} (h: ∀i,i<n->ρ i=ρ' i) (hv:ltA n v=true):renA ρ v=renA ρ' v:=by
 cases v with
 |agg cs=>
  simp only[ltA,Af]at hv
  simp only[renA]
  congr 1
  exact B6 fun x hx=>zE9 h (hv x hx)
 |_=>simp only[renA];exact zE9 (n:=n) h (by simpa only[ltA]using hv)
theorem zZ7 (h: ∀i,i<n->ρ i=ρ' i) (ho:ltOb n o=true):yF ρ o=yF ρ' o:=by
 cases o with
 |box cells=>
  simp only[ltOb,Af]at ho
  simp only[yF]
  congr 1
  exact B6 fun x hx=>zE9 h (ho x hx)
 |lst rows s=>
  simp only[ltOb,Af]at ho
  simp only[yF]
  congr 1
  exact B6 fun r hr=>B6 fun x hx=>zE9 h (ho r hr x hx)
 |mp kvs borns clk=>
  simp only[ltOb,Af]at ho
  simp only[yF]
  congr 1
  exact B6 fun x hx=>yX9 h (ho x hx)
 |it m since seen last=>
  cases m with
  |none=>rfl
  |some i=>simp only[ltOb,decide_eq_true_eq]at ho;simp[yF,h i ho]
 |_=>rfl
theorem zM4 {args:List V} {σin:St} {R:V->St->Prop} (hc:VCalls P f args' σin R) (hb:wB P f=true) (ak:σin.all (ltOb σin.length)=true) (hτ:τ.all (ltOb 0)=true)
  (ae:All2 (argS (ren (List.range σin.length) (σin.length+τ.length))) args' (args++caps))
  (hR: ∀r s,R r s->noS r=true/\s.all (ltOb s.length)=true)
  (hk: ∀r s,R r s->σin.length<=s.length-> ∀σ' pick,Front σin.length τ s σ' pick->KV r σ'):wVC P c (.fn f caps) args (σin++τ) KV fx:=by
 have al:(σin++τ).length=σin.length+τ.length:=Ak
 refine VC.of hc hb (List.range σin.length) Bm sm (fun i j o h1 h2=> ?_) (by rw[al];exact ae) fun r s hr hl=> ?_
 .obtain⟨h3,h4⟩:=A3.1 h1
  simp at h3 h4
  subst h4
  rw[Ah h3,h2]
  have ho:ltOb σin.length o=true:=by
   rw[Af]at ak
   exact ak o (Aq.2 ⟨i,h2⟩)
  rw[xT (n:=σin.length) (fun i hi=>zb2 hi) ho]
 .obtain⟨aq,hs⟩:=hR r s hr
  rw[zy9 aq]
  rw[Cc]at hl
  obtain⟨k,af⟩:=eX σin.length
  rw[af]at hl hk⊢
  obtain⟨σ',ab⟩: ∃σ',xD (List.range k) (σin++τ) s=σ':=⟨_,rfl⟩
  rw[ab]
  have ag:(σin++τ).length=k+τ.length:=by rw[al,af]
  have au:σ'.length=s.length+τ.length:=by
   rw[<-ab,zn2,ag,Cc];omega
  have hold: ∀i o,s[i]? =some o->σ'[if i<k then i else i+τ.length]? =some (yF (ren (List.range k) (k+τ.length)) o):=fun i o ho=>by
   have:=zp0 (sel:=List.range k) (σc:=σin++τ) (σ':=s) Bm (fun q hq=>by have:=C3.1 hq;omega) (by simpa using hl) ho
   rw[ab,ag]at this
   by_cases hi:i<k
   .rw[if_pos hi];rwa [zb2 hi]at this
   .rw[if_neg hi]
    rw[zp3 (by simp;omega),Cc]at this
    rw[show i+τ.length=k+τ.length+(i - k) by omega];exact this
  have ah: ∀i,i<τ.length->σ'[k+i]? =τ[i]? :=fun i hi=>by
   rw[<-ab]
   unfold xD
   rw[Ah (by rw[wZ,ag];omega),zh6 _ _ _ _ (fun q=>by have:=C3.1 q;omega),Am om,af]
   congr 1;omega
  refine hk r s hr hl σ' (List.range k++(List.range (s.length - k)).map (k+τ.length+ ·)++(List.range τ.length).map (k+ ·)) ?_
  obtain⟨pick,hp⟩:=eX (List.range k++(List.range (s.length - k)).map (k+τ.length+ ·)++(List.range τ.length).map (k+ ·))
  rw[hp]
  have ar:pick.length=s.length+τ.length:=by rw[<-hp];simp;omega
  have ai: ∀i,i<k->pick[i]? =some i:=fun i hi=>by
   rw[<-hp,Cy,Ah (by simpa using hi),C4 hi]
  have an: ∀i,k<=i->i<s.length->pick[i]? =some (i+τ.length):=fun i h1 h2=>by
   rw[<-hp,Ah (by simp;omega),Am (by simpa using h1),Cc,B2,C4 om,B8]
   congr 1;omega
  have ao: ∀i,i<τ.length->pick[s.length+i]? =some (k+i):=fun i hi=>by
   rw[<-hp,Am (by simp;omega)]
   simp only[Ak,Cc,B1]
   rw[show s.length+i - (k+(s.length - k))=i by omega,B2,C4 hi,B8]
  have hρ: ∀i,i<s.length->ren pick σ'.length i=ren (List.range k) (k+τ.length) i:=fun i hi=>by
   have aa:i<pick.length:=om
   unfold ren
   rw[dif_pos aa]
   by_cases h1:i<k
   .rw[dif_pos (by simpa using h1)]
    have:=ai i h1
    rw[A0 aa]at this
    simp[Option.some.inj this]
   .rw[dif_neg (by simpa using h1)]
    have:=an i om hi
    rw[A0 aa]at this
    rw[Option.some.inj this,Cc]
    omega
  refine⟨⟨by rw[Ak,ar], ?_,fun i j o ad ho=> ?_,fun i hi=>absurd hi (Bc i)⟩,ai,ao⟩
  .rw[<-hp]
   refine Co.2 ⟨Co.2 ⟨Bm, ?_,fun a ha b hb=> ?_⟩, ?_,fun a ha b hb=> ?_⟩
   .exact List.Pairwise.map _ (fun a b q=>om) (Bm (n:=_))
   .simp at ha hb;omega
   .exact List.Pairwise.map _ (fun a b q=>om) (Bm (n:=_))
   .simp only[Av,C3,Ac]at ha hb
    obtain⟨b',av,rfl⟩:=hb
    rcases ha with ha|⟨a',aw,rfl⟩<;>omega
  .by_cases hi:i<s.length
   .rw[Ah hi]at ho
    have h1:=hold i o ho
    have h2:pick[i]? =some (if i<k then i else i+τ.length):=by
     by_cases q:i<k
     .rw[if_pos q];exact ai i q
     .rw[if_neg q];exact an i om hi
    rw[h2]at ad;cases ad
    rw[h1]
    congr 1
    have aj:ltOb s.length o=true:=by
     rw[Af]at hs
     exact hs o (Aq.2 ⟨i,ho⟩)
    exact(zZ7 hρ aj).symm
   .rw[Am om]at ho
    have aa:=(A3.1 ho).1
    have h2:=ao (i - s.length) aa
    rw[show s.length+(i - s.length)=i by omega]at h2
    rw[h2]at ad;cases ad
    rw[ah _ aa,ho]
    have aj:ltOb 0 o=true:=by
     rw[Af]at hτ
     exact hτ o (Aq.2 ⟨_,ho⟩)
    rw[xT (n:=0) (fun _ h=>absurd h (Bc _)) aj]
theorem yG6 {s:St} {pick keep:List Nat} {vs:List V} (h:Front k τ s σ' pick) (ha:All2 (argS (ren pick σ'.length)) vs (keep.map e)):At 0 keep vs (s++τ) e σ':=⟨pick,h.picks,ha⟩
theorem yl8 {n0:Nat} {s:St} {pick:List Nat} {R:V->St->Prop} {v:V} (h:Front k τ s σ' pick) (hn:n0<=k) (hs:s.all (ltOb s.length)=true) (ad:k<=s.length) (hv:noS v=true) (hR:R v s):wret (some v) n0 R σ':=by
 have ae:pick.length=s.length+τ.length:=by rw[<-h.picks.len,Ak]
 refine zQ1 (pick.take s.length) ?_ (fun i hi=> ?_) (by simp;omega) (fun i j o aa ho=> ?_) (zC hv) hR
 .exact h.picks.nodup.sublist (List.take_sublist _ _)
 .rw[Ai,if_pos om];exact h.first i om
 .have hi:=(A3.1 ho).1
  rw[Ai,if_pos hi]at aa
  rw[h.picks.ob i j o aa (by rw[Ah hi];exact ho)]
  congr 1
  have ab:ltOb s.length o=true:=by
   rw[Af]at hs
   exact hs o (Aq.2 ⟨i,ho⟩)
  refine zZ7 (fun q hq=> ?_) ab
  unfold ren
  rw[dif_pos om,dif_pos (by simp;omega)]
  simp
theorem xU8 {args:List V} {o2:Ob} {v:V} (hc:VCalls P f args' [o] (fun r s=>r=v/\s= [o2])) (hb:wB P f=true) (ho:σ[0]? =some o) (ae:ltOb 0 o=true) (ab:ltOb 0 o2=true)
  (aa:All2 (argS (ren [0] σ.length)) args' (args++caps)) (hn:noS v=true) (hk:KV v (σ.set 0 o2)):wVD P c ⟨1,n,[],none⟩ 3 (.fn f caps) args σ KV fx:=by
 have ad: ∀q:Ob,ltOb 0 q=true->yF (ren [0] σ.length) q=q:=fun q h=>xT (n:=0) (fun _ h=>absurd h (Bc _)) h
 have e:xD [0] σ [o2]=σ.set 0 o2:=by
  simp only[xD,Bn,C8,Dt,Dm,Bg,Aj,Bx,mset,Az,ad _ ab]
 refine yS4 hc hb [0] sm rfl (fun i j q h1 h2=> ?_) aa (.inr ?_) ?_
 .match i with
  |0=>simp at h1 h2;subst h1;subst h2;rw[ad _ ae];exact ho
  |i+1=>simp at h1
 .rw[e];exact Kp.of_set (.inl ⟨Nat.zero_lt_one,rfl⟩)
 .rw[e,zy9 hn];exact hk
def yN (b:Bool):R->Prop
 | .need p _=>b=true->p
 | .needst p _ _=>b=true->p
 |_=>True
def uniB (s:Nat) (rows:List (List V)):Bool:=rows.all fun r=>r.length==s
theorem zn9 {s:Nat} {rows:List (List V)} (h:uniB s rows=true):uni s rows:=fun r hr=>by
 have:=Af.1 h r hr
 simpa using this
def xv0:List V->Bool
 | [.int .u8 _]=>true
 |_=>false
theorem xv1 {rows:List (List V)} (h:rows.all xv0=true):zR6 rows:=fun r hr=>by
 have:=Af.1 h r hr
 unfold xv0 at this
 split at this
 .exact⟨_,rfl⟩
 .cases this
def yb9 (op:BinOp) (y:Int):Bool:=
 match op with
 | .quo| .rem=>decide (y≠0)
 | .shl| .shr=>decide (0<=y)
 |_=>true
def yD9 (op:BinOp) (x y:List UInt8):Bool:=
 match op with
 | .add=>decide (x.length+y.length<=9223372036854775807)
 |_=>true
def binB (op:BinOp) (x y:V):Bool:=
 match x,y with
 | .int _ _,.int _ b=>yb9 op b
 | .str a,.str b=>yD9 op a b
 |_,_=>true
theorem yL0 (op:BinOp) (k:IntKind) (x y:Int):yN (yb9 op y) (zO4 op k x y):=by
 cases op<;>simp[zO4,yb9,yN]
theorem yQ8 (op:BinOp) (x y:List UInt8):yN (yD9 op x y) (zP8 op x y):=by
 cases op<;>simp[zP8,yD9,yN]
theorem xu4 (op:BinOp) (ek:Nat) (es:Option (List Pk)) (x y:V):yN (binB op x y) (zs6 op ek es x y):=by
 unfold zs6
 split
 .simp only[binB]
  split
  .exact yL0 ..
  .cases op<;>simp[yb9,yN]
 .exact yQ8 ..
 all_goals (repeat' split)<;>trivial
theorem yW5 (op:BinOp) (ek:Nat) (x:V) (b:Bool):yN b (zt6 op ek x):=by
 unfold zt6 yN4
 (repeat' split)<;>trivial
def yg4 (sl:Option Nat) (ar:Option (Nat×Nat×Bool)) (x i:V):Bool:=
 match x,i with
 | .sl _ rows,.int _ k=>(match sl with|some s=>decide (0<=k/\k<rows.length/\(rows.getD k.toNat []).length=s)|none=>true)
 | .ptr _ _,.int _ k=>(match ar with|some (n,_,_)=>decide (0<=k/\k<n)|none=>true)
 | .elp _ _,.int _ k=>(match ar with|some (n,_,_)=>decide (0<=k/\k<n)|none=>true)
 | .lsv _ _ _ _ m,.int _ k=>decide (0<=k/\k<m)
 | .bsv _ _ _ n,.int _ k=>decide (0<=k/\k<n)
 |_,_=>true
theorem yA7 (sl:Option Nat) (ar:Option (Nat×Nat×Bool)) (x i:V):yN (yg4 sl ar x i) (zi1 sl ar x i):=by
 unfold zi1
 split
 all_goals first|trivial|simp only[yg4]
 all_goals split<;>first|trivial|simp only[yN,decide_eq_true_eq,imp_self]
def idxB (x i:V) (ar:Option (Nat×Nat×Bool)):Bool:=
 match x,i with
 | .str b,.int _ k=>decide (0<=k/\k<b.length)
 | .agg cs,.int _ k=>(match ar with|some (n,s,false)=>decide (0<=k/\k<n/\(k.toNat*s)<cs.length)|_=>true)
 |_,_=>true
theorem xA0 (x i:V) (str:Bool) (ar:Option (Nat×Nat×Bool)):yN (idxB x i ar) (zR1 x i str ar):=by
 unfold zR1
 split
 .simp only[idxB]
  split<;>first|trivial|simp only[yN,decide_eq_true_eq,imp_self]
 .split
  .simp only[idxB,yN,decide_eq_true_eq,imp_self]
  .trivial
 .trivial
def yj9 (es:Option Nat) (x:V) (lo hi:Option V):Bool:=
 match x with
 | .lsv _ s n l0 m=>(match bnd lo 0,bnd hi m,es with|some l,some h,some z=>decide (0<=l/\l<=h/\(h<=m∨(l0:Int)+h<=n)/\z=s)|_,_,_=>true)
 | .str s=>(match bnd lo 0,bnd hi s.length with|some l,some h=>decide (0<=l/\l<=h/\h<=s.length)|_,_=>true)
 | .sl _ rows=>(match bnd lo 0,bnd hi rows.length,es with|some l,some h,some z=>decide (0<=l/\l<=h/\h<=rows.length)&&uniB z rows|_,_,_=>true)
 |_=>true
theorem yZ1 (ar:Option (Nat×Nat×Bool)) (k:Nat) (es:Option Nat) (x:V) (lo hi:Option V):yN (yj9 es x lo hi) (zm9 ar k es x lo hi):=by
 unfold zm9
 split
 .split
  .rename_i h1 h2
   split
   .simp only[yj9,h1,h2,yN,decide_eq_true_eq,imp_self]
   .trivial
  .trivial
 .split<;>trivial
 .split
  .rename_i h1 h2
   split
   .simp only[yj9,h1,h2,yN,decide_eq_true_eq,imp_self]
   .trivial
  .trivial
 .split
  .rename_i h1 h2
   split
   .simp only[yj9,h1,h2,yN,A6,decide_eq_true_eq]
    exact fun h=>⟨h.1.1,h.1.2.1,h.1.2.2,zn9 h.2⟩
   .trivial
  .trivial
 .trivial
def yc8 (es:Option Nat) (x lo hi mx:V):Bool:=
 match x,lo,hi,mx,es with
 | .sl _ rows,.int _ l,.int _ h,.int _ m,some z=>decide (0<=l/\l<=h/\h<=rows.length/\m=h)&&uniB z rows
 | .lsv _ s _ _ n,.int _ l,.int _ h,.int _ m,some z=>decide (0<=l/\l<=h/\h<=m/\m<=n/\z=s)
 |_,_,_,_,_=>true
theorem yQ4 (es:Option Nat) (x lo hi mx:V):yN (yc8 es x lo hi mx) (zq4 es x lo hi mx):=by
 unfold zq4
 split
 .simp only[yc8,yN,A6,decide_eq_true_eq]
  exact fun h=>⟨h.1.1,h.1.2.1,h.1.2.2.1,h.1.2.2.2,zn9 h.2⟩
 .simp only[yc8,yN,decide_eq_true_eq,imp_self]
 .trivial
def xW1 (x:V):Bool:=
 match x with
 | .sl _ rows=>rows.all xv0
 |_=>true
theorem xl8 (ks kd:Option Kd) (x:V):yN (xW1 x) (zD3 ks kd x):=by
 unfold zD3
 split
 .split<;>trivial
 .split<;>trivial
 .split<;>trivial
 .split
  .exact xv1
  .trivial
 .trivial
def yL9 (el:Option (Nat×Nat)) (l m:V):Bool:=
 match el,l,m with
 |some (_,by'),.int .i64 n,.int .i64 k=>decide (0<=n/\n<=k/\k.toNat*by'<=140737488355328)
 |_,_,_=>false
theorem xo2 (el:Option (Nat×Nat)) (zs:Option (List V)) (σ:St) (l m:V):yN (yL9 el l m) (zD5 el zs σ l m):=by
 unfold zD5
 split
 .simp only[yL9,yN,decide_eq_true_eq,imp_self]
 .trivial
theorem yV8 (el:Option (Nat×Nat)) (zs:Option (List V)) (σ:St) (l m:V):yN (yL9 el l m) (zt5 el zs σ l m):=by
 unfold zt5
 split
 .simp only[yL9,yN,decide_eq_true_eq,imp_self]
 .trivial
def yT9 (sl:Option Nat) (σ:St) (x:V):Bool:=
 match x with
 | .lsv id s n lo m=>(match σ[id]? with|some (.lst rows s')=>decide (sl=some s/\s'=s/\rows.length=n/\lo+m<=n)|_=>true)
 |_=>true
theorem yU0 (sl:Option Nat) (zs:Option (List V)) (σ:St) (x:V):yN (yT9 sl σ x) (zt4 sl zs σ x):=by
 unfold zt4
 split
 .split
  .rename_i h1
   simp only[yT9,h1,yN,decide_eq_true_eq,imp_self]
  .trivial
 .trivial
def srcB (σ:St):V->Bool
 | .lsv id s n lo m=>(match σ[id]? with|some (.lst rows s')=>decide (s'=s/\rows.length=n/\lo+m<=n)&&xM ((rows.drop lo).take m)|_=>false)
 |_=>true
theorem zT0 {y:V} (h:srcB σ y=true):zn8 σ y:=by
 unfold zn8
 split
 .simp only[srcB]at h
  split at h
  .rename_i h1
   rw[h1]
   simp only[A6,decide_eq_true_eq]at h
   exact⟨h.1.1,h.1.2.1,h.1.2.2,h.2⟩
  .cases h
 .trivial
def zK6 (el:Option (Nat×Nat)) (k2:Nat) (σ:St) (x y:V):Bool:=
 match el,zF3 k2 σ y with
 |some (s,by'),some r2=>
  (match x with
  | .sl .full r1=>srcB σ y&&decide ((r1.length+r2.length)*by'<=140737488355328)&&uniB s r1&&uniB s r2
  | .sl (.app id) r1=>(match σ[id]? with
   |some (.app n s')=>srcB σ y&&decide (r1.length=n/\s'=s/\(r1.length+r2.length)*by'<=140737488355328)&&uniB s r2
   |_=>true)
  | .lsv id s1 n lo m=>(match σ[id]? with
   |some (.lst rows s')=>srcB σ y&&decide (s1=s/\s'=s/\rows.length=n)&&uniB s r2&&(decide (lo+m+r2.length<=n)||decide (lo=0/\m=n/\(n+r2.length)*by'<=140737488355328))
   |_=>true)
  |_=>true)
 |_,_=>true
theorem yG4 (el:Option (Nat×Nat)) (k2:Nat) (σ:St) (x y:V):yN (zK6 el k2 σ x y) (zg9 el k2 σ x y):=by
 unfold zg9
 split
 .rename_i h2
  split
  .simp only[zK6,h2,yN,A6,decide_eq_true_eq]
   exact fun h=>⟨zT0 h.1.1.1,h.1.1.2,zn9 h.1.2,zn9 h.2⟩
  .split
   .rename_i h3
    simp only[zK6,h2,h3,yN,A6,decide_eq_true_eq]
    exact fun h=>⟨zT0 h.1.1,h.1.2.1,h.1.2.2.1,h.1.2.2.2,zn9 h.2⟩
   .trivial
  .split
   .rename_i h3
    split
    .simp only[zK6,h2,h3,yN,A6,decide_eq_true_eq]
     exact fun h=>⟨zT0 h.1.1.1,h.1.1.2.1,h.1.1.2.2.1,h.1.1.2.2.2,zn9 h.1.2⟩
    .rename_i aa
     simp only[zK6,h2,h3,yN,A6,Bv,decide_eq_true_eq]
     exact fun h=>⟨zT0 h.1.1.1,h.1.1.2.1,h.1.1.2.2.1,h.1.1.2.2.2,zn9 h.1.2,(h.2.resolve_left aa)⟩
   .trivial
  .trivial
 .trivial
def xG7 (σ:St):V->Bool
 | .lsv id s n lo m=>(match σ[id]? with|some (.lst rows s')=>decide (s'=s/\rows.length=n/\lo+m<=n)|_=>false)
 |_=>true
theorem yQ6 {y:V} (h:xG7 σ y=true):zw3 σ y:=by
 unfold zw3
 split
 .simp only[xG7]at h
  split at h
  .rename_i h1
   rw[h1]
   exact of_decide_eq_true h
  .cases h
 .trivial
def zG8 (el:Option (Nat×Nat)) (k2:Nat) (σ:St) (x y:V):Bool:=
 match x with
 | .lsv id s1 n lo m=>(match el,zJ6 k2 σ y with
  |some (s,by'),some r2=>(match σ[id]? with
   |some (.lst rows s')=>xG7 σ y&&decide (s1=s/\s'=s/\rows.length=n)&&uniB s r2&&(decide (lo+m+r2.length<=n)||decide (lo=0/\m=n/\(n+r2.length)*by'<=140737488355328))
   |_=>true)
  |_,_=>true)
 |x=>match el,zF3 k2 σ y with
 |some (s,by'),some r2=>
  (match x with
  | .sl .full r1=>srcB σ y&&decide ((r1.length+r2.length)*by'<=140737488355328)&&uniB s r1&&uniB s r2&&(!r2.isEmpty||r1.isEmpty)
  |_=>true)
 |_,_=>true
theorem yx3 (el:Option (Nat×Nat)) (k2:Nat) (σ:St) (x y:V):yN (zG8 el k2 σ x y) (ze0 el k2 σ x y):=by
 unfold ze0
 split
 .split
  .rename_i h2
   split
   .rename_i h3
    split
    .simp only[zG8,h2,h3,yN,A6,decide_eq_true_eq]
     exact fun h=>⟨yQ6 h.1.1.1,h.1.1.2.1,h.1.1.2.2.1,h.1.1.2.2.2,zn9 h.1.2⟩
    .rename_i aa
     simp only[zG8,h2,h3,yN,A6,Bv,decide_eq_true_eq]
     exact fun h=>⟨yQ6 h.1.1.1,h.1.1.2.1,h.1.1.2.2.1,h.1.1.2.2.2,zn9 h.1.2,(h.2.resolve_left aa)⟩
   .trivial
  .trivial
 .split
  .rename_i h2
   split
   .simp only[zG8,h2,yN,A6,decide_eq_true_eq]
    refine fun h=>⟨zT0 h.1.1.1.1,h.1.1.1.2,zn9 h.1.1.2,zn9 h.1.2,fun e=> ?_⟩
    have:=h.2
    rw[e]at this
    simpa using this
   .trivial
  .trivial
def zq1 (L:Bool) (es:Option Nat) (len:Nat) (parts:List (Nat×V)):Bool:=
 match es with
 |some s=>(parts.all fun p=>(L||zN6 p.2)&&(xI p.2).length==s)&&decide (len*s<=16777216/\0<s)
 |none=>true
theorem yb0 (es:Option Nat) (len:Nat) (parts:List (Nat×V)):yN (zq1 false es len parts) (zb0 es len parts):=by
 unfold zb0
 split
 .split
  .simp only[zq1,yN,A6,decide_eq_true_eq,Af,Cb,beq_iff_eq]
   exact fun h=>⟨fun p hp=>h.1 p hp,h.2⟩
  .trivial
 .trivial
theorem zU8 (es:Option Nat) (len:Nat) (σ:St) (parts:List (Nat×V)):yN (zq1 true es len parts) (wU es len σ parts):=by
 unfold wU
 split
 .split
  .simp only[zq1,yN,A6,decide_eq_true_eq,Af,Dx,beq_iff_eq]
   exact fun h=>⟨fun p hp=>(h.1 p hp).2,h.2⟩
  .trivial
 .trivial
def yh9 (P:Program) (L:Bool) (e:Env) (σ:St):Op->Bool
 | .buildSlice t n ps=>zq1 L ((elT P t).map (·.1)) n (ps.toList.map fun p=>(p.1,zD e p.2))
 | .binOp op _ x y _=>binB op (zD e x) (zD e y)
 | .convert _ _ x=>xW1 (zD e x)
 | .slice t x lo hi none=>if L then false else yj9 ((elT P t).map (·.1)) (zD e x) (lo.map (zD e)) (hi.map (zD e))
 | .slice t x (some lo) (some hi) (some mx)=>yc8 ((elT P t).map (·.1)) (zD e x) (zD e lo) (zD e hi) (zD e mx)
 | .indexAddr t x i=>yg4 (slcT P t) (arrT P t) (zD e x) (zD e i)
 | .index t x i=>idxB (zD e x) (zD e i) (arrT P t)
 | .makeSlice t l m=>yL9 (elT P t) (zD e l) (zD e m)
 | .call ⟨.builtin .append,⟨[x,y]⟩,⟨[t,t']⟩⟩=>if L then zG8 (elT P t) (lenT P t') σ (zD e x) (zD e y)else zK6 (elT P t) (lenT P t') σ (zD e x) (zD e y)
 | .call ⟨.builtin .clear,⟨[x]⟩,⟨[t]⟩⟩=>yT9 ((elT P t).map (·.1)) σ (zD e x)
 |_=>true
def wh1:R->Bool
 | .need _ _| .needst _ _ _=>false
 |_=>true
theorem yT {b:Bool} {r:R} (h:wh1 r=true):yN b r:=by
 cases r<;>first|trivial|cases h
theorem zV4 (op:Op):yN (yh9 P false e σ op) (evOp P e σ op):=by
 unfold evOp
 split
 .trivial
 .trivial
 .refine yT ?_;unfold zH4;(repeat' split)<;>rfl
 .refine yT ?_;unfold zl1;(repeat' split)<;>rfl
 .refine yT ?_;unfold zR0;(repeat' split)<;>rfl
 .refine yT ?_;unfold zx4;(repeat' split)<;>rfl
 .exact yb0 ..
 .refine yT ?_;unfold zh0;(repeat' split)<;>first|rfl|(unfold zl2;(repeat' split)<;>rfl)
 .refine yT ?_;unfold zt7;(repeat' split)<;>rfl
 .refine yT ?_;unfold zZ0;(repeat' split)<;>rfl
 .split
  .exact yW5 ..
  .split
   .refine yT ?_;unfold zq3;(repeat' split)<;>rfl
   .exact xu4 ..
 .refine yT ?_;unfold evUn;(repeat' split)<;>rfl
 .exact xl8 ..
 .exact yZ1 ..
 .exact yQ4 ..
 .refine yT ?_;unfold ze3;(repeat' split)<;>rfl
 .refine yT ?_;unfold zx6;(repeat' split)<;>rfl
 .exact yA7 ..
 .exact xA0 ..
 .refine yT ?_;unfold zm1;(repeat' split)<;>rfl
 .refine yT ?_;unfold zH3;(repeat' split)<;>rfl
 .exact xo2 ..
 .refine yT ?_;unfold zY9;(repeat' split)<;>rfl
 .exact yG4 ..
 .exact yU0 ..
 .refine yT ?_;unfold zA6;(repeat' split)<;>rfl
 .refine yT ?_;unfold zA6;(repeat' split)<;>rfl
 .refine yT ?_;unfold zq2;(repeat' split)<;>rfl
 .refine yT ?_;unfold zm2;(repeat' split)<;>rfl
 .refine yT ?_;unfold xR;(repeat' split)<;>rfl
 .refine yT ?_;unfold xO;(repeat' split)<;>rfl
 .refine yT ?_;unfold xO;(repeat' split)<;>rfl
 .refine yT ?_;unfold xU;(repeat' split)<;>rfl
 .refine yT ?_;unfold xL;(repeat' split)<;>rfl
 .refine yT ?_;unfold zx7;(repeat' split)<;>rfl
 .refine yT ?_;unfold zi0;(repeat' split)<;>rfl
 .refine yT ?_;unfold zY8;(repeat' split)<;>rfl
 .refine yT ?_;unfold zh1;(repeat' split)<;>rfl
 .trivial
theorem yU5 (op:Op):yN (yh9 P false e σ op&&yh9 P true e σ op) (wX P e σ op):=by
 have weak: ∀{b c:Bool} {r:R},yN b r->yN (c&&b) r:=by
  intro b c r h
  cases r with
  |need p v=>exact fun q=>h (by simp at q;exact q.2)
  |needst p v s=>exact fun q=>h (by simp at q;exact q.2)
  |_=>trivial
 have aa: ∀{b c:Bool} {r:R},yN b r->yN (b&&c) r:=by
  intro b c r h
  cases r with
  |need p v=>exact fun q=>h (by simp at q;exact q.1)
  |needst p v s=>exact fun q=>h (by simp at q;exact q.1)
  |_=>trivial
 unfold wX
 split
 .exact weak (zU8 ..)
 .exact weak (yV8 ..)
 .refine yT ?_;unfold zx5;(repeat' split)<;>rfl
 .refine weak (b:=false) ?_;unfold zq5;(repeat' split)<;>first|trivial|exact fun q=>by cases q
 .exact weak (yx3 ..)
 .refine yT ?_;unfold zh1;(repeat' split)<;>rfl
 .exact aa (zV4 op)
def xopR (b:Bool) (σ:St):R->Option (V×St)
 | .ok v=>some (v,σ)
 | .need _ v=>if b then some (v,σ)else none
 | .st v σ'=>some (v,σ')
 | .needst _ v σ'=>if b then some (v,σ')else none
 |_=>none
def xop (P:Program) (d:Option Tmp) (e:Env) (σ:St) (op:Op):Option (V×St):=
 if zd3 e d then xopR (yh9 P false e σ op&&yh9 P true e σ op) σ (wX P e σ op)else xopR (yh9 P false e σ op) σ (evOp P e σ op)
theorem ym2 {b:Bool} {r:R} {v:V} (hn:yN b r) (h:xopR b σ r=some (v,σ')) (hk:vput nt d v K e σ'):vfin nt d r K e σ:=by
 cases r with
 |fail=>cases h
 |ok v'=>cases h;exact hk
 |need p v'=>
  simp only[xopR]at h
  split at h
  .rename_i hb
   cases h;exact⟨hn hb,hk⟩
  .cases h
 |st v' s=>cases h;exact hk
 |needst p v' s=>
  simp only[xopR]at h
  split at h
  .rename_i hb
   cases h;exact⟨hn hb,hk⟩
  .cases h
 |all f=>cases h
 |any l=>cases h
theorem xV2 {v:V} (h:xop P d e σ op=some (v,σ')) (hk:vput nt d v K e σ'):vfin nt d (xP P d e σ op) K e σ:=by
 unfold xop at h
 unfold xP
 split at h
 .rename_i hh
  rw[if_pos hh]
  exact ym2 (yU5 op) h hk
 .rename_i hh
  rw[if_neg hh]
  exact ym2 (zV4 op) h hk
def envX (ms:List Nat) (l:List V):Env:=fun t=>if t<100000 then l.getD t .u else if ms.contains (t - 100000)then .tup []else .u
theorem xx1 {t:Nat} {v:V} (h:t<l.length) (hl:l.length<=100000):upd (envX ms l) t v=envX ms (l.set t v):=by
 funext k
 simp only[upd,envX]
 by_cases hk:k=t
 .subst hk
  rw[if_pos rfl,if_pos om,A7,Ba h];rfl
 .rw[if_neg hk]
  split
  .rw[A7,A7,Bu (fun q=>hk q.symm)]
  .rfl
def xput (d:Option Tmp) (v:V) (l:List V):Option (List V):=
 match d with
 |some t=>if t<l.length then some (l.set t v)else none
 |none=>some l
theorem yd9 {v:V} {l':List V} (h:xput d v l=some l') (hl:l.length<=100000):l'.length=l.length/\ ∀(K:KT) (σ:St),K (envX ms l') σ->vput l.length d v K (envX ms l) σ:=by
 unfold xput at h
 unfold vput
 split at h
 .split at h
  .rename_i ht
   cases h
   refine⟨sm,fun K σ hk=>⟨ht, ?_⟩⟩
   rw[xx1 ht hl];exact hk
  .cases h
 .cases h
  exact⟨rfl,fun K σ hk=>hk⟩
def xgd (g:Option (Nat×Bool)) (ops:List Oper) (e:Env):Option Bool:=
 match g with
 |none=>some true
 |some (j,want)=>(match gdst ops j with|some t=>(match e t with| .bool b=>some (b==want)| .tup []=>some false|_=>none)|none=>none)
theorem yF4 {g:Option (Nat×Bool)} {ops:List Oper} {A B:Prop} {r:Bool} (h:xgd g ops e=some r) (ha:r=true->A) (hb:r=false->B):vgd g ops e A B:=by
 unfold xgd at h
 unfold vgd
 split at h
 .cases h;exact ha rfl
 .split at h
  .rename_i t ht
   simp only[ht]
   unfold vgrd
   split at h
   .rename_i b he
    cases h
    rw[he]
    exact⟨fun q=>ha (by simp[q]),fun q=>hb (by simpa using q)⟩
   .rename_i he
    cases h
    rw[he]
    exact hb rfl
   .cases h
  .cases h
abbrev zi7:=V->List V->St->Option (V×St)
def zs1 (P:Program) (call:zi7):Prop:= ∀fv az σ v σ',call fv az σ=some (v,σ')-> ∀c,VC P c fv az σ (fun r s=>r=v/\s=σ')
def xopc (P:Program) (call:zi7) (d:Option Tmp) (e:Env) (σ:St) (op:Op):Option (V×St):=
 match op with
 | .call ⟨.value f,args,_⟩=>call (zD e f) (args.toList.map (zD e)) σ
 |op=>xop P d e σ op
theorem xV3 {call:zi7} (hc:zs1 P call) {v:V} (h:xopc P call d e σ op=some (v,σ')) (hk:vput nt d v K e σ'):vop P c nt d op K e σ:=by
 unfold xopc at h
 unfold vop
 split at h
 .refine(hc _ _ _ _ _ h c).mono ?_
  rintro r s ⟨rfl,rfl⟩
  exact hk
 .rename_i aa
  split
  .exact absurd rfl (aa _ _ _)
  .exact xV2 h hk
def yS9 (P:Program) (call:zi7) (ms:List Nat) (ops:List Oper):List Oper->List V->St->Option (List V×St)
 | [],l,σ=>some (l,σ)
 |o::rest,l,σ=>
  match xgd o.guard ops (envX ms l)with
  |none=>none
  |some true=>(match xopc P call o.dst (envX ms l) σ o.op with
   |some (v,σ')=>(match xput o.dst v l with|some l'=>yS9 P call ms ops rest l' σ'|none=>none)
   |none=>none)
  |some false=>(match xput o.dst (.tup []) l with|some l'=>yS9 P call ms ops rest l' σ|none=>none)
theorem zU4 {P:Program} {call:zi7} (hc:zs1 P call) {ms:List Nat} {ops:List Oper} {c:Ctx}: ∀(rest:List Oper) (l:List V) (σ:St) (l':List V) (σ':St),yS9 P call ms ops rest l σ=some (l',σ')->l.length<=100000->
  l'.length=l.length/\ ∀K:KT,K (envX ms l') σ'->vrun P c l.length ops rest K (envX ms l) σ
 | [],l,σ,l',σ',h,hl=>by cases h;exact⟨rfl,fun K hk=>hk⟩
 |o::rest,l,σ,l',σ',h,hl=>by
  unfold yS9 at h
  split at h
  .cases h
  .rename_i hg
   split at h
   .rename_i v s1 ho
    split at h
    .rename_i l1 hp
     obtain⟨e1,e2⟩:=yd9 (ms:=ms) hp hl
     obtain⟨e3,e4⟩:=zU4 hc (c:=c) rest l1 s1 l' σ' h om
     refine⟨om,fun K hk=> ?_⟩
     refine yF4 hg (fun _=> ?_) (fun q=>by cases q)
     refine xV3 hc ho (e2 _ _ ?_)
     have:=e4 K hk
     rwa [e1]at this
    .cases h
   .cases h
  .rename_i hg
   split at h
   .rename_i l1 hp
    obtain⟨e1,e2⟩:=yd9 (ms:=ms) hp hl
    obtain⟨e3,e4⟩:=zU4 hc (c:=c) rest l1 σ l' σ' h om
    refine⟨om,fun K hk=> ?_⟩
    refine yF4 hg (fun q=>by cases q) (fun _=> ?_)
    refine e2 _ _ ?_
    have:=e4 K hk
    rwa [e1]at this
   .cases h
def notL:Op->Bool
 | .buildSlice .. | .makeSlice .. | .convert .. | .call _| .next .. | .slice .. =>false
 |_=>true
theorem xQ3 (h:notL op=true): ∀e σ,wX P e σ op=evOp P e σ op:=by
 intro e σ
 cases op<;>first|rfl|cases h
def xf2 (n0:Kp) (e:Env):Op->Bool
 | .load _ x=>imm n0 (zD e x)
 |_=>false
def wg5:Op->Bool
 | .alloc _| .box .. =>true
 |_=>false
def xY2 (P:Program) (n0:Kp) (k:Nat) (d:Option Tmp) (e:Env) (σ:St) (op:Op):Bool:=
 (!zd3 e d||notL op)&&(k !=0||zd5 op==0)&&(k !=1||xf2 n0 e op)&&(!isSt (evOp P e σ op)||decide (3<=k))&&(k==4||(k==3&&wg5 op)|| !isSt (evOp P e σ op))
def xtop (P:Program) (call:zi7) (n0:Kp) (k:Nat) (d:Option Tmp) (e:Env) (σ:St) (op:Op):Option (V×St):=
 match op with
 | .call ⟨.value f,args,_⟩=>if k=0 then(match call (zD e f) (args.toList.map (zD e)) []with|some (v,_)=>if noS v&&noS (zD e f)&&(args.toList.map (zD e)).all noS then some (v,σ)else none|none=>none)
   else if k=4 then(match call (zD e f) (args.toList.map (zD e)) σ with|some (v,σ')=>if σ.length<=σ'.length then some (v,σ')else none|none=>none)
   else none
 |op=>if xY2 P n0 k d e σ op then xopR (yh9 P false e σ op) σ (evOp P e σ op)else none
def zu3 (P:Program) (call:zi7):Prop:= ∀fv az v σ',call fv az []=some (v,σ')->noS v=true->noS fv=true->az.all noS=true-> ∀c s,VC P c fv az s (fun r s'=>r=v/\s'=s)
theorem xV4 {call:zi7} (hc:zs1 P call) (hp:zu3 P call) {n0:Kp} {v:V} (h:xtop P call n0 k d e σ op=some (v,σ')) (hk:vput nt d v K e σ'):vtop P c nt n0 k d op K e σ:=by
 unfold xtop at h
 unfold vtop
 split at h
 .split at h
  .rename_i ab
   split at h
   .rename_i v' s' aa
    split at h
    .rename_i hn
     cases h
     simp only[A6]at hn
     subst ab
     refine⟨v,σ, ?_,fun _=>rfl,fun _=>KeepN.refl,A5 _,hk⟩
     rw[if_pos rfl]
     exact fun s=>hp _ _ _ _ aa hn.1.1 hn.1.2 hn.2 c s
    .cases h
   .cases h
  .split at h
   .rename_i ab ad
    split at h
    .rename_i v' s' aa
     split at h
     .rename_i hle
      cases h
      subst ad
      refine⟨v,σ', ?_,fun q=>om,fun q=>om,hle,hk⟩
      rw[if_neg dC,if_neg dC]
      exact hc _ _ _ _ _ aa c
     .cases h
    .cases h
   .cases h
 .rename_i ae
  split
  .exact absurd rfl (ae _ _ _)
  .split at h
   .rename_i ht
    simp only[xY2,A6,Bv,D8,bne_iff_ne,beq_iff_eq,decide_eq_true_eq]at ht
    obtain⟨⟨⟨⟨t1,t2⟩,t3⟩,t4⟩,t5⟩:=ht
    have hh:hok P d e op:=by
     rcases t1 with t1|t1
     .exact .inl t1
     .exact .inr (xQ3 t1)
    rw[zo7 hh]
    refine⟨fun _=>hh, ?_,fun q=>t2.resolve_left (fun w=>w q),fun q=> ?_,fun q=>t4.resolve_left (by rw[q];simp), ?_,ym2 (zV4 op) h hk⟩
    .cases hr:evOp P e σ op with
     |all f=>rw[hr]at h;cases h
     |any l=>rw[hr]at h;cases h
     |_=>rfl
    .have:=t3.resolve_left (fun w=>w q)
     unfold xf2 at this
     split at this
     .exact .inl ⟨_,_,rfl,this⟩
     .cases this
    .rcases t5 with (t5|t5)|t5
     .subst t5;exact zX3
     .obtain⟨t5,t6⟩:=t5
      subst t5
      cases op with
      |alloc t=>simp only[evOp];unfold zl1;split<;>first|trivial|exact⟨sm,fun _=> .inl ⟨_,rfl⟩⟩
      |box t x=>simp only[evOp];unfold zR0;split<;>first|trivial|exact⟨sm,fun _=> .inl ⟨_,rfl⟩⟩
      |_=>cases t6
     .exact zr4 t5
   .cases h
def xtr (P:Program) (call:zi7) (n0:Kp) (ms:List Nat) (ops:List Oper) (q:List (Nat×Nat)):Nat->List Oper->List V->St->Option (List V×St)
 |_,[],l,σ=>some (l,σ)
 |i,o::rest,l,σ=>
  match xgd o.guard ops (envX ms l)with
  |none=>none
  |some true=>(match xtop P call n0 (zU q i o) o.dst (envX ms l) σ o.op with
   |some (v,σ')=>(match xput o.dst v l with|some l'=>xtr P call n0 ms ops q (i+1) rest l' σ'|none=>none)
   |none=>none)
  |some false=>(match xput o.dst (.tup []) l with|some l'=>xtr P call n0 ms ops q (i+1) rest l' σ|none=>none)
theorem xa7 {P:Program} {call:zi7} (hc:zs1 P call) (aa:zu3 P call) {n0:Kp} {ms:List Nat} {ops:List Oper} {q:List (Nat×Nat)} {c:Ctx}: ∀(rest:List Oper) (i:Nat) (l:List V) (σ:St) (l':List V) (σ':St),xtr P call n0 ms ops q i rest l σ=some (l',σ')->l.length<=100000->
  l'.length=l.length/\ ∀K:KT,K (envX ms l') σ'->vtr P c l.length n0 ops q i rest K (envX ms l) σ
 | [],i,l,σ,l',σ',h,hl=>by cases h;exact⟨rfl,fun K hk=>hk⟩
 |o::rest,i,l,σ,l',σ',h,hl=>by
  unfold xtr at h
  split at h
  .cases h
  .rename_i hg
   split at h
   .rename_i v s1 ho
    split at h
    .rename_i l1 hp
     obtain⟨e1,e2⟩:=yd9 (ms:=ms) hp hl
     obtain⟨e3,e4⟩:=xa7 hc aa (c:=c) rest (i+1) l1 s1 l' σ' h om
     refine⟨om,fun K hk=> ?_⟩
     refine yF4 hg (fun _=> ?_) (fun q=>by cases q)
     refine xV4 hc aa ho (e2 _ _ ?_)
     have:=e4 K hk
     rwa [e1]at this
    .cases h
   .cases h
  .rename_i hg
   split at h
   .rename_i l1 hp
    obtain⟨e1,e2⟩:=yd9 (ms:=ms) hp hl
    obtain⟨e3,e4⟩:=xa7 hc aa (c:=c) rest (i+1) l1 σ l' σ' h om
    refine⟨om,fun K hk=> ?_⟩
    refine yF4 hg (fun q=>by cases q) (fun _=> ?_)
    refine e2 _ _ ?_
    have:=e4 K hk
    rwa [e1]at this
   .cases h
def yx7:Nat->List Oper->List (Nat×Nat)
 |_,[]=> []
 |i,o::os=>(match o.op with| .call ⟨.value _,_,_⟩=> [(i,0)]|_=> [])++yx7 (i+1) os
def yk2:Nat->List Oper->List (Nat×Nat)
 |_,[]=> []
 |i,o::os=>(match o.op with| .store .. => [(i,4)]| .call ⟨.builtin .append,_,_⟩=> [(i,4)]|_=> [])++yk2 (i+1) os
def xY0:Nat->List Oper->List (Nat×Nat)
 |_,[]=> []
 |i,o::os=>(match o.op with| .store .. => [(i,4)]| .call ⟨.builtin .append,_,_⟩=> [(i,4)]| .call ⟨.value _,_,_⟩=> [(i,4)]|_=> [])++xY0 (i+1) os
def xJ5:Nat->List Oper->List (Nat×Nat)
 |_,[]=> []
 |i,o::os=>(match o.op with| .store .. => [(i,4)]| .load .. => [(i,4)]| .alloc _=> [(i,4)]| .call ⟨.builtin .append,_,_⟩=> [(i,4)]| .call ⟨.value _,_,_⟩=> [(i,4)]|_=> [])++xJ5 (i+1) os
def xK4 (ops:List Oper):List (List (Nat×Nat)):= [[],yx7 0 ops,yk2 0 ops,yx7 0 ops++yk2 0 ops,xY0 0 ops,xJ5 0 ops]
def yF3 (P:Program) (call:zi7) (ms:List Nat) (ops:List Oper) (l:List V) (σ:St):List (List (Nat×Nat))->Option (List V×St)
 | []=>none
 |q::qs=>if zz7 ops q then(match xtr P call (Kp.pre σ.length) ms ops q 0 ops l σ with|some r=>some r|none=>yF3 P call ms ops l σ qs)else yF3 P call ms ops l σ qs
def xK5 (P:Program) (call:zi7) (ms:List Nat) (ops:List Oper) (l:List V) (σ:St):Option (List V×St):=
 if zc4 ops then yF3 P call ms ops l σ (xK4 ops)else none
theorem yS7 {call:zi7} (hc:zs1 P call) (aa:zu3 P call) (hm:P.follows .mixedOrders=true) {ops:List Oper} {id:Nat} {l':List V} (h:xK5 P call ms ops l σ=some (l',σ')) (hl:l.length<=100000):
  l'.length=l.length/\ ∀Q:QT,Q .normal (envX ms l') σ'->VW P c l.length (.region id ops.toArray true) Q (envX ms l) σ:=by
 unfold xK5 at h
 split at h
 .rename_i he
  have go: ∀q,zz7 ops q=true->xtr P call (Kp.pre σ.length) ms ops q 0 ops l σ=some (l',σ')->l'.length=l.length/\ ∀Q:QT,Q .normal (envX ms l') σ'->VW P c l.length (.region id ops.toArray true) Q (envX ms l) σ:=by
   intro q hd hx
   obtain⟨e1,e2⟩:=xa7 hc aa (c:=c) ops 0 l σ l' σ' hx hl
   exact⟨e1,fun Q hq=>yS q σ.length rfl hm (by rw[hd,he];rfl) (e2 (Q .normal) hq)⟩
  generalize xK4 ops=qs at h
  induction qs with
  |nil=>cases h
  |cons q qs ih=>
   unfold yF3 at h
   split at h
   .rename_i hd
    split at h
    .rename_i r hx
     cases h
     exact go _ hd hx
    .exact ih h
   .exact ih h
 .cases h
end Go.Vx
