/-
  A call that is handed the first of the caller's objects, and may make more of them.
  No condition: a library text; nothing of the program is named.
-/
import Derived.Test.YtkigddpaonhmlaaGreatXAM
set_option maxHeartbeats 8000000
namespace Go.Vx
open Go
section
variable {P:Program} {c:Ctx} {nt:Nat} {n0:Kp}
theorem xl5 {ops:List Oper} {q:List (Nat×Nat)} {Q:Exit->Act->World->Prop} {e0:Env} {σ0:St} {tr:List (V×St)} (hn:n0.n<=σ0.length) (ht:zt3 P c nt n0 ops q 0 ops e0 σ0 tr)
  (B:Nat->Nat->Prop) (sp: ∀{i j:Nat} {x y:Oper},i<j->ops[i]? =some x->ops[j]? =some y->zK1 ops q i j x y=false∨B i j)
  {listed:Array Bool} {a:Act} {w:World} {L:Nat->Nat} {β:List Value} {i:Nat} {o:Oper} (ho':ops[i]? =some o) (hDi:listed.getD i false=false) (hil:i<listed.size)
  (ahead: ∀{k:Nat},k≠i->B k i->listed.getD k false=true) (zb2: ∀{k:Nat},B i k->listed.getD k false=false) (clB: ∀{k j:Nat},B k j->listed.getD j false=true->listed.getD k false=true)
  (hs:Sim c nt (fE (fun i=>listed.getD i false) 0 ops tr e0) (fS (fun i=>listed.getD i false) q 0 ops tr σ0) a w L β) {next:Act->World->Prop}
  (hnext: ∀a' w' L' β',Sim c nt (fE (fun k=>(listed.setIfInBounds i true).getD k false) 0 ops tr e0) (fS (fun k=>(listed.setIfInBounds i true).getD k false) q 0 ops tr σ0) a' w' L' β'->next a' w'):
  if Region.wanted o (yielded ops.toArray a.tmps)then o.wp P a w next Q∨(o.asks P a w/\LetsOut Q)else next (a.put o.dst undef) w:=by
 have hne: ∀k,k≠i->(listed.setIfInBounds i true).getD k false=listed.getD k false:=fun k hk=>getD_set_ne false (fun q=>hk q.symm)
 have hii:(listed.setIfInBounds i true).getD i false=true:=by simp[Array.getD,hil]
 obtain⟨htl,hat⟩:=zA7 ops q ops tr 0 e0 σ0 ht
 obtain⟨v,σ',htr,hfact⟩:=hat i o ho'
 rw[Aa]at hfact
 have henv: ∀t∈zu4 ops o,fE (fun i=>listed.getD i false) 0 ops tr e0 t=fE (fun j=>decide (j<i)) 0 ops tr e0 t:=by
  intro t htl
  refine ze0 _ _ t ops tr 0 e0 e0 rfl fun k o' hk hdk=> ?_
  rw[Aa]
  rcases Bi k i with hki|hki|hki
  .rw[decide_eq_true hki]
   rcases sp hki hk ho' with hc|hb
   .exact absurd htl ((yS hc).2.1 t hdk).1
   .exact ahead (by omega) hb
  .subst hki;rw[hDi];simp
  .rw[decide_eq_false (by omega)]
   rcases sp hki ho' hk with hc|hb
   .exact absurd htl ((yS hc).2.2 t hdk)
   .exact zb2 hb
 have hstore:2<=zY q i o->fS (fun i=>listed.getD i false) q 0 ops tr σ0=fS (fun j=>decide (j<i)) q 0 ops tr σ0:=by
  intro hk2
  refine zh2 _ _ q ops tr 0 σ0 fun k o' hk hdk=> ?_
  rw[Aa]at hdk⊢
  rcases Bi k i with hki|hki|hki
  .rw[decide_eq_true hki]
   rcases sp hki hk ho' with hc|hb
   .have:=(yS hc).1
    rw[zl8 hdk (xU _ _ _) hk2 (xU _ _ _)]at this
    cases this
   .exact ahead (by omega) hb
  .subst hki;rw[hDi];simp
  .rw[decide_eq_false (by omega)]
   rcases sp hki ho' hk with hc|hb
   .have:=(yS hc).1
    rw[zC2,zl8 hdk (xU _ _ _) hk2 (xU _ _ _)]at this
    cases this
   .exact zb2 hb
 have hone:zY q i o=1->n0.of (fS (fun i=>listed.getD i false) q 0 ops tr σ0)=n0.of (fS (fun j=>decide (j<i)) q 0 ops tr σ0):=by
  intro hk1
  have pre: ∀N,N<=ops.length-> ∃m,m<=N/\ ∀k o',k<N->ops[k]? =some o'->3<=zY q k o'->listed.getD k false=decide (k<m):=by
   intro N
   induction N with
   |zero=>exact fun _=>⟨0,A2 _,fun k o' h=>by omega⟩
   |succ N ihN=>
    intro hN
    obtain⟨m,hm,hall⟩:=ihN (by omega)
    have hNo:=A0 (show N<ops.length by omega)
    by_cases hw:3<=zY q N (ops[N]'(by omega))/\listed.getD N false=true
    .refine⟨N+1,A2 _,fun k o' hk hko h3=> ?_⟩
     rw[decide_eq_true hk]
     by_cases hkN:k=N
     .subst hkN;exact hw.2
     .rcases sp (show k<N by omega) hko hNo with hc|hb
      .have:=(yS hc).1
       rw[zl8 h3 (xU _ _ _) (by omega) (xU _ _ _)]at this
       cases this
      .exact clB hb hw.2
    .refine⟨m,by omega,fun k o' hk hko h3=> ?_⟩
     by_cases hkN:k=N
     .subst hkN
      rw[hNo]at hko;cases hko
      rw[decide_eq_false (by omega)]
      cases hl:listed.getD k false with
      |false=>rfl
      |true=>exact absurd ⟨h3,hl⟩ hw
     .exact hall k o' (by omega) hko h3
  obtain⟨m,hm,hall⟩:=pre ops.length (A2 _)
  have e1:fS (fun i=>listed.getD i false) q 0 ops tr σ0=fS (fun x=>decide (x<m)) q 0 ops tr σ0:=
   zh2 _ _ q ops tr 0 σ0 fun k o' hk h3=>by
    rw[Aa]at h3⊢
    exact hall k o' (A1.1 hk).1 hk h3
  rw[e1]
  have hil':i<ops.length:=(A1.1 ho').1
  rcases Nat.le_total m i with hmi|hmi
  .have:=(yU1 ht hn (i - m) m (by omega) (fun k o' h5 h6 hk h4=>by
    have h7:=hall k o' (A1.1 hk).1 hk (by omega)
    rw[decide_eq_false (by omega)]at h7
    rcases sp (show k<i by omega) hk ho' with hc|hb
    .have:=(yS hc).1
     rw[h4,hk1,zC3 (by decide)]at this
     cases this
    .rw[ahead (by omega) hb]at h7;cases h7)).2
   rw[show m+(i - m)=i by omega]at this
   exact this.symm
  .have:=(yU1 ht hn (m - i) i (by omega) (fun k o' h5 h6 hk h4=>by
    have h7:=hall k o' (A1.1 hk).1 hk (by omega)
    rw[decide_eq_true (by omega)]at h7
    have hki:k≠i:=fun qq=>by
     subst qq
     rw[hk]at ho';cases ho'
     omega
    rcases sp (show i<k by omega) ho' hk with hc|hb
    .have:=(yS hc).1
     rw[zC2,h4,hk1,zC3 (by decide)]at this
     cases this
    .rw[zb2 hb]at h7;cases h7)).2
   rw[show i+(m - i)=m by omega]at this
   exact this
 refine zQ5 (ops:=ops) (Q:=Q) (next:=next) o hs (hfact.step henv hstore hone) ?_
 rintro e' s' a' w' L' β' hs' ⟨rfl,rfl⟩
 have e1:updO (fE (fun i=>listed.getD i false) 0 ops tr e0) o.dst v=fE (fun k=>(listed.setIfInBounds i true).getD k false) 0 ops tr e0:=by
  funext t
  by_cases hdt:o.dst=some t
  .rw[zi4 _ _ _ _ hdt]
   refine(zC0 _ t ops tr 0 i e0 o v σ' ho' htr hdt (by rw[Aa];exact hii) fun k' o' hk' ho2 hd2=> ?_).symm
   rw[Aa,hne k' (by omega)]
   rcases sp hk' ho' ho2 with hc|hb
   .exact absurd hd2 ((yS hc).2.1 t hdt).2
   .exact zb2 hb
  .rw[ze8 _ _ _ _ hdt]
   refine ze0 _ _ t ops tr 0 e0 e0 rfl fun k o' hk hdk=> ?_
   rw[Aa]
   refine(hne k fun q=> ?_).symm
   subst q
   rw[ho']at hk;cases hk
   exact hdt hdk
 have e2:(if 3<=zY q i o then σ' else fS (fun i=>listed.getD i false) q 0 ops tr σ0)=fS (fun k=>(listed.setIfInBounds i true).getD k false) q 0 ops tr σ0:=by
  split
  .rename_i hk2
   refine(zI8 _ q ops tr 0 i σ0 o v σ' ho' htr (by rw[Aa];exact hk2) (by rw[Aa];exact hii) fun k' o' hk' ho2 hd2=> ?_).symm
   rw[Aa]at hd2⊢
   rw[hne k' (by omega)]
   rcases sp hk' ho' ho2 with hc|hb
   .have:=(yS hc).1
    rw[zl8 hk2 (xU _ _ _) (by omega) (xU _ _ _)]at this
    cases this
   .exact zb2 hb
  .rename_i hk2
   refine zh2 _ _ q ops tr 0 σ0 fun k o' hk hdk=> ?_
   rw[Aa]at hdk⊢
   refine(hne k fun q=> ?_).symm
   subst q
   rw[ho']at hk;cases hk
   exact hk2 hdk
 rw[e1,e2]at hs'
 exact hnext _ _ _ _ hs'
theorem xo7 {ops:List Oper} {q:List (Nat×Nat)} {e0:Env} {tr:List (V×St)} (B:Nat->Nat->Prop) (sp: ∀{i j:Nat} {x y:Oper},i<j->ops[i]? =some x->ops[j]? =some y->zK1 ops q i j x y=false∨B i j)
  {listed:Array Bool} {i:Nat} {o:Oper} (ho':ops[i]? =some o) (hDi:listed.getD i false=false)
  (ahead: ∀{k:Nat},k≠i->B k i->listed.getD k false=true) (zb2: ∀{k:Nat},B i k->listed.getD k false=false):
  ∀t∈zu4 ops o,fE (fun i=>listed.getD i false) 0 ops tr e0 t=fE (fun j=>decide (j<i)) 0 ops tr e0 t:=by
 intro t htl
 refine ze0 _ _ t ops tr 0 e0 e0 rfl fun k o' hk hdk=> ?_
 rw[Aa]
 rcases Bi k i with hki|hki|hki
 .rw[decide_eq_true hki]
  rcases sp hki hk ho' with hc|hb
  .exact absurd htl ((yS hc).2.1 t hdk).1
  .exact ahead (by omega) hb
 .subst hki;rw[hDi];simp
 .rw[decide_eq_false (by omega)]
  rcases sp hki ho' hk with hc|hb
  .exact absurd htl ((yS hc).2.2 t hdk)
  .exact zb2 hb
theorem xo6 {ops:List Oper} {q:List (Nat×Nat)} {e0:Env} {tr:List (V×St)} (B:Nat->Nat->Prop) (sp: ∀{i j:Nat} {x y:Oper},i<j->ops[i]? =some x->ops[j]? =some y->zK1 ops q i j x y=false∨B i j)
  {listed:Array Bool} {i:Nat} {o:Oper} {v:V} {σ':St} (ho':ops[i]? =some o) (htr:tr[i]? =some (v,σ')) (hil:i<listed.size) (zb2: ∀{k:Nat},B i k->listed.getD k false=false):
  updO (fE (fun i=>listed.getD i false) 0 ops tr e0) o.dst v=fE (fun k=>(listed.setIfInBounds i true).getD k false) 0 ops tr e0:=by
 have hne: ∀k,k≠i->(listed.setIfInBounds i true).getD k false=listed.getD k false:=fun k hk=>getD_set_ne false (fun q=>hk q.symm)
 have hii:(listed.setIfInBounds i true).getD i false=true:=by simp[Array.getD,hil]
 funext t
 by_cases hdt:o.dst=some t
 .rw[zi4 _ _ _ _ hdt]
  refine(zC0 _ t ops tr 0 i e0 o v σ' ho' htr hdt (by rw[Aa];exact hii) fun k' o' hk' ho2 hd2=> ?_).symm
  rw[Aa,hne k' (by omega)]
  rcases sp hk' ho' ho2 with hc|hb
  .exact absurd hd2 ((yS hc).2.1 t hdt).2
  .exact zb2 hb
 .rw[ze8 _ _ _ _ hdt]
  refine ze0 _ _ t ops tr 0 e0 e0 rfl fun k o' hk hdk=> ?_
  rw[Aa]
  refine(hne k fun q=> ?_).symm
  subst q
  rw[ho']at hk;cases hk
  exact hdt hdk
theorem xL4 {n:Nat} (D:Nat->Bool): ∀(os:List Oper) (tr:List (V×St)) (i:Nat) (e:Env),(∀t,ltS n (e t)=true)->(∀(k:Nat) v s,tr[k]? =some (v,s)->D (i+k)=true->ltS n v=true)-> ∀t,ltS n (fE D i os tr e t)=true
 | [],_,_,_,h,_=>by simpa[fE]using h
 |o::os,[],_,_,h,_=>by simpa[fE]using h
 |o::os,(v,s)::tr,i,e,h,hv=>by
  rw[fE]
  refine xL4 D os tr (i+1) _ (fun t=> ?_) (fun k v' s' hk hD=>hv (k+1) v' s' (by simpa using hk) (by rwa [show i+(k+1)=i+1+k by omega]))
  split
  .rename_i hDi
   by_cases hdt:o.dst=some t
   .rw[zi4 _ _ _ _ hdt];exact hv 0 v s rfl (by simpa using hDi)
   .rw[ze8 _ _ _ _ hdt];exact h t
  .exact h t
theorem Sim.pick {e e':Env} {σ s:St} {a:Act} {w:World} {L:Nat->Nat} {β:List Value} {pick:List Nat} (h:Sim c nt e σ a w L β) (hp:Picks c.σ0.length pick σ s) (hc:c.β0.length=c.σ0.length) (he: ∀t,argS (ren pick σ.length) (e' t) (e t)):
  ∃β',Sim c nt e' s a w L β':=
 ⟨_,h.mem.pick hp hc,h.size,h.defs,fun t=>zv9 (hp.bak h.mem.len) (he t) (h.env t)⟩
theorem yQ1 {n0:Nat} {σ:St} {z:List V} (hn:n0<=σ.length) (hlt:σ.all (ltOb σ.length)=true) (hz:z.all noC=true):
  Picks n0 (List.range σ.length++ [σ.length+1,σ.length]) (σ++ [.box z,.box z]) (σ++ [.box z,.box z]):=by
 have hb: ∀ρ,yN ρ (.box z)= .box z:=fun ρ=>by simp only[yN];rw[xV (fun _=>zD1) hz]
 have hr: ∀i,i<σ.length->ren (List.range σ.length++ [σ.length+1,σ.length]) (σ++ [Ob.box z,Ob.box z]).length i=i:=fun i hi=>by
  rw[wE (by simp;omega),List.getElem_append_left (by simpa using hi)];simp
 refine⟨by simp, ?_,fun i j o hi ho=> ?_,fun i hi=> ?_⟩
 .rw[Df]
  refine⟨C3,by simp, ?_⟩
  intro x hx y hy
  simp at hx hy
  omega
 .by_cases h1:i<σ.length
  .rw[Ab (by simpa using h1),Cw h1]at hi
   cases hi
   rw[Ab h1]at ho
   have h2:ltOb σ.length o=true:=Af.1 hlt o (B1 ho)
   rw[wD hr h2,Ab h1];exact ho
  .rw[Ai (by simp;omega)]at hi
   rw[Ai (by omega)]at ho
   simp only[Ds]at hi
   rcases Cf (i - σ.length) 2 with h2|h2
   .rcases(show i - σ.length=0∨i - σ.length=1 by omega)with h3|h3
    .rw[h3]at hi ho
     simp at hi ho
     subst hi ho
     rw[hb,Ai (by omega)]
     simp
    .rw[h3]at hi ho
     simp at hi ho
     subst hi ho
     rw[hb,Ai (by omega)]
     simp
   .rw[Bc (by simp;omega)]at ho;cases ho
 .rw[Ab (by simp;omega),Cw (by omega)]
theorem ya6 {ops:List Oper} {Q:Exit->Act->World->Prop} {next:Act->World->Prop} {e:Env} {σ:St} {a:Act} {w:World} {L:Nat->Nat} {β:List Value} {d:Tmp} {t ty:TypeId} {pos:String} {aft:Array Edge} {z:List V}
  (hz:za1 P t=some z) (hd:d<nt) (h:Sim c nt e σ a w L β) (hn: ∀a' w' L' β',Sim c nt (upd e d (.ptr σ.length 0)) (σ++ [.box z]) a' w' L' β'->next a' w'):
  if Region.wanted (⟨some d,.alloc t,ty,pos,aft,none⟩:Oper) (yielded ops.toArray a.tmps)then(⟨some d,.alloc t,ty,pos,aft,none⟩:Oper).wp P a w next Q∨((⟨some d,.alloc t,ty,pos,aft,none⟩:Oper).asks P a w/\LetsOut Q)else next (a.put (some d) undef) w:=by
 refine zQ5 (ops:=ops) (Q:=Q) (next:=next) ⟨some d,.alloc t,ty,pos,aft,none⟩ (K:=fun e' s'=>e'=upd e d (.ptr σ.length 0)/\s'=σ++ [.box z]) h ?_ ?_
 .have hev:xL P (some d) e σ (.alloc t)= .st (.ptr σ.length 0) (σ++ [.box z]):=by
   have h1:evOp P e σ (.alloc t)= .st (.ptr σ.length 0) (σ++ [.box z]):=by simp only[evOp,zk4,hz]
   have h2:wV P e σ (.alloc t)=evOp P e σ (.alloc t):=rfl
   unfold xL
   rw[h2,h1];simp
  show vfin nt (some d) (xL P (some d) e σ (.alloc t)) _ e σ
  rw[hev]
  exact⟨hd,rfl,rfl⟩
 .rintro e' s' a' w' L' β' hs ⟨rfl,rfl⟩
  exact hn _ _ _ _ hs
theorem xB9 {ops:List Oper} {q:List (Nat×Nat)} {Q:Exit->Env->St->Prop} {e0:Env} {σ0:St} {tr:List (V×St)} {p dA dB:Nat} {t tA tB:TypeId} {posA posB:String} {aA aB:Array Edge} {z:List V}
  (hn:n0.n<=σ0.length) (hc0:c.σ0.length<=σ0.length) (hcb:c.β0.length=c.σ0.length)
  (hA:ops[p]? =some ⟨some dA,.alloc t,tA,posA,aA,none⟩) (hB:ops[p+1]? =some ⟨some dB,.alloc t,tB,posB,aB,none⟩) (hAB:dA≠dB)
  (hkA:zY q p ⟨some dA,.alloc t,tA,posA,aA,none⟩=3) (hkB:zY q (p+1) ⟨some dB,.alloc t,tB,posB,aB,none⟩=3) (hz:za1 P t=some z) (hzn:z.all noC=true)
  (hlo: ∀(k:Nat) o,k<p->ops[k]? =some o->zY q k o<2/\dA∉zu4 ops o/\dB∉zu4 ops o/\o.dst≠some dA/\o.dst≠some dB)
  (hhi: ∀(k:Nat) o,p+1<k->ops[k]? =some o->p∈(befs ops []).getD k []/\(p+1)∈(befs ops []).getD k [])
  (hd: ∀{i j:Nat} {x y:Oper},i<j->ops[i]? =some x->ops[j]? =some y->zK1 ops q i j x y=false∨(i∈(befs ops []).getD j []∨(i=p/\j=p+1))) (hed:zc3 ops=true)
  (hlt:σ0.all (ltOb σ0.length)=true) (h0: ∀s,ltS σ0.length (e0 s)=true) (hv: ∀(k:Nat) v s,k<p->tr[k]? =some (v,s)->ltS σ0.length v=true)
  (ht:zt3 P c nt n0 ops q 0 ops e0 σ0 tr) (hQ:Q .normal (fE (fun _=>true) 0 ops tr e0) (fS (fun _=>true) q 0 ops tr σ0)):
  ∀(fuel:Nat) (listed:Array Bool) (a:Act) (w:World) (L:Nat->Nat) (β:List Value),listed.size=ops.length->listed.toList.count false=fuel->
   (∀(j:Nat) o,ops[j]? =some o->listed.getD j false=true-> ∀e∈o.after.toList,Region.binds .any e=true->listed.getD e.on false=true)->
   ((listed.getD (p+1) false=true->listed.getD p false=true)/\Sim c nt (fE (fun i=>listed.getD i false) 0 ops tr e0) (fS (fun i=>listed.getD i false) q 0 ops tr σ0) a w L β∨
    (listed.getD (p+1) false=true/\listed.getD p false=false)/\Sim c nt (upd (fE (fun i=>listed.getD i false) 0 ops tr e0) dB (.ptr σ0.length 0)) (σ0++ [.box z]) a w L β)->
   wpAny P .any ops.toArray (Lift c nt Q) fuel listed a w:=by
 obtain⟨htl,hat⟩:=zA7 ops q ops tr 0 e0 σ0 ht
 have hpl:p+1<ops.length:=(A1.1 hB).1
 have hS0:fS (fun j=>decide (j<p)) q 0 ops tr σ0=σ0:=zw6 _ q ops tr 0 σ0 fun k o hk h3=>by
  rw[Aa]at h3⊢
  by_cases hkp:k<p
  .have:=(hlo k o hkp hk).1;omega
  .simp;omega
 have hevA: ∀(e:Env) (σ:St) (d:Tmp),xL P (some d) e σ (.alloc t)= .st (.ptr σ.length 0) (σ++ [.box z]):=fun e σ d=>by
  have h1:evOp P e σ (.alloc t)= .st (.ptr σ.length 0) (σ++ [.box z]):=by simp only[evOp,zk4,hz]
  have h2:wV P e σ (.alloc t)=evOp P e σ (.alloc t):=rfl
  unfold xL
  rw[h2,h1];simp
 have fact: ∀{k d tt ps af E S v s'},Fact P c nt n0 ops q k ⟨some d,.alloc t,tt,ps,af,none⟩ E S v s'->v= .ptr S.length 0/\s'=S++ [.box z]/\d<nt:=by
  intro k d tt ps af E S v s' hf
  obtain⟨hdn,_,_,_,g,hg,hb⟩:=hf
  simp only at hg
  subst hg
  simp only[if_true]at hb
  obtain⟨_,_,_,hb⟩:=hb
  rw[hevA]at hb
  rcases hb with ⟨hr,_⟩|⟨_,hr,_⟩|⟨_,hr|⟨_,hr,_⟩⟩
  .cases hr
  .cases hr
  .cases hr;exact⟨rfl,rfl,hdn d rfl⟩
  .cases hr
 obtain⟨vA,sA,htrA,hfA⟩:=hat p _ hA
 rw[Aa,hS0]at hfA
 obtain⟨rfl,rfl,hdA⟩:=fact hfA
 have hS1:fS (fun j=>decide (j<p+1)) q 0 ops tr σ0=σ0++ [.box z]:=
  zI8 _ q ops tr 0 p σ0 _ _ _ hA htrA (by rw[Aa];omega) (by simp) fun k' o' hk' _ _=>by simp;omega
 obtain⟨vB,sB,htrB,hfB⟩:=hat (p+1) _ hB
 rw[Aa,hS1]at hfB
 obtain⟨rfl,rfl,hdB⟩:=fact hfB
 simp only[Aw,Bh,C5,List.singleton_append]at htrB
 have fin: ∀(listed:Array Bool) (a:Act) (w:World) (L:Nat->Nat) (β:List Value),Sim c nt (fE (fun i=>listed.getD i false) 0 ops tr e0) (fS (fun i=>listed.getD i false) q 0 ops tr σ0) a w L β->
   (∀i,i<ops.length->listed.getD i false=true)->Lift c nt Q .normal a w:=by
  intro listed a w L β hs hall
  have e1:fE (fun i=>listed.getD i false) 0 ops tr e0=fE (fun _=>true) 0 ops tr e0:=by
   funext t
   exact ze0 _ _ t ops tr 0 e0 e0 rfl fun k o hk _=>by rw[Aa];exact hall k (A1.1 hk).1
  have e2:fS (fun i=>listed.getD i false) q 0 ops tr σ0=fS (fun _=>true) q 0 ops tr σ0:=
   zh2 _ _ q ops tr 0 σ0 fun k o hk _=>by rw[Aa];exact hall k (A1.1 hk).1
  rw[e1,e2]at hs
  exact⟨_,_,L,β,hs,hQ⟩
 have allOf: ∀(listed:Array Bool),listed.size=ops.length->Region.ready .any ops.toArray listed= []-> ∀i,i<ops.length->listed.getD i false=true:=by
  intro listed hsz hr i
  induction i using Nat.strongRecOn with
  |ind i ih=>
   intro hi
   cases hli:listed.getD i false with
   |true=>rfl
   |false=>
    exfalso
    have hm:i∈Region.ready .any ops.toArray listed:=by
     refine mem_ready.2 ⟨?_,ops[i],by simp[hi],fun e he hb=> ?_⟩
     .have hil:i<listed.size:=by omega
      simpa[Array.getD,hil]using hli
     .unfold zc3 at hed
      simp only[Af,C7]at hed
      have:=hed i hi
      rw[A0 hi]at this
      simp only[D3]at this
      have:=this e he
      simp only[hb,Bool.not_true,C8,decide_eq_true_eq]at this
      exact ih e.on this (by omega)
    rw[hr]at hm
    cases hm
 intro fuel
 induction fuel with
 |zero=>
  intro listed a w L β hsz hcnt hcl hs
  have hall: ∀i,i<ops.length->listed.getD i false=true:=by
   intro i hi
   have hil:i<listed.size:=by omega
   cases hli:listed[i]with
   |true=>simp[Array.getD,hil,hli]
   |false=>
    exfalso
    have:false∈listed.toList:=by
     rw[<-hli];simp
    have:=List.count_pos_iff.2 this
    omega
  rcases hs with ⟨_,hs⟩|⟨⟨_,hp⟩,_⟩
  .refine⟨?_,fin listed a w L β hs hall⟩
   cases hr:Region.ready .any ops.toArray listed with
   |nil=>rfl
   |cons i l=>
    exfalso
    have hm:i∈Region.ready .any ops.toArray listed:=by rw[hr];simp
    obtain⟨h1,o,ho,_⟩:=mem_ready.1 hm
    have hi:i<ops.length:=(A1.1 (by simpa using ho)).1
    have:=hall i hi
    have hil:i<listed.size:=by omega
    simp[Array.getD,hil]at this h1
    rw[this]at h1
    cases h1
  .rw[hall p (by omega)]at hp;cases hp
 |succ fuel ih=>
  intro listed a w L β hsz hcnt hcl hs
  refine⟨fun hr=> ?_,fun i hi=> ?_⟩
  .rcases hs with ⟨_,hs⟩|⟨⟨_,hp⟩,_⟩
   .exact fin listed a w L β hs (allOf listed hsz hr)
   .rw[allOf listed hsz hr p (by omega)]at hp;cases hp
  obtain⟨h1,o,ho,hedge⟩:=mem_ready.1 hi
  have ho':ops[i]? =some o:=by simpa using ho
  have hio:i<ops.length:=(A1.1 ho').1
  have hil:i<listed.size:=by omega
  have hDi:listed.getD i false=false:=by
   simp[Array.getD,hil]at h1⊢;exact h1
  have hne: ∀k,k≠i->(listed.setIfInBounds i true).getD k false=listed.getD k false:=fun k hk=>getD_set_ne false (fun q=>hk q.symm)
  have hii:(listed.setIfInBounds i true).getD i false=true:=by simp[Array.getD,hil]
  have hcl': ∀(j:Nat) o,ops[j]? =some o->(listed.setIfInBounds i true).getD j false=true-> ∀e∈o.after.toList,Region.binds .any e=true->(listed.setIfInBounds i true).getD e.on false=true:=by
   intro j o' hj hDj e he hb
   by_cases hji:j=i
   .subst hji
    rw[ho']at hj
    cases hj
    exact getD_set_true (hedge e (by simpa using he) hb)
   .rw[hne j hji]at hDj
    exact getD_set_true (hcl j o' hj hDj e he hb)
  have ahead: ∀{k:Nat},k≠i->k∈(befs ops []).getD i []->listed.getD k false=true:=fun{k} hk hb=>by
   have:=zg7 (D:=fun j=>(listed.setIfInBounds i true).getD j false) hcl' hb hii
   rwa [hne k hk]at this
  have zb2: ∀{k:Nat},i∈(befs ops []).getD k []->listed.getD k false=false:=fun{k} hb=>by
   cases hk:listed.getD k false with
   |false=>rfl
   |true=>
    have:=zg7 (D:=fun j=>listed.getD j false) hcl hb hk
    rw[hDi]at this;cases this
  have hcount:(listed.setIfInBounds i true).toList.count false=fuel:=by
   have:=yn2 (l:=listed) (i:=i) (by
    rw[Ar hil]
    have:=hDi
    simp[Array.getD,hil]at this
    rw[this])
   omega
  have next:=fun a' w' L' β' h=>ih (listed.setIfInBounds i true) a' w' L' β' (by simpa using hsz) hcount hcl' h
  unfold wpOp
  rw[ho]
  show if Region.wanted o (yielded ops.toArray a.tmps)then o.wp P a w (wpAny P .any ops.toArray (Lift c nt Q) fuel (listed.setIfInBounds i true)) (Lift c nt Q)∨_ else _
  have only:listed.getD p false=false-> ∀k,p+1<k->listed.getD k false=false:=fun hp k hk=>by
   cases hl:listed.getD k false with
   |false=>rfl
   |true=>
    have hkl:k<ops.length:=by
     rcases Cf k ops.length with h|h
     .exact h
     .exfalso;simp[Array.getD,hsz,Nat.not_lt.2 h]at hl
    have:=zg7 (D:=fun j=>listed.getD j false) hcl (hhi k _ hk (A0 hkl)).1 hl
    rw[hp]at this;cases this
  have std:(i≠p+1∨listed.getD p false=true)->(listed.getD (p+1) false=true->listed.getD p false=true)->Sim c nt (fE (fun i=>listed.getD i false) 0 ops tr e0) (fS (fun i=>listed.getD i false) q 0 ops tr σ0) a w L β->
    if Region.wanted o (yielded ops.toArray a.tmps)then o.wp P a w (wpAny P .any ops.toArray (Lift c nt Q) fuel (listed.setIfInBounds i true)) (Lift c nt Q)∨(o.asks P a w/\LetsOut (Lift c nt Q))else wpAny P .any ops.toArray (Lift c nt Q) fuel (listed.setIfInBounds i true) (a.put o.dst undef) w:=by
   intro hpick hinv hs
   refine xl5 hn ht (fun i j=>i∈(befs ops []).getD j []∨(i=p/\j=p+1)) (fun h1 h2 h3=>hd h1 h2 h3) ho' hDi hil ?_ ?_ ?_ hs fun a' w' L' β' hs'=>next a' w' L' β' (.inl ⟨?_,hs'⟩)
   .rintro k hk (hb|⟨rfl,rfl⟩)
    .exact ahead hk hb
    .rcases hpick with h|h
     .exact absurd rfl h
     .exact h
   .rintro k (hb|⟨rfl,rfl⟩)
    .exact zb2 hb
    .cases hl:listed.getD (i+1) false with
     |false=>rfl
     |true=>rw[hinv hl]at hDi;cases hDi
   .rintro k j (hb|⟨rfl,rfl⟩) hj
    .exact zg7 (D:=fun j=>listed.getD j false) hcl hb hj
    .exact hinv hj
   .intro h
    by_cases hip:i=p
    .subst hip;exact hii
    .rw[hne p (fun q=>hip q.symm)]
     by_cases hip1:i=p+1
     .rcases hpick with h'|h'
      .exact absurd hip1 h'
      .exact h'
     .rw[hne (p+1) (fun q=>hip1 q.symm)]at h
      exact hinv h
  rcases hs with ⟨hinv,hs⟩|⟨⟨hq1,hq0⟩,hs⟩
  .by_cases hpick:i=p+1/\listed.getD p false=false
   ·
    obtain⟨rfl,hp⟩:=hpick
    rw[hB]at ho';cases ho'
    have hsig:fS (fun i=>listed.getD i false) q 0 ops tr σ0=σ0:=zw6 _ q ops tr 0 σ0 fun k o hk h3=>by
     rw[Aa]at h3⊢
     rcases Bi k p with hkp|rfl|hkp
     .have:=(hlo k o hkp hk).1;omega
     .exact hp
     .by_cases hk1:k=p+1
      .subst hk1;exact hDi
      .exact only hp k (by omega)
    rw[hsig]at hs
    refine ya6 (ops:=ops) (Q:=Lift c nt Q) (next:=wpAny P .any ops.toArray (Lift c nt Q) fuel (listed.setIfInBounds (p+1) true)) hz hdB hs fun a' w' L' β' hs'=>next a' w' L' β' (.inr ⟨⟨hii,by rw[hne p (by omega)];exact hp⟩, ?_⟩)
    have:upd (fE (fun i=>(listed.setIfInBounds (p+1) true).getD i false) 0 ops tr e0) dB (.ptr σ0.length 0)=upd (fE (fun i=>listed.getD i false) 0 ops tr e0) dB (.ptr σ0.length 0):=by
     funext s
     simp only[upd]
     split
     .rfl
     .rename_i hsd
      refine ze0 _ _ s ops tr 0 e0 e0 rfl fun k o hk hdk=> ?_
      rw[Aa]
      refine hne k fun e=> ?_
      subst e
      rw[hB]at hk;cases hk
      exact hsd (Option.some.inj hdk).symm
    rw[this];exact hs'
   .exact std (by
     by_cases h:i=p+1
     .right
      cases hl:listed.getD p false with
      |true=>rfl
      |false=>exact absurd ⟨h,hl⟩ hpick
     .exact .inl h) hinv hs
  ·
   by_cases hip:i=p
   .subst hip
    rw[hA]at ho';cases ho'
    refine ya6 (ops:=ops) (Q:=Lift c nt Q) (next:=wpAny P .any ops.toArray (Lift c nt Q) fuel (listed.setIfInBounds i true)) hz hdA hs fun a' w' L' β' hs'=> ?_
    have hlen:(σ0++ [Ob.box z]).length=σ0.length+1:=by simp
    rw[hlen,C5,List.singleton_append]at hs'
    have hD9: ∀k,i+1<k->(listed.setIfInBounds i true).getD k false=false:=fun k hk=>by rw[hne k (by omega)];exact only hq0 k hk
    have hS2:fS (fun k=>(listed.setIfInBounds i true).getD k false) q 0 ops tr σ0=σ0++ [.box z,.box z]:=
     zI8 _ q ops tr 0 (i+1) σ0 _ _ _ hB htrB (by rw[Aa];omega) (by rw[Aa,hne (i+1) (by omega)];exact hq1) fun k' o' hk' _ _=>by rw[Aa];exact hD9 k' hk'
    have hEA:fE (fun k=>(listed.setIfInBounds i true).getD k false) 0 ops tr e0 dA= .ptr σ0.length 0:=
     zC0 _ dA ops tr 0 i e0 _ _ _ hA htrA rfl (by rw[Aa];exact hii) fun k' o' hk' ho2 hd2=>by
      rw[Aa]
      by_cases hk1:k'=i+1
      .subst hk1
       rw[hB]at ho2;cases ho2
       exact absurd (Option.some.inj hd2).symm hAB
      .exact hD9 k' (by omega)
    have hEB:fE (fun k=>(listed.setIfInBounds i true).getD k false) 0 ops tr e0 dB= .ptr (σ0.length+1) 0:=
     zC0 _ dB ops tr 0 (i+1) e0 _ _ _ hB htrB rfl (by rw[Aa,hne (i+1) (by omega)];exact hq1) fun k' o' hk' ho2 hd2=>by
      rw[Aa];exact hD9 k' hk'
    have hEo: ∀s,s≠dA->s≠dB->fE (fun k=>(listed.setIfInBounds i true).getD k false) 0 ops tr e0 s=fE (fun k=>listed.getD k false) 0 ops tr e0 s/\ltS σ0.length (fE (fun k=>listed.getD k false) 0 ops tr e0 s)=true:=by
     intro s hsA hsB
     refine⟨ze0 _ _ s ops tr 0 e0 e0 rfl fun k o hk hdk=> ?_, ?_⟩
     .rw[Aa]
      refine hne k fun e=> ?_
      subst e
      rw[hA]at hk;cases hk
      exact hsA (Option.some.inj hdk).symm
     .have e1:fE (fun k=>listed.getD k false) 0 ops tr e0 s=fE (fun k=>decide (k<i)&&listed.getD k false) 0 ops tr e0 s:=by
       refine ze0 _ _ s ops tr 0 e0 e0 rfl fun k o hk hdk=> ?_
       rw[Aa]
       rcases Bi k i with h|rfl|h
       .simp[h]
       .rw[hDi];simp
       .by_cases hk1:k=i+1
        .subst hk1
         rw[hB]at hk;cases hk
         exact absurd (Option.some.inj hdk).symm hsB
        .rw[only hq0 k (by omega)];simp
      rw[e1]
      refine xL4 _ ops tr 0 e0 h0 (fun k v s hk hD=> ?_) s
      rw[Aa]at hD
      simp only[A4,decide_eq_true_eq]at hD
      exact hv k v s hD.1 hk
    have hswap:=yQ1 (n0:=c.σ0.length) hc0 hlt hzn
    have hr: ∀k,k<σ0.length->ren (List.range σ0.length++ [σ0.length+1,σ0.length]) (σ0++ [Ob.box z,Ob.box z]).length k=k:=fun k hk=>by
     rw[wE (by simp;omega),List.getElem_append_left (by simpa using hk)];simp
    obtain⟨β2,hs2⟩:=hs'.pick (e':=fE (fun k=>(listed.setIfInBounds i true).getD k false) 0 ops tr e0) hswap hcb fun s=>by
     by_cases h1:s=dA
     .subst h1
      rw[hEA]
      refine .inl ?_
      simp only[upd,if_true,renS,renA,renC,renK]
      rw[wE (by simp),List.getElem_append_right (by simp)]
      simp
     .by_cases h2:s=dB
      .subst h2
       rw[hEB]
       refine .inl ?_
       simp only[upd,if_neg h1,if_true,renS,renA,renC,renK]
       rw[wE (by simp),List.getElem_append_right (by simp)]
       simp
      .obtain⟨q1,q2⟩:=hEo s h1 h2
       rw[q1]
       simp only[upd,if_neg h1,if_neg h2]
       exact .inl (yx6 hr q2).symm
    refine next a' w' L' β2 (.inl ⟨fun _=>hii, ?_⟩)
    rw[hS2]
    exact hs2
   ·
    have hi1:i≠p+1:=fun e=>by subst e;rw[hq1]at hDi;cases hDi
    have hilt:i<p:=by
     rcases Bi i p with h|h|h
     .exact h
     .exact absurd h hip
     .exfalso
      have:=ahead (k:=p) (by omega) (hhi i o (by omega) ho').1
      rw[hq0]at this;cases this
    obtain⟨hk2,hnA,hnB,hoA,hoB⟩:=hlo i o hilt ho'
    have sp: ∀{i j:Nat} {x y:Oper},i<j->ops[i]? =some x->ops[j]? =some y->zK1 ops q i j x y=false∨(i∈(befs ops []).getD j []∨(i=p/\j=p+1)):=fun h1 h2 h3=>hd h1 h2 h3
    have ah: ∀{k:Nat},k≠i->(k∈(befs ops []).getD i []∨(k=p/\i=p+1))->listed.getD k false=true:=by
     rintro k hk (hb|⟨_,h⟩)
     .exact ahead hk hb
     .omega
    have be: ∀{k:Nat},(i∈(befs ops []).getD k []∨(i=p/\k=p+1))->listed.getD k false=false:=by
     rintro k (hb|⟨h,_⟩)
     .exact zb2 hb
     .omega
    have henv:=xo7 (e0:=e0) (tr:=tr) (fun i j=>i∈(befs ops []).getD j []∨(i=p/\j=p+1)) sp ho' hDi ah be
    obtain⟨v,σ',htr,hfact⟩:=hat i o ho'
    rw[Aa]at hfact
    have hSi:fS (fun j=>decide (j<i)) q 0 ops tr σ0=σ0:=zw6 _ q ops tr 0 σ0 fun k o hk h3=>by
     rw[Aa]at h3⊢
     by_cases hkp:k<p
     .have:=(hlo k o hkp hk).1;omega
     .simp;omega
    rw[hSi]at hfact
    refine zQ5 (ops:=ops) (Q:=Lift c nt Q) (next:=wpAny P .any ops.toArray (Lift c nt Q) fuel (listed.setIfInBounds i true)) o hs (hfact.step (fun s hs'=> ?_) (fun h=>by omega) fun _=> ?_) ?_
    .simp only[upd]
     split
     .rename_i h;subst h;exact absurd hs' hnB
     .exact henv s hs'
    .rw[Kp.of_append hn]
    .rintro e' s' a' w' L' β' hs' ⟨rfl,rfl⟩
     rw[if_neg (by omega)]at hs'
     refine next a' w' L' β' (.inr ⟨⟨by rw[hne (p+1) (by omega)];exact hq1,by rw[hne p (by omega)];exact hq0⟩, ?_⟩)
     have hnx:=xo6 (e0:=e0) (fun i j=>i∈(befs ops []).getD j []∨(i=p/\j=p+1)) sp ho' htr hil be
     have:updO (upd (fE (fun i=>listed.getD i false) 0 ops tr e0) dB (.ptr σ0.length 0)) o.dst v=upd (fE (fun k=>(listed.setIfInBounds i true).getD k false) 0 ops tr e0) dB (.ptr σ0.length 0):=by
      rw[<-hnx]
      funext s
      by_cases h2:s=dB
      .subst h2
       rw[ze8 _ _ _ _ hoB]
       simp[upd]
      .by_cases h3:o.dst=some s
       .rw[zi4 _ _ _ _ h3]
        simp only[upd,if_neg h2]
        rw[zi4 _ _ _ _ h3]
       .rw[ze8 _ _ _ _ h3]
        simp only[upd,if_neg h2]
        rw[ze8 _ _ _ _ h3]
     rw[this]at hs'
     exact hs'
theorem xp8 (D:Nat->Bool): ∀(os1 os2:List Oper) (tr1 tr2:List (V×St)) (i:Nat) (e:Env),tr1.length=os1.length->fE D i (os1++os2) (tr1++tr2) e=fE D (i+os1.length) os2 tr2 (fE D i os1 tr1 e)
 | [],os2,[],tr2,i,e,_=>by simp[fE]
 | [],_,_::_,_,_,_,h=>by simp at h
 |_::_,_,[],_,_,_,h=>by simp at h
 |o::os,os2,(v,s)::tr,tr2,i,e,h=>by
  simp only[Bo,fE,Ah]
  rw[xp8 D os os2 tr tr2 (i+1) _ (by simpa using h),show i+1+os.length=i+(os.length+1) by omega]
theorem xp9 (D:Nat->Bool) (q:List (Nat×Nat)): ∀(os1 os2:List Oper) (tr1 tr2:List (V×St)) (i:Nat) (σ:St),tr1.length=os1.length->fS D q i (os1++os2) (tr1++tr2) σ=fS D q (i+os1.length) os2 tr2 (fS D q i os1 tr1 σ)
 | [],os2,[],tr2,i,e,_=>by simp[fS]
 | [],_,_::_,_,_,_,h=>by simp at h
 |_::_,_,[],_,_,_,h=>by simp at h
 |o::os,os2,(v,s)::tr,tr2,i,e,h=>by
  simp only[Bo,fS,Ah]
  rw[xp9 D q os os2 tr tr2 (i+1) _ (by simpa using h),show i+1+os.length=i+(os.length+1) by omega]
theorem ys2 {ops:List Oper} {q:List (Nat×Nat)}: ∀(os1 os2:List Oper) (tr1 tr2:List (V×St)) (i:Nat) (e:Env) (σ:St),zt3 P c nt n0 ops q i os1 e σ tr1->
  zt3 P c nt n0 ops q (i+os1.length) os2 (fE (fun _=>true) i os1 tr1 e) (fS (fun _=>true) q i os1 tr1 σ) tr2->zt3 P c nt n0 ops q i (os1++os2) e σ (tr1++tr2)
 | [],os2,[],tr2,i,e,σ,_,h=>by simpa[fE,fS]using h
 | [],_,_::_,_,_,_,_,h,_=>h.elim
 |_::_,_,[],_,_,_,_,h,_=>h.elim
 |o::os,os2,(v,s)::tr,tr2,i,e,σ,h1,h2=>by
  refine⟨h1.1,ys2 os os2 tr tr2 (i+1) _ _ h1.2 ?_⟩
  rw[fE,fS,if_pos rfl]at h2
  have:(if((fun _=>true) i&&decide (3<=zY q i o))=true then s else σ)=s:=by
   by_cases h3:3<=zY q i o
   .rw[if_pos (by simp[h3])]
   .rw[if_neg (by simp[h3])];exact(h1.1.2.1 (by omega)).symm
  rw[this,Ah,show i+(os.length+1)=i+1+os.length by omega]at h2
  exact h2
def two (P:Program) (ops:List Oper) (q:List (Nat×Nat)) (p:Nat):Bool:=
 match ops[p]?,ops[p+1]? with
 |some ⟨some dA,.alloc t,tA,posA,aA,none⟩,some ⟨some dB,.alloc t',tB,posB,aB,none⟩=>
  Nat.beq t t'&& !Nat.beq dA dB&&Nat.beq (zY q p ⟨some dA,.alloc t,tA,posA,aA,none⟩) 3&&Nat.beq (zY q (p+1) ⟨some dB,.alloc t',tB,posB,aB,none⟩) 3&&
  (match za1 P t with|some z=>z.all noC|none=>false)&&
  ((List.range ops.length).all fun k=>match ops[k]? with
   |some o=>if k<p then decide (zY q k o<2)&& !(zu4 ops o).contains dA&& !(zu4 ops o).contains dB&&(match o.dst with|some d=> !Nat.beq d dA&& !Nat.beq d dB|none=>false)
    else if p+1<k then((befs ops []).getD k []).contains p&&((befs ops []).getD k []).contains (p+1)else true
   |none=>true)&&
  ((List.range ops.length).all fun j=>(List.range j).all fun i=>match ops[i]?,ops[j]? with
   |some x,some y=>(!zK1 ops q i j x y||((befs ops []).getD j []).contains i||(Nat.beq i p&&Nat.beq j (p+1)))&&(!Nat.blt j p||(match x.dst,y.dst with|some d,some d'=> !Nat.beq d d'|_,_=>true))
   |_,_=>true)
 |_,_=>false
theorem VW.draw2 {id:Nat} {ops:List Oper} {q:List (Nat×Nat)} {Q:Exit->Env->St->Prop} {e:Env} {σ:St} (p:Nat) (hm:P.follows .mixedOrders=true) (hn:n0.n<=σ.length) (hc:c.σ0.length<=σ.length) (hcb:c.β0.length=c.σ0.length)
  (h2:two P ops q p=true) (hed:zc3 ops=true) (hlt:σ.all (ltOb σ.length)=true) (h0: ∀s,ltS σ.length (e s)=true)
  (h:vtr P c nt n0 ops q 0 (ops.take p) (fun e' σ'=>(∀s,ltS σ.length (e' s)=true)/\vtr P c nt n0 ops q p (ops.drop p) (Q .normal) e' σ') e σ):VW P c nt (.region id ops.toArray true) Q e σ:=by
 obtain⟨tr1,ht1,he1,h⟩:=zo3 _ _ _ _ _ h
 obtain⟨tr2,ht2,hK⟩:=zo3 _ _ _ _ _ h
 unfold two at h2
 split at h2
 case h_2=>cases h2
 rename_i dA t tA posA aA dB t' tB posB aB hA hB
 simp only[A4,Nat.beq_eq,Ck,Af,C7]at h2
 obtain⟨⟨⟨⟨⟨⟨htt,hAB⟩,hkA⟩,hkB⟩,hz⟩,hk⟩,hd⟩:=h2
 subst htt
 have hpl:p+1<ops.length:=(A1.1 hB).1
 have htk:(ops.take p).length=p:=by simp;omega
 obtain⟨hl1,hat1⟩:=zA7 ops q _ _ _ _ _ ht1
 have ht:=ys2 (ops.take p) (ops.drop p) tr1 tr2 0 e σ ht1 (by rw[htk,Aa];exact ht2)
 have hE:=xp8 (fun _=>true) (ops.take p) (ops.drop p) tr1 tr2 0 e hl1
 have hS:=xp9 (fun _=>true) q (ops.take p) (ops.drop p) tr1 tr2 0 σ hl1
 rw[htk,Aa]at hE hS
 rw[Bp]at ht hE hS
 rw[<-hE,<-hS]at hK
 obtain⟨z,hz1,hz2⟩: ∃z,za1 P t=some z/\z.all noC=true:=by
  split at hz
  .exact⟨_,by assumption,hz⟩
  .cases hz
 have hdAB:dA≠dB:=fun q=>by subst q;simp at hAB
 have hlo: ∀(k:Nat) o,k<p->ops[k]? =some o->(zY q k o<2/\dA∉zu4 ops o/\dB∉zu4 ops o/\o.dst≠some dA/\o.dst≠some dB)/\ ∃d,o.dst=some d:=by
  intro k o hkp ho
  have:=hk k (by omega)
  rw[ho]at this
  simp only[if_pos hkp,A4,decide_eq_true_eq,Ck]at this
  obtain⟨⟨⟨a1,a2⟩,a3⟩,a4⟩:=this
  cases hd:o.dst with
  |none=>rw[hd]at a4;cases a4
  |some d=>
   rw[hd]at a4
   simp only[A4,Ck]at a4
   refine⟨⟨a1,by simpa using a2,by simpa using a3,fun q=> ?_,fun q=> ?_⟩,d,rfl⟩
   .cases q;simp at a4
   .cases q;simp at a4
 refine fun a w L β hs=> ?_
 refine wp_region_any hm ?_
 have hg: ∀j,(Array.replicate ops.toArray.size false).getD j false=false:=fun j=>by
  simp[Array.getD]
 have e1:fE (fun i=>(Array.replicate ops.toArray.size false).getD i false) 0 ops (tr1++tr2) e=e:=by
  funext t
  exact zY5 _ t ops (tr1++tr2) 0 e fun k o _ _=>hg _
 have e2:fS (fun i=>(Array.replicate ops.toArray.size false).getD i false) q 0 ops (tr1++tr2) σ=σ:=zw6 _ q ops (tr1++tr2) 0 σ fun k o _ _=>hg _
 refine xB9 hn hc hcb hA hB hdAB hkA hkB hz1 hz2 (fun k o a b=>(hlo k o a b).1) (fun k o hk2 ho=> ?_) (fun{i j x y} hij hx hy=> ?_) hed hlt h0 (fun k v s hkp hv=> ?_) ht hK _ _ a w.drew L β (by simp) (by simp) (fun j o _ hj=>by rw[hg]at hj;cases hj) (.inl ⟨fun h=>(by rw[hg]at h;cases h), ?_⟩)
 .have:=hk k (A1.1 ho).1
  rw[ho]at this
  simp only[if_neg (show ¬k<p by omega),if_pos hk2,A4]at this
  exact⟨by simpa using this.1,by simpa using this.2⟩
 .have:=hd j (A1.1 hy).1 i hij
  rw[hx,hy]at this
  simp only[A4,Bt,Ck,Nat.beq_eq]at this
  rcases this.1 with (h|h)|h
  .exact .inl h
  .exact .inr (.inl (by simpa using h))
  .exact .inr (.inr h)
 .obtain⟨o,ho⟩: ∃o,ops[k]? =some o:=⟨ops[k],by simp[A0 (show k<ops.length by omega)]⟩
  obtain⟨_,d,hdo⟩:=hlo k o hkp ho
  have hv1:tr1[k]? =some (v,s):=by
   rw[Ab (by rw[hl1,htk];exact hkp)]at hv
   exact hv
  have ho1:(ops.take p)[k]? =some o:=by rw[Cz hkp];exact ho
  have:=zC0 (fun _=>true) d (ops.take p) tr1 0 k e o v s ho1 hv1 hdo rfl fun k' o' hk' ho' hd'=>by
   exfalso
   have hkp':k'<p:=by rw[<-htk];exact(A1.1 ho').1
   rw[Cz hkp']at ho'
   have:=hd k' (by omega) k hk'
   rw[ho,ho']at this
   simp only[A4]at this
   have:=this.2
   rw[hdo,hd']at this
   simp at this
   rw[<-Bool.not_eq_true,Nat.blt_eq]at this
   exact this hkp'
  rw[<-this]
  exact he1 d
 .rw[e1,e2]
  obtain⟨hm',hle⟩:=hs.mem.drew
  exact⟨hm',hs.size,hs.defs,fun t=>(hs.env t).mono hle (Ext.refl _ _)⟩
def LtE (n:Nat) (e:Env):Prop:= ∀s,ltS n (e s)=true
theorem LtE.upd {n:Nat} {e:Env} {d:Tmp} {v:V} (he:LtE n e) (hv:ltS n v=true):LtE n (upd e d v):=fun s=>by
 simp only[Vx.upd]
 split
 .exact hv
 .exact he s
theorem xT3 {id:Nat} {ops:List Oper} {Q:QT} {e:Env} {σ:St} {l1 l2:List Oper} (q:List (Nat×Nat)) (n0 p:Nat) (hn:n0<=σ.length) (hm:P.follows .mixedOrders=true) (hc:c.σ0.length<=σ.length) (hcb:c.β0.length=c.σ0.length)
  (h2:(two P ops q p&&zc3 ops)=true) (hlt:σ.all (ltOb σ.length)=true) (h0:LtE σ.length e)
  (h1:ops.take p=l1) (h3:ops.drop p=l2)
  (h:wtr P c nt (Kp.pre n0) ops q 0 l1 (fun e' σ'=>LtE σ.length e'/\wtr P c nt (Kp.pre n0) ops q p l2 (Q .normal) fx fx fx e' σ') fx fx fx e σ):wVW P c nt (.region id ops.toArray true) Q fx fx e σ:=by
 subst h1;subst h3
 simp only[A4]at h2
 exact VW.draw2 (n0:=Kp.pre n0) p hm hn hc hcb h2.1 h2.2 hlt h0 h
theorem Kp.out_or {k:Kp} {id:Nat} (h:k.out id=true):(id<k.x/\k.ob=none)∨k.n<=id:=by simpa[Kp.out]using h
def yU6 (n0:Kp):V->Bool
 | .sl .full _=>true
 | .sl (.app id) _=>n0.out id
 | .lsv id _ _ _ _=>n0.out id
 |_=>false
attribute [go_sem] yU6
@[go_sem] theorem wtop_append3 {K:KT} {e:Env} {σ:St} {d:Option Tmp} {x y:Operand} {t1 t2:TypeId} (h:yU6 n0 (zF e x)=true):wtop P c nt n0 3 d (.call ⟨.builtin .append, #[x,y], #[t1,t2]⟩) K fx fx e σ=wop P c nt d (.call ⟨.builtin .append, #[x,y], #[t1,t2]⟩) K fx fx e σ:=by
 show vtop P c nt n0 3 d (.call ⟨.builtin .append, #[x,y], #[t1,t2]⟩) K e σ=vop P c nt d (.call ⟨.builtin .append, #[x,y], #[t1,t2]⟩) K e σ
 have h1:zW0 (xL P d e σ (.call ⟨.builtin .append, #[x,y], #[t1,t2]⟩))=false:=by
  unfold xL
  split
  .exact zV8 _ (fun _ _ _ _ _ h=>by cases h) (fun _ _ h=>by cases h)
  .exact ze6 _ (fun _ _ _ _ _ h=>by cases h)
 have hA: ∀(el:Option (Nat×Nat)) (k2:Nat) (y:V),stOk n0 3 σ (zg8 el k2 σ (zF e x) y):=fun el k2 y=>by
  unfold zg8
  split
  .split
   .exact⟨by simp,fun _=> .inl ⟨_,rfl⟩⟩
   .rename_i hx
    rw[hx]at h
    have h:=Kp.out_or (k:=n0) h
    split<;>first|trivial|exact⟨by simp,fun _=> .inr (Kp.of_set h)⟩
   .rename_i hx
    rw[hx]at h
    have h:=Kp.out_or (k:=n0) h
    (repeat' split)<;>first|trivial|exact⟨by simp,fun _=> .inr (Kp.of_set h)⟩
   .trivial
  .trivial
 have hL: ∀(el:Option (Nat×Nat)) (k2:Nat) (y:V),stOk n0 3 σ (zd9 el k2 σ (zF e x) y):=fun el k2 y=>by
  unfold zd9
  split
  .rename_i hx
   rw[hx]at h
   have h:=Kp.out_or (k:=n0) h
   (repeat' split)<;>first|trivial|exact⟨by simp,fun _=> .inr (Kp.of_set h)⟩
  ·(repeat' split)<;>first|trivial|exact⟨by simp,fun _=> .inl ⟨_,rfl⟩⟩
 have h2:stOk n0 3 σ (xL P d e σ (.call ⟨.builtin .append, #[x,y], #[t1,t2]⟩)):=by
  unfold xL
  split
  .exact hL (elT P t1) (lenT P t2) (zF e y)
  .exact hA (elT P t1) (lenT P t2) (zF e y)
 simp only[vtop,vop]
 exact propext ⟨fun q=>q.2.2.2.2.2.2,fun q=>⟨fun q=>by omega,h1,fun q=>by simp at q,fun q=>by simp at q,fun _=>by omega,h2,q⟩⟩
theorem LtE.env0 {n:Nat}:LtE n env0:=fun _=>rfl
end
theorem xz6 (t s:Nat) (rows:List (List V)) {P:Program} {c:Ctx} {nt:Nat} {e:Env} {σ:St} {Q:QT} {y:Code} (h0:0<s) (hu:uni s rows) (ht:e t= .sl .full rows) (hy:wVW P c nt y Q fx fx (upd e t (.sl (.app σ.length) rows)) (σ++ [.app rows.length s])):wVW P c nt y Q fx fx e σ:=by
 intro a w L β hs
 have hr:=hs.env t
 rw[ht]at hr
 have hr:RdP w L (.sl .full rows) (a.tmps.getD t undef):=hr
 obtain⟨ad,hx,hro⟩: ∃ad,a.tmps.getD t undef= .slice ad rows.length rows.length/\RdP w L (.sl .ro rows) (.slice ad rows.length rows.length):=by
  generalize a.tmps.getD t undef=x at hr
  cases hr with
  |sl0 g ad cap hg ha=>have:=hg rfl;subst this;exact⟨ad,rfl,.sl0 .ro ad 0 (fun h=>by cases h) (fun _ h=>by cases h)⟩
  |sl g rows s b o cap c ha hs hlen hlim hcap hg hc hr=>have:=hg rfl;subst this;exact⟨_,rfl,.sl .ro rows s b o _ c (fun _ h=>by cases h) hs hlen hlim hcap (fun h=>by cases h) hc hr⟩
 have hext:=Ext.push σ β hs.mem.len (.app rows.length s) (.slice ad rows.length rows.length)
 refine hy a w L (β++ [.slice ad rows.length rows.length]) ⟨hs.mem.own h0,hs.size,hs.defs,fun k=> ?_⟩
 simp only[upd]
 split
 .rename_i hk
  subst hk
  rw[hx]
  exact⟨hro,rows.length,s,by simp,A2 _,fun _=>by rw[<-hs.mem.len];simp,hu⟩
 .exact(hs.env k).mono (Le.refl _ _) hext
theorem xJ6 {P:Program} {c:Ctx} {σ:St} (i j:Nat) {o p:Ob} {f:FuncId} {caps args args':List V} {KV:V->St->Prop} {R:V->St->Prop} (hc:VCalls P f args' [o,p] R) (hb:wS P f=true) (hij:i≠j) (ho:σ[i]? =some o) (hp:σ[j]? =some p) (hok:ltOb 0 o=true) (hpk:ltOb 0 p=true)
  (hargs:All2 (argS (ren [i,j] σ.length)) args' (args++caps)) (hR: ∀r s,R r s-> ∃o2 p2,s= [o2,p2]/\ltOb 0 o2=true/\ltOb 0 p2=true) (hK: ∀r o2 p2,R r [o2,p2]->KV (renS (ren [i,j] σ.length) r) ((σ.set i o2).set j p2)):wVC P c (.fn f caps) args σ KV fx:=by
 have hno: ∀q:Ob,ltOb 0 q=true->yN (ren [i,j] σ.length) q=q:=fun q h=>wD (n:=0) (fun _ h=>absurd h (Bg _)) h
 refine VC.of hc hb [i,j] (by simpa using hij) rfl (fun k l q h1 h2=> ?_) hargs fun r s h _=> ?_
 .match k with
  |0=>simp at h1 h2;subst h1;subst h2;rw[hno _ hok];exact ho
  |1=>simp at h1 h2;subst h1;subst h2;rw[hno _ hpk];exact hp
  |k+2=>simp at h1
 .obtain⟨o2,p2,rfl,h1,h2⟩:=hR r s h
  have e:xE [i,j] σ [o2,p2]=(σ.set i o2).set j p2:=by
   simp only[xE,Ah,D7,By,Dq,Dk,Bd,Al,Br,mset,B7,hno _ h1,hno _ h2]
  rw[e];exact hK r o2 p2 h
theorem yT5 (pick:List Nat) {n0:Nat} {R:V->St->Prop} {σ s:St} {v r:V} (hnd:pick.Nodup) (hn: ∀i,i<n0->pick[i]? =some i) (hlen:s.length=pick.length) (hob: ∀(i j:Nat) (o:Ob),pick[i]? =some j->s[i]? =some o->σ[j]? =some (yN (ren pick σ.length) o)) (hr:argS (ren pick σ.length) r v) (hR:R r s):wret (some v) n0 R σ:=
 ⟨v,rfl,v,σ,pick,s,r,.refl _ _,⟨hlen,hnd,hob,hn⟩,hr,hR⟩
theorem VCalls.frz {P:Program} {f:FuncId} {args:List V} {v:V} {R:V->St->Prop} (h:VCalls P f args [] R) (hR: ∀r s,R r s-> ∃r' s',Frz [r] s [r'] s'/\argS (ren [] s'.length) v r'):Pure P f args v:=by
 intro w L β vals hm ha
 refine(h w L β vals hm ha).mono ?_
 rintro e w' ⟨x,r,L',σ',β',he,hr,hl,hm',hrd⟩
 obtain⟨r',s',hf,hv⟩:=hR r σ' hr
 obtain⟨L2,β2,hm2,hle2,hext2,hv2⟩:=hf.ok hm' (show All2 (RdS w' L' σ' β') [r] [x] from⟨hrd,trivial⟩)
 have hβ:β.length=([]:St).length:=hm.len
 have hp:Picks (entry w L [] β).σ0.length [] s' []:=⟨rfl,D5,fun i j o q=>by simp at q,fun i q=>absurd q (Bg i)⟩
 have hm3:=hm2.pick hp hβ
 refine⟨x,v,L2,[],[],he,⟨rfl,rfl⟩,A2 _,hm3, ?_⟩
 exact zv9 (hp.bak hm2.len) hv hv2.1
theorem yg0 {n m:Nat} (h:n<=m) {v:V} (hv:ltK n v=true):ltK m v=true:=by
 cases v with
 |sl g rows=>cases g<;>simp_all[ltK]<;>omega
 |_=>simp_all[ltK]<;>omega
theorem zP1 {n m:Nat} (h:n<=m) {v:V} (hv:ltC n v=true):ltC m v=true:=by
 cases v with
 |fn f caps=>
  simp only[ltC,Af]at hv⊢
  exact fun x hx=>yg0 h (hv x hx)
 |ifc t v=>
  simp only[ltC,Af]at hv⊢
  exact fun x hx=>yg0 h (hv x hx)
 |_=>simp only[ltC]at hv⊢;exact yg0 h hv
theorem yF5 {n m:Nat} (h:n<=m) {v:V} (hv:ltA n v=true):ltA m v=true:=by
 cases v with
 |agg cs=>
  simp only[ltA,Af]at hv⊢
  exact fun x hx=>zP1 h (hv x hx)
 |_=>simp only[ltA]at hv⊢;exact zP1 h hv
theorem yp7 {n m:Nat} (h:n<=m) {o:Ob} (ho:ltOb n o=true):ltOb m o=true:=by
 cases o with
 |box cells=>simp only[ltOb,Af]at ho⊢;exact fun x hx=>zP1 h (ho x hx)
 |lst rows s=>simp only[ltOb,Af]at ho⊢;exact fun r hr x hx=>zP1 h (ho r hr x hx)
 |mp kvs borns clk=>simp only[ltOb,Af]at ho⊢;exact fun x hx=>yF5 h (ho x hx)
 |it m' since seen last=>cases m' with
  |none=>rfl
  |some i=>simp only[ltOb,decide_eq_true_eq]at ho⊢;omega
 |_=>rfl
theorem xJ7 {P:Program} {c:Ctx} {n:Nat} {f:FuncId} {caps args args':List V} {σ:St} {o o2:Ob} {v:V} {KV:V->St->Prop} (hc:VCalls P f args' [o] (fun r s=>r=v/\s= [o2])) (hb:wS P f=true) (ho:σ[0]? =some o) (hlt:ltOb 0 o=true) (hlt2:ltOb 0 o2=true)
  (hargs:All2 (argS (ren [0] σ.length)) args' (args++caps)) (hn:noS v=true) (hk:KV v (σ.set 0 o2)):wVD P c ⟨1,n,[],none⟩ 3 (.fn f caps) args σ KV fx:=by
 have hno: ∀q:Ob,ltOb 0 q=true->yN (ren [0] σ.length) q=q:=fun q h=>wD (n:=0) (fun _ h=>absurd h (Bg _)) h
 have e:xE [0] σ [o2]=σ.set 0 o2:=by
  simp only[xE,Bh,By,Dq,Dk,Bd,Al,Br,mset,B7,hno _ hlt2]
 refine yL4 hc hb [0] (by simp) rfl (fun i j q h1 h2=> ?_) hargs (.inr ?_) ?_
 .match i with
  |0=>simp at h1 h2;subst h1;subst h2;rw[hno _ hlt];exact ho
  |i+1=>simp at h1
 .rw[e];exact Kp.of_set (.inl ⟨Nat.zero_lt_one,rfl⟩)
 .rw[e,zD2 hn];exact hk
end Go.Vx
