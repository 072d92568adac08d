/-
  Stores within stores: names of objects changed, some of them picked; and what a call is at the level of trees.
  No condition: a library text; nothing of the program is named.
-/
import Derived.Test.YtkigddpaonhmlaaGreatXAG
set_option maxHeartbeats 8000000
namespace Go.Vx
open Go
def renK (ρ:Nat->Nat):V->V
 | .ptr id off=> .ptr (ρ id) off
 | .sl (.app id) rows=> .sl (.app (ρ id)) rows
 | .lsv id s n lo m=> .lsv (ρ id) s n lo m
 | .lsp id s n k j=> .lsp (ρ id) s n k j
 | .bsv id s off n=> .bsv (ρ id) s off n
 | .mp id=> .mp (ρ id)
 |v=>v
def renC (ρ:Nat->Nat):V->V
 | .fn f caps=> .fn f (caps.map (renK ρ))
 | .ifc t vs=> .ifc t (vs.map (renK ρ))
 |v=>renK ρ v
def renA (ρ:Nat->Nat):V->V
 | .agg cs=> .agg (cs.map (renC ρ))
 |v=>renC ρ v
def renS (ρ:Nat->Nat):V->V
 | .tup vs=> .tup (vs.map (renA ρ))
 |v=>renA ρ v
def yN (ρ:Nat->Nat):Ob->Ob
 | .box cells=> .box (cells.map (renC ρ))
 | .lst rows s=> .lst (rows.map fun r=>r.map (renC ρ)) s
 | .mp kvs borns clk=> .mp (kvs.map (renA ρ)) borns clk
 | .it m since seen last=> .it (m.map ρ) since seen last
 |o=>o
theorem All2.map_l {α β γ:Type} {R:α->β->Prop} {S:γ->β->Prop} {f:α->γ} (h: ∀a b,R a b->S (f a) b): ∀{l:List α} {m:List β},All2 R l m->All2 S (l.map f) m
 | [],[],_=>trivial
 |_::_,_::_,q=>⟨h _ _ q.1,All2.map_l h q.2⟩
 | [],_::_,q=>q.elim
 |_::_,[],q=>q.elim
theorem All2.unmap_l {α β γ:Type} {R:α->β->Prop} {S:γ->β->Prop} {f:α->γ} (h: ∀a b,S (f a) b->R a b): ∀{l:List α} {m:List β},All2 S (l.map f) m->All2 R l m
 | [],[],_=>trivial
 |_::_,_::_,q=>⟨h _ _ q.1,All2.unmap_l h q.2⟩
 | [],_::_,q=>q.elim
 |_::_,[],q=>q.elim
structure Emb (ρ:Nat->Nat) (σ:St) (β:List Value) (σc:St) (βc:List Value):Prop where
 val: ∀(id:Nat) x,β[id]? =some x->βc[ρ id]? =some x
 app: ∀(id:Nat) n s,σ[id]? =some (.app n s)->σc[ρ id]? =some (.app n s)
 lst: ∀(id:Nat) rows s,σ[id]? =some (.lst rows s)-> ∃rows',σc[ρ id]? =some (.lst rows' s)/\rows'.length=rows.length
 dead: ∀(id:Nat),σ[id]? =some .dead->σc[ρ id]? =some .dead
structure Bak (ρ:Nat->Nat) (σ:St) (β:List Value) (σc:St) (βc:List Value):Prop where
 val: ∀(id:Nat) x,βc[ρ id]? =some x->β[id]? =some x
 app: ∀(id:Nat) n s,σc[ρ id]? =some (.app n s)->σ[id]? =some (.app n s)
 lst: ∀(id:Nat) rows s,σc[ρ id]? =some (.lst rows s)-> ∃rows',σ[id]? =some (.lst rows' s)/\rows'.length=rows.length
 dead: ∀(id:Nat),σc[ρ id]? =some .dead->σ[id]? =some .dead
section
variable {ρ:Nat->Nat} {w:World} {L:Nat->Nat} {σ σc:St} {β βc:List Value}
theorem RdK.emb (h:Emb ρ σ β σc βc) {v:V} {x:Value} (r:RdK w L σ β v x):RdK w L σc βc (renK ρ v) x:=by
 cases v with
 |ptr id off=>obtain⟨b,hb,hx⟩:=r;exact⟨b,h.val _ _ hb,hx⟩
 |sl g rows=>cases g with
  |app id=>obtain⟨hr,n,s,hσ,hle,hβ,hl⟩:=r;exact⟨hr,n,s,h.app _ _ _ hσ,hle,fun q=>h.val _ _ (hβ q),hl⟩
  |ro=>exact r
  |full=>exact r
 |lsv id s n lo m=>
  obtain⟨a,cap,hx,hm,ha,hc⟩:=r
  refine⟨a,cap,hx,hm,ha, ?_⟩
  rcases hc with hd|⟨rows,hσ,hn,hb⟩
  .exact .inl (h.dead id hd)
  .obtain⟨r2,e2,l2⟩:=h.lst id rows s hσ
   refine .inr ⟨r2,e2,by omega,fun q=> ?_⟩
   obtain⟨b,c0,q1,q2⟩:=hb (by omega)
   exact⟨b,c0,h.val _ _ q1,q2⟩
 |lsp id s n i j=>
  obtain⟨b,o,hx,hc⟩:=r
  refine⟨b,o,hx, ?_⟩
  rcases hc with hd|⟨rows,hσ,hn,hb⟩
  .exact .inl (h.dead id hd)
  .obtain⟨r2,e2,l2⟩:=h.lst id rows s hσ
   refine .inr ⟨r2,e2,by omega,fun q q'=> ?_⟩
   obtain⟨c0,q1,q2⟩:=hb (by omega) q'
   exact⟨c0,h.val _ _ q1,q2⟩
 |bsv id s off n=>obtain⟨b,hb,hx⟩:=r;exact⟨b,h.val _ _ hb,hx⟩
 |mp id=>obtain⟨b,hb,hx⟩:=r;exact⟨b,h.val _ _ hb,hx⟩
 |_=>exact r
theorem RdK.bak (h:Bak ρ σ β σc βc) {v:V} {x:Value} (r:RdK w L σc βc (renK ρ v) x):RdK w L σ β v x:=by
 cases v with
 |ptr id off=>obtain⟨b,hb,hx⟩:=r;exact⟨b,h.val _ _ hb,hx⟩
 |sl g rows=>cases g with
  |app id=>obtain⟨hr,n,s,hσ,hle,hβ,hl⟩:=r;exact⟨hr,n,s,h.app _ _ _ hσ,hle,fun q=>h.val _ _ (hβ q),hl⟩
  |ro=>exact r
  |full=>exact r
 |lsv id s n lo m=>
  obtain⟨a,cap,hx,hm,ha,hc⟩:=r
  refine⟨a,cap,hx,hm,ha, ?_⟩
  rcases hc with hd|⟨rows,hσ,hn,hb⟩
  .exact .inl (h.dead id hd)
  .obtain⟨r2,e2,l2⟩:=h.lst id rows s hσ
   refine .inr ⟨r2,e2,by omega,fun q=> ?_⟩
   obtain⟨b,c0,q1,q2⟩:=hb (by omega)
   exact⟨b,c0,h.val _ _ q1,q2⟩
 |lsp id s n i j=>
  obtain⟨b,o,hx,hc⟩:=r
  refine⟨b,o,hx, ?_⟩
  rcases hc with hd|⟨rows,hσ,hn,hb⟩
  .exact .inl (h.dead id hd)
  .obtain⟨r2,e2,l2⟩:=h.lst id rows s hσ
   refine .inr ⟨r2,e2,by omega,fun q q'=> ?_⟩
   obtain⟨c0,q1,q2⟩:=hb (by omega) q'
   exact⟨c0,h.val _ _ q1,q2⟩
 |bsv id s off n=>obtain⟨b,hb,hx⟩:=r;exact⟨b,h.val _ _ hb,hx⟩
 |mp id=>obtain⟨b,hb,hx⟩:=r;exact⟨b,h.val _ _ hb,hx⟩
 |_=>exact r
theorem RdC.emb (h:Emb ρ σ β σc βc) {v:V} {x:Value} (r:RdC w L σ β v x):RdC w L σc βc (renC ρ v) x:=by
 cases v with
 |fn f caps=>obtain⟨xs,hx,hc⟩:=r;exact⟨xs,hx,All2.map_l (f:=renK ρ) (fun _ _ q=>RdK.emb h q) hc⟩
 |ifc t v=>obtain⟨y,hx,hc⟩:=r;exact⟨y,hx,All2.map_l (f:=renK ρ) (fun _ _ q=>RdK.emb h q) hc⟩
 |sl g rows=>
  have r':RdK w L σ β (.sl g rows) x:=r
  have:=r'.emb h
  cases g<;>exact this
 |_=>simp only[RdC]at r;have q:=RdK.emb h r;exact q
theorem RdC.bak (h:Bak ρ σ β σc βc) {v:V} {x:Value} (r:RdC w L σc βc (renC ρ v) x):RdC w L σ β v x:=by
 cases v with
 |fn f caps=>obtain⟨xs,hx,hc⟩:=r;exact⟨xs,hx,All2.unmap_l (f:=renK ρ) (fun _ _ q=>RdK.bak h q) hc⟩
 |ifc t v=>obtain⟨y,hx,hc⟩:=r;exact⟨y,hx,All2.unmap_l (f:=renK ρ) (fun _ _ q=>RdK.bak h q) hc⟩
 |sl g rows=>
  have r':RdK w L σc βc (renK ρ (.sl g rows)) x:=by cases g<;>exact r
  exact r'.bak h
 |_=>simp only[RdC];refine RdK.bak h ?_;exact r
theorem RdA.emb (h:Emb ρ σ β σc βc) {v:V} {x:Value} (r:RdA w L σ β v x):RdA w L σc βc (renA ρ v) x:=by
 cases v with
 |agg cs=>obtain⟨xs,hx,hc⟩:=r;exact⟨xs,hx,All2.map_l (f:=renC ρ) (fun _ _ q=>RdC.emb h q) hc⟩
 |sl g rows=>
  have r':RdC w L σ β (.sl g rows) x:=r
  have:=r'.emb h
  cases g<;>exact this
 |_=>simp only[RdA]at r;have q:=RdC.emb h r;exact q
theorem RdA.bak (h:Bak ρ σ β σc βc) {v:V} {x:Value} (r:RdA w L σc βc (renA ρ v) x):RdA w L σ β v x:=by
 cases v with
 |agg cs=>obtain⟨xs,hx,hc⟩:=r;exact⟨xs,hx,All2.unmap_l (f:=renC ρ) (fun _ _ q=>RdC.bak h q) hc⟩
 |sl g rows=>
  have r':RdC w L σc βc (renC ρ (.sl g rows)) x:=by cases g<;>exact r
  exact r'.bak h
 |_=>simp only[RdA];refine RdC.bak h ?_;exact r
theorem RdS.emb (h:Emb ρ σ β σc βc) {v:V} {x:Value} (r:RdS w L σ β v x):RdS w L σc βc (renS ρ v) x:=by
 cases v with
 |u=>trivial
 |tup vs=>obtain⟨xs,hx,hc⟩:=r;exact⟨xs,hx,All2.map_l (f:=renA ρ) (fun _ _ q=>RdA.emb h q) hc⟩
 |sl g rows=>
  have r':RdA w L σ β (.sl g rows) x:=r
  have:=r'.emb h
  cases g<;>exact this
 |_=>simp only[RdS]at r;have q:=RdA.emb h r;exact q
theorem RdS.bak (h:Bak ρ σ β σc βc) {v:V} {x:Value} (r:RdS w L σc βc (renS ρ v) x):RdS w L σ β v x:=by
 cases v with
 |u=>trivial
 |tup vs=>obtain⟨xs,hx,hc⟩:=r;exact⟨xs,hx,All2.unmap_l (f:=renA ρ) (fun _ _ q=>RdA.bak h q) hc⟩
 |sl g rows=>
  have r':RdA w L σc βc (renA ρ (.sl g rows)) x:=by cases g<;>exact r
  exact r'.bak h
 |_=>simp only[RdS];refine RdA.bak h ?_;exact r
theorem ObOk.emb (h:Emb ρ σ β σc βc) {o:Ob} {x:Value} (r:ObOk w L σ β o x):ObOk w L σc βc (yN ρ o) x:=by
 cases o with
 |box cells=>obtain⟨b,arr,T,fz,hx,hh,hf,hl,hc⟩:=r;exact⟨b,arr,T,fz,hx,hh,hf,hl,All2.map_l (f:=renC ρ) (fun _ _ q=>RdC.emb h q) hc⟩
 |lst rows s=>
  obtain⟨a,cap,hx,hcap,hs,hu,hok⟩:=r
  refine⟨a,cap,by simpa using hx,by simpa using hcap,hs,fun r hr=> ?_,fun h0=> ?_⟩
  .obtain⟨r0,hr0,rfl⟩:=Ac.1 hr
   rw[Aq];exact hu r0 hr0
  .obtain⟨b,arr,T,fz,ha,hh,hf,hsz,hl,hc⟩:=hok h0
   refine⟨b,arr,T,fz,ha,hh,hf,hsz,hl, ?_⟩
   rw[Aq,<-List.map_flatten]
   exact All2.map_l (f:=renC ρ) (fun _ _ q=>RdC.emb h q) hc
 |app n s=>exact r
 |dead=>trivial
 |mp kvs borns clk=>obtain⟨b,es,hx,hh,hl,hc,hb⟩:=r;exact⟨b,es,hx,hh,hl,All2.map_l (f:=renA ρ) (fun _ _ q=>RdA.emb h q) hc,hb⟩
 |it m since seen last=>
  obtain⟨b,mo,hx,hh,hl,hc⟩:=r
  refine⟨b,mo,hx,hh,hl, ?_⟩
  cases m with
  |none=>exact hc
  |some id=>obtain⟨q,hq,hm⟩:=hc;exact⟨q,h.val _ _ hq,hm⟩
theorem ObOk.bak (h:Bak ρ σ β σc βc) {o:Ob} {x:Value} (r:ObOk w L σc βc (yN ρ o) x):ObOk w L σ β o x:=by
 cases o with
 |box cells=>obtain⟨b,arr,T,fz,hx,hh,hf,hl,hc⟩:=r;exact⟨b,arr,T,fz,hx,hh,hf,hl,All2.unmap_l (f:=renC ρ) (fun _ _ q=>RdC.bak h q) hc⟩
 |lst rows s=>
  obtain⟨a,cap,hx,hcap,hs,hu,hok⟩:=r
  refine⟨a,cap,by simpa using hx,by simpa using hcap,hs,fun r hr=> ?_,fun h0=> ?_⟩
  .have:=hu _ (Ac.2 ⟨r,hr,rfl⟩)
   rwa [Aq]at this
  .obtain⟨b,arr,T,fz,ha,hh,hf,hsz,hl,hc⟩:=hok h0
   refine⟨b,arr,T,fz,ha,hh,hf,hsz,hl, ?_⟩
   rw[Aq,<-List.map_flatten]at hc
   exact All2.unmap_l (f:=renC ρ) (fun _ _ q=>RdC.bak h q) hc
 |app n s=>exact r
 |dead=>trivial
 |mp kvs borns clk=>obtain⟨b,es,hx,hh,hl,hc,hb⟩:=r;exact⟨b,es,hx,hh,hl,All2.unmap_l (f:=renA ρ) (fun _ _ q=>RdA.bak h q) hc,hb⟩
 |it m since seen last=>
  obtain⟨b,mo,hx,hh,hl,hc⟩:=r
  refine⟨b,mo,hx,hh,hl, ?_⟩
  cases m with
  |none=>exact hc
  |some id=>obtain⟨q,hq,hm⟩:=hc;exact⟨q,h.val _ _ hq,hm⟩
theorem zh1 (o:Ob) (x:Value):excl (yN ρ o) x=excl o x:=by
 cases o with
 |lst rows s=>cases x with
  |slice a n cap=>cases a<;>rfl
  |_=>rfl
 |_=>cases x<;>first|rfl|(rename_i q;cases q<;>rfl)
end
def zi8 (σ:St) (β:List Value):List Nat:=(σ.zip β).filterMap fun p=>excl p.1 p.2
theorem mem_blocksOf {σ:St} {β:List Value} {b:Nat}:b∈zi8 σ β↔ ∃(i:Nat) (o:Ob) (x:Value),σ[i]? =some o/\β[i]? =some x/\excl o x=some b:=by
 unfold zi8
 rw[List.mem_filterMap]
 constructor
 .rintro⟨⟨o,x⟩,hm,he⟩
  obtain⟨i,hi⟩:=Av.1 hm
  rw[List.getElem?_zip_eq_some]at hi
  exact⟨i,o,x,hi.1,hi.2,he⟩
 .rintro⟨i,o,x,h1,h2,h3⟩
  exact⟨(o,x),Av.2 ⟨i,by rw[List.getElem?_zip_eq_some];exact⟨h1,h2⟩⟩,h3⟩
def entry (w:World) (L:Nat->Nat) (σ:St) (β:List Value):Ctx:=⟨w,L,zi8 σ β,σ,β⟩
def ren (sel:List Nat) (N:Nat) (id:Nat):Nat:=if h:id<sel.length then sel[id]else N+(id - sel.length)
def VCalls (P:Program) (f:FuncId) (args:List V) (σ:St) (R:V->St->Prop):Prop:=
 ∀(w:World) (L:Nat->Nat) (β:List Value) (vals:List Value),Mem (entry w L σ β) w L σ β->All2 (RdS w L σ β) args vals->
  Calls P f vals.toArray w fun e w'=> ∃v r L' σ' β',e= .returned v/\R r σ'/\σ.length<=σ'.length/\Mem (entry w L σ β) w' L' σ' β'/\RdS w' L' σ' β' r v
theorem VCalls.mono {P:Program} {f:FuncId} {args:List V} {σ:St} {R R':V->St->Prop} (h:VCalls P f args σ R) (hR: ∀r σ',R r σ'->R' r σ'):VCalls P f args σ R':=
 fun w L β vals hm ha=>(h w L β vals hm ha).mono fun _ _ ⟨v,r,L',σ',β',he,hr,hl,hm',hrd⟩=>⟨v,r,L',σ',β',he,hR _ _ hr,hl,hm',hrd⟩
def VC (P:Program) (c:Ctx) (fv:V) (args:List V) (σ:St) (K:V->St->Prop):Prop:=
 ∃f caps,fv= .fn f caps/\(((∃fn,P.funcs[f]? =some fn/\(fn.name== "runtime.NumGoroutine")=false/\fn.body.isSome=true)/\
  ∀w L β vals,Mem c w L σ β->All2 (RdS w L σ β) (args++caps) vals->
   Calls P f vals.toArray w fun e w'=> ∃v r L' σ' β',e= .returned v/\K r σ'/\Mem c w' L' σ' β'/\Le w L w' L'/\Ext σ β σ' β'/\RdS w' L' σ' β' r v)∨
  ∀w L β vals,Mem c w L σ β->All2 (RdS w L σ β) (args++caps) vals->
   ∃v r w' L' σ' β',(callFunc f vals.toArray).run P w= .ok (.value v) w'/\K r σ'/\Mem c w' L' σ' β'/\Le w L w' L'/\Ext σ β σ' β'/\RdS w' L' σ' β' r v)
theorem VC.mono {P:Program} {c:Ctx} {fv:V} {as:List V} {σ:St} {K K':V->St->Prop} (h:VC P c fv as σ K) (hk: ∀v s,K v s->K' v s):VC P c fv as σ K':=by
 obtain⟨f,caps,h1,⟨h2,h3⟩|h3⟩:=h
 .refine⟨f,caps,h1,.inl ⟨h2,fun w L β vals hm ha=>(h3 w L β vals hm ha).mono ?_⟩⟩
  rintro e w' ⟨v,r,L',σ',β',q1,q2,q3⟩
  exact⟨v,r,L',σ',β',q1,hk _ _ q2,q3⟩
 .refine⟨f,caps,h1,.inr fun w L β vals hm ha=> ?_⟩
  obtain⟨v,r,w',L',σ',β',q1,q2,q3⟩:=h3 w L β vals hm ha
  exact⟨v,r,w',L',σ',β',q1,hk _ _ q2,q3⟩
def wS (P:Program) (f:FuncId):Bool:=match P.funcs[f]? with|some fn=> !(fn.name== "runtime.NumGoroutine")&&fn.body.isSome|none=>false
theorem zB6 {P:Program} {f:FuncId} (h:wS P f=true): ∃fn,P.funcs[f]? =some fn/\(fn.name== "runtime.NumGoroutine")=false/\fn.body.isSome=true:=by
 unfold wS at h
 split at h
 .rename_i fn hf
  simp only[A4,Ck]at h
  exact⟨fn,hf,h.1,h.2⟩
 .cases h
def argC (ρ:Nat->Nat) (a' a:V):Prop:=a=renC ρ a'∨ ∃g rows,a'= .sl .ro rows/\a= .sl g rows
def argA (ρ:Nat->Nat) (a' a:V):Prop:=a=renA ρ a'∨(∃g rows,a'= .sl .ro rows/\a= .sl g rows)∨ ∃cs' cs,a'= .agg cs'/\a= .agg cs/\All2 (argC ρ) cs' cs
def argS (ρ:Nat->Nat) (a' a:V):Prop:=a=renS ρ a'∨a'= .u∨(∃g rows,a'= .sl .ro rows/\a= .sl g rows)∨(∃cs' cs,a'= .agg cs'/\a= .agg cs/\All2 (argC ρ) cs' cs)∨ ∃vs' vs,a'= .tup vs'/\a= .tup vs/\All2 (argA ρ) vs' vs
def mset {α:Type}:List Nat->List α->List α->List α
 |i::sel,l,x::xs=>mset sel (l.set i x) xs
 |_,l,_=>l
theorem xP {α:Type}: ∀(sel:List Nat) (l xs:List α),(mset sel l xs).length=l.length
 | [],_,_=>by simp[mset]
 |i::sel,l,[]=>by simp[mset]
 |i::sel,l,x::xs=>by simp[mset,xP sel]
theorem zh5 {α:Type}: ∀(sel:List Nat) (l xs:List α) (j:Nat),j∉sel->(mset sel l xs)[j]? =l[j]?
 | [],_,_,_,_=>by simp[mset]
 |i::sel,l,[],_,_=>by simp[mset]
 |i::sel,l,x::xs,j,h=>by
  simp only[Ag,not_or]at h
  rw[mset,zh5 sel _ xs j h.2,Ad (fun q=>h.1 q.symm)]
theorem zZ0 {α:Type}: ∀(sel:List Nat) (l xs:List α) (i j:Nat),sel.Nodup->(∀q∈sel,q<l.length)->sel.length<=xs.length->sel[i]? =some j->(mset sel l xs)[j]? =xs[i]?
 | [],_,_,_,_,_,_,_,h=>by simp at h
 |i0::sel,l,[],_,_,_,_,hl,_=>by simp at hl
 |i0::sel,l,x::xs,0,j,hn,hlt,hl,h=>by
  simp at h
  subst h
  rw[C1]at hn
  rw[mset,zh5 sel _ xs i0 hn.1,Ak (hlt i0 (by simp))]
  rfl
 |i0::sel,l,x::xs,i+1,j,hn,hlt,hl,h=>by
  rw[C1]at hn
  rw[mset,zZ0 sel _ xs i j hn.2 (fun q hq=>by simp;exact hlt q (by simp[hq])) (by simpa using hl) (by simpa using h)]
  simp
def xE (sel:List Nat) (σc σ':St):St:=mset sel σc ((σ'.take sel.length).map (yN (ren sel σc.length)))++(σ'.drop sel.length).map (yN (ren sel σc.length))
def zu5 (sel:List Nat) (βc β':List Value):List Value:=mset sel βc (β'.take sel.length)++β'.drop sel.length
section
variable {P:Program} {c:Ctx}
theorem wE {sel:List Nat} {N i:Nat} (h:i<sel.length):ren sel N i=sel[i]:=by simp[ren,h]
theorem zq9 {sel:List Nat} {N i:Nat} (h: ¬i<sel.length):ren sel N i=N+(i - sel.length):=by simp[ren,h]
theorem zt1 {sel:List Nat} {σc σ':St} (hn:sel.Nodup) (hlt: ∀q∈sel,q<σc.length) (hl:sel.length<=σ'.length) {i:Nat} {o:Ob} (h:σ'[i]? =some o):
  (xE sel σc σ')[ren sel σc.length i]? =some (yN (ren sel σc.length) o):=by
 unfold xE
 by_cases hi:i<sel.length
 .rw[wE hi,Ab (by rw[xP];exact hlt _ (A8 hi)),
   zZ0 sel _ _ i _ hn hlt (by simp;omega) (A0 hi),Az,Ae,if_pos hi,h]
  rfl
 .rw[zq9 hi,Ai (by rw[xP];omega),xP,Az,B0,show sel.length+(σc.length+(i - sel.length) - σc.length)=i by omega,h]
  rfl
theorem yg2 {sel:List Nat} {βc β':List Value} (hn:sel.Nodup) (hlt: ∀q∈sel,q<βc.length) (hl:sel.length<=β'.length) {i:Nat} {x:Value} (h:β'[i]? =some x):
  (zu5 sel βc β')[ren sel βc.length i]? =some x:=by
 unfold zu5
 by_cases hi:i<sel.length
 .rw[wE hi,Ab (by rw[xP];exact hlt _ (A8 hi)),
   zZ0 sel _ _ i _ hn hlt (by simp;omega) (A0 hi),Ae,if_pos hi,h]
 .rw[zq9 hi,Ai (by rw[xP];omega),xP,B0,show sel.length+(βc.length+(i - sel.length) - βc.length)=i by omega,h]
theorem xg4 {sel:List Nat} {σc σ':St} {βc β':List Value} (hn:sel.Nodup) (hlt: ∀q∈sel,q<σc.length) (hlc:βc.length=σc.length) (hl':β'.length=σ'.length) (hl:sel.length<=σ'.length) {j:Nat} {o:Ob} {x:Value}
  (h1:(xE sel σc σ')[j]? =some o) (h2:(zu5 sel βc β')[j]? =some x):
  (∃(i:Nat) (o':Ob),j=ren sel σc.length i/\σ'[i]? =some o'/\o=yN (ren sel σc.length) o'/\β'[i]? =some x)∨(j∉sel/\j<σc.length/\σc[j]? =some o/\βc[j]? =some x):=by
 have hltb: ∀q∈sel,q<βc.length:=by rw[hlc];exact hlt
 by_cases hj:j<σc.length
 .by_cases hm:j∈sel
  .obtain⟨i,hi⟩:=Av.1 hm
   obtain⟨hil,hij⟩:=A1.1 hi
   have e1:=zt1 hn hlt hl (A0 (show i<σ'.length by omega))
   have e2:=yg2 hn hltb (by omega) (A0 (show i<β'.length by omega))
   rw[wE hil,hij]at e1 e2
   rw[h1]at e1;rw[h2]at e2
   cases e2
   exact .inl ⟨i,σ'[i]'(by omega),by rw[wE hil,hij],A0 (by omega),Option.some.inj e1,A0 (by omega)⟩
  .unfold xE at h1
   unfold zu5 at h2
   rw[Ab (by rw[xP];exact hj),zh5 _ _ _ _ hm]at h1
   rw[Ab (by rw[xP];omega),zh5 _ _ _ _ hm]at h2
   exact .inr ⟨hm,hj,h1,h2⟩
 .unfold xE at h1
  unfold zu5 at h2
  rw[Ai (by rw[xP];omega),xP,Az,B0]at h1
  rw[Ai (by rw[xP];omega),xP,B0,hlc]at h2
  cases hq:σ'[sel.length+(j - σc.length)]? with
  |none=>rw[hq]at h1;cases h1
  |some o'=>
   rw[hq]at h1
   exact .inl ⟨_,o',by rw[zq9 (by omega)];omega,hq,(Option.some.inj h1).symm,h2⟩
theorem zL3 {α β γ:Type} {A:α->β->Prop} {B:β->γ->Prop} {C:α->γ->Prop} (h: ∀a b c,A a b->B b c->C a c): ∀{l:List α} {m:List β} {n:List γ},All2 A l m->All2 B m n->All2 C l n
 | [],[],[],_,_=>trivial
 |_::_,_::_,_::_,p,q=>⟨h _ _ _ p.1 q.1,zL3 h p.2 q.2⟩
 | [],_::_,_,p,_=>p.elim
 |_::_,[],_,p,_=>p.elim
 | [],[],_::_,_,q=>q.elim
 |_::_,_::_,[],_,q=>q.elim
section
variable {ρ:Nat->Nat} {w:World} {L:Nat->Nat} {σ σc:St} {β βc:List Value}
theorem xC1 (h:Bak ρ σ β σc βc) {a' a:V} {x:Value} (ha:argC ρ a' a) (r:RdC w L σc βc a x):RdC w L σ β a' x:=by
 rcases ha with rfl|⟨g,rows,rfl,rfl⟩
 .exact r.bak h
 .exact zv1 (RdS.of_cell r)
theorem yU4 (h:Bak ρ σ β σc βc) {a' a:V} {x:Value} (ha:argA ρ a' a) (r:RdA w L σc βc a x):RdA w L σ β a' x:=by
 rcases ha with rfl|⟨g,rows,rfl,rfl⟩|⟨cs',cs,rfl,rfl,hall⟩
 .exact r.bak h
 .exact zv1 (RdS.of_a r)
 .obtain⟨xs,hx,hr⟩:=r
  exact⟨xs,hx,zL3 (A:=argC ρ) (B:=RdC w L σc βc) (C:=RdC w L σ β) (fun _ _ _ p q=>xC1 h p q) hall hr⟩
theorem zv9 (h:Bak ρ σ β σc βc) {a' a:V} {x:Value} (ha:argS ρ a' a) (r:RdS w L σc βc a x):RdS w L σ β a' x:=by
 rcases ha with rfl|rfl|⟨g,rows,rfl,rfl⟩|⟨cs',cs,rfl,rfl,hall⟩|⟨vs',vs,rfl,rfl,hall⟩
 .exact r.bak h
 .trivial
 .exact zv1 r
 .exact RdS.of_a (yU4 h (.inr (.inr ⟨cs',cs,rfl,rfl,hall⟩)) r)
 .obtain⟨xs,hx,hr⟩:=r
  exact⟨xs,hx,zL3 (A:=argA ρ) (B:=RdA w L σc βc) (C:=RdA w L σ β) (fun _ _ _ p q=>yU4 h p q) hall hr⟩
end
theorem VC.of {f:FuncId} {caps args args':List V} {σc σin:St} {R:V->St->Prop} {K:V->St->Prop} (hc:VCalls P f args' σin R) (hb:wS P f=true) (sel:List Nat) (hnd:sel.Nodup) (hlen:σin.length=sel.length)
  (hob: ∀(i j:Nat) (o:Ob),sel[i]? =some j->σin[i]? =some o->σc[j]? =some (yN (ren sel σc.length) o)) (hargs:All2 (argS (ren sel σc.length)) args' (args++caps))
  (hk: ∀r σ',R r σ'->sel.length<=σ'.length->K (renS (ren sel σc.length) r) (xE sel σc σ')):VC P c (.fn f caps) args σc K:=by
 refine⟨f,caps,rfl,.inl ⟨zB6 hb,fun w L βc vals hm hv=> ?_⟩⟩
 have hsel: ∀q∈sel,q<σc.length:=fun q hq=>by
  obtain⟨i,hi⟩:=Av.1 hq
  have hil:=(A1.1 hi).1
  have:=hob i q _ hi (A0 (show i<σin.length by omega))
  exact(A1.1 this).1
 let βin:=sel.map fun q=>βc.getD q undef
 have hβin: ∀(i j:Nat),sel[i]? =some j->βin[i]? =βc[j]? :=fun i j hi=>by
  simp only[βin,Az,hi,B3]
  have hj:=hsel j (Av.2 ⟨i,hi⟩)
  rw[A5,A0 (by rw[hm.len];exact hj)]
  rfl
 have hinob: ∀(id:Nat) O,σc[ren sel σc.length id]? =some O-> ∃o,σin[id]? =some o/\O=yN (ren sel σc.length) o:=fun id O hx=>by
  by_cases hi:id<sel.length
  .rw[wE hi]at hx
   have hq:=A0 (show id<σin.length by omega)
   have:=hob id _ _ (A0 hi) hq
   rw[hx]at this
   exact⟨_,hq,by simpa using this⟩
  .rw[zq9 hi]at hx
   have:=(A1.1 hx).1
   omega
 have hbak:Bak (ren sel σc.length) σin βin σc βc:=by
  refine⟨fun id x hx=> ?_,fun id n s hx=> ?_,fun id rows s hx=> ?_,fun id hx=> ?_⟩
  .by_cases hi:id<sel.length
   .rw[wE hi]at hx
    rw[hβin id _ (A0 hi)];exact hx
   .rw[zq9 hi]at hx
    have:=(A1.1 hx).1
    rw[hm.len]at this;omega
  .obtain⟨o,ho,he⟩:=hinob id _ hx
   cases o with
   |app n' s'=>simp only[yN]at he;rw[ho,he]
   |_=>simp[yN]at he
  .obtain⟨o,ho,he⟩:=hinob id _ hx
   cases o with
   |lst r' s'=>
    simp only[yN,Ob.lst.injEq]at he
    obtain⟨e1,e2⟩:=he
    subst e2
    exact⟨r',ho,by rw[e1];simp⟩
   |_=>simp[yN]at he
  .obtain⟨o,ho,he⟩:=hinob id _ hx
   cases o with
   |dead=>exact ho
   |_=>simp[yN]at he
 have hback: ∀(i:Nat) (o:Ob) (x:Value),σin[i]? =some o->βin[i]? =some x-> ∃j,sel[i]? =some j/\σc[j]? =some (yN (ren sel σc.length) o)/\βc[j]? =some x:=by
  intro i o x ho hx
  have hi:i<sel.length:=by rw[<-hlen];exact(A1.1 ho).1
  have hs:=A0 hi
  exact⟨_,hs,hob i _ o hs ho,by rw[<-hβin i _ hs];exact hx⟩
 have hin:Mem (entry w L σin βin) w L σin βin:=by
  refine⟨by simp[βin,hlen],fun i o x ho hx=> ?_,fun i j o o' x x' b hij ho hx ho' hx' he=> ?_,fun i o x b ho hx he=> ?_,fun b _ _=>⟨rfl,rfl⟩,Le.refl _ _,A2 _,rfl,rfl,rfl,A2 _,hm.lim,Ext.refl _ _,hm.tab.mono hm.le⟩
  .obtain⟨j,hj,h1,h2⟩:=hback i o x ho hx
   exact(hm.objs j _ x h1 h2).bak hbak
  .obtain⟨p,hp,h1,h2⟩:=hback i o x ho hx
   obtain⟨q,hq,h3,h4⟩:=hback j o' x' ho' hx'
   have hpq:p≠q:=fun e=>by
    subst e
    obtain⟨hi,e1⟩:=A1.1 hp
    obtain⟨hj,e2⟩:=A1.1 hq
    exact hij ((List.getElem_inj hnd).1 (e1.trans e2.symm))
   have:=hm.apart p q _ _ x x' b hpq h1 h2 h3 h4 (by rw[zh1];exact he)
   rw[zh1]at this
   exact this
  .exact .inr (mem_blocksOf.2 ⟨i,o,x,ho,hx,he⟩)
 have hav:All2 (RdS w L σin βin) args' vals:=by
  clear hk hc
  generalize args++caps=as at hv hargs
  induction args' generalizing as vals with
  |nil=>cases as with
   |nil=>cases vals with
    |nil=>trivial
    |cons _ _=>exact hv.elim
   |cons _ _=>exact hargs.elim
  |cons p args' ih=>cases as with
   |nil=>exact hargs.elim
   |cons q as=>cases vals with
    |nil=>exact hv.elim
    |cons y ys=>exact⟨zv9 hbak hargs.1 hv.1,ih _ _ hv.2 hargs.2⟩
 refine(hc w L βin vals hin hav).mono fun e w' ⟨v,r,L',σ',β',he,hR,hle',hm',hrd⟩=> ?_
 have hl2:sel.length<=σ'.length:=by omega
 have hlb: ∀q∈sel,q<βc.length:=by rw[hm.len];exact hsel
 have hemb:Emb (ren sel σc.length) σ' β' (xE sel σc σ') (zu5 sel βc β'):=by
  refine⟨fun id x hx=> ?_,fun id n s hx=>zt1 hnd hsel hl2 hx,fun id rows s hx=>⟨_,zt1 hnd hsel hl2 hx,by simp⟩,fun id hx=>zt1 hnd hsel hl2 hx⟩
  have:=yg2 hnd hlb (by rw[hm'.len];exact hl2) hx
  rw[hm.len]at this;exact this
 have hinX: ∀(j:Nat) (o:Ob) (x:Value) (b:Nat),j∉sel->σc[j]? =some o->βc[j]? =some x->excl o x=some b->b∉zi8 σin βin:=by
  intro j o x b hj ho hx he hb
  obtain⟨i,o',x',h1,h2,h3⟩:=mem_blocksOf.1 hb
  obtain⟨p,hp,h4,h5⟩:=hback i o' x' h1 h2
  have hjp:j≠p:=fun q=>hj (by rw[q];exact Av.2 ⟨i,hp⟩)
  exact hm.apart j p o _ x x' b hjp ho hx h4 h5 he (by rw[zh1];exact h3)
 have hXmine: ∀b,b∈zi8 σin βin->c.w0.heap.size<=b∨b∈c.X0:=by
  intro b hb
  obtain⟨i,o',x',h1,h2,h3⟩:=mem_blocksOf.1 hb
  obtain⟨p,hp,h4,h5⟩:=hback i o' x' h1 h2
  exact hm.mine p _ x' b h4 h5 (by rw[zh1];exact h3)
 have hext:Ext σc βc (xE sel σc σ') (zu5 sel βc β'):=by
  refine⟨fun id a ha=> ?_,fun id n s ha=> ?_,fun id rows s ha=> ?_,fun id ha=> ?_⟩
  .have hidl:id<βc.length:=(A1.1 ha).1
   by_cases hs:id∈sel
   .obtain⟨i,hi⟩:=Av.1 hs
    have h1:=hβin i id hi
    rw[ha]at h1
    have h2:=hm'.ext.ptr i a h1
    have h3:=hemb.val i _ h2
    obtain⟨hil,hii⟩:=A1.1 hi
    rw[wE hil,hii]at h3
    exact h3
   .unfold zu5
    rw[Ab (by rw[xP];exact hidl),zh5 _ _ _ _ hs];exact ha
  .have hidl:id<σc.length:=(A1.1 ha).1
   by_cases hs:id∈sel
   .obtain⟨i,hi⟩:=Av.1 hs
    obtain⟨hil,hii⟩:=A1.1 hi
    have h1:=hbak.app i n s (by rw[wE hil,hii];exact ha)
    obtain⟨n',h2,h3,h4⟩:=hm'.ext.app i n s h1
    have h5:=hemb.app i n' s h2
    rw[wE hil,hii]at h5
    refine⟨n',h5,h3,fun e=> ?_⟩
    have h6:=h4 e
    rw[show(entry w L σin βin).β0=βin from rfl,hβin i id hi]at h6
    have hbl:i<β'.length:=by rw[hm'.len];omega
    have h7:=hemb.val i _ (A0 hbl)
    rw[wE hil,hii]at h7
    rw[h7,<-h6,A0 hbl]
   .refine⟨n, ?_,A2 _,fun _=> ?_⟩
    .unfold xE
     rw[Ab (by rw[xP];exact hidl),zh5 _ _ _ _ hs];exact ha
    .unfold zu5
     rw[Ab (by rw[xP,hm.len];exact hidl),zh5 _ _ _ _ hs]
  .have hidl:id<σc.length:=(A1.1 ha).1
   by_cases hs:id∈sel
   .obtain⟨i,hi⟩:=Av.1 hs
    obtain⟨hil,hii⟩:=A1.1 hi
    obtain⟨r0,h1,l1⟩:=hbak.lst i rows s (by rw[wE hil,hii];exact ha)
    rcases hm'.ext.lst i r0 s h1 with h2|⟨r2,h2,h3,h4⟩
    .have h5:=hemb.dead i h2
     rw[wE hil,hii]at h5
     exact .inl h5
    .obtain⟨r3,h5,l5⟩:=hemb.lst i r2 s h2
     rw[wE hil,hii]at h5
     refine .inr ⟨r3,h5,by omega,fun e=> ?_⟩
     have h6:=h4 (by omega)
     rw[show(entry w L σin βin).β0=βin from rfl,hβin i id hi]at h6
     have hbl:i<β'.length:=by rw[hm'.len];omega
     have h7:=hemb.val i _ (A0 hbl)
     rw[wE hil,hii]at h7
     rw[h7,<-h6,A0 hbl]
   .refine .inr ⟨rows, ?_,A2 _,fun _=> ?_⟩
    .unfold xE
     rw[Ab (by rw[xP];exact hidl),zh5 _ _ _ _ hs];exact ha
    .unfold zu5
     rw[Ab (by rw[xP,hm.len];exact hidl),zh5 _ _ _ _ hs]
  .have hidl:id<σc.length:=(A1.1 ha).1
   by_cases hs:id∈sel
   .obtain⟨i,hi⟩:=Av.1 hs
    obtain⟨hil,hii⟩:=A1.1 hi
    have h1:=hbak.dead i (by rw[wE hil,hii];exact ha)
    have h5:=hemb.dead i (hm'.ext.dead i h1)
    rw[wE hil,hii]at h5
    exact h5
   .unfold xE
    rw[Ab (by rw[xP];exact hidl),zh5 _ _ _ _ hs];exact ha
 have hinv:= @xg4 sel σc σ' βc β' hnd hsel hm.len hm'.len hl2
 refine⟨v,renS (ren sel σc.length) r,L',_,_,he,hk r σ' hR hl2, ?_,hm'.le,hext,hrd.emb hemb⟩
 refine⟨?_,fun j o x ho hx=> ?_,fun j j' o o' x x' b hij ho hx ho' hx' hb1=> ?_,fun j o x b ho hx hb1=> ?_,fun b hb1 hx=> ?_,hm.le.trans hm'.le,Ay hm.size hm'.size,hm'.os.trans hm.os,hm'.tape.trans hm.tape,hm'.output.trans hm.output,Ay hm.drawn hm'.drawn,hm'.lim,hm.ext.trans hext,hm.tab⟩
 .simp[xE,zu5,xP,hm.len,hm'.len]
 .rcases hinv ho hx with ⟨i,o',rfl,h1,rfl,h2⟩|⟨h0,hjl,h1,h2⟩
  .exact(hm'.objs i o' x h1 h2).emb hemb
  .refine(hm.objs j o x h1 h2).step hm'.le hext fun b hb1=>hm'.same b ?_ (hinX j o x b h0 h1 h2 hb1)
   exact(hm.objs j o x h1 h2).excl_lt hb1
 .rcases hinv ho hx with ⟨i,o1,rfl,h1,rfl,h2⟩|⟨h0,hjl,h1,h2⟩
  .rw[zh1]at hb1
   rcases hinv ho' hx' with ⟨i',o2,rfl,h3,rfl,h4⟩|⟨h0,hjl,h3,h4⟩
   .rw[zh1]
    exact hm'.apart i i' o1 o2 x x' b (fun q=>hij (by rw[q])) h1 h2 h3 h4 hb1
   .intro q
    rcases hm'.mine i o1 x b h1 h2 hb1 with h5|h5
    .have:=(hm.objs j' o' x' h3 h4).excl_lt q
     have h6:w.heap.size<=b:=h5
     omega
    .exact hinX j' o' x' b h0 h3 h4 q h5
  .rcases hinv ho' hx' with ⟨i',o2,rfl,h3,rfl,h4⟩|⟨h0',hjl',h3,h4⟩
   .rw[zh1]
    intro q
    rcases hm'.mine i' o2 x' b h3 h4 q with h5|h5
    .have:=(hm.objs j o x h1 h2).excl_lt hb1
     have h6:w.heap.size<=b:=h5
     omega
    .exact hinX j o x b h0 h1 h2 hb1 h5
   .exact hm.apart j j' o o' x x' b hij h1 h2 h3 h4 hb1
 .rcases hinv ho hx with ⟨i,o1,rfl,h1,rfl,h2⟩|⟨h0,hjl,h1,h2⟩
  .rw[zh1]at hb1
   rcases hm'.mine i o1 x b h1 h2 hb1 with h5|h5
   .exact .inl (Ay hm.size h5)
   .exact hXmine b h5
  .exact hm.mine j o x b h1 h2 hb1
 .have hnX:b∉zi8 σin βin:=fun q=>by
   rcases hXmine b q with h5|h5
   .omega
   .exact hx h5
  obtain⟨e1,e2⟩:=hm'.same b (D0 hb1 hm.size) hnX
  obtain⟨e3,e4⟩:=hm.same b hb1 hx
  exact⟨e1.trans e3,e2.trans e4⟩
structure Picks (n0:Nat) (pick:List Nat) (σ σ':St):Prop where
 len:σ'.length=pick.length
 nodup:pick.Nodup
 ob: ∀(i j:Nat) (o:Ob),pick[i]? =some j->σ'[i]? =some o->σ[j]? =some (yN (ren pick σ.length) o)
 id: ∀i,i<n0->pick[i]? =some i
theorem Picks.back {n0:Nat} {pick:List Nat} {σ σ':St} (h:Picks n0 pick σ σ') (id:Nat) (O:Ob) (hx:σ[ren pick σ.length id]? =some O): ∃o,σ'[id]? =some o/\O=yN (ren pick σ.length) o:=by
 by_cases hi:id<pick.length
 .rw[wE hi]at hx
  have hq:=A0 (show id<σ'.length by rw[h.len];exact hi)
  have:=h.ob id _ _ (A0 hi) hq
  rw[hx]at this
  exact⟨_,hq,by simpa using this⟩
 .rw[zq9 hi]at hx
  have:=(A1.1 hx).1
  omega
theorem Picks.bak {n0:Nat} {pick:List Nat} {σ σ':St} {β:List Value} (h:Picks n0 pick σ σ') (hl:β.length=σ.length):Bak (ren pick σ.length) σ' (pick.map fun q=>β.getD q undef) σ β:=by
 refine⟨fun id x hx=> ?_,fun id n s hx=> ?_,fun id rows s hx=> ?_,fun id hx=> ?_⟩
 .by_cases hi:id<pick.length
  .rw[wE hi]at hx
   rw[Az,A0 hi]
   simp[A5,hx]
  .rw[zq9 hi]at hx
   have:=(A1.1 hx).1
   omega
 .obtain⟨o,ho,he⟩:=h.back id _ hx
  cases o with
  |app n' s'=>simp only[yN]at he;rw[ho,he]
  |_=>simp[yN]at he
 .obtain⟨o,ho,he⟩:=h.back id _ hx
  cases o with
  |lst r' s'=>
   simp only[yN,Ob.lst.injEq]at he
   obtain⟨e1,e2⟩:=he
   subst e2
   exact⟨r',ho,by rw[e1];simp⟩
  |_=>simp[yN]at he
 .obtain⟨o,ho,he⟩:=h.back id _ hx
  cases o with
  |dead=>exact ho
  |_=>simp[yN]at he
theorem Mem.pick {w:World} {L:Nat->Nat} {σ σ':St} {β:List Value} {pick:List Nat} (h:Mem c w L σ β) (hp:Picks c.σ0.length pick σ σ') (hc:c.β0.length=c.σ0.length):Mem c w L σ' (pick.map fun q=>β.getD q undef):=by
 have hbak:=hp.bak h.len
 have hback: ∀(i:Nat) (o:Ob) (x:Value),σ'[i]? =some o->(pick.map fun q=>β.getD q undef)[i]? =some x-> ∃j,pick[i]? =some j/\σ[j]? =some (yN (ren pick σ.length) o)/\β[j]? =some x:=by
  intro i o x ho hx
  have hi:i<pick.length:=by rw[<-hp.len];exact(A1.1 ho).1
  have hs:=A0 hi
  have h1:=hp.ob i _ o hs ho
  refine⟨_,hs,h1, ?_⟩
  have hlt:pick[i]<β.length:=by rw[h.len];exact(A1.1 h1).1
  rw[Az,hs]at hx
  simp only[B3,Option.some.injEq,A5,A0 hlt,Ej]at hx
  rw[A0 hlt,hx]
 refine⟨by simp[hp.len],fun i o x ho hx=> ?_,fun i j o o' x x' b hij ho hx ho' hx' he=> ?_,fun i o x b ho hx he=> ?_,h.same,h.le,h.size,h.os,h.tape,h.output,h.drawn,h.lim, ?_,h.tab⟩
 .obtain⟨j,hj,h1,h2⟩:=hback i o x ho hx
  exact(h.objs j _ x h1 h2).bak hbak
 .obtain⟨p,hpp,h1,h2⟩:=hback i o x ho hx
  obtain⟨q,hq,h3,h4⟩:=hback j o' x' ho' hx'
  have hpq:p≠q:=fun e=>by
   subst e
   obtain⟨hi,e1⟩:=A1.1 hpp
   obtain⟨hj,e2⟩:=A1.1 hq
   exact hij ((List.getElem_inj hp.nodup).1 (e1.trans e2.symm))
  have:=h.apart p q _ _ x x' b hpq h1 h2 h3 h4 (by rw[zh1];exact he)
  rw[zh1]at this
  exact this
 .obtain⟨p,hpp,h1,h2⟩:=hback i o x ho hx
  exact h.mine p _ x b h1 h2 (by rw[zh1];exact he)
 .refine⟨fun id a ha=> ?_,fun id n s ha=> ?_,fun id rows s ha=> ?_,fun id ha=> ?_⟩
  .have hid:id<c.σ0.length:=by rw[<-hc];exact(A1.1 ha).1
   have h1:=h.ext.ptr id a ha
   rw[Az,hp.id id hid]
   simp[A5,h1]
  .have hid:id<c.σ0.length:=(A1.1 ha).1
   obtain⟨n',h1,h2,h3⟩:=h.ext.app id n s ha
   have hpi:=hp.id id hid
   obtain⟨hil,hii⟩:=A1.1 hpi
   refine⟨n',hbak.app id n' s (by rw[wE hil,hii];exact h1),h2,fun e=> ?_⟩
   have h4:=h3 e
   have hlt:id<β.length:=by rw[h.len];exact(A1.1 h1).1
   rw[Az,hpi]
   simp only[B3,A5,A0 hlt,Ej]
   rw[<-h4,A0 hlt]
  .have hid:id<c.σ0.length:=(A1.1 ha).1
   have hpi:=hp.id id hid
   obtain⟨hil,hii⟩:=A1.1 hpi
   rcases h.ext.lst id rows s ha with h1|⟨r2,h1,h2,h3⟩
   .exact .inl (hbak.dead id (by rw[wE hil,hii];exact h1))
   .obtain⟨r3,h5,l5⟩:=hbak.lst id r2 s (by rw[wE hil,hii];exact h1)
    refine .inr ⟨r3,h5,by omega,fun e=> ?_⟩
    have h4:=h3 (by omega)
    have hlt:id<β.length:=by rw[h.len];exact(A1.1 h1).1
    rw[Az,hpi]
    simp only[B3,A5,A0 hlt,Ej]
    rw[<-h4,A0 hlt]
  .have hid:id<c.σ0.length:=(A1.1 ha).1
   have hpi:=hp.id id hid
   obtain⟨hil,hii⟩:=A1.1 hpi
   exact hbak.dead id (by rw[wE hil,hii];exact h.ext.dead id ha)
end
end Go.Vx
