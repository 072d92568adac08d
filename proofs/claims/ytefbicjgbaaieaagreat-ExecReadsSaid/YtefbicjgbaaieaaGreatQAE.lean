/-
  The code of a function at the level of trees: operations one behind the other, branches, blocks, loops, the call itself.
  No condition: a library text; nothing of the program is named.
-/
import Derived.Test.YtefbicjgbaaieaaGreatQAD
set_option maxHeartbeats 8000000
namespace Go.Vx
open Go
def renK(ρ:Nat->Nat):V->V |.ptr id off=>.ptr (ρ id) off|.sl (.app id) rows=>.sl (.app (ρ id)) rows|.lsv id s n lo m=>.lsv (ρ id) s n lo m|.lsp id s n k j=>.lsp (ρ id) s n k j|.bsv id s off n=>.bsv (ρ id) s off n|.mp id=>.mp (ρ id)|v=>v
def renC(ρ:Nat->Nat):V->V |.fn f caps=>.fn f (caps.map (renK ρ))|.ifc t vs=>.ifc t (vs.map (renK ρ))|v=>renK ρ v
def renA(ρ:Nat->Nat):V->V |.agg cs=>.agg (cs.map (renC ρ))|v=>renC ρ v
def renS(ρ:Nat->Nat):V->V |.tup vs=>.tup (vs.map (renA ρ))|v=>renA ρ v
def yC(ρ:Nat->Nat):Ob->Ob |.box cells=>.box (cells.map (renC ρ))|.lst rows s=>.lst (rows.map λr=>r.map (renC ρ)) s|.mp kvs borns clk=>.mp (kvs.map (renA ρ)) borns clk|.it m since seen last=>.it (m.map ρ) since seen last|o=>o
theorem All2.map_l{α β γ:Type}{R:α->β->Prop}{S:γ->β->Prop}{f:α->γ}(h:∀a b,R a b->S (f a) b):∀{l:List α}{m:List β},All2 R l m->All2 S (l.map f) m |[],[],_=>trivial|_::_,_::_,q=>⟨h _ _ q.1,All2.map_l h q.2⟩|[],_::_,q=>q.elim|_::_,[],q=>q.elim
theorem All2.unmap_l{α β γ:Type}{R:α->β->Prop}{S:γ->β->Prop}{f:α->γ}(h:∀a b,S (f a) b->R a b):∀{l:List α}{m:List β},All2 S (l.map f) m->All2 R l m |[],[],_=>trivial|_::_,_::_,q=>⟨h _ _ q.1,All2.unmap_l h q.2⟩|[],_::_,q=>q.elim|_::_,[],q=>q.elim
structure Emb(ρ:Nat->Nat)(σ:St)(β:List Value)(σc:St)(βc:List Value):Prop where
 val:∀(id:Nat) x,β[id]?=some x->βc[ρ id]?=some x
 app:∀(id:Nat) n s,σ[id]?=some (.app n s)->σc[ρ id]?=some (.app n s)lst:∀(id:Nat) rows s,σ[id]?=some (.lst rows s)->∃rows',σc[ρ id]?=some (.lst rows' s)/\rows'.length=rows.length
 dead:∀(id:Nat),σ[id]?=some .dead->σc[ρ id]?=some .dead
structure Bak(ρ:Nat->Nat)(σ:St)(β:List Value)(σc:St)(βc:List Value):Prop where
 val:∀(id:Nat) x,βc[ρ id]?=some x->β[id]?=some x
 app:∀(id:Nat) n s,σc[ρ id]?=some (.app n s)->σ[id]?=some (.app n s)lst:∀(id:Nat) rows s,σc[ρ id]?=some (.lst rows s)->∃rows',σ[id]?=some (.lst rows' s)/\rows'.length=rows.length
 dead:∀(id:Nat),σc[ρ id]?=some .dead->σ[id]?=some .dead
section
variable{ρ:Nat->Nat}{w:World}{L:Nat->Nat}{σ σc:St}{β βc:List Value}
variable {x:Value}
theorem RdK.emb(h:Emb ρ σ β σc βc){v:V}(r:RdK w L σ β v x):RdK w L σc βc (renK ρ v) x:=by cases v with
 |ptr id off=>obtain⟨b,hb,hx⟩:=r;exact⟨b,h.val _ _ hb,hx⟩|sl g rows=>cases g with |app id=>obtain⟨hr,n,s,hσ,hle,hβ,hl⟩:=r;exact⟨hr,n,s,h.app _ _ _ hσ,hle,λq=>h.val _ _ (hβ q),hl⟩|ro=>exact r|full=>exact r
 |lsv id s n lo m=>
  obtain⟨a,cap,hx,hm,ha,hc⟩:=r;refine⟨a,cap,hx,hm,ha,?_⟩;rcases hc with hd|⟨rows,hσ,hn,hb⟩;.exact .inl (h.dead id hd)
  .obtain⟨r2,e2,l2⟩:=h.lst id rows s hσ;refine .inr ⟨r2,e2,om,λq=>?_⟩;obtain⟨b,c0,q1,q2⟩:=hb om;exact⟨b,c0,h.val _ _ q1,q2⟩|lsp id s n i j=>
  obtain⟨b,o,hx,hc⟩:=r;refine⟨b,o,hx,?_⟩;rcases hc with hd|⟨rows,hσ,hn,hb⟩;.exact .inl (h.dead id hd)
  .obtain⟨r2,e2,l2⟩:=h.lst id rows s hσ;refine .inr ⟨r2,e2,om,λq q'=>?_⟩;obtain⟨c0,q1,q2⟩:=hb om q';exact⟨c0,h.val _ _ q1,q2⟩|bsv id s off n=>obtain⟨b,hb,hx⟩:=r;exact⟨b,h.val _ _ hb,hx⟩|mp id=>obtain⟨b,hb,hx⟩:=r;exact⟨b,h.val _ _ hb,hx⟩|_=>exact r
theorem RdK.bak(h:Bak ρ σ β σc βc){v:V}(r:RdK w L σc βc (renK ρ v) x):RdK w L σ β v x:=by cases v with
 |ptr id off=>obtain⟨b,hb,hx⟩:=r;exact⟨b,h.val _ _ hb,hx⟩|sl g rows=>cases g with |app id=>obtain⟨hr,n,s,hσ,hle,hβ,hl⟩:=r;exact⟨hr,n,s,h.app _ _ _ hσ,hle,λq=>h.val _ _ (hβ q),hl⟩|ro=>exact r|full=>exact r
 |lsv id s n lo m=>
  obtain⟨a,cap,hx,hm,ha,hc⟩:=r;refine⟨a,cap,hx,hm,ha,?_⟩;rcases hc with hd|⟨rows,hσ,hn,hb⟩;.exact .inl (h.dead id hd)
  .obtain⟨r2,e2,l2⟩:=h.lst id rows s hσ;refine .inr ⟨r2,e2,om,λq=>?_⟩;obtain⟨b,c0,q1,q2⟩:=hb om;exact⟨b,c0,h.val _ _ q1,q2⟩|lsp id s n i j=>
  obtain⟨b,o,hx,hc⟩:=r;refine⟨b,o,hx,?_⟩;rcases hc with hd|⟨rows,hσ,hn,hb⟩;.exact .inl (h.dead id hd)
  .obtain⟨r2,e2,l2⟩:=h.lst id rows s hσ;refine .inr ⟨r2,e2,om,λq q'=>?_⟩;obtain⟨c0,q1,q2⟩:=hb om q';exact⟨c0,h.val _ _ q1,q2⟩|bsv id s off n=>obtain⟨b,hb,hx⟩:=r;exact⟨b,h.val _ _ hb,hx⟩|mp id=>obtain⟨b,hb,hx⟩:=r;exact⟨b,h.val _ _ hb,hx⟩|_=>exact r
theorem RdC.emb(h:Emb ρ σ β σc βc){v:V}(r:RdC w L σ β v x):RdC w L σc βc (renC ρ v) x:=by cases v with |fn f caps=>obtain⟨xs,hx,hc⟩:=r;exact⟨xs,hx,All2.map_l (f:=renK ρ) (λ_ _ q=>RdK.emb h q) hc⟩|ifc t v=>obtain⟨y,hx,hc⟩:=r;exact⟨y,hx,All2.map_l (f:=renK ρ) (λ_ _ q=>RdK.emb h q) hc⟩|sl g rows=>have r':RdK w L σ β (.sl g rows) x:=r;have:=r'.emb h;cases g<;>exact this|_=>simp only[RdC]at r;have q:=RdK.emb h r;exact q
theorem RdC.bak(h:Bak ρ σ β σc βc){v:V}(r:RdC w L σc βc (renC ρ v) x):RdC w L σ β v x:=by cases v with
 |fn f caps=>obtain⟨xs,hx,hc⟩:=r;exact⟨xs,hx,All2.unmap_l (f:=renK ρ) (λ_ _ q=>RdK.bak h q) hc⟩|ifc t v=>obtain⟨y,hx,hc⟩:=r;exact⟨y,hx,All2.unmap_l (f:=renK ρ) (λ_ _ q=>RdK.bak h q) hc⟩|sl g rows=>
  have r':RdK w L σc βc (renK ρ (.sl g rows)) x:=by cases g<;>exact r
  exact r'.bak h|_=>simp only[RdC];refine RdK.bak h ?_;exact r
theorem RdA.emb(h:Emb ρ σ β σc βc){v:V}(r:RdA w L σ β v x):RdA w L σc βc (renA ρ v) x:=by cases v with |agg cs=>obtain⟨xs,hx,hc⟩:=r;exact⟨xs,hx,All2.map_l (f:=renC ρ) (λ_ _ q=>RdC.emb h q) hc⟩|sl g rows=>have r':RdC w L σ β (.sl g rows) x:=r;have:=r'.emb h;cases g<;>exact this|_=>simp only[RdA]at r;have q:=RdC.emb h r;exact q
theorem RdA.bak(h:Bak ρ σ β σc βc){v:V}(r:RdA w L σc βc (renA ρ v) x):RdA w L σ β v x:=by cases v with
 |agg cs=>obtain⟨xs,hx,hc⟩:=r;exact⟨xs,hx,All2.unmap_l (f:=renC ρ) (λ_ _ q=>RdC.bak h q) hc⟩|sl g rows=>
  have r':RdC w L σc βc (renC ρ (.sl g rows)) x:=by cases g<;>exact r
  exact r'.bak h|_=>simp only[RdA];refine RdC.bak h ?_;exact r
theorem RdS.emb(h:Emb ρ σ β σc βc){v:V}(r:RdS w L σ β v x):RdS w L σc βc (renS ρ v) x:=by cases v with |u=>trivial|tup vs=>obtain⟨xs,hx,hc⟩:=r;exact⟨xs,hx,All2.map_l (f:=renA ρ) (λ_ _ q=>RdA.emb h q) hc⟩|sl g rows=>have r':RdA w L σ β (.sl g rows) x:=r;have:=r'.emb h;cases g<;>exact this|_=>simp only[RdS]at r;have q:=RdA.emb h r;exact q
theorem RdS.bak(h:Bak ρ σ β σc βc){v:V}(r:RdS w L σc βc (renS ρ v) x):RdS w L σ β v x:=by cases v with
 |u=>trivial|tup vs=>obtain⟨xs,hx,hc⟩:=r;exact⟨xs,hx,All2.unmap_l (f:=renA ρ) (λ_ _ q=>RdA.bak h q) hc⟩|sl g rows=>
  have r':RdA w L σc βc (renA ρ (.sl g rows)) x:=by cases g<;>exact r
  exact r'.bak h|_=>simp only[RdS];refine RdA.bak h ?_;exact r
theorem ObOk.emb(h:Emb ρ σ β σc βc){o:Ob}(r:ObOk w L σ β o x):ObOk w L σc βc (yC ρ o) x:=by cases o with |box cells=>obtain⟨b,arr,T,fz,hx,hh,hf,hl,hc⟩:=r;exact⟨b,arr,T,fz,hx,hh,hf,hl,All2.map_l (f:=renC ρ) (λ_ _ q=>RdC.emb h q) hc⟩|lst rows s=>
  obtain⟨a,cap,hx,hcap,hs,hu,hok⟩:=r;refine⟨a,cap,by simpa using hx,by simpa using hcap,hs,λr hr=>?_,λh0=>?_⟩;.obtain⟨r0,aa,rfl⟩:=Ac.1 hr;rw[Ay];exact hu r0 aa
  .obtain⟨b,arr,T,fz,ha,hh,hf,ab,hl,hc⟩:=hok h0;refine⟨b,arr,T,fz,ha,hh,hf,ab,hl,?_⟩;rw[Ay,<-List.map_flatten];exact All2.map_l (f:=renC ρ) (λ_ _ q=>RdC.emb h q) hc|app n s=>exact r|dead=>trivial|mp kvs borns clk=>obtain⟨b,es,hx,hh,hl,hc,hb⟩:=r;exact⟨b,es,hx,hh,hl,All2.map_l (f:=renA ρ) (λ_ _ q=>RdA.emb h q) hc,hb⟩|it m since seen last=>obtain⟨b,mo,hx,hh,hl,hc⟩:=r;refine⟨b,mo,hx,hh,hl,?_⟩;cases m with |none=>exact hc|some id=>obtain⟨q,hq,hm⟩:=hc;exact⟨q,h.val _ _ hq,hm⟩
theorem ObOk.bak(h:Bak ρ σ β σc βc){o:Ob}(r:ObOk w L σc βc (yC ρ o) x):ObOk w L σ β o x:=by cases o with |box cells=>obtain⟨b,arr,T,fz,hx,hh,hf,hl,hc⟩:=r;exact⟨b,arr,T,fz,hx,hh,hf,hl,All2.unmap_l (f:=renC ρ) (λ_ _ q=>RdC.bak h q) hc⟩|lst rows s=>
  obtain⟨a,cap,hx,hcap,hs,hu,hok⟩:=r;refine⟨a,cap,by simpa using hx,by simpa using hcap,hs,λr hr=>?_,λh0=>?_⟩;.have:=hu _ (Ac.2 ⟨r,hr,rfl⟩);rwa[Ay]at this
  .obtain⟨b,arr,T,fz,ha,hh,hf,aa,hl,hc⟩:=hok h0;refine⟨b,arr,T,fz,ha,hh,hf,aa,hl,?_⟩;rw[Ay,<-List.map_flatten]at hc;exact All2.unmap_l (f:=renC ρ) (λ_ _ q=>RdC.bak h q) hc|app n s=>exact r|dead=>trivial|mp kvs borns clk=>obtain⟨b,es,hx,hh,hl,hc,hb⟩:=r;exact⟨b,es,hx,hh,hl,All2.unmap_l (f:=renA ρ) (λ_ _ q=>RdA.bak h q) hc,hb⟩|it m since seen last=>obtain⟨b,mo,hx,hh,hl,hc⟩:=r;refine⟨b,mo,hx,hh,hl,?_⟩;cases m with |none=>exact hc|some id=>obtain⟨q,hq,hm⟩:=hc;exact⟨q,h.val _ _ hq,hm⟩
theorem zi6(o:Ob)(x:Value):excl (yC ρ o) x=excl o x:=by cases o with
 |lst rows s=>cases x with |slice a n cap=>cases a<;>rfl|_=>rfl
 |_=>cases x<;>first|rfl|(rename_i q;cases q<;>rfl)
end
variable {σ:St}{P:Program}
def zk7(σ:St)(β:List Value):List Nat:=(σ.zip β).filterMap λp=>excl p.1 p.2
theorem mem_blocksOf{β:List Value}{b:Nat}:b∈zk7 σ β↔∃(i:Nat)(o:Ob)(x:Value),σ[i]?=some o/\β[i]?=some x/\excl o x=some b:=by
 unfold zk7;rw[List.mem_filterMap];constructor;.rintro⟨⟨o,x⟩,hm,he⟩;obtain⟨i,hi⟩:=Ax.1 hm;rw[List.getElem?_zip_eq_some]at hi;exact⟨i,o,x,hi.1,hi.2,he⟩
 .rintro⟨i,o,x,h1,h2,h3⟩;exact⟨(o,x),Ax.2 ⟨i,by rw[List.getElem?_zip_eq_some];exact⟨h1,h2⟩⟩,h3⟩
def entry(w:World)(L:Nat->Nat)(σ:St)(β:List Value):Ctx:=⟨w,L,zk7 σ β,σ,β⟩
def ren(sel:List Nat)(N:Nat)(id:Nat):Nat:=if h:id<sel.length then sel[id]else N+(id-sel.length)
def VCalls(P:Program)(f:FuncId)(args:List V)(σ:St)(R:V->St->Prop):Prop:=∀(w:World)(L:Nat->Nat)(β:List Value)(vals:List Value),Mem (entry w L σ β) w L σ β->All2 (RdS w L σ β) args vals->Calls P f vals.toArray w λe w'=>∃v r L' σ' β',e=.returned v/\R r σ'/\σ.length<=σ'.length/\Mem (entry w L σ β) w' L' σ' β'/\RdS w' L' σ' β' r v
theorem VCalls.mono{f:FuncId}{args:List V}{R R':V->St->Prop}(h:VCalls P f args σ R)(hR:∀r σ',R r σ'->R' r σ'):VCalls P f args σ R':=λw L β aa hm ha=>(h w L β aa hm ha).mono λ_ _⟨v,r,L',σ',β',he,hr,hl,ab,ad⟩=>⟨v,r,L',σ',β',he,hR _ _ hr,hl,ab,ad⟩
def VC(P:Program)(c:Ctx)(fv:V)(args:List V)(σ:St)(K:V->St->Prop):Prop:=∃f caps,fv=.fn f caps/\(((∃fn,P.funcs[f]?=some fn/\(fn.name=="runtime.NumGoroutine")=false/\fn.body.isSome=true)/\∀w L β vals,Mem c w L σ β->All2 (RdS w L σ β) (args++caps) vals->Calls P f vals.toArray w λe w'=>∃v r L' σ' β',e=.returned v/\K r σ'/\Mem c w' L' σ' β'/\Le w L w' L'/\Ext σ β σ' β'/\RdS w' L' σ' β' r v)∨∀w L β vals,Mem c w L σ β->All2 (RdS w L σ β) (args++caps) vals->∃v r w' L' σ' β',(callFunc f vals.toArray).run P w=.ok (.value v) w'/\K r σ'/\Mem c w' L' σ' β'/\Le w L w' L'/\Ext σ β σ' β'/\RdS w' L' σ' β' r v)
theorem VC.mono{c:Ctx}{fv:V}{az:List V}{K K':V->St->Prop}(h:VC P c fv az σ K)(hk:∀v s,K v s->K' v s):VC P c fv az σ K':=by
 obtain⟨f,caps,h1,⟨h2,h3⟩|h3⟩:=h;.refine⟨f,caps,h1,.inl ⟨h2,λw L β aa hm ha=>(h3 w L β aa hm ha).mono ?_⟩⟩;rintro e w'⟨v,r,L',σ',β',q1,q2,q3⟩;exact⟨v,r,L',σ',β',q1,hk _ _ q2,q3⟩
 .refine⟨f,caps,h1,.inr λw L β aa hm ha=>?_⟩;obtain⟨v,r,w',L',σ',β',q1,q2,q3⟩:=h3 w L β aa hm ha;exact⟨v,r,w',L',σ',β',q1,hk _ _ q2,q3⟩
def wG(P:Program)(f:FuncId):Bool:=match P.funcs[f]?with|some fn=>!(fn.name=="runtime.NumGoroutine")&&fn.body.isSome|none=>false
theorem zD4{f:FuncId}(h:wG P f=true):∃fn,P.funcs[f]?=some fn/\(fn.name=="runtime.NumGoroutine")=false/\fn.body.isSome=true:=by
 unfold wG at h;split at h;.rename_i fn hf;simp only[A6,Cz]at h;exact⟨fn,hf,h.1,h.2⟩
 .cases h
def argC(ρ:Nat->Nat)(a' a:V):Prop:=a=renC ρ a'∨∃g rows,a'=.sl .ro rows/\a=.sl g rows
def argA(ρ:Nat->Nat)(a' a:V):Prop:=a=renA ρ a'∨(∃g rows,a'=.sl .ro rows/\a=.sl g rows)∨∃cs' cs,a'=.agg cs'/\a=.agg cs/\All2 (argC ρ) cs' cs
def argS(ρ:Nat->Nat)(a' a:V):Prop:=a=renS ρ a'∨a'=.u∨(∃g rows,a'=.sl .ro rows/\a=.sl g rows)∨(∃cs' cs,a'=.agg cs'/\a=.agg cs/\All2 (argC ρ) cs' cs)∨∃vs' vs,a'=.tup vs'/\a=.tup vs/\All2 (argA ρ) vs' vs
def mset{α:Type}:List Nat->List α->List α->List α |i::sel,l,x::xs=>mset sel (l.set i x) xs|_,l,_=>l
theorem xZ{α:Type}:∀(sel:List Nat)(l xs:List α),(mset sel l xs).length=l.length |[],_,_=>by simp[mset]|i::sel,l,[]=>by simp[mset]|i::sel,l,x::xs=>by simp[mset,xZ sel]
theorem zj0{α:Type}:∀(sel:List Nat)(l xs:List α)(j:Nat),j∉sel->(mset sel l xs)[j]?=l[j]?
 |[],_,_,_,_=>by simp[mset]|i::sel,l,[],_,_=>by simp[mset]|i::sel,l,x::xs,j,h=>by simp only[Ag,not_or]at h;rw[mset,zj0 sel _ xs j h.2,Ad (λq=>h.1 q.symm)]
theorem yb9{α:Type}:∀(sel:List Nat)(l xs:List α)(i j:Nat),sel.Nodup->(∀q∈sel,q<l.length)->sel.length<=xs.length->sel[i]?=some j->(mset sel l xs)[j]?=xs[i]?
 |[],_,_,_,_,_,_,_,h=>by simp at h|i0::sel,l,[],_,_,_,_,hl,_=>by simp at hl|i0::sel,l,x::xs,0,j,hn,aa,hl,h=>by simp at h;subst h;rw[Cc]at hn;rw[mset,zj0 sel _ xs i0 hn.1,Aj (aa i0 sm)];rfl|i0::sel,l,x::xs,i+1,j,hn,aa,hl,h=>by rw[Cc]at hn;rw[mset,yb9 sel _ xs i j hn.2 (λq hq=>by simp;exact aa q (by simp[hq])) (by simpa using hl) (by simpa using h)];simp
def xC(sel:List Nat)(σc σ':St):St:=mset sel σc ((σ'.take sel.length).map (yC (ren sel σc.length)))++(σ'.drop sel.length).map (yC (ren sel σc.length))
def zw4(sel:List Nat)(βc β':List Value):List Value:=mset sel βc (β'.take sel.length)++β'.drop sel.length
section
variable {P:Program} {c:Ctx}
variable {sel:List Nat}{i:Nat}
theorem wQ{N:Nat}(h:i<sel.length):ren sel N i=sel[i]:=by simp[ren,h]
theorem zs9{N:Nat}(h:¬i<sel.length):ren sel N i=N+(i-sel.length):=by simp[ren,h]
theorem zv1{σc σ':St}(hn:sel.Nodup)(aa:∀q∈sel,q<σc.length)(hl:sel.length<=σ'.length){o:Ob}(h:σ'[i]?=some o):(xC sel σc σ')[ren sel σc.length i]?=some (yC (ren sel σc.length) o):=by
 unfold xC;by_cases hi:i<sel.length;.rw[wQ hi,Aa (by rw[xZ];exact aa _ (A8 hi)),yb9 sel _ _ i _ hn aa (by simp;omega) (A0 hi),B0,Ae,if_pos hi,h];rfl
 .rw[zs9 hi,Ai (by rw[xZ];omega),xZ,B0,B5,show sel.length+(σc.length+(i-sel.length)-σc.length)=i by omega,h];rfl
theorem yh0{βc β':List Value}(hn:sel.Nodup)(aa:∀q∈sel,q<βc.length)(hl:sel.length<=β'.length){x:Value}(h:β'[i]?=some x):(zw4 sel βc β')[ren sel βc.length i]?=some x:=by
 unfold zw4;by_cases hi:i<sel.length;.rw[wQ hi,Aa (by rw[xZ];exact aa _ (A8 hi)),yb9 sel _ _ i _ hn aa (by simp;omega) (A0 hi),Ae,if_pos hi,h]
 .rw[zs9 hi,Ai (by rw[xZ];omega),xZ,B5,show sel.length+(βc.length+(i-sel.length)-βc.length)=i by omega,h]
theorem xk3{sel:List Nat}{σc σ':St}{βc β':List Value}(hn:sel.Nodup)(aa:∀q∈sel,q<σc.length)(ab:βc.length=σc.length)(ag:β'.length=σ'.length)(hl:sel.length<=σ'.length){j:Nat}{o:Ob}{x:Value}(h1:(xC sel σc σ')[j]?=some o)(h2:(zw4 sel βc β')[j]?=some x):(∃(i:Nat)(o':Ob),j=ren sel σc.length i/\σ'[i]?=some o'/\o=yC (ren sel σc.length) o'/\β'[i]?=some x)∨(j∉sel/\j<σc.length/\σc[j]?=some o/\βc[j]?=some x):=by
 have ad:∀q∈sel,q<βc.length:=by rw[ab];exact aa
 by_cases hj:j<σc.length
 .by_cases hm:j∈sel;.obtain⟨i,hi⟩:=Ax.1 hm;obtain⟨ae,af⟩:=A1.1 hi;have e1:=zv1 hn aa hl (A0 (show i<σ'.length by omega));have e2:=yh0 hn ad om (A0 (show i<β'.length by omega));rw[wQ ae,af]at e1 e2;rw[h1]at e1;rw[h2]at e2;cases e2;exact .inl ⟨i,σ'[i]'om,by rw[wQ ae,af],A0 om,Option.some.inj e1,A0 om⟩
  .unfold xC at h1;unfold zw4 at h2;rw[Aa (by rw[xZ];exact hj),zj0 _ _ _ _ hm]at h1;rw[Aa (by rw[xZ];omega),zj0 _ _ _ _ hm]at h2;exact .inr ⟨hm,hj,h1,h2⟩
 .unfold xC at h1;unfold zw4 at h2;rw[Ai (by rw[xZ];omega),xZ,B0,B5]at h1;rw[Ai (by rw[xZ];omega),xZ,B5,ab]at h2;cases hq:σ'[sel.length+(j-σc.length)]?with |none=>rw[hq]at h1;cases h1|some o'=>rw[hq]at h1;exact .inl ⟨_,o',by rw[zs9 om];omega,hq,(Option.some.inj h1).symm,h2⟩
theorem zN8{α β γ:Type}{A:α->β->Prop}{B:β->γ->Prop}{C:α->γ->Prop}(h:∀a b c,A a b->B b c->C a c):∀{l:List α}{m:List β}{n:List γ},All2 A l m->All2 B m n->All2 C l n |[],[],[],_,_=>trivial|_::_,_::_,_::_,p,q=>⟨h _ _ _ p.1 q.1,zN8 h p.2 q.2⟩|[],_::_,_,p,_=>p.elim|_::_,[],_,p,_=>p.elim|[],[],_::_,_,q=>q.elim|_::_,_::_,[],_,q=>q.elim
section
variable{ρ:Nat->Nat}{w:World}{L:Nat->Nat}{σ σc:St}{β βc:List Value}
variable {a':V}{a:V}{x:Value}
theorem xH6(h:Bak ρ σ β σc βc)(ha:argC ρ a' a)(r:RdC w L σc βc a x):RdC w L σ β a' x:=by
 rcases ha with rfl|⟨g,rows,rfl,rfl⟩;.exact r.bak h
 .exact zw7 (RdS.of_cell r)
theorem yY8(h:Bak ρ σ β σc βc)(ha:argA ρ a' a)(r:RdA w L σc βc a x):RdA w L σ β a' x:=by
 rcases ha with rfl|⟨g,rows,rfl,rfl⟩|⟨ab,cs,rfl,rfl,aa⟩;.exact r.bak h
 .exact zw7 (RdS.of_a r)
 .obtain⟨xs,hx,hr⟩:=r;exact⟨xs,hx,zN8 (A:=argC ρ) (B:=RdC w L σc βc) (C:=RdC w L σ β) (λ_ _ _ p q=>xH6 h p q) aa hr⟩
theorem zx5(h:Bak ρ σ β σc βc)(ha:argS ρ a' a)(r:RdS w L σc βc a x):RdS w L σ β a' x:=by
 rcases ha with rfl|rfl|⟨g,rows,rfl,rfl⟩|⟨ab,cs,rfl,rfl,aa⟩|⟨vs',vs,rfl,rfl,aa⟩;.exact r.bak h
 .trivial
 .exact zw7 r
 .exact RdS.of_a (yY8 h (.inr (.inr ⟨ab,cs,rfl,rfl,aa⟩)) r)
 .obtain⟨xs,hx,hr⟩:=r;exact⟨xs,hx,zN8 (A:=argA ρ) (B:=RdA w L σc βc) (C:=RdA w L σ β) (λ_ _ _ p q=>yY8 h p q) aa hr⟩
end
theorem VC.of{f:FuncId}{caps args args':List V}{σc σin:St}{R:V->St->Prop}{K:V->St->Prop}(hc:VCalls P f args' σin R)(hb:wG P f=true)(sel:List Nat)(ar:sel.Nodup)(hlen:σin.length=sel.length)(a7:∀(i j:Nat)(o:Ob),sel[i]?=some j->σin[i]?=some o->σc[j]?=some (yC (ren sel σc.length) o))(ah:All2 (argS (ren sel σc.length)) args' (args++caps))(hk:∀r σ',R r σ'->sel.length<=σ'.length->K (renS (ren sel σc.length) r) (xC sel σc σ')):VC P c (.fn f caps) args σc K:=by
 refine⟨f,caps,rfl,.inl ⟨zD4 hb,λw L βc ak hm hv=>?_⟩⟩;have aj:∀q∈sel,q<σc.length:=λq hq=>by obtain⟨i,hi⟩:=Ax.1 hq;have ad:=(A1.1 hi).1;have:=a7 i q _ hi (A0 (show i<σin.length by omega));exact(A1.1 this).1
 let βin:=sel.map λq=>βc.getD q undef;have al:∀(i j:Nat),sel[i]?=some j->βin[i]?=βc[j]?:=λi j hi=>by simp only[βin,B0,hi,B9];have hj:=aj j (Ax.2 ⟨i,hi⟩);rw[A7,A0 (by rw[hm.len];exact hj)];rfl
 have ao:∀(id:Nat) O,σc[ren sel σc.length id]?=some O->∃o,σin[id]?=some o/\O=yC (ren sel σc.length) o:=λid O hx=>by
  by_cases hi:id<sel.length;.rw[wQ hi]at hx;have hq:=A0 (show id<σin.length by omega);have:=a7 id _ _ (A0 hi) hq;rw[hx]at this;exact⟨_,hq,by simpa using this⟩
  .rw[zs9 hi]at hx;have:=(A1.1 hx).1;omega
 have an:Bak (ren sel σc.length) σin βin σc βc:=by
  refine⟨λid x hx=>?_,λid n s hx=>?_,λid rows s hx=>?_,λid hx=>?_⟩
  .by_cases hi:id<sel.length;.rw[wQ hi]at hx;rw[al id _ (A0 hi)];exact hx
   .rw[zs9 hi]at hx;have:=(A1.1 hx).1;rw[hm.len]at this;omega
  .obtain⟨o,ho,he⟩:=ao id _ hx;cases o with |app n' s'=>simp only[yC]at he;rw[ho,he]|_=>simp[yC]at he
  .obtain⟨o,ho,he⟩:=ao id _ hx;cases o with |lst r' s'=>simp only[yC,Ob.lst.injEq]at he;obtain⟨e1,e2⟩:=he;subst e2;exact⟨r',ho,by rw[e1];simp⟩|_=>simp[yC]at he
  .obtain⟨o,ho,he⟩:=ao id _ hx;cases o with |dead=>exact ho|_=>simp[yC]at he
 have ai:∀(i:Nat)(o:Ob)(x:Value),σin[i]?=some o->βin[i]?=some x->∃j,sel[i]?=some j/\σc[j]?=some (yC (ren sel σc.length) o)/\βc[j]?=some x:=by
  intro i o x ho hx;have hi:i<sel.length:=by rw[<-hlen];exact(A1.1 ho).1
  have hs:=A0 hi;exact⟨_,hs,a7 i _ o hs ho,by rw[<-al i _ hs];exact hx⟩
 have aA:Mem (entry w L σin βin) w L σin βin:=by
  refine⟨by simp[βin,hlen],λi o x ho hx=>?_,λi j o o' x x' b ay ho hx a1 a6 he=>?_,λi o x b ho hx he=>?_,λb _ _=>⟨rfl,rfl⟩,Le.refl _ _,A3 _,rfl,rfl,rfl,A3 _,hm.lim,Ext.refl _ _,hm.tab.mono hm.le⟩;.obtain⟨j,hj,h1,h2⟩:=ai i o x ho hx;exact(hm.objs j _ x h1 h2).bak an
  .obtain⟨p,hp,h1,h2⟩:=ai i o x ho hx;obtain⟨q,hq,h3,h4⟩:=ai j o' x' a1 a6;have aB:p≠q:=λe=>by subst e;obtain⟨hi,e1⟩:=A1.1 hp;obtain⟨hj,e2⟩:=A1.1 hq;exact ay ((List.getElem_inj ar).1 (e1.trans e2.symm))
   have:=hm.apart p q _ _ x x' b aB h1 h2 h3 h4 (by rw[zi6];exact he);rw[zi6]at this;exact this
  .exact .inr (mem_blocksOf.2 ⟨i,o,x,ho,hx,he⟩)
 have aC:All2 (RdS w L σin βin) args' ak:=by clear hk hc;generalize args++caps=az at hv ah;induction args' generalizing az ak with
  |nil=>cases az with
   |nil=>cases ak with |nil=>trivial|cons _ _=>exact hv.elim
   |cons _ _=>exact ah.elim
  |cons p args' ih=>cases az with |nil=>exact ah.elim|cons q az=>cases ak with |nil=>exact hv.elim|cons y ys=>exact⟨zx5 an ah.1 hv.1,ih _ _ hv.2 ah.2⟩
 refine(hc w L βin ak aA aC).mono λe w'⟨v,r,L',σ',β',he,hR,aH,aa,aD⟩=>?_;have au:sel.length<=σ'.length:=om;have aE:∀q∈sel,q<βc.length:=by rw[hm.len];exact aj
 have ae:Emb (ren sel σc.length) σ' β' (xC sel σc σ') (zw4 sel βc β'):=by refine⟨λid x hx=>?_,λid n s hx=>zv1 ar aj au hx,λid rows s hx=>⟨_,zv1 ar aj au hx,sm⟩,λid hx=>zv1 ar aj au hx⟩;have:=yh0 ar aE (by rw[aa.len];exact au) hx;rw[hm.len]at this;exact this
 have av:∀(j:Nat)(o:Ob)(x:Value)(b:Nat),j∉sel->σc[j]?=some o->βc[j]?=some x->excl o x=some b->b∉zk7 σin βin:=by intro j o x b hj ho hx he hb;obtain⟨i,o',x',h1,h2,h3⟩:=mem_blocksOf.1 hb;obtain⟨p,hp,h4,h5⟩:=ai i o' x' h1 h2;have aF:j≠p:=λq=>hj (by rw[q];exact Ax.2 ⟨i,hp⟩);exact hm.apart j p o _ x x' b aF ho hx h4 h5 he (by rw[zi6];exact h3)
 have aq:∀b,b∈zk7 σin βin->c.w0.heap.size<=b∨b∈c.X0:=by intro b hb;obtain⟨i,o',x',h1,h2,h3⟩:=mem_blocksOf.1 hb;obtain⟨p,hp,h4,h5⟩:=ai i o' x' h1 h2;exact hm.mine p _ x' b h4 h5 (by rw[zi6];exact h3)
 have aw:Ext σc βc (xC sel σc σ') (zw4 sel βc β'):=by
  refine⟨λid a ha=>?_,λid n s ha=>?_,λid rows s ha=>?_,λid ha=>?_⟩
  .have af:id<βc.length:=(A1.1 ha).1;by_cases hs:id∈sel;.obtain⟨i,hi⟩:=Ax.1 hs;have h1:=al i id hi;rw[ha]at h1;have h2:=aa.ext.ptr i a h1;have h3:=ae.val i _ h2;obtain⟨ad,ag⟩:=A1.1 hi;rw[wQ ad,ag]at h3;exact h3
   .unfold zw4;rw[Aa (by rw[xZ];exact af),zj0 _ _ _ _ hs];exact ha
  .have af:id<σc.length:=(A1.1 ha).1;by_cases hs:id∈sel
   .obtain⟨i,hi⟩:=Ax.1 hs;obtain⟨ad,ag⟩:=A1.1 hi;have h1:=an.app i n s (by rw[wQ ad,ag];exact ha);obtain⟨n',h2,h3,h4⟩:=aa.ext.app i n s h1;have h5:=ae.app i n' s h2;rw[wQ ad,ag]at h5;refine⟨n',h5,h3,λe=>?_⟩;have h6:=h4 e;rw[show(entry w L σin βin).β0=βin from rfl,al i id hi]at h6;have ax:i<β'.length:=by rw[aa.len];omega
    have h7:=ae.val i _ (A0 ax);rw[wQ ad,ag]at h7;rw[h7,<-h6,A0 ax]
   .refine⟨n,?_,A3 _,λ_=>?_⟩;.unfold xC;rw[Aa (by rw[xZ];exact af),zj0 _ _ _ _ hs];exact ha
    .unfold zw4;rw[Aa (by rw[xZ,hm.len];exact af),zj0 _ _ _ _ hs]
  .have af:id<σc.length:=(A1.1 ha).1;by_cases hs:id∈sel
   .obtain⟨i,hi⟩:=Ax.1 hs;obtain⟨ad,ag⟩:=A1.1 hi;obtain⟨r0,h1,l1⟩:=an.lst i rows s (by rw[wQ ad,ag];exact ha);rcases aa.ext.lst i r0 s h1 with h2|⟨r2,h2,h3,h4⟩;.have h5:=ae.dead i h2;rw[wQ ad,ag]at h5;exact .inl h5
    .obtain⟨r3,h5,l5⟩:=ae.lst i r2 s h2;rw[wQ ad,ag]at h5;refine .inr ⟨r3,h5,om,λe=>?_⟩;have h6:=h4 om;rw[show(entry w L σin βin).β0=βin from rfl,al i id hi]at h6;have ax:i<β'.length:=by rw[aa.len];omega
     have h7:=ae.val i _ (A0 ax);rw[wQ ad,ag]at h7;rw[h7,<-h6,A0 ax]
   .refine .inr ⟨rows,?_,A3 _,λ_=>?_⟩;.unfold xC;rw[Aa (by rw[xZ];exact af),zj0 _ _ _ _ hs];exact ha
    .unfold zw4;rw[Aa (by rw[xZ,hm.len];exact af),zj0 _ _ _ _ hs]
  .have af:id<σc.length:=(A1.1 ha).1;by_cases hs:id∈sel;.obtain⟨i,hi⟩:=Ax.1 hs;obtain⟨ad,ag⟩:=A1.1 hi;have h1:=an.dead i (by rw[wQ ad,ag];exact ha);have h5:=ae.dead i (aa.ext.dead i h1);rw[wQ ad,ag]at h5;exact h5
   .unfold xC;rw[Aa (by rw[xZ];exact af),zj0 _ _ _ _ hs];exact ha
 have hinv:=@xk3 sel σc σ' βc β' ar aj hm.len aa.len au;refine⟨v,renS (ren sel σc.length) r,L',_,_,he,hk r σ' hR au,?_,aa.le,aw,aD.emb ae⟩;refine⟨?_,λj o x ho hx=>?_,λj j' o o' x x' b ay ho hx a1 a6 ab=>?_,λj o x b ho hx ab=>?_,λb ab hx=>?_,hm.le.trans aa.le,B3 hm.size aa.size,aa.os.trans hm.os,aa.tape.trans hm.tape,aa.output.trans hm.output,B3 hm.drawn aa.drawn,aa.lim,hm.ext.trans aw,hm.tab⟩;.simp[xC,zw4,xZ,hm.len,aa.len]
 .rcases hinv ho hx with⟨i,o',rfl,h1,rfl,h2⟩|⟨h0,a8,h1,h2⟩;.exact(aa.objs i o' x h1 h2).emb ae
  .refine(hm.objs j o x h1 h2).step aa.le aw λb ab=>aa.same b ?_ (av j o x b h0 h1 h2 ab);exact(hm.objs j o x h1 h2).excl_lt ab
 .rcases hinv ho hx with⟨i,o1,rfl,h1,rfl,h2⟩|⟨h0,a8,h1,h2⟩
  .rw[zi6]at ab;rcases hinv a1 a6 with⟨i',o2,rfl,h3,rfl,h4⟩|⟨h0,a8,h3,h4⟩;.rw[zi6];exact aa.apart i i' o1 o2 x x' b (λq=>ay (by rw[q])) h1 h2 h3 h4 ab
   .intro q;rcases aa.mine i o1 x b h1 h2 ab with h5|h5;.have:=(hm.objs j' o' x' h3 h4).excl_lt q;have h6:w.heap.size<=b:=h5;omega
    .exact av j' o' x' b h0 h3 h4 q h5
  .rcases hinv a1 a6 with⟨i',o2,rfl,h3,rfl,h4⟩|⟨aJ,aI,h3,h4⟩
   .rw[zi6];intro q;rcases aa.mine i' o2 x' b h3 h4 q with h5|h5;.have:=(hm.objs j o x h1 h2).excl_lt ab;have h6:w.heap.size<=b:=h5;omega
    .exact av j o x b h0 h1 h2 ab h5
   .exact hm.apart j j' o o' x x' b ay h1 h2 h3 h4 ab
 .rcases hinv ho hx with⟨i,o1,rfl,h1,rfl,h2⟩|⟨h0,a8,h1,h2⟩
  .rw[zi6]at ab;rcases aa.mine i o1 x b h1 h2 ab with h5|h5;.exact .inl (B3 hm.size h5)
   .exact aq b h5
  .exact hm.mine j o x b h1 h2 ab
 .have aG:b∉zk7 σin βin:=λq=>by
   rcases aq b q with h5|h5;.omega
   .exact hx h5
  obtain⟨e1,e2⟩:=aa.same b (D3 ab hm.size) aG;obtain⟨e3,e4⟩:=hm.same b ab hx;exact⟨e1.trans e3,e2.trans e4⟩
structure Picks(n0:Nat)(pick:List Nat)(σ σ':St):Prop where
 len:σ'.length=pick.length
 nodup:pick.Nodup
 ob:∀(i j:Nat)(o:Ob),pick[i]?=some j->σ'[i]?=some o->σ[j]?=some (yC (ren pick σ.length) o)id:∀i,i<n0->pick[i]?=some i
theorem Picks.back{n0:Nat}{pick:List Nat}{σ σ':St}(h:Picks n0 pick σ σ')(id:Nat)(O:Ob)(hx:σ[ren pick σ.length id]?=some O):∃o,σ'[id]?=some o/\O=yC (ren pick σ.length) o:=by
 by_cases hi:id<pick.length;.rw[wQ hi]at hx;have hq:=A0 (show id<σ'.length by rw[h.len];exact hi);have:=h.ob id _ _ (A0 hi) hq;rw[hx]at this;exact⟨_,hq,by simpa using this⟩
 .rw[zs9 hi]at hx;have:=(A1.1 hx).1;omega
theorem Picks.bak{n0:Nat}{pick:List Nat}{σ σ':St}{β:List Value}(h:Picks n0 pick σ σ')(hl:β.length=σ.length):Bak (ren pick σ.length) σ' (pick.map λq=>β.getD q undef) σ β:=by
 refine⟨λid x hx=>?_,λid n s hx=>?_,λid rows s hx=>?_,λid hx=>?_⟩
 .by_cases hi:id<pick.length;.rw[wQ hi]at hx;rw[B0,A0 hi];simp[A7,hx]
  .rw[zs9 hi]at hx;have:=(A1.1 hx).1;omega
 .obtain⟨o,ho,he⟩:=h.back id _ hx;cases o with |app n' s'=>simp only[yC]at he;rw[ho,he]|_=>simp[yC]at he
 .obtain⟨o,ho,he⟩:=h.back id _ hx;cases o with |lst r' s'=>simp only[yC,Ob.lst.injEq]at he;obtain⟨e1,e2⟩:=he;subst e2;exact⟨r',ho,by rw[e1];simp⟩|_=>simp[yC]at he
 .obtain⟨o,ho,he⟩:=h.back id _ hx;cases o with |dead=>exact ho|_=>simp[yC]at he
theorem Mem.pick{w:World}{L:Nat->Nat}{σ σ':St}{β:List Value}{pick:List Nat}(h:Mem c w L σ β)(hp:Picks c.σ0.length pick σ σ')(hc:c.β0.length=c.σ0.length):Mem c w L σ' (pick.map λq=>β.getD q undef):=by
 have ab:=hp.bak h.len;have aa:∀(i:Nat)(o:Ob)(x:Value),σ'[i]?=some o->(pick.map λq=>β.getD q undef)[i]?=some x->∃j,pick[i]?=some j/\σ[j]?=some (yC (ren pick σ.length) o)/\β[j]?=some x:=by
  intro i o x ho hx;have hi:i<pick.length:=by rw[<-hp.len];exact(A1.1 ho).1
  have hs:=A0 hi;have h1:=hp.ob i _ o hs ho;refine⟨_,hs,h1,?_⟩;have ad:pick[i]<β.length:=by rw[h.len];exact(A1.1 h1).1
  rw[B0,hs]at hx;simp only[B9,Option.some.injEq,A7,A0 ad,Ea]at hx;rw[A0 ad,hx]
 refine⟨by simp[hp.len],λi o x ho hx=>?_,λi j o o' x x' b ai ho hx aj ak he=>?_,λi o x b ho hx he=>?_,h.same,h.le,h.size,h.os,h.tape,h.output,h.drawn,h.lim,?_,h.tab⟩;.obtain⟨j,hj,h1,h2⟩:=aa i o x ho hx;exact(h.objs j _ x h1 h2).bak ab
 .obtain⟨p,ah,h1,h2⟩:=aa i o x ho hx;obtain⟨q,hq,h3,h4⟩:=aa j o' x' aj ak;have al:p≠q:=λe=>by subst e;obtain⟨hi,e1⟩:=A1.1 ah;obtain⟨hj,e2⟩:=A1.1 hq;exact ai ((List.getElem_inj hp.nodup).1 (e1.trans e2.symm))
  have:=h.apart p q _ _ x x' b al h1 h2 h3 h4 (by rw[zi6];exact he);rw[zi6]at this;exact this
 .obtain⟨p,ah,h1,h2⟩:=aa i o x ho hx;exact h.mine p _ x b h1 h2 (by rw[zi6];exact he)
 .refine⟨λid a ha=>?_,λid n s ha=>?_,λid rows s ha=>?_,λid ha=>?_⟩
  .have hid:id<c.σ0.length:=by rw[<-hc];exact(A1.1 ha).1
   have h1:=h.ext.ptr id a ha;rw[B0,hp.id id hid];simp[A7,h1]
  .have hid:id<c.σ0.length:=(A1.1 ha).1;obtain⟨n',h1,h2,h3⟩:=h.ext.app id n s ha;have ae:=hp.id id hid;obtain⟨af,ag⟩:=A1.1 ae;refine⟨n',ab.app id n' s (by rw[wQ af,ag];exact h1),h2,λe=>?_⟩;have h4:=h3 e;have ad:id<β.length:=by rw[h.len];exact(A1.1 h1).1
   rw[B0,ae];simp only[B9,A7,A0 ad,Ea];rw[<-h4,A0 ad]
  .have hid:id<c.σ0.length:=(A1.1 ha).1;have ae:=hp.id id hid;obtain⟨af,ag⟩:=A1.1 ae;rcases h.ext.lst id rows s ha with h1|⟨r2,h1,h2,h3⟩;.exact .inl (ab.dead id (by rw[wQ af,ag];exact h1))
   .obtain⟨r3,h5,l5⟩:=ab.lst id r2 s (by rw[wQ af,ag];exact h1);refine .inr ⟨r3,h5,om,λe=>?_⟩;have h4:=h3 om;have ad:id<β.length:=by rw[h.len];exact(A1.1 h1).1
    rw[B0,ae];simp only[B9,A7,A0 ad,Ea];rw[<-h4,A0 ad]
  .have hid:id<c.σ0.length:=(A1.1 ha).1;have ae:=hp.id id hid;obtain⟨af,ag⟩:=A1.1 ae;exact ab.dead id (by rw[wQ af,ag];exact h.ext.dead id ha)
end
def frzK(id:Nat)(rows:List (List V)):V->V |.lsv i s n lo m=>if i=id/\n=rows.length/\lo+m<=n then .sl .ro (za4 rows lo m)else .lsv i s n lo m|v=>v
def frzC(id:Nat)(rows:List (List V)):V->V |.fn f caps=>.fn f (caps.map (frzK id rows))|.ifc t vs=>.ifc t (vs.map (frzK id rows))|v=>frzK id rows v
def frzA(id:Nat)(rows:List (List V)):V->V |.agg cs=>.agg (cs.map (frzC id rows))|v=>frzC id rows v
def frzS(id:Nat)(rows:List (List V)):V->V |.tup vs=>.tup (vs.map (frzA id rows))|v=>frzA id rows v
def zR0(id:Nat)(rows:List (List V)):Ob->Ob |.box cells=>.box (cells.map (frzC id rows))|.lst rs s=>.lst (rs.map λr=>r.map (frzC id rows)) s|.mp kvs borns clk=>.mp (kvs.map (frzA id rows)) borns clk|o=>o
def zn3(id:Nat)(rows:List (List V))(σ:St):St:=(σ.set id .dead).map (zR0 id rows)
structure Like(σ σ':St):Prop where
 app:∀(id:Nat) n s,σ[id]?=some (.app n s)->σ'[id]?=some (.app n s)lst:∀(id:Nat) rows s,σ[id]?=some (.lst rows s)->∃rows',σ'[id]?=some (.lst rows' s)/\rows'.length=rows.length
 dead:∀(id:Nat),σ[id]?=some .dead->σ'[id]?=some .dead
section
variable{w:World}{L:Nat->Nat}{σ σ':St}{β:List Value}
theorem RdK.like(h:Like σ σ'){v:V}{x:Value}(r:RdK w L σ β v x):RdK w L σ' β v x:=by cases v with
 |sl g rows=>cases g with |app id=>obtain⟨hr,n,s,hσ,hle,hβ,hl⟩:=r;exact⟨hr,n,s,h.app _ _ _ hσ,hle,hβ,hl⟩|ro=>exact r|full=>exact r
 |lsv id s n lo m=>
  obtain⟨a,cap,hx,hm,ha,hc⟩:=r;refine⟨a,cap,hx,hm,ha,?_⟩;rcases hc with hd|⟨rows,hσ,hn,hb⟩;.exact .inl (h.dead id hd)
  .obtain⟨r2,e2,l2⟩:=h.lst id rows s hσ;exact .inr ⟨r2,e2,om,λq=>hb om⟩|lsp id s n i j=>
  obtain⟨b,o,hx,hc⟩:=r;refine⟨b,o,hx,?_⟩;rcases hc with hd|⟨rows,hσ,hn,hb⟩;.exact .inl (h.dead id hd)
  .obtain⟨r2,e2,l2⟩:=h.lst id rows s hσ;exact .inr ⟨r2,e2,om,λq q'=>hb om q'⟩|_=>exact r
theorem Like.frz{id:Nat}{rows:List (List V)}(σ:St):Like σ (σ.map (zR0 id rows)):=by
 refine⟨λi n s h=>?_,λi rs s h=>⟨_,by rw[B0,h];rfl,sm⟩,λi h=>?_⟩;.rw[B0,h];rfl
 .rw[B0,h];rfl
theorem xW0{c:Ctx}{L':Nat->Nat}{id s n lo m:Nat}{rows:List (List V)}{x:Value}(hm:Mem c w L σ β)(hσ:σ[id]?=some (.lst rows s))(hp:xQ rows=true)(hL:∀b n' cap,β[id]?=some (.slice (some ⟨b,0,none⟩) n' cap)->0<cap->rows.length*s<=L' b)(hle:Le w L w L')(r:RdK w L σ β (.lsv id s n lo m) x)(hn:n=rows.length)(a1:lo+m<=n):RdP w L' (.sl .ro (za4 rows lo m)) x:=by
 obtain⟨a,cap,rfl,af,ag,hc⟩:=r;have aa:(za4 rows lo m).length=m:=by simp[za4];omega
 by_cases h0:m=0
 .subst h0;have:za4 rows lo 0=[]:=by simp[za4]
  rw[this];exact .sl0 _ _ _ (λq=>by cases q) (λ_=>sm)
 rcases hc with hd|⟨rows2,ah,a6,hb⟩;.rw[hσ]at hd;cases hd
 .rw[hσ]at ah;cases ah;obtain⟨b0,c0,hβ,hcap,a7,ab⟩:=hb hn;clear hb ag;have ar:0<m:=Nat.pos_of_ne_zero h0;have ai:lo<c0:=Nat.lt_of_sub_pos (D3 ar (hcap▸af.1));obtain⟨k0,rfl,rfl⟩:=ab ai;clear ab;have aj:0<c0:=Nat.lt_of_le_of_lt (A2 _) ai;have a8:=hL _ _ _ hβ aj;obtain⟨a2,ay,e1,az,ad,ak,hok⟩:=hm.objs id _ _ hσ hβ;cases e1;obtain⟨b',arr,T,fz,e2,hh,_,aA,_,al⟩:=hok aj;cases e2;clear hok;have hu:uni s (za4 rows lo m):=λq hq=>by obtain⟨q0,au,rfl⟩:=Ac.1 hq;rw[Ay];exact ak q0 (D4 (Bk au))
  have an:=zW hu;rw[aa]at an;have av:(lo+m)*s<=rows.length*s:=An _ om;rw[Am]at av;have key:RdP w L' (.sl .ro (za4 rows lo m)) (.slice (some ⟨k0,lo*s,none⟩) (za4 rows lo m).length cap):=by
   refine .of_flat ad hu (by rw[aa];omega) (by rw[aa];exact af.1) (λ_=>sm) (λq=>by cases q) λk v hk=>?_;have aw:k<m*s:=by rw[<-an];exact(A1.1 hk).1
   have hi:k/s<m:=by rw[Cp ad];exact aw
   have hj:k%s<s:=Cy _ ad;have ax:k=k/s*s+k%s:=by rw[Bz];exact(Dk k s).symm
   rw[ax,yK _ _ hu hj]at hk;simp only[za4,B0,Ae,if_pos hi,B5]at hk;have ae:lo+k/s<rows.length:=om;rw[A0 ae]at hk;simp only[B9,Aw,B0,Ba]at hk;obtain⟨v0,ao,rfl⟩:=hk;have hf:rows.flatten[(lo+k/s)*s+k%s]?=some v0:=by rw[yK _ _ ak hj,A0 ae];exact ao
   obtain⟨z,hz,rz⟩:=al.get _ _ hf;have aq:(lo+k/s)*s+k%s=lo*s+k:=by rw[Am];omega
   rw[aq,Ae,if_pos om,Ak]at hz;refine⟨z,by simp only[World.cell?,hh];simpa using hz,?_⟩;refine(RdC.dem rz ?_).mono hle;unfold xQ at hp;rw[Af]at hp;have:=hp _ (A8 ae);rw[Af]at this;exact this _ (Ax.2 ⟨_,ao⟩)
  rw[aa]at key;exact key
def frzL(β:List Value)(id k:Nat)(L:Nat->Nat):Nat->Nat:=match β[id]?with |some (.slice (some a) _ cap)=>if 0<cap then xD L a.block k else L|_=>L
theorem xa6{c:Ctx}{id s:Nat}{rows:List (List V)}(hm:Mem c w L σ β)(hσ:σ[id]?=some (.lst rows s))(hp:xQ rows=true):Mem c w (frzL β id (rows.length*s) L) (zn3 id rows σ) β/\Le w L w (frzL β id (rows.length*s) L)/\Ext σ β (zn3 id rows σ) β/\(∀v x,RdS w L σ β v x->RdS w (frzL β id (rows.length*s) L) (zn3 id rows σ) β (frzS id rows v) x):=by
 have an:id<σ.length:=(A1.1 hσ).1;obtain⟨x0,hβ⟩:∃x0,β[id]?=some x0:=⟨_,A0 (by rw[hm.len];exact an)⟩;obtain⟨a,cap,rfl,hcap,hs,aE,hok⟩:=hm.objs id _ _ hσ hβ;have aF:rows.length*s<=cap*s:=An _ hcap;have hle:Le w L w (frzL β id (rows.length*s) L):=by refine⟨λb=>?_,λ_ _ _=>rfl⟩;unfold frzL;rw[hβ];cases a with |none=>exact A3 _|some a=>
   by_cases h0:0<cap
   .obtain⟨b',arr,T,fz,e,hh,hf,aj,hl,aC⟩:=hok h0;cases e;simp only[h0,if_true,xD];split;.rename_i hb;subst hb;rw[hl];exact A2 _
    .exact A3 _
   .simp only[h0,if_false];exact A3 _
 have ad:Ext σ β (σ.set id .dead) β:=by
  refine⟨λ_ _ h=>h,λi n s' h=>?_,λi rs s' h=>?_,λi h=>?_⟩
  .have q:id≠i:=λq=>by subst q;rw[hσ]at h;cases h
   exact⟨n,by rw[Ad q];exact h,A3 _,λ_=>rfl⟩
  .by_cases q:id=i;.subst q;exact .inl (Aj an)
   .exact .inr ⟨rs,by rw[Ad q];exact h,A3 _,λ_=>rfl⟩
  .by_cases q:id=i;.subst q;exact Aj an
   .rw[Ad q];exact h
 have ab:Like (σ.set id .dead) (zn3 id rows σ):=Like.frz _;have ae:Ext (σ.set id .dead) β (zn3 id rows σ) β:=⟨λ_ _ h=>h,λi n s' h=>⟨n,ab.app i n s' h,A3 _,λ_=>rfl⟩,λi rs s' h=>by obtain⟨r2,h2,l2⟩:=ab.lst i rs s' h;exact .inr ⟨r2,h2,om,λ_=>rfl⟩,λi h=>ab.dead i h⟩;have aw:∀b n' aa,β[id]?=some (.slice (some ⟨b,0,none⟩) n' aa)->0<aa->rows.length*s<=frzL β id (rows.length*s) L b:=λb n' aa h h0=>by unfold frzL;rw[h];simp[h0,xD]
 have ak:∀v x,RdK w L σ β v x->RdK w (frzL β id (rows.length*s) L) (zn3 id rows σ) β (frzK id rows v) x:=λv x r=>by have ar:RdK w (frzL β id (rows.length*s) L) (zn3 id rows σ) β v x:=RdK.like ab (r.mono hle ad);cases v with
  |lsv i s' n lo m=>
   simp only[frzK];split
   .rename_i hc;obtain⟨rfl,hn,ax⟩:=hc;have af:s'=s:=by
     obtain⟨_,_,_,_,_,hc⟩:=r;rcases hc with hd|⟨r2,h2,_⟩;.rw[hσ]at hd;cases hd
     .rw[hσ]at h2;cases h2;rfl
    subst af;exact xW0 hm hσ hp aw hle r hn ax
   .exact ar|_=>exact ar
 have al:∀v x,RdC w L σ β v x->RdC w (frzL β id (rows.length*s) L) (zn3 id rows σ) β (frzC id rows v) x:=λv x r=>by cases v with
  |fn f caps=>obtain⟨xs,hx,hc⟩:=r;exact⟨xs,hx,All2.map_l (f:=frzK id rows) (λ_ _ q=>ak _ _ q) hc⟩|ifc t v=>obtain⟨y,hx,hc⟩:=r;exact⟨y,hx,All2.map_l (f:=frzK id rows) (λ_ _ q=>ak _ _ q) hc⟩|lsv i s' n lo m=>
   have h2:=ak (.lsv i s' n lo m) x r;show RdC w _ _ β (frzK id rows (.lsv i s' n lo m)) x;simp only[frzK]at h2⊢;split;.rename_i hc;rw[if_pos hc]at h2;exact h2
   .rename_i hc;rw[if_neg hc]at h2;exact h2|_=>simp only[RdC]at r;have h2:=ak _ _ r;exact h2
 have ao:∀v x,RdA w L σ β v x->RdA w (frzL β id (rows.length*s) L) (zn3 id rows σ) β (frzA id rows v) x:=λv x r=>by cases v with |agg cs=>obtain⟨xs,hx,hc⟩:=r;exact⟨xs,hx,All2.map_l (f:=frzC id rows) (λ_ _ q=>al _ _ q) hc⟩|_=>simp only[RdA]at r;have h2:=al _ _ r;exact RdA.of_cell h2
 have ay:∀v x,RdS w L σ β v x->RdS w (frzL β id (rows.length*s) L) (zn3 id rows σ) β (frzS id rows v) x:=λv x r=>by cases v with |u=>trivial|tup vs=>obtain⟨xs,hx,hc⟩:=r;exact⟨xs,hx,All2.map_l (f:=frzA id rows) (λ_ _ q=>ao _ _ q) hc⟩|_=>simp only[RdS]at r;have h2:=ao _ _ r;exact RdS.of_a h2
 refine⟨?_,hle,ad.trans ae,ay⟩;have aq:∀b,excl (.lst rows s) (.slice a rows.length cap)≠some b->frzL β id (rows.length*s) L b=L b:=λb h=>by unfold frzL;rw[hβ];cases a with |none=>rfl|some a=>
   by_cases h0:0<cap;.simp only[excl,h0,if_true,ne_eq,Option.some.injEq]at h;simp only[h0,if_true,xD];rw[if_neg (λq=>h q.symm)]
   .simp only[h0,if_false]
 have az:∀i o x,i≠id->σ[i]?=some o->β[i]?=some x->ObOk w (frzL β id (rows.length*s) L) (zn3 id rows σ) β (zR0 id rows o) x:=λi o x hi ho hx=>by have hr:=hm.objs i o x ho hx;have ag:∀b,excl o x=some b->frzL β id (rows.length*s) L b=L b:=λb hb=>aq b λq=>hm.apart i id o _ x _ b hi ho hx hσ hβ hb q;cases o with
  |box cells=>obtain⟨b,arr,T,fz,rfl,hh,hf,hl,hc⟩:=hr;exact⟨b,arr,T,fz,rfl,hh,hf,(ag b rfl).trans hl,All2.map_l (f:=frzC id rows) (λ_ _ q=>al _ _ q) hc⟩|app n s'=>obtain⟨a',aa,rfl,hn,af,ah⟩:=hr;refine⟨a',aa,rfl,hn,af,λau=>?_⟩;obtain⟨b,o',arr,T,fz,rfl,hh,hf,aj,hl⟩:=ah au;exact⟨b,o',arr,T,fz,rfl,hh,hf,aj,(ag b (by simp[excl,au])).trans hl⟩|lst rs s'=>
   obtain⟨a',aa,rfl,hn,af,a1,ah⟩:=hr;refine⟨a',aa,sm,by simpa using hn,af,λr hr=>?_,λh0=>?_⟩;.obtain⟨r0,a6,rfl⟩:=Ac.1 hr;rw[Ay];exact a1 r0 a6
   .obtain⟨b,arr,T,fz,rfl,hh,hf,aj,hl,hc⟩:=ah h0;refine⟨b,arr,T,fz,rfl,hh,hf,aj,(ag b (by simp[excl,h0])).trans hl,?_⟩;rw[Ay,<-List.map_flatten];exact All2.map_l (f:=frzC id rows) (λ_ _ q=>al _ _ q) hc|dead=>trivial|mp kvs borns clk=>obtain⟨b,es,rfl,hh,hl,hc,a7⟩:=hr;exact⟨b,es,rfl,hh,(ag b rfl).trans hl,All2.map_l (f:=frzA id rows) (λ_ _ q=>ao _ _ q) hc,a7⟩|it m since seen last=>obtain⟨b,mo,rfl,hh,hl,hc⟩:=hr;exact⟨b,mo,rfl,hh,(ag b rfl).trans hl,hc⟩
 have inv:∀i o,(zn3 id rows σ)[i]?=some o->(i=id/\o=.dead)∨(i≠id/\∃o',σ[i]?=some o'/\o=zR0 id rows o'):=λi o h=>by
  unfold zn3 at h;rw[B0,Ba]at h;obtain⟨o',h1,rfl⟩:=h;rcases wX h1 with⟨rfl,rfl,_⟩|⟨ai,h2⟩;.exact .inl ⟨rfl,rfl⟩
  .exact .inr ⟨ai,o',h2,rfl⟩
 have av:∀o x,excl (zR0 id rows o) x=excl o x:=λo x=>by cases o with
  |lst rs s'=>cases x with |slice a n cap=>cases a<;>rfl|_=>rfl
  |_=>cases x<;>first|rfl|(rename_i q;cases q<;>rfl)
 refine⟨by simp[zn3,hm.len],λi o x ho hx=>?_,λi j o o' x x' b a8 ho hx aA aB hb=>?_,λi o x b ho hx hb=>?_,λb hb hx=>?_,hm.le.trans hle,hm.size,hm.os,hm.tape,hm.output,hm.drawn,λb hb=>?_,hm.ext.trans (ad.trans ae),hm.tab⟩
 .rcases inv i o ho with⟨_,rfl⟩|⟨ai,o',h2,rfl⟩;.trivial
  .exact az i o' x ai h2 hx
 .rcases inv i o ho with⟨_,rfl⟩|⟨ai,o1,h2,rfl⟩;.simp[excl]at hb
  .rcases inv j o' aA with⟨_,rfl⟩|⟨aD,o2,h3,rfl⟩;.simp[excl]
   .rw[av]at hb⊢;exact hm.apart i j o1 o2 x x' b a8 h2 hx h3 aB hb
 .rcases inv i o ho with⟨_,rfl⟩|⟨ai,o1,h2,rfl⟩;.simp[excl]at hb
  .rw[av]at hb;exact hm.mine i o1 x b h2 hx hb
 .obtain⟨e1,e2⟩:=hm.same b hb hx;refine⟨e1,?_⟩;rw[aq b λq=>?_];.exact e2
  .rcases hm.mine id _ _ b hσ hβ q with h|h;.omega
   .exact hx h
 .rw[aq b λq=>?_];.exact hm.lim b hb
  .have:=(hm.objs id _ _ hσ hβ).excl_lt q;omega
end
variable{c:Ctx}{w:World}{σ:St}{cells:List V}{L:Nat->Nat}{β:List Value}{off:Nat}
theorem xc7{id s:Nat}(hm:Mem c w L σ β)(hs:0<s)(hσ:σ[id]?=some (.box cells))(hc:cells[off]?=some (.sl .full [])):∃x,Mem c w L (σ.set id (.box (cells.set off (.lsv σ.length s 0 0 0)))++[.lst [] s]) (β++[x])/\Ext σ β (σ.set id (.box (cells.set off (.lsv σ.length s 0 0 0)))++[.lst [] s]) (β++[x]):=by
 have ab:id<σ.length:=(A1.1 hσ).1;obtain⟨x0,hβ⟩:∃x0,β[id]?=some x0:=⟨_,A0 (by rw[hm.len];exact ab)⟩;obtain⟨b,arr,T,fz,rfl,hh,hf,hl,ad⟩:=hm.objs id _ _ hσ hβ;obtain⟨y,hy,ry⟩:=ad.get _ _ hc;have al:RdP w L (.sl .full []) y:=ry;obtain⟨a,cap,aj,_,hcap⟩:=al.len;have ae:=hcap rfl;simp only[Dc]at ae aj;subst ae;have h1:=hm.lstNil (s:=s) (a:=a) hs;have af:=Ext.push σ β hm.len (.lst [] s) (.slice a 0 0);have ah:(σ++[Ob.lst [] s])[id]?=some (.box cells):=by rw[Aa ab];exact hσ
 have ai:(β++[Value.slice a 0 0])[id]?=some (.pointer (some ⟨b,0,none⟩)):=by rw[Aa (by rw[hm.len];exact ab)];exact hβ
 have aa:Ext (σ++[Ob.lst [] s]) (β++[Value.slice a 0 0]) ((σ++[Ob.lst [] s]).set id (.box (cells.set off (.lsv σ.length s 0 0 0)))) (β++[Value.slice a 0 0]):=Ext.setBox ah _;have ag:=yE _ _ _ ai;have key:=h1.upd (w':=w) (L':=L) id (.box (cells.set off (.lsv σ.length s 0 0 0))) (.pointer (some ⟨b,0,none⟩)) (Le.refl _ _) (by rw[ag];exact aa) (λk=>k=b) (λj o' x' k hj an ao hk e=>by subst e;exact h1.apart j id o' _ x' _ k hj an ao ah ai hk rfl) (λk e=>by subst e;exact h1.mine id _ _ k ah ai rfl) (λk hk=>⟨rfl,rfl⟩) rfl rfl rfl rfl h1.lim ?_ (λk hk=>by simpa[excl]using hk.symm);.rw[ag,Dh _ _ ab]at key;rw[Dh _ _ ab]at aa;exact⟨_,key,af.trans aa⟩
 .rw[ag];refine⟨b,arr,T,fz,rfl,hh,hf,hl,?_⟩;refine All2.of (by rw[Eh];exact ad.length) λk p z hp hz=>?_;rcases wX hp with⟨rfl,rfl,_⟩|⟨ar,aq⟩
  .rw[hy]at hz;cases hz;rw[aj];refine⟨a,0,rfl,⟨A3 _,A3 _⟩,λq=>om,.inr ⟨[],?_,A3 _,λ_=>⟨a,0,?_,rfl,A3 _,λq=>om⟩⟩⟩;.rw[Dh _ _ ab,Ai sm];simp
   .rw[<-hm.len];simp
  .obtain⟨z',ak,rz⟩:=ad.get _ _ aq;rw[hz]at ak;cases ak;exact rz.mono (Le.refl _ _) (af.trans aa)
theorem xH5{id s:Nat}(hm:Mem c w L σ β)(hs:0<s)(hσ:σ[id]?=some (.box cells))(hc:cells[off]?=some (.sl .full [])):∃x,Mem c w L (σ.set id (.box (cells.set off (.sl (.app σ.length) [])))++[.app 0 s]) (β++[x])/\Ext σ β (σ.set id (.box (cells.set off (.sl (.app σ.length) [])))++[.app 0 s]) (β++[x]):=by
 have ab:id<σ.length:=(A1.1 hσ).1;obtain⟨x0,hβ⟩:∃x0,β[id]?=some x0:=⟨_,A0 (by rw[hm.len];exact ab)⟩;obtain⟨b,arr,T,fz,rfl,hh,hf,hl,ad⟩:=hm.objs id _ _ hσ hβ;obtain⟨y,hy,ry⟩:=ad.get _ _ hc;have al:RdP w L (.sl .full []) y:=ry;obtain⟨a,cap,aj,_,hcap⟩:=al.len;have ae:=hcap rfl;simp only[Dc]at ae aj;subst ae;have h1:=hm.own (n:=0) (a:=a) hs;have af:=Ext.push σ β hm.len (.app 0 s) (.slice a 0 0);have ah:(σ++[Ob.app 0 s])[id]?=some (.box cells):=by rw[Aa ab];exact hσ
 have ai:(β++[Value.slice a 0 0])[id]?=some (.pointer (some ⟨b,0,none⟩)):=by rw[Aa (by rw[hm.len];exact ab)];exact hβ
 have aa:Ext (σ++[Ob.app 0 s]) (β++[Value.slice a 0 0]) ((σ++[Ob.app 0 s]).set id (.box (cells.set off (.sl (.app σ.length) [])))) (β++[Value.slice a 0 0]):=Ext.setBox ah _;have ag:=yE _ _ _ ai;have key:=h1.upd (w':=w) (L':=L) id (.box (cells.set off (.sl (.app σ.length) []))) (.pointer (some ⟨b,0,none⟩)) (Le.refl _ _) (by rw[ag];exact aa) (λk=>k=b) (λj o' x' k hj an ao hk e=>by subst e;exact h1.apart j id o' _ x' _ k hj an ao ah ai hk rfl) (λk e=>by subst e;exact h1.mine id _ _ k ah ai rfl) (λk hk=>⟨rfl,rfl⟩) rfl rfl rfl rfl h1.lim ?_ (λk hk=>by simpa[excl]using hk.symm);.rw[ag,Dh _ _ ab]at key;rw[Dh _ _ ab]at aa;exact⟨_,key,af.trans aa⟩
 .rw[ag];refine⟨b,arr,T,fz,rfl,hh,hf,hl,?_⟩;refine All2.of (by rw[Eh];exact ad.length) λk p z hp hz=>?_;rcases wX hp with⟨rfl,rfl,_⟩|⟨ar,aq⟩
  .rw[hy]at hz;cases hz;rw[aj];refine⟨.sl0 .ro a 0 (λh=>by cases h) (λ_ h=>by cases h),0,s,?_,A2 _,λ_=>?_,λr h=>by simp at h⟩;.rw[Dh _ _ ab,Ai sm];simp
   .rw[<-hm.len];simp
  .obtain⟨z',ak,rz⟩:=ad.get _ _ aq;rw[hz]at ak;cases ak;exact rz.mono (Le.refl _ _) (af.trans aa)
def zD3(cells:List V)(s off n:Nat):List (List V):=(List.range n).map λi=>((cells.drop (off+i*s)).take s).map dem
def frzB(id:Nat)(cells:List V):V->V |.bsv i s off n=>if i=id/\0<s/\off+n*s<=cells.length/\((cells.drop off).take (n*s)).all zh9=true then .sl .ro (zD3 cells s off n)else .bsv i s off n|v=>v
theorem yF3{s n:Nat}(h:off+n*s<=cells.length):uni s (zD3 cells s off n):=λr hr=>by obtain⟨i,hi,rfl⟩:=Ac.1 hr;have hi:=Cj.1 hi;have:(i+1)*s<=n*s:=An _ hi;rw[Am,Bl]at this;rw[Ay,Cd,E9];omega
theorem xI0{id:Nat}(hm:Mem c w L σ β)(hσ:σ[id]?=some (.box cells)):∃L',Mem c w L' (σ.set id .dead) β/\Le w L w L'/\Ext σ β (σ.set id .dead) β/\(∀v x,RdS w L σ β v x->RdS w L' (σ.set id .dead) β (frzB id cells v) x):=by
 have ag:id<σ.length:=(A1.1 hσ).1;obtain⟨x0,hβ⟩:∃x0,β[id]?=some x0:=⟨_,A0 (by rw[hm.len];exact ag)⟩;obtain⟨b,arr,T,fz,rfl,hh,hf,hl,ah⟩:=hm.objs id _ _ hσ hβ;have hle:Le w L w (xD L b cells.length):=by
  refine⟨λk=>?_,λ_ _ _=>rfl⟩;simp only[xD];split;.rename_i hk;subst hk;omega
  .exact A3 _
 have aa:Ext σ β (σ.set id .dead) β:=by
  refine⟨λ_ _ h=>h,λi n s' h=>?_,λi rs s' h=>?_,λi h=>?_⟩
  .have q:id≠i:=λq=>by subst q;rw[hσ]at h;cases h
   exact⟨n,by rw[Ad q];exact h,A3 _,λ_=>rfl⟩
  .have q:id≠i:=λq=>by subst q;rw[hσ]at h;cases h
   exact .inr ⟨rs,by rw[Ad q];exact h,A3 _,λ_=>rfl⟩
  .by_cases q:id=i;.subst q;exact Aj ag
   .rw[Ad q];exact h
 have ae:∀k,k≠b->xD L b cells.length k=L k:=λk h=>if_neg h;have inv:∀i o,(σ.set id .dead)[i]?=some o->(i=id/\o=.dead)∨(i≠id/\σ[i]?=some o):=λi o h=>by
  rcases wX h with⟨rfl,rfl,_⟩|⟨ab,h2⟩;.exact .inl ⟨rfl,rfl⟩
  .exact .inr ⟨ab,h2⟩
 refine⟨xD L b cells.length,⟨by simp[hm.len],λi o x ho hx=>?_,λi j o o' x x' k an ho hx ao aq hb=>?_,λi o x k ho hx hb=>?_,λk hb hx=>?_,hm.le.trans hle,hm.size,hm.os,hm.tape,hm.output,hm.drawn,λk hb=>?_,hm.ext.trans aa,hm.tab⟩,hle,aa,λv x r=>?_⟩
 .rcases inv i o ho with⟨_,rfl⟩|⟨ab,h2⟩;.trivial
  .exact(hm.objs i o x h2 hx).step hle aa λk hk=>⟨rfl,ae k λe=>by subst e;exact hm.apart i id o _ x _ k ab h2 hx hσ hβ hk rfl⟩
 .rcases inv i o ho with⟨_,rfl⟩|⟨ab,h2⟩;.simp[excl]at hb
  .rcases inv j o' ao with⟨_,rfl⟩|⟨au,h3⟩;.simp[excl]
   .exact hm.apart i j o o' x x' k an h2 hx h3 aq hb
 .rcases inv i o ho with⟨_,rfl⟩|⟨ab,h2⟩;.simp[excl]at hb
  .exact hm.mine i o x k h2 hx hb
 .obtain⟨e1,e2⟩:=hm.same k hb hx;refine⟨e1,?_⟩;rw[ae k λq=>?_];.exact e2
  .subst q;rcases hm.mine id _ _ k hσ hβ rfl with h|h;.omega
   .exact hx h
 .rw[ae k λq=>?_];.exact hm.lim k hb
  .subst q;have:=(hm.objs id _ _ hσ hβ).excl_lt (b:=k) rfl;omega
 .have ai:=r.mono hle aa;cases v with
  |bsv i s off n=>
   simp only[frzB];split
   .rename_i hc;obtain⟨rfl,hs,hlen,hp⟩:=hc;obtain⟨b',aj,rfl⟩:=r;rw[hβ]at aj;cases aj;have hu:=yF3 (s:=s) (off:=off) (n:=n) hlen;have ad:(zD3 cells s off n).length=n:=by simp[zD3]
    have key:RdP w (xD L b cells.length) (.sl .ro (zD3 cells s off n)) (.slice (some ⟨b,off,none⟩) (zD3 cells s off n).length n):=by
     refine .of_flat hs hu (by rw[ad];simpa[xD]using hlen) (by rw[ad];exact A3 _) (λ_=>sm) (λq=>by cases q) λk v hk=>?_;have ak:k<n*s:=by rw[<-ad,<-zW hu];exact(A1.1 hk).1
     have hi:k/s<n:=by rw[Cp hs];exact ak
     have hj:k%s<s:=Cy _ hs;have ar:k=k/s*s+k%s:=by rw[Bz];exact(Dk k s).symm
     rw[ar,yK _ _ hu hj]at hk;simp only[zD3,B0,Co hi,B9,Aw,Ae,if_pos hj,B5,Ba]at hk;obtain⟨v0,af,rfl⟩:=hk;have al:off+k/s*s+k%s=off+k:=om;rw[al]at af;obtain⟨z,hz,rz⟩:=ah.get _ _ af;rw[Ak]at hz;refine⟨z,by simp only[World.cell?,hh];simpa using hz,(RdC.dem rz ?_).mono hle⟩;rw[Af]at hp;refine hp _ (Ax.2 ⟨k,?_⟩);rw[Ae,if_pos ak,B5];exact af
    rw[ad]at key;exact key
   .exact ai|_=>exact ai
inductive Frz:List V->St->List V->St->Prop|refl(vs:List V)(σ:St):Frz vs σ vs σ|step(id s:Nat)(rows:List (List V)){vs vs':List V}{σ σ':St}(hσ:σ[id]?=some (.lst rows s))(hp:xQ rows=true)(h:Frz (vs.map (frzS id rows)) (zn3 id rows σ) vs' σ'):Frz vs σ vs' σ'|nil(id off s:Nat)(cells:List V){vs vs':List V}{σ σ':St}(hs:0<s)(hσ:σ[id]?=some (.box cells))(hc:cells[off]?=some (.sl .full []))(h:Frz vs (σ.set id (.box (cells.set off (.lsv σ.length s 0 0 0)))++[.lst [] s]) vs' σ'):Frz vs σ vs' σ'|box(id:Nat)(cells:List V){vs vs':List V}{σ σ':St}(hσ:σ[id]?=some (.box cells))(h:Frz (vs.map (frzB id cells)) (σ.set id .dead) vs' σ'):Frz vs σ vs' σ'|nilv(i s:Nat){vs vs':List V}{σ σ':St}(hs:0<s)(hv:vs[i]?=some (.sl .full []))(h:Frz (vs.set i (.lsv σ.length s 0 0 0)) (σ++[.lst [] s]) vs' σ'):Frz vs σ vs' σ'
theorem Frz.ok{vs vs':List V}{σ':St}(h:Frz vs σ vs' σ'):∀{L:Nat->Nat}{β xs:List Value},Mem c w L σ β->All2 (RdS w L σ β) vs xs->∃L' β',Mem c w L' σ' β'/\Le w L w L'/\Ext σ β σ' β'/\All2 (RdS w L' σ' β') vs' xs:=by induction h with |refl vs σ=>exactλhm ha=>⟨_,_,hm,Le.refl _ _,Ext.refl _ _,ha⟩|step id s rows hσ hp _ ih=>intro L β xs hm ha;obtain⟨h1,h2,h3,h4⟩:=xa6 hm hσ hp;obtain⟨L',β',h5,h6,h7,h8⟩:=ih h1 (All2.map_l (f:=frzS id rows) (λ_ _ q=>h4 _ _ q) ha);exact⟨L',β',h5,h2.trans h6,h3.trans h7,h8⟩|nil id off s cells hs hσ hc _ ih=>intro L β xs hm ha;obtain⟨x,h1,h2⟩:=xc7 hm hs hσ hc;obtain⟨L',β',h5,h6,h7,h8⟩:=ih h1 (ha.imp λ_ _ q=>q.mono (Le.refl _ _) h2);exact⟨L',β',h5,h6,h2.trans h7,h8⟩|box id cells hσ _ ih=>intro L β xs hm ha;obtain⟨L1,h1,h2,h3,h4⟩:=xI0 hm hσ;obtain⟨L',β',h5,h6,h7,h8⟩:=ih h1 (All2.map_l (f:=frzB id cells) (λ_ _ q=>h4 _ _ q) ha);exact⟨L',β',h5,h2.trans h6,h3.trans h7,h8⟩|nilv i s hs hv _ ih=>
  rename_i ab ae s0 s1 _;intro L β xs hm ha;obtain⟨x,hx,r⟩:=ha.get _ _ hv;have hr:RdP w L (.sl .full []) x:=r;obtain⟨ad,rfl⟩:∃ad,x=.slice ad 0 0:=by cases hr with |sl0 g ad cap hg ha=>have:=hg rfl;subst this;exact⟨ad,rfl⟩|sl g rows s b o cap c ha hs hlen hlim hcap hg hc hr=>have:=hg rfl;subst this;exact⟨_,rfl⟩
  have h1:=hm.lstNil (a:=ad) hs;have aa:=Ext.push _ _ hm.len (Ob.lst [] s) (.slice ad 0 0);have h2:All2 (RdS w L (s0++[Ob.lst [] s]) (β++[.slice ad 0 0])) (ab.set i (.lsv s0.length s 0 0 0)) xs:=by
   refine All2.of (by rw[Eh];exact ha.length) λj p y hp hy=>?_;rcases wX hp with⟨rfl,rfl,_⟩|⟨_,hp⟩;.rw[hx]at hy;cases hy;exact zR5 (w':=w) (L':=L) (s:=s) (rows:=[]) (cap:=0) (a0:=ad) hm.len (A3 _) (λh=>absurd h om)
   .obtain⟨z,hz,rz⟩:=ha.get _ _ hp;rw[hy]at hz;cases hz;exact rz.mono (Le.refl _ _) aa
  obtain⟨L',β',h5,h6,h7,h8⟩:=ih h1 h2;exact⟨L',β',h5,h6,aa.trans h7,h8⟩
def flatK:V->Bool|.bool _|.int _ _|.str _|.nilp|.u=>true|.raw _=>true|.sl _ rows=>rows.isEmpty|_=>false
def yf6:V->Bool|.agg cs=>cs.all flatK|v=>flatK v
def yH9:V->Bool|.tup vs=>vs.all yf6|v=>yf6 v
section
variable{w w':World}{L L':Nat->Nat}{σ σ':St}{β β':List Value}
variable {x:Value}
theorem yH8{v:V}(h:flatK v=true)(r:RdC w L [] [] v x):RdC w' L' σ' β' v x:=by cases v with
 |sl g rows=>
  have hr:rows=[]:=by simpa[flatK]using h
  subst hr;cases g with
  |app id=>obtain⟨_,n,s,h,_⟩:=r;simp at h|ro=>cases r with |sl0 _ a cap hg ha=>exact RdP.sl0 _ _ _ hg ha|sl _ _ s b o cap c ha hs hlen hlim hcap hg hc hr=>exact RdP.sl0 _ _ _ (λq=>by cases q) (λ_=>sm)
  |full=>cases r with |sl0 _ a cap hg ha=>exact RdP.sl0 _ _ _ hg ha|sl _ _ s b o cap c ha hs hlen hlim hcap hg hc hr=>exact RdP.sl0 _ _ _ hg (λ_=>sm)
 |bool b=>cases r;exact RdP.bool _|int k n=>cases r;exact RdP.int _ _|str s=>cases r;exact RdP.str _|nilp=>cases r;exact RdP.nilp|raw v=>cases r with|raw _ h=>exact RdP.raw _ h
 |u=>exact r|_=>simp[flatK]at h
theorem yH7{v:V}(h:yf6 v=true)(r:RdA w L [] [] v x):RdA w' L' σ' β' v x:=by cases v with
 |agg cs=>obtain⟨xs,hx,hc⟩:=r;refine⟨xs,hx,?_⟩;clear hx;simp only[yf6]at h;induction cs generalizing xs with
  |nil=>cases xs with |nil=>trivial|cons _ _=>exact hc.elim
  |cons c cs ih=>cases xs with |nil=>exact hc.elim|cons y ys=>simp only[Ap,A6]at h;exact⟨yH8 h.1 hc.1,ih h.2 _ hc.2⟩
 |tup vs=>simp[yf6,flatK]at h|fn f c=>simp[yf6,flatK]at h|ifc t c=>simp[yf6,flatK]at h|_=>exact RdA.of_cell (yH8 (w:=w) (L:=L) h r)
theorem xu3{v:V}(h:yH9 v=true)(r:RdS w L [] [] v x):RdS w' L' σ' β' v x:=by cases v with
 |tup vs=>obtain⟨xs,hx,hc⟩:=r;refine⟨xs,hx,?_⟩;clear hx;simp only[yH9]at h;induction vs generalizing xs with
  |nil=>cases xs with |nil=>trivial|cons _ _=>exact hc.elim
  |cons c cs ih=>cases xs with |nil=>exact hc.elim|cons y ys=>simp only[Ap,A6]at h;exact⟨yH7 h.1 hc.1,ih h.2 _ hc.2⟩
 |u=>trivial|_=>exact RdS.of_a (yH7 (w:=w) (L:=L) h r)
end
theorem VC.view{P:Program}{c:Ctx}{f:FuncId}{caps args args' af:List V}{σc σ1:St}{R:V->St->Prop}{K:V->St->Prop}(hc:VCalls P f args' [] R)(hb:wG P f=true)(hf:Frz (args++caps) σc af σ1)(aa:All2 (argS (ren [] σ1.length)) args' af)(hR:∀r s,R r s->s=[]/\yH9 r=true)(hk:∀r,R r []->K r σc):VC P c (.fn f caps) args σc K:=by
 refine⟨f,caps,rfl,.inl ⟨zD4 hb,λw L βc ab hm hv=>?_⟩⟩;obtain⟨L1,β1,ai,a1,ar,aj⟩:=hf.ok hm hv;have ak:Bak (ren [] σ1.length) [] [] σ1 β1:=by
  have ao:∀id,σ1.length<=ren [] σ1.length id:=λid=>by simp[ren]
  refine⟨λid x hx=>?_,λid n s hx=>?_,λid rows s hx=>?_,λid hx=>?_⟩;.have h1:=(A1.1 hx).1;have h2:=ao id;rw[ai.len]at h1;omega
  all_goals have h1:=(A1.1 hx).1;have h2:=ao id;omega
 have au:Mem (entry w L1 [] []) w L1 [] []:=⟨rfl,λi o x ho _=>by simp at ho,λi j o o' x x' b _ ho _ _ _ _=>by simp at ho,λi o x b ho _ _=>by simp at ho,λb _ _=>⟨rfl,rfl⟩,Le.refl _ _,A3 _,rfl,rfl,rfl,A3 _,ai.lim,Ext.refl _ _,ai.tab.mono ai.le⟩;have av:All2 (RdS w L1 [] []) args' ab:=by clear hf hc hk;induction args' generalizing af ab with
  |nil=>cases af with
   |nil=>cases ab with |nil=>trivial|cons _ _=>exact aj.elim
   |cons _ _=>exact aa.elim
  |cons p args' ih=>cases af with |nil=>exact aa.elim|cons q az=>cases ab with |nil=>exact aj.elim|cons y ys=>
     refine⟨zx5 ak aa.1 aj.1,?_⟩;clear ih;have key:∀(args' az:List V)(ys:List Value),All2 (argS (ren [] σ1.length)) args' az->All2 (RdS w L1 σ1 β1) az ys->All2 (RdS w L1 [] []) args' ys:=by intro args';induction args' with
      |nil=>intro az ys h1 h2;cases az with
       |nil=>cases ys with |nil=>trivial|cons _ _=>exact h2.elim
       |cons _ _=>exact h1.elim
      |cons p l ih=>intro az ys h1 h2;cases az with |nil=>exact h1.elim|cons q az=>cases ys with |nil=>exact h2.elim|cons y ys=>exact⟨zx5 ak h1.1 h2.1,ih az ys h1.2 h2.2⟩
     exact key _ _ _ aa.2 aj.2
 refine(hc w L1 [] ab au av).mono λe w'⟨v,r,L2,σ',β',he,aq,a6,ad,aw⟩=>?_;obtain⟨rfl,al⟩:=hR r σ' aq;have ax:β'=[]:=B6 (by rw[ad.len];rfl);subst ax;have ae:∀b,b<w.heap.size->w'.heap[b]?=w.heap[b]?:=λb hb=>(ad.same b hb (by show b∉zk7 [] [];simp[zk7])).1;have ay:w.heap.size<=w'.heap.size:=ad.size;let L3:Nat->Nat:=λb=>if b<w.heap.size then L b else L2 b;have an:∀b,b<w.heap.size->L3 b=L b:=λb hb=>if_pos hb;have ag:Le w L w' L3:=by
  refine⟨λb=>?_,λb o ho=>?_⟩
  .by_cases hb:b<w.heap.size;.rw[an b hb];exact A3 _
   .rw[hm.lim b om];exact A2 _
  .have hb:b<w.heap.size:=by
    rcases Cl b w.heap.size with hb|hb;.exact hb
    .rw[hm.lim b hb]at ho;omega
   exact zb7 (ae b hb) o
 refine⟨v,r,L3,σc,βc,he,hk r aq,?_,ag,Ext.refl _ _,xu3 al aw⟩;refine⟨hm.len,λi o x ho hx=>(hm.objs i o x ho hx).step ag (Ext.refl _ _) λb hb=>?_,hm.apart,hm.mine,λb hb hx=>?_,hm.le.trans ag,B3 hm.size ay,ad.os.trans hm.os,ad.tape.trans hm.tape,ad.output.trans hm.output,B3 hm.drawn ad.drawn,λb hb=>?_,hm.ext,hm.tab⟩;.have ah:=(hm.objs i o x ho hx).excl_lt hb;exact⟨ae b ah,an b ah⟩
 .have ah:=D3 hb hm.size;rw[ae b ah,an b ah];exact hm.same b hb hx
 .show(if b<w.heap.size then L b else L2 b)=0;rw[if_neg om];exact ad.lim b hb
def evOp(P:Program)(e:Env)(σ:St):Op->R |.move x=>.ok (zF e x)|.assign x=>.ok (zF e x)|.pick x y z=>zH6 (zF e x) (zF e y) (zF e z)|.alloc t=>zm0 P t σ|.box _ x=>zQ5 σ (zF e x)|.build t ps=>zx7 (zb1 P t) (plcT P t) (ps.toList.map λp=>(p.1,zF e p.2))|.buildSlice t n ps=>zb5 ((elT P t).map (·.1)) n (ps.toList.map λp=>(p.1,zF e p.2))|.load t x=>zi4 P t σ (zF e x)|.store t x y=>zu4 P t σ (zF e x) (zF e y)|.nilCheck x=>zY4 (zF e x)|.binOp op t x y _=>if zh8 y=true then zu3 op (eqK P t) (zF e x)else if zg7 y=true then zr1 op (zi9 P t) (zF e x)else zt5 op (eqK P t) (eqS P t) (zF e x) (zF e y)|.unOp op _ x=>evUn op (zF e x)|.convert t t' x=>zD6 (kdT P t) (kdT P t') (zF e x)|.slice t x lo hi none=>zn9 (arrT P t) (lenT P t) ((elT P t).map (·.1)) (zF e x) (lo.map (zF e)) (hi.map (zF e))|.slice t x (some lo) (some hi) (some mx)=>zr2 ((elT P t).map (·.1)) (zF e x) (zF e lo) (zF e hi) (zF e mx)|.fieldAddr t x f=>zf6 P t (zF e x) f|.field t x f=>zx9 (fldT P t f) (zF e x)|.indexAddr t x i=>zj6 (slcT P t) (arrT P t) (zF e x) (zF e i)|.index t x i=>zQ6 (zF e x) (zF e i) (strT P t) (arrT P t)|.extract x i=>zn0 (zF e x) i|.makeFunc fn first caps=>zH5 fn first.size (caps.toList.map (zF e))|.makeSlice t l m=>zD8 (elT P t) (zelT P t) σ (zF e l) (zF e m)|.call ⟨.builtin .len,⟨[x]⟩,⟨[t]⟩⟩=>zY3 (lenT P t) (zF e x)|.call ⟨.builtin .append,⟨[x,y]⟩,⟨[t,t']⟩⟩=>zi3 (elT P t) (lenT P t') σ (zF e x) (zF e y)|.call ⟨.builtin .clear,⟨[x]⟩,⟨[t]⟩⟩=>zu1 ((elT P t).map (·.1)) (zelT P t) σ (zF e x)|.call ⟨.builtin .min,⟨xs⟩,_⟩=>zA9 false (xs.map (zF e))|.call ⟨.builtin .max,⟨xs⟩,_⟩=>zA9 true (xs.map (zF e))|.call ⟨.builtin .delete,⟨[x,k]⟩,⟨[t,_]⟩⟩=>zr0 (mapT P t) σ (zF e x) (zF e k)|.makeMap t r=>zn1 σ (zi9 P t) (r.map (zF e))|.lookup t x k ok=>xY (mapT P t) σ (zF e x) (zF e k) ok|.mapUpdate t x k v=>xS (mapT P t) σ (zF e x) (zF e k) (zF e v)|.insert t x k v=>xS (mapT P t) σ (zF e x) (zF e k) (zF e v)|.mapEntry t x k=>wC (mapT P t) σ (zF e x) (zF e k)|.entryStore _ x s v=>xO σ (zF e x) (zF e s) (zF e v)|.range t x=>zy0 (zi9 P t) σ (zF e x)|.entry x=>zj5 σ (zF e x)|.makeInterface t x=>zY2 (yr8 P t) t (zF e x)|.next x false=>zi5 false σ (zF e x)|_=>.fail
def za5(P:Program)(e:Env)(σ:St):Op->R |.buildSlice t n ps=>za3 ((elT P t).map (·.1)) n σ (ps.toList.map λp=>(p.1,zF e p.2))|.makeSlice t l m=>zu2 (elT P t) (zelT P t) σ (zF e l) (zF e m)|.convert t t' x=>zx8 (kdT P t) (kdT P t') σ (zF e x)|.slice t x (some lo) none none=>zr3 (lenT P t) ((elT P t).map (·.1)) σ (zF e x) (zF e lo)|.call ⟨.builtin .append,⟨[x,y]⟩,⟨[t,t']⟩⟩=>zf1 (elT P t) (lenT P t') σ (zF e x) (zF e y)|.next x false=>zi5 true σ (zF e x)|op=>evOp P e σ op
def ze4(e:Env)(d:Option Tmp):Bool:=match d with|some t=>(match e (100000+t)with|.tup []=>true|_=>false)|none=>false
def xT(P:Program)(d:Option Tmp)(e:Env)(σ:St)(op:Op):R:=if ze4 e d=true then za5 P e σ op else evOp P e σ op
section
variable{P:Program}{c:Ctx}{nt:Nat}{e:Env}{σ:St}{a:Act}{w:World}{L:Nat->Nat}{β:List Value}
theorem xa1(o:Oper)(h:Sim c nt e σ a w L β):ROk (evOp P e σ o.op) σ (Yield P c o a w L σ β):=by
 obtain⟨dst,op,ty,pos,aft,g⟩:=o;show ROk (evOp P e σ op) σ _;unfold evOp;split;.exact xM4 _ h
 .exact xk8 _ h
 .exact xM5 _ _ _ h
 .exact xy1 _ h
 .exact xW7 _ _ h
 .exact xy2 _ _ h
 .exact yo2 _ _ _ h
 .exact xM2 _ _ h
 .exact xz2 _ _ _ h
 .exact yL3 _ h
 .split;.rename_i hn;exact xy9 _ _ _ _ _ hn h
  .split;.rename_i hn;exact xl3 _ _ _ _ _ hn h
   .exact xW6 _ _ _ _ _ h
 .exact wb6 _ _ _ h
 .exact xM0 _ _ _ h
 .exact xz1 _ _ _ _ h
 .exact xl4 _ _ _ _ _ h
 .exact yz8 _ _ _ h
 .exact xy6 _ _ _ h
 .exact yU0 _ _ _ h
 .exact xW8 _ _ _ h
 .exact yT9 _ _ h
 .exact xM1 _ _ _ h
 .exact xM3 _ _ _ h
 .exact xX0 _ _ h
 .exact xk7 _ _ _ _ h
 .exact xy3 _ _ h
 .exact xy8 _ _ false h
 .exact xy8 _ _ true h
 .exact xk9 _ _ _ _ h
 .exact yU1 _ _ h
 .exact xl2 _ _ _ _ h
 .exact yz9 _ _ _ _ h
 .exact xl0 _ _ _ _ h
 .exact yL2 _ _ _ h
 .exact yo3 _ _ _ _ h
 .exact xz0 _ _ h
 .exact xy5 _ h
 .exact xW9 _ _ h
 .exact xd2 _ _ h
 .trivial
theorem xt4(o:Oper)(h:Sim c nt e σ a w L β):ROk (xT P o.dst e σ o.op) σ (Yield P c o a w L σ β):=by
 unfold xT;split
 .obtain⟨dst,op,ty,pos,aft,g⟩:=o;show ROk (za5 P e σ op) σ _;unfold za5;split;.exact yh9 _ _ _ h
  .exact xy7 _ _ _ h
  .exact xy4 _ _ _ h
  .exact xl5 _ _ _ h
  .exact yT8 _ _ _ _ h
  .exact xd2 _ _ h
  .exact xa1 ⟨dst,op,ty,pos,aft,g⟩ h
 .exact xa1 o h
def vput(nt:Nat)(d:Option Tmp)(v:V)(K:Env->St->Prop)(e:Env)(σ:St):Prop:=match d with |some t=>t<nt/\K (upd e t v) σ|none=>K e σ
def xg0 (p q:Prop):Prop:=p/\q
def vfin(nt:Nat)(d:Option Tmp)(r:R)(K:Env->St->Prop)(e:Env)(σ:St):Prop:=match r with |.fail=>False|.ok v=>vput nt d v K e σ|.need p v=>xg0 p (vput nt d v K e σ)|.st v σ'=>vput nt d v K e σ'|.needst p v σ'=>xg0 p (vput nt d v K e σ')|.all f=>∀b,vput nt d (f b) K e σ|.any l=>∀p∈l,vput nt d p.1 K e p.2
def vop(P:Program)(c:Ctx)(nt:Nat)(d:Option Tmp)(op:Op)(K:Env->St->Prop)(e:Env)(σ:St):Prop:=match op with |.call ⟨.value f,args,_⟩=>VC P c (zF e f) (args.toList.map (zF e)) σ (λv σ'=>vput nt d v K e σ')|op=>vfin nt d (xT P d e σ op) K e σ
def vgrd(x:V)(want:Bool)(A B:Prop):Prop:=match x with |.bool b=>(b=want->A)/\(b≠want->B)|.tup []=>B|_=>False
def gdst(ops:List Oper)(j:Nat):Option Tmp:=(ops[j]?).bind (·.dst)
def vgd(g:Option (Nat×Bool))(ops:List Oper)(e:Env)(A B:Prop):Prop:=match g with |none=>A|some (j,want)=>(match gdst ops j with|some t=>vgrd (e t) want A B|none=>False)
def vrun(P:Program)(c:Ctx)(nt:Nat)(ops:List Oper):List Oper->(Env->St->Prop)->Env->St->Prop |[],K,e,σ=>K e σ|o::rest,K,e,σ=>vgd o.guard ops e (vop P c nt o.dst o.op (vrun P c nt ops rest K) e σ) (vput nt o.dst (.tup []) (vrun P c nt ops rest K) e σ)
theorem Sim.put(h:Sim c nt e σ a w L β){w':World}{L':Nat->Nat}{σ':St}{β':List Value}{v:V}{x:Value}(hm:Mem c w' L' σ' β')(hle:Le w L w' L')(aa:Ext σ β σ' β')(r:RdS w' L' σ' β' v x)(d:Option Tmp)(hd:∀t,d=some t->t<nt):Sim c nt (match d with|some t=>upd e t v|none=>e) σ' (a.put d x) w' L' β':=by cases d with |none=>exact⟨hm,h.size,h.defs,λt=>(h.env t).mono hle aa⟩|some d=>
  refine⟨hm,by simp[Act.put,h.size],by simp[Act.put,h.defs],λt=>?_⟩;have ab:=hd d rfl;simp only[upd,Act.put];by_cases ht:t=d
  .subst ht;rw[if_pos rfl];have:(a.tmps.setIfInBounds t x).getD t undef=x:=by simp[Array.getD,h.size,ab]
   rw[this];exact r
  .rw[if_neg ht];have:(a.tmps.setIfInBounds d x).getD t undef=a.tmps.getD t undef:=by have ad:¬d=t:=λq=>ht q.symm;rw[Array.getD_eq_getD_getElem?,Array.getD_eq_getD_getElem?,Array.getElem?_setIfInBounds_ne ad]
   rw[this];exact(h.env t).mono hle aa
def Lift(c:Ctx)(nt:Nat)(Q:Exit->Env->St->Prop):Exit->Act->World->Prop|.panic _,_,_|.outgrown,_,_|.goto _,_,_=>False|x,a,w=>∃e σ L β,Sim c nt e σ a w L β/\Q x e σ
def VW(P:Program)(c:Ctx)(nt:Nat)(code:Code)(Q:Exit->Env->St->Prop)(e:Env)(σ:St):Prop:=∀a w L β,Sim c nt e σ a w L β->code.wp P (Lift c nt Q) a w
theorem zC5(h:Sim c nt e σ a w L β){w':World}{L':Nat->Nat}{σ':St}{β':List Value}{v:V}{x:Value}(hm:Mem c w' L' σ' β')(hle:Le w L w' L')(aa:Ext σ β σ' β')(r:RdS w' L' σ' β' v x){d:Option Tmp}{K:Env->St->Prop}(hK:vput nt d v K e σ'):∃e',Sim c nt e' σ' (a.put d x) w' L' β'/\K e' σ':=by cases d with |none=>exact⟨e,h.put hm hle aa r none (λt q=>by cases q),hK⟩|some t=>exact⟨upd e t v,h.put hm hle aa r (some t) (λt' q=>by cases q;exact hK.1),hK.2⟩
theorem yC6(o:Oper){K:Env->St->Prop}{next:Act->World->Prop}{Q:Exit->Act->World->Prop}(h:Sim c nt e σ a w L β)(hK:vop P c nt o.dst o.op K e σ)(hn:∀e' σ' a' w' L' β',Sim c nt e' σ' a' w' L' β'->K e' σ'->next a' w'):o.wp P a w next Q:=by
 have fin:∀{r:R},ROk r σ (Yield P c o a w L σ β)->vfin nt o.dst r K e σ->o.wp P a w next Q:=by
  intro r hr hv;have done:∀{v σ'},Yield P c o a w L σ β v σ'->vput nt o.dst v K e σ'->o.wp P a w next Q:=by
   rintro v σ'⟨x,w',L',β',hrun,hm,hle,hext,hrd⟩hp;obtain⟨e',hs,hk⟩:=zC5 h hm hle hext hrd hp;unfold Oper.wp;rcases hrun with hrun|⟨hrun,rfl⟩;.rw[hrun];exact hn _ _ _ _ _ _ hs hk
   .rw[hrun];exact hn _ _ _ _ _ _ hs hk
  cases r with |fail=>exact hv.elim|ok v=>exact done hr hv|need p v=>exact done (hr hv.1) hv.2|st v σ'=>exact done hr hv|needst p v σ'=>exact done (hr hv.1) hv.2|all f=>obtain⟨b,hr⟩:=hr;exact done hr (hv b)|any l=>obtain⟨p,hp,hr⟩:=hr;exact done hr (hv p hp)
 unfold vop at hK;split at hK
 .rename_i f args ts hop;obtain⟨fid,caps,hf,hK⟩:=hK;have hfv:=h.eval f;rw[hf]at hfv;obtain⟨xs,hx,hcaps⟩:=hfv;have hargs:All2 (RdS w L σ β) (args.toList.map (zF e)++caps) (args.toList.map a.eval++xs):=by
   refine All2.append ?_ (hcaps.imp λp q r=>?_);.generalize args.toList=l;induction l with |nil=>trivial|cons p l ih=>exact⟨h.eval p,ih⟩
   .exact RdS.of_cell (by cases p<;>first|exact r|exact r.elim)
  rcases hK with⟨⟨fn,hfn,hname,hbody⟩,hcall⟩|hcall
  .have hrun:(execOp a.eval o).run P w=.ok (.enter fid (args.toList.map a.eval++xs).toArray) w:=by
    obtain⟨dst,op,ty,pos,aft,g⟩:=o;simp only at hop;subst hop;have hbn:¬fn.body=none:=by intro q;simp[q]at hbody
    have hne:¬fn.name="runtime.NumGoroutine":=by simpa using hname
    have hsz:(Array.map a.eval args++xs.toArray)=(args.toList.map a.eval++xs).toArray:=by apply Array.ext';simp
    simp[execOp,resolve,hx,Deferred.ofValue,invoke,callFunc,hfn,hne,hbn,hsz]
   unfold Oper.wp;rw[hrun];show Calls P fid _ w _;refine(hcall w L β _ h.mem hargs).mono ?_;rintro en w'⟨v,r,L',σ',β',rfl,hp,hm,hle,hext,hrd⟩;obtain⟨e',hs,hk⟩:=zC5 h hm hle hext hrd hp;exact hn _ _ _ _ _ _ hs hk
  .obtain⟨v,r,w',L',σ',β',hrv,hp,hm,hle,hext,hrd⟩:=hcall w L β _ h.mem hargs;have hrun:(execOp a.eval o).run P w=.ok (.value v) w':=by
    obtain⟨dst,op,ty,pos,aft,g⟩:=o;simp only at hop;subst hop;have hsz:(Array.map a.eval args++xs.toArray)=(args.toList.map a.eval++xs).toArray:=by apply Array.ext';simp
    simp[execOp,resolve,hx,Deferred.ofValue,invoke,hsz,hrv]
   obtain⟨e',hs,hk⟩:=zC5 h hm hle hext hrd hp;unfold Oper.wp;rw[hrun];exact hn _ _ _ _ _ _ hs hk
 .exact fin (xt4 o h) hK
theorem ya4{ops:List Oper}{j:Nat}{t:Tmp}(ht:gdst ops j=some t)(hv:RdS w L σ β (.tup []) (a.tmps.getD t undef)):yielded ops.toArray a.tmps j=none:=by
 obtain⟨xs,hx,ab⟩:=hv;have ad:xs=[]:=by cases xs with |nil=>rfl|cons x xs=>exact ab.elim
 subst ad;unfold yielded;unfold gdst at ht;have ae:(ops.toArray[j]?).bind (·.dst)=some t:=by simpa using ht
 rw[ae];simp only[Aw];by_cases aa:t<a.tmps.size;.rw[Au aa];simp[Array.getD,aa]at hx;rw[hx]
 .rw[Array.getElem?_eq_none (Nat.le_of_not_lt aa)]
theorem yC7{ops:List Oper}{Q:Exit->Act->World->Prop}:∀(l:List Oper)(K:Env->St->Prop)(e:Env)(σ:St)(a:Act)(w:World)(L:Nat->Nat)(β:List Value),Sim c nt e σ a w L β->vrun P c nt ops l K e σ->(∀e' σ' a' w' L' β',Sim c nt e' σ' a' w' L' β'->K e' σ'->Q .normal a' w')->wpList P ops.toArray Q l a w
 |[],K,e,σ,a,w,L,β,h,hK,hn=>hn _ _ _ _ _ _ h hK|o::rest,K,e,σ,a,w,L,β,h,hK,hn=>by
  have ih:=yC7 (ops:=ops) (Q:=Q) rest K;have yes:vop P c nt o.dst o.op (vrun P c nt ops rest K) e σ->o.wp P a w (wpList P ops.toArray Q rest) Q∨(o.asks P a w/\LetsOut Q):=λhv=>.inl (yC6 o h hv λe' σ' a' w' L' β' hs hk=>ih e' σ' a' w' L' β' hs hk hn);have no:vput nt o.dst (.tup []) (vrun P c nt ops rest K) e σ->wpList P ops.toArray Q rest (a.put o.dst undef) w:=λhv=>by obtain⟨e',hs,hk⟩:=zC5 h h.mem (Le.refl _ _) (Ext.refl _ _) (show RdS w L σ β (.tup []) undef from⟨[],rfl,tV⟩) hv;exact ih e' σ _ _ _ _ hs hk hn
  unfold vrun at hK;unfold wpList;unfold vgd at hK;split at hK;.rename_i hg;rw[if_pos (by simp[Region.wanted,hg])];exact yes hK
  .rename_i j want hg;split at hK
   .rename_i t ht;have hv:=h.env t;unfold vgrd at hK;split at hK
    .rename_i b hb;rw[hb]at hv;have hv:=zd8 hv;have hy:yielded ops.toArray a.tmps j=some b:=by
      unfold yielded;unfold gdst at ht;have ad:(ops.toArray[j]?).bind (·.dst)=some t:=by simpa using ht
      rw[ad];simp only[Aw];have ab:t<a.tmps.size:=by
       rcases Cl t a.tmps.size with q|q;.exact q
       .simp[Array.getD,Nat.not_lt.2 q,undef]at hv
      rw[Au ab];simp[Array.getD,ab]at hv;rw[hv]
     by_cases aa:b=want;.rw[if_pos (by simp[Region.wanted,hg,hy,aa])];exact yes (hK.1 aa)
     .rw[if_neg (by simp[Region.wanted,hg,hy,aa])];exact no (hK.2 aa)
    .rename_i hb;rw[hb]at hv;rw[if_neg (by simp[Region.wanted,hg,ya4 ht hv])];exact no hK
    .exact hK.elim
   .exact hK.elim
def yP1(x:V)(A B:Prop):Prop:=match x with |.bool b=>(b=true->A)/\(b=false->B)|_=>False
def xD5(K:Env->St->Prop)(Q:Exit->Env->St->Prop):Exit->Env->St->Prop|.normal,e,σ=>K e σ|x,e,σ=>Q x e σ
def blkV(id:Nat)(Q:Exit->Env->St->Prop):Exit->Env->St->Prop |.exit id',e,σ=>if id'=id then Q .normal e σ else Q (.exit id') e σ|x,e,σ=>Q x e σ
def zz4(P:Program)(c:Ctx)(nt:Nat):Code->(Exit->Env->St->Prop)->Env->St->Prop |.skip,Q,e,σ=>Q .normal e σ|.seq x y,Q,e,σ=>zz4 P c nt x (xD5 (zz4 P c nt y Q) Q) e σ|.cond x t f,Q,e,σ=>yP1 (zF e x) (zz4 P c nt t Q e σ) (zz4 P c nt f Q e σ)|.block id b,Q,e,σ=>zz4 P c nt b (blkV id Q) e σ|.exit id,Q,e,σ=>Q (.exit id) e σ|.ret,Q,e,σ=>Q .ret e σ|.label _,Q,e,σ=>Q .normal e σ|.region id ops draw,Q,e,σ=>if draw then VW P c nt (.region id ops true) Q e σ else vrun P c nt ops.toList ops.toList (Q .normal) e σ|.loop b,Q,e,σ=>VW P c nt (.loop b) Q e σ|_,_,_,_=>False
theorem zh1:∀(code:Code)(Q:Exit->Env->St->Prop)(e:Env)(σ:St),zz4 P c nt code Q e σ->VW P c nt code Q e σ
 |.skip,Q,e,σ,h=>λa w L β hs=>wp_skip ⟨e,σ,L,β,hs,h⟩|.seq x y,Q,e,σ,h=>λa w L β hs=>by refine wp_seq (wp_mono (zh1 x _ e σ h a w L β hs) λex a' w' q=>?_);cases ex with |normal=>obtain⟨e',σ',L',β',aa,hq⟩:=q;exact zh1 y Q e' σ' hq a' w' L' β' aa|exit id=>exact q|goto l=>exact q|ret=>exact q|panic ch=>exact q|outgrown=>exact q
 |.cond x t f,Q,e,σ,h=>λa w L β hs=>by
  unfold zz4 yP1 at h;split at h;.rename_i b hb;have hv:=hs.eval x;rw[hb]at hv;exact wp_cond_split (zd8 hv) (λad=>zh1 t Q e σ (h.1 ad) a w L β hs) (λae=>zh1 f Q e σ (h.2 ae) a w L β hs)
  .exact h.elim|.block id b,Q,e,σ,h=>λa w L β hs=>by refine wp_block (wp_mono (zh1 b _ e σ h a w L β hs) λex a' w' q=>?_);cases ex with
  |exit ab=>
   obtain⟨e',σ',L',β',aa,hq⟩:=q;change(if ab=id then Q .normal e' σ' else Q (.exit ab) e' σ')at hq;change(if ab=id then Lift c nt Q .normal a' w' else Lift c nt Q (.exit ab) a' w');split;.rename_i hid;rw[if_pos hid]at hq;exact⟨e',σ',L',β',aa,hq⟩
   .rename_i hid;rw[if_neg hid]at hq;exact⟨e',σ',L',β',aa,hq⟩|normal=>exact q|goto l=>exact q|ret=>exact q|panic ch=>exact q|outgrown=>exact q
 |.exit id,Q,e,σ,h=>λa w L β hs=>wp_exit ⟨e,σ,L,β,hs,h⟩|.ret,Q,e,σ,h=>λa w L β hs=>wp_ret ⟨e,σ,L,β,hs,h⟩|.label _,Q,e,σ,h=>λa w L β hs=>wp_label ⟨e,σ,L,β,hs,h⟩|.region id ops draw,Q,e,σ,h=>λa w L β hs=>by unfold zz4 at h;cases draw with |true=>exact h a w L β hs|false=>refine wp_region_list (ops:=ops) ?_;have:=yC7 (P:=P) (ops:=ops.toList) (Q:=Lift c nt Q) ops.toList (Q .normal) e σ a w L β hs (by simpa using h) λe' σ' a' w' L' β' aa hk=>⟨e',σ',L',β',aa,hk⟩;simpa using this
 |.loop b,Q,e,σ,h=>h|.rangeFunc _ _ _ _,_,_,_,h=>h.elim|.scope _,_,_,_,h=>h.elim|.goto _,_,_,_,h=>h.elim|.refuse _,_,_,_,h=>h.elim
end
end Go.Vx
