/-
  A literal list whose rows hold lists without room: told as such, so that one may append to them once they stand in a list of one's own.
  No condition: a library text; nothing of the program is named.
-/
import Derived.Test.YtkigddpaonhmlaaGreatXAP
set_option maxHeartbeats 8000000
namespace Go.Vx
open Go
section
variable {P:Program} {c:Ctx} {nt:Nat} {e:Env} {σ:St} {a:Act} {w:World} {L:Nat->Nat} {β:List Value} {o:Oper}
def demFl:V->V
 | .sl .full rows=> .sl .full rows
 |v=>dem v
theorem RdC.demFl {v:V} {x:Value} (r:RdC w L σ β v x) (h:zg3 v=true):RdP w L (demFl v) x:=by
 cases v with
 |sl g rows=>cases g with
  |full=>exact r
  |ro=>exact RdC.dem r h
  |app id=>exact RdC.dem r h
 |_=>exact RdC.dem r h
def zE6 (v:V):List V:=(xD v).map demFl
def zj1 (es:Option Nat) (len:Nat) (parts:List (Nat×V)):R:=
 match es with
 |some s=>if zm3 0 parts=true/\parts.length=len then .need ((∀p∈parts,zL0 p.2=true/\(xD p.2).length=s)/\len*s<=16777216/\0<s) (.sl .full (parts.map fun p=>zE6 p.2))else .fail
 |none=> .fail
theorem xn8 {v:V} {x:Value} (r:All2 (RdC w L σ β) (xD v) x.cells.toList) (hp:zL0 v=true):All2 (RdP w L) (zE6 v) x.cells.toList:=by
 unfold zL0 at hp
 unfold zE6
 refine All2.map_left ?_
 revert r hp
 generalize xD v=cs
 generalize x.cells.toList=xs
 intro r hp
 induction cs generalizing xs with
 |nil=>cases xs with
  |nil=>trivial
  |cons y ys=>exact r.elim
 |cons p cs ih=>cases xs with
  |nil=>exact r.elim
  |cons y ys=>
   simp at hp
   exact⟨RdC.demFl r.1 hp.1,ih _ r.2 (by simpa using hp.2)⟩
theorem ye2 {s:Nat}: ∀(parts:List (Nat×V)) (vals:List (Nat×Value)) (k:Nat) (arr:Array Value) (done:List V),zm3 k parts=true->(∀p∈parts,zL0 p.2=true/\(xD p.2).length=s)->
  All2 (fun p q=>p.1=q.1/\RdS w L σ β p.2 q.2) parts vals->arr.size=(k+parts.length)*s->done.length=k*s->All2 (RdP w L) done (arr.toList.take (k*s))->
  ∃arr',Instr.fill (fun i=>some (i*s,s)) arr vals=some arr'/\arr'.size=arr.size/\All2 (RdP w L) (done++(parts.map fun p=>zE6 p.2).flatten) arr'.toList
 | [],[],k,arr,done,_,_,_,hsz,hd,hall=>by
  refine⟨arr,rfl,rfl, ?_⟩
  simp at hsz
  rw[Au (by simp;omega)]at hall
  simpa using hall
 |(i,v)::parts,(i',x)::vals,k,arr,done,ho,hp,⟨⟨hi,hr⟩,hrest⟩,hsz,hd,hall=>by
  simp only[zm3,A4,beq_iff_eq]at ho
  obtain⟨⟨rfl,hhas⟩,ho⟩:=ho
  have hpi:=hp (i,v) (by simp)
  simp only at hi hpi
  subst hi
  have hcells:=zo2 hr hhas
  have hlen:=hcells.length
  simp only[Bz]at hlen
  have hxs:x.cells.size=s:=by rw[<-hlen];exact hpi.2
  simp only[Ah]at hsz
  have hm:(i+(parts.length+1))*s=i*s+s+parts.length*s:=by rw[An,An,Bj];omega
  have hm2:(i+1)*s=i*s+s:=by rw[An,Bj]
  rw[zI9 (s:=s) rfl hxs (by omega)]
  have hrow:=xn8 hcells hpi.1
  have hrl:(zE6 v).length=s:=by simp[zE6,hpi.2]
  obtain⟨arr',h1,h2,h3⟩:=ye2 parts vals (i+1) (xF arr (i*s) x.cells.toList) (done++zE6 v) ho (fun p hp'=>hp p (by simp[hp'])) hrest (by rw[xG,hsz];congr 1;omega) (by simp[hd,hrl,hm2]) (by
   have hfit:i*s+x.cells.toList.length<=arr.size:=by simp;omega
   have e1:(xF arr (i*s) x.cells.toList).toList.take ((i+1)*s)=arr.toList.take (i*s)++x.cells.toList:=by
    apply C4
    intro j
    rw[Ae]
    have hfl:(List.take (i*s) arr.toList).length=i*s:=by simp;omega
    by_cases hj:j<(i+1)*s
    .rw[if_pos hj,Aj,ze7 _ _ _ _ hfit]
     simp only[Bz]
     by_cases hj2:j<i*s
     .rw[if_neg (by omega),Ab (by omega),Ae,if_pos hj2,Aj]
     .rw[if_pos (by omega),Ai (by omega),hfl]
    .rw[if_neg hj,Bc (by simp[hxs];omega)]
   rw[e1]
   exact hall.append hrow)
  refine⟨arr',h1,by rw[h2,xG], ?_⟩
  rw[Al,C9,<-C5]
  exact h3
 | [],_::_,_,_,_,_,_,h,_,_,_=>h.elim
 |_::_,[],_,_,_,_,_,h,_,_,_=>h.elim
theorem yh0 {dst:Option Tmp} {ty:TypeId} {pos:String} {aft:Array Edge} {g:Option (Nat×Bool)} (t:TypeId) (len:Nat) (ps:Array (Nat×Operand)) (h:Sim c nt e σ a w L β):
  ROk (zj1 ((elT P t).map (·.1)) len (ps.toList.map fun p=>(p.1,zF e p.2))) σ (Yield P c ⟨dst,.buildSlice t len ps,ty,pos,aft,g⟩ a w L σ β):=by
 unfold zj1
 split
 .rename_i s hes
  split
  .rename_i hord
   obtain⟨ho,hlen⟩:=hord
   rintro⟨hp,hsm,hs⟩
   obtain⟨el,hel⟩: ∃b,elT P t=some (s,b):=by
    cases hq:elT P t with
    |none=>simp[hq]at hes
    |some q=>obtain⟨q1,q2⟩:=q;simp[hq]at hes;subst hes;exact⟨q2,rfl⟩
   obtain⟨el,i,z,hu,hi,hz,rfl,_,hzs,_,_⟩:=zd8 hel
   have hparts:=All2.of_parts h ps.toList
   have hrun: ∀arr',Instr.fill (fun k=>some (k*i.size,i.size)) ((Array.range (len*i.size)).map (z.cells[· %z.cells.size]!)) (ps.map fun(k,x)=>(k,a.eval x)).toList=some arr'->
     (Instr.buildSlice t len (ps.map fun(k,x)=>(k,a.eval x))).run P w= .ok (.slice (some ⟨w.heap.size,0,none⟩) len len) (w.alloc (.cells arr' el)):=by
    intro arr' hf
    by_cases h0:len*i.size=0
    .have hzl:len=0:=by
      rcases Nat.mul_eq_zero.1 h0 with h|h
      .exact h
      .omega
     subst hzl
     simp at hlen
     subst hlen
     simp[Instr.fill]at hf
     subst hf
     have hr0: ∀f:Nat->Value,(Array.range 0).map f= #[]:=fun f=>by apply D6;simp
     simp[Instr.buildSlice,run_underlying hu,sizeOf,typeInfo,hi,Instr.fill,newRow,hr0]
    .exact run_buildSlice w t el len _ arr' i z hu hi hz (by omega) h0 hf
   have hmap:(ps.map fun(k,x)=>(k,a.eval x)).toList=ps.toList.map fun p=>(p.1,a.eval p.2):=by simp
   obtain⟨arr',hf,hsz,hall⟩:=ye2 (s:=i.size) _ _ 0 ((Array.range (len*i.size)).map (z.cells[· %z.cells.size]!)) [] ho hp hparts (by simp at hlen⊢;rw[hlen]) (by simp) (by simp[All2])
   rw[<-hmap]at hf
   have hr:=hrun arr' hf
   have hl2:((ps.toList.map fun p=>(p.1,zF e p.2)).map fun p=>zE6 p.2).length=len:=by rw[Aq,hlen]
   obtain⟨h1,h2⟩:=h.mem.alloc (.cells arr' el) (len*i.size)
   refine⟨.slice (some ⟨w.heap.size,0,none⟩) len len,_,_,β,.inl (by simp[execOp,hr]),h1,h2,Ext.refl _ _, ?_⟩
   have hres:RdP (w.alloc (.cells arr' el)) (yY L w.heap.size (len*i.size)) (.sl .full ((ps.toList.map fun p=>(p.1,zF e p.2)).map fun p=>zE6 p.2)) (.slice (some ⟨w.heap.size,0,none⟩) ((ps.toList.map fun p=>(p.1,zF e p.2)).map fun p=>zE6 p.2).length len):=by
    refine .of_row (xs:=arr'.toList) hs (fun r hr=> ?_) (by rw[hl2];simp[yY]) (by omega) (fun _=>by simp) (fun _=>hl2.symm) (yH _ _) (fun k x hk=>by rw[Aa];simpa using hk) ?_
    .obtain⟨p,hp',rfl⟩:=Ac.1 hr
     simp only[zE6,Aq]
     exact(hp p hp').2
    .simp only[Ce]at hall
     exact hall.imp fun _ _=>RdP.mono h2
   rw[hl2]at hres
   exact hres
  .trivial
 .trivial
theorem yK9 {ops rest:List Oper} {Q:Exit->Act->World->Prop}: ∀(l:List Oper) (K:Env->St->Prop) (e:Env) (σ:St) (a:Act) (w:World) (L:Nat->Nat) (β:List Value),(∀o∈l,o.guard=none)->Sim c nt e σ a w L β->vrun P c nt ops l K e σ->
  (∀e' σ' a' w' L' β',Sim c nt e' σ' a' w' L' β'->K e' σ'->wpList P ops.toArray Q rest a' w')->wpList P ops.toArray Q (l++rest) a w
 | [],K,e,σ,a,w,L,β,_,h,hK,hn=>hn _ _ _ _ _ _ h hK
 |o::l,K,e,σ,a,w,L,β,hg,h,hK,hn=>by
  have ih:=yK9 (ops:=ops) (rest:=rest) (Q:=Q) l K
  have hgo:=hg o (Bb ..)
  unfold vrun at hK
  rw[Bo]
  unfold wpList
  rw[hgo]at hK
  rw[if_pos (by simp[Region.wanted,hgo])]
  exact .inl (yz1 o h hK fun e' σ' a' w' L' β' hs hk=>ih e' σ' a' w' L' β' (fun x hx=>hg x (B5 _ hx)) hs hk hn)
theorem xJ2 (o:Oper) {r:R} {K:Env->St->Prop} {next:Act->World->Prop} {Q:Exit->Act->World->Prop} (h:Sim c nt e σ a w L β) (hr:ROk r σ (Yield P c o a w L σ β)) (hv:vfin nt o.dst r K e σ)
  (hn: ∀e' σ' a' w' L' β',Sim c nt e' σ' a' w' L' β'->K e' σ'->next a' w'):o.wp P a w next Q:=by
 have done: ∀{v σ'},Yield P c o a w L σ β v σ'->vput nt o.dst v K e σ'->o.wp P a w next Q:=by
  rintro v σ' ⟨x,w',L',β',hrun,hm,hle,hext,hrd⟩ hp
  obtain⟨e',hs,hk⟩:=zA8 h hm hle hext hrd hp
  unfold Oper.wp
  rcases hrun with hrun|⟨hrun,rfl⟩
  .rw[hrun];exact hn _ _ _ _ _ _ hs hk
  .rw[hrun];exact hn _ _ _ _ _ _ hs hk
 cases r with
 |fail=>exact hv.elim
 |ok v=>exact done hr hv
 |need p v=>exact done (hr hv.1) hv.2
 |st v σ'=>exact done hr hv
 |needst p v σ'=>exact done (hr hv.1) hv.2
 |all f=>obtain⟨b,hr⟩:=hr;exact done hr (hv b)
 |any l=>obtain⟨p,hp,hr⟩:=hr;exact done hr (hv p hp)
theorem zX2 {Q:QT} {id:Nat} {ops pre rest:List Oper} {d:Option Tmp} {t:TypeId} {n:Nat} {ps:List (Nat×Operand)} {ty:TypeId} {pos:String} {aft:Array Edge} (k:Nat) (h0:ops.take k=pre) (h1:ops.drop k=⟨d,.buildSlice t n ps.toArray,ty,pos,aft,none⟩::rest) (hg:(ops.all fun o=>o.guard.isNone)=true)
  (h:wrun P c nt ops pre (fun e' σ'=>wfin nt d (zj1 ((elT P t).map (·.1)) n (ps.map fun p=>(p.1,zF e' p.2))) (wrun P c nt ops rest (Q .normal) fx fx fx) fx e' σ') fx fx fx e σ):wVW P c nt (.region id ops.toArray false) Q fx fx e σ:=by
 intro a w L β hs
 have hops:ops=pre++⟨d,.buildSlice t n ps.toArray,ty,pos,aft,none⟩::rest:=by rw[<-h0,<-h1,Bp]
 have hgn: ∀o∈ops,o.guard=none:=fun o ho=>by
  have:=Af.1 hg o ho
  simpa using this
 refine wp_region_list (ops:=ops.toArray) ?_
 show wpList P ops.toArray (Lift c nt Q) ops a w
 have key:=yK9 (P:=P) (ops:=ops) (rest:=⟨d,.buildSlice t n ps.toArray,ty,pos,aft,none⟩::rest) (Q:=Lift c nt Q) pre _ e σ a w L β (fun o ho=>hgn o (by rw[hops];exact Dd _ ho)) hs h (fun e' σ' a' w' L' β' hs' hk=>by
  unfold wpList
  rw[if_pos (by simp[Region.wanted])]
  refine .inl (xJ2 (K:=vrun P c nt ops rest (Q .normal)) ⟨d,.buildSlice t n ps.toArray,ty,pos,aft,none⟩ hs' (yh0 t n ps.toArray hs') (by
   have hk':vfin nt d (zj1 ((elT P t).map (·.1)) n (ps.map fun p=>(p.1,zF e' p.2))) (vrun P c nt ops rest (Q .normal)) e' σ':=hk
   simpa using hk') fun e2 σ2 a2 w2 L2 β2 hs2 hk2=> ?_)
  exact yz2 (P:=P) (ops:=ops) (Q:=Lift c nt Q) rest (Q .normal) e2 σ2 a2 w2 L2 β2 hs2 hk2 fun e3 σ3 a3 w3 L3 β3 hs3 hk3=>⟨e3,σ3,L3,β3,hs3,hk3⟩)
 rw[<-hops]at key
 exact key
attribute [go_sem] zj1 zE6 demFl
end
end Go.Vx
