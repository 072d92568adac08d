/-
  A literal list whose rows hold lists without room: told as such, so that one may append to them once they stand in a list of one's own.
  No condition: a library text; nothing of the program is named.
-/
import Derived.Test.YtefbicjgbaaieaaGreatJAF
set_option maxHeartbeats 8000000
namespace Go.Vx
open Go
section
variable {P:Program} {c:Ctx} {nt:Nat} {e:Env} {σ:St} {a:Act} {w:World} {L:Nat->Nat} {β:List Value} {o:Oper}
def demFl:V->V
 | .sl .full rows=> .sl .full rows
 |v=>dem v
theorem RdC.demFl {v:V} {x:Value} (r:RdC w L σ β v x) (h:zC2 v=true):RdP w L (demFl v) x:=by
 cases v with
 |sl g rows=>cases g with
  |full=>exact r
  |ro=>simpa
  |app id=>exact RdC.dem r h
 |_=>exact RdC.dem r h
def zG9 (v:V):List V:=(xE v).map demFl
def zq1 (es:Option Nat) (len:Nat) (parts:List (Nat×V)):R:=
 match es with
 |some s=>if zn4 0 parts=true/\parts.length=len then .need ((∀p∈parts,zN8 p.2=true/\(xE p.2).length=s)/\len*s<=16777216/\0<s) (.sl .full (parts.map fun p=>zG9 p.2))else .fail
 |none=> .fail
theorem xv0 {v:V} {x:Value} (r:All2 (RdC w L σ β) (xE v) x.cells.toList) (hp:zN8 v=true):All2 (RdP w L) (zG9 v) x.cells.toList:=by
 unfold zN8 at hp
 unfold zG9
 refine All2.map_left ?_
 revert r hp
 generalize xE v=cs
 generalize x.cells.toList=xs
 intro r hp
 induction cs generalizing xs with
 |nil=>cases xs<;>simpa
 |cons p cs ih=>cases xs with
  |nil=>simpa
  |cons y ys=>
   simp at hp
   exact⟨RdC.demFl r.1 hp.1,ih _ r.2 (by grind)⟩
theorem yi3 {s:Nat}: ∀(parts:List (Nat×V)) (aa:List (Nat×Value)) (k:Nat) (arr:Array Value) (done:List V),zn4 k parts=true->(∀p∈parts,zN8 p.2=true/\(xE p.2).length=s)->
  All2 (fun p q=>p.1=q.1/\RdS w L σ β p.2 q.2) parts aa->arr.size=(k+parts.length)*s->done.length=k*s->All2 (RdP w L) done (arr.toList.take (k*s))->
  ∃ab,Instr.fill (fun i=>some (i*s,s)) arr aa=some ab/\ab.size=arr.size/\All2 (RdP w L) (done++(parts.map fun p=>zG9 p.2).flatten) ab.toList
 | [],[],k,arr,done,_,_,_,af,hd,ae=>by
  refine⟨arr,rfl,rfl, ?_⟩
  grind[Ap]
 |(i,v)::parts,(i',x)::aa,k,arr,done,ho,hp,⟨⟨hi,hr⟩,ag⟩,af,hd,ae=>by
  simp only[zn4,A1,beq_iff_eq]at ho
  obtain⟨⟨rfl,ah⟩,ho⟩:=ho
  have ai:=hp (i,v) sM
  simp only at hi ai
  subst hi
  have ad:=zp5 hr ah
  have hlen:=ad.length
  simp only[Cl]at hlen
  have al:x.cells.size=s:=om
  simp only[Aa]at af
  have hm:(i+(parts.length+1))*s=i*s+s+parts.length*s:=by grind
  have ao:(i+1)*s=i*s+s:=by grind
  rw[zL1 (s:=s) rfl al om]
  have aj:=xv0 ad ai.1
  have aq:(zG9 v).length=s:=by grind[zG9]
  obtain⟨ab,h1,h2,h3⟩:=yi3 parts aa (i+1) (xF arr (i*s) x.cells.toList) (done++zG9 v) ho (fun p an=>hp p (by simp[an])) ag (by rw[xG,af];grind) (by grind) (by
   have ak:i*s+x.cells.toList.length<=arr.size:=by grind
   have e1:(xF arr (i*s) x.cells.toList).toList.take ((i+1)*s)=arr.toList.take (i*s)++x.cells.toList:=by
    apply Bn
    intro j
    rw[Aw]
    have ar:(List.take (i*s) arr.toList).length=i*s:=by grind
    by_cases hj:j<(i+1)*s
    .rw[if_pos hj,Aq,zg1 _ _ _ _ ak]
     grind
    grind
   rw[e1]
   exact ae.append aj)
  grind[xG]
 | [],_::_,_,_,_,_,_,h,_,_,_=>h.elim
 |_::_,[],_,_,_,_,_,h,_,_,_=>h.elim
theorem yk8 {dst:Option Tmp} {ty:TypeId} {pos:String} {aft:Array Edge} {g:Option (Nat×Bool)} (t:TypeId) (len:Nat) (ps:Array (Nat×Operand)) (h:Sim c nt e σ a w L β):
  ROk (zq1 ((elT P t).map (·.1)) len (ps.toList.map fun p=>(p.1,zD e p.2))) σ (Yield P c ⟨dst,.buildSlice t len ps,ty,pos,aft,g⟩ a w L σ β):=by
 unfold zq1
 split
 .rename_i s ak
  split
  .rename_i ae
   obtain⟨ho,hlen⟩:=ae
   rintro⟨hp,al,hs⟩
   obtain⟨el,ai⟩: ∃b,elT P t=some (s,b):=by
    simp_all
   obtain⟨el,i,z,hu,hi,hz,rfl,_,an,_,_⟩:=ze0 ai
   have ab:=All2.of_parts h ps.toList
   have af: ∀aa,Instr.fill (fun k=>some (k*i.size,i.size)) ((Array.range (len*i.size)).map (z.cells[· %z.cells.size]!)) (ps.map fun(k,x)=>(k,a.eval x)).toList=some aa->
     (Instr.buildSlice t len (ps.map fun(k,x)=>(k,a.eval x))).run P w= .ok (.slice (some ⟨w.heap.size,0,none⟩) len len) (w.alloc (.cells aa el)):=by
    intro aa hf
    by_cases h0:len*i.size=0
    .have ao:len=0:=by
      rcases Nat.mul_eq_zero.1 h0 with h|h
      all_goals omega
     simp_all[Array.eq_empty_of_size_eq_zero,Instr.buildSlice,run_underlying,sizeOf,typeInfo,newRow]
    grind[run_buildSlice]
   have ag:(ps.map fun(k,x)=>(k,a.eval x)).toList=ps.toList.map fun p=>(p.1,a.eval p.2):=sM
   obtain⟨aa,hf,aq,ad⟩:=yi3 (s:=i.size) _ _ 0 ((Array.range (len*i.size)).map (z.cells[· %z.cells.size]!)) [] ho hp ab (by grind) sM (by simp[All2])
   rw[<-ag]at hf
   have hr:=af aa hf
   have aj:((ps.toList.map fun p=>(p.1,zD e p.2)).map fun p=>zG9 p.2).length=len:=by grind
   obtain⟨h1,h2⟩:=h.mem.alloc (.cells aa el) (len*i.size)
   refine⟨.slice (some ⟨w.heap.size,0,none⟩) len len,_,_,β,(by simp_all[execOp]),h1,h2,Ext.refl _ _, ?_⟩
   have ah:RdP (w.alloc (.cells aa el)) (xC L w.heap.size (len*i.size)) (.sl .full ((ps.toList.map fun p=>(p.1,zD e p.2)).map fun p=>zG9 p.2)) (.slice (some ⟨w.heap.size,0,none⟩) ((ps.toList.map fun p=>(p.1,zD e p.2)).map fun p=>zG9 p.2).length len):=by
    refine .of_row (xs:=aa.toList) hs (fun r hr=> ?_) (by grind[xC]) om sM om (yJ _ _) sM ?_
    .obtain⟨p,ar,rfl⟩:=Ad.1 hr
     grind[zG9]
    .simp only[Bi]at ad
     exact ad.imp (by grind[RdP.mono])
   rw[aj]at ah
   trivial
  trivial
 trivial
theorem yQ2 {ops rest:List Oper} {Q:Exit->Act->World->Prop}: ∀(l:List Oper) (K:Env->St->Prop) (e:Env) (σ:St) (a:Act) (w:World) (L:Nat->Nat) (β:List Value),(∀o∈l,o.guard=none)->Sim c nt e σ a w L β->vrun P c nt ops l K e σ->
  (∀e' σ' a' w' L' β',Sim c nt e' σ' a' w' L' β'->K e' σ'->wpList P ops.toArray Q rest a' w')->wpList P ops.toArray Q (l++rest) a w
 | [],K,e,σ,a,w,L,β,_,h,hK,hn=>hn _ _ _ _ _ _ h hK
 |o::l,K,e,σ,a,w,L,β,hg,h,hK,hn=>by
  have ih:=yQ2 (ops:=ops) (rest:=rest) (Q:=Q) l K
  have aa:=hg o (Al ..)
  unfold vrun at hK
  rw[Ax]
  unfold wpList
  rw[aa]at hK
  rw[if_pos (by grind[Region.wanted])]
  exact .inl (yD6 o h hK (by grind))
theorem xR6 (o:Oper) {r:R} {K:Env->St->Prop} {next:Act->World->Prop} {Q:Exit->Act->World->Prop} (h:Sim c nt e σ a w L β) (hr:ROk r σ (Yield P c o a w L σ β)) (hv:vfin nt o.dst r K e σ)
  (hn: ∀e' σ' a' w' L' β',Sim c nt e' σ' a' w' L' β'->K e' σ'->next a' w'):o.wp P a w next Q:=by
 have done: ∀{v σ'},Yield P c o a w L σ β v σ'->vput nt o.dst v K e σ'->o.wp P a w next Q:=by
  rintro v σ' ⟨x,w',L',β',aa,hm,hle,ab,ad⟩ hp
  obtain⟨e',hs,hk⟩:=zD1 h hm hle ab ad hp
  unfold Oper.wp
  rcases aa with aa|⟨aa,rfl⟩
  .rw[aa];exact hn _ _ _ _ _ _ hs hk
  .rw[aa];exact hn _ _ _ _ _ _ hs hk
 cases r with
 |fail=>trivial
 |ok v=>exact done hr hv
 |need p v=>exact done (hr hv.1) hv.2
 |st v σ'=>exact done hr hv
 |needst p v σ'=>exact done (hr hv.1) hv.2
 |all f=>obtain⟨b,hr⟩:=hr;exact done hr (hv b)
 |any l=>obtain⟨p,hp,hr⟩:=hr;exact done hr (hv p hp)
theorem yb0 {Q:QT} {id:Nat} {ops pre rest:List Oper} {d:Option Tmp} {t:TypeId} {n:Nat} {ps:List (Nat×Operand)} {ty:TypeId} {pos:String} {aft:Array Edge} (k:Nat) (h0:ops.take k=pre) (h1:ops.drop k=⟨d,.buildSlice t n ps.toArray,ty,pos,aft,none⟩::rest) (hg:(ops.all fun o=>o.guard.isNone)=true)
  (h:wrun P c nt ops pre (fun e' σ'=>wfin nt d (zq1 ((elT P t).map (·.1)) n (ps.map fun p=>(p.1,zD e' p.2))) (wrun P c nt ops rest (Q .normal) fx fx fx) fx e' σ') fx fx fx e σ):wVW P c nt (.region id ops.toArray false) Q fx fx e σ:=by
 intro a w L β hs
 have ab:ops=pre++⟨d,.buildSlice t n ps.toArray,ty,pos,aft,none⟩::rest:=by grind[Bo]
 have ad: ∀o∈ops,o.guard=none:=fun o ho=>by
  have:=Aj.1 hg o ho
  simp_all
 refine wp_region_list (ops:=ops.toArray) ?_
 show wpList P ops.toArray (Lift c nt Q) ops a w
 have key:=yQ2 (P:=P) (ops:=ops) (rest:=⟨d,.buildSlice t n ps.toArray,ty,pos,aft,none⟩::rest) (Q:=Lift c nt Q) pre _ e σ a w L β (by grind) hs h (fun e' σ' a' w' L' β' aa hk=>by
  unfold wpList
  rw[if_pos (by rfl)]
  refine .inl (xR6 (K:=vrun P c nt ops rest (Q .normal)) ⟨d,.buildSlice t n ps.toArray,ty,pos,aft,none⟩ aa (yk8 t n ps.toArray aa) (by
   simpa) fun e2 σ2 a2 w2 L2 β2 ae af=> ?_)
  grind[yD7,Lift])
 grind
attribute [go_sem] zq1 zG9 demFl
end
end Go.Vx
