/-
  A literal list whose rows hold lists without room: told as such, so that one may append to them once they stand in a list of one's own.
  No condition: a library text; nothing of the program is named.
-/
import Derived.Test.YtefbicjgbaaieaaGreatKAI
set_option maxHeartbeats 8000000
namespace Go.Vx
open Go
section
variable {P:Program} {c:Ctx} {nt:Nat} {e:Env} {σ:St} {a:Act} {w:World} {L:Nat->Nat} {β:List Value} {o:Oper}
def demFl:V->V
 | .sl .full rows=> .sl .full rows
 |v=>dem v
theorem RdC.demFl {v:V} {x:Value} (r:RdC w L σ β v x) (h:zy4 v=true):RdP w L (demFl v) x:=by
 cases v with
 |sl g rows=>cases g with
  |full=>exact r
  |ro=>exact RdC.dem r h
  |app id=>exact RdC.dem r h
 |_=>exact RdC.dem r h
def zG3 (v:V):List V:=(xI v).map demFl
def zj6 (es:Option Nat) (len:Nat) (parts:List (Nat×V)):R:=
 match es with
 |some s=>if zn0 0 parts=true/\parts.length=len then .need ((∀p∈parts,zN6 p.2=true/\(xI p.2).length=s)/\len*s<=16777216/\0<s) (.sl .full (parts.map fun p=>zG3 p.2))else .fail
 |none=> .fail
theorem xw2 {v:V} {x:Value} (r:All2 (RdC w L σ β) (xI v) x.cells.toList) (hp:zN6 v=true):All2 (RdP w L) (zG3 v) x.cells.toList:=by
 unfold zN6 at hp
 unfold zG3
 refine All2.map_left ?_
 revert r hp
 generalize xI v=cs
 generalize x.cells.toList=xs
 intro r hp
 induction cs generalizing xs with
 |nil=>cases xs with
  |nil=>trivial
  |cons y ys=>exact r.elim
 |cons p cs ih=>cases xs with
  |nil=>exact r.elim
  |cons y ys=>
   simp at hp
   exact⟨RdC.demFl r.1 hp.1,ih _ r.2 (by simpa using hp.2)⟩
theorem yf8 {s:Nat}: ∀(parts:List (Nat×V)) (ab:List (Nat×Value)) (k:Nat) (arr:Array Value) (done:List V),zn0 k parts=true->(∀p∈parts,zN6 p.2=true/\(xI p.2).length=s)->
  All2 (fun p q=>p.1=q.1/\RdS w L σ β p.2 q.2) parts ab->arr.size=(k+parts.length)*s->done.length=k*s->All2 (RdP w L) done (arr.toList.take (k*s))->
  ∃aa,Instr.fill (fun i=>some (i*s,s)) arr ab=some aa/\aa.size=arr.size/\All2 (RdP w L) (done++(parts.map fun p=>zG3 p.2).flatten) aa.toList
 | [],[],k,arr,done,_,_,_,af,hd,ad=>by
  refine⟨arr,rfl,rfl, ?_⟩
  simp at af
  rw[Al (by simp;omega)]at ad
  simpa using ad
 |(i,v)::parts,(i',x)::ab,k,arr,done,ho,hp,⟨⟨hi,hr⟩,ah⟩,af,hd,ad=>by
  simp only[zn0,A6,beq_iff_eq]at ho
  obtain⟨⟨rfl,ai⟩,ho⟩:=ho
  have ag:=hp (i,v) sm
  simp only at hi ag
  subst hi
  have ae:=zp2 hr ai
  have hlen:=ae.length
  simp only[Cu]at hlen
  have aj:x.cells.size=s:=by rw[<-hlen];exact ag.2
  simp only[Ag]at af
  have hm:(i+(parts.length+1))*s=i*s+s+parts.length*s:=by rw[B4,B4,Cx];omega
  have an:(i+1)*s=i*s+s:=by rw[B4,Cx]
  rw[zL3 (s:=s) rfl aj om]
  have ak:=xw2 ae ag.1
  have ao:(zG3 v).length=s:=by simp[zG3,ag.2]
  obtain⟨aa,h1,h2,h3⟩:=yf8 parts ab (i+1) (zY arr (i*s) x.cells.toList) (done++zG3 v) ho (fun p aq=>hp p (by simp[aq])) ah (by rw[yE,af];congr 1;omega) (by simp[hd,ao,an]) (by
   have al:i*s+x.cells.toList.length<=arr.size:=by simp;omega
   have e1:(zY arr (i*s) x.cells.toList).toList.take ((i+1)*s)=arr.toList.take (i*s)++x.cells.toList:=by
    apply Bt
    intro j
    rw[Ai]
    have ar:(List.take (i*s) arr.toList).length=i*s:=by simp;omega
    by_cases hj:j<(i+1)*s
    .rw[if_pos hj,Ap,wF _ _ _ _ al]
     simp only[Cu]
     by_cases au:j<i*s
     .rw[if_neg om,Ah om,Ai,if_pos au,Ap]
     .rw[if_pos om,Am om,ar]
    .rw[if_neg hj,Bh (by simp[aj];omega)]
   rw[e1]
   exact ad.append ak)
  refine⟨aa,h1,by rw[h2,yE], ?_⟩
  rw[Aj,Dk,<-Cy]
  exact h3
 | [],_::_,_,_,_,_,_,h,_,_,_=>h.elim
 |_::_,[],_,_,_,_,_,h,_,_,_=>h.elim
theorem yi3 {dst:Option Tmp} {ty:TypeId} {pos:String} {aft:Array Edge} {g:Option (Nat×Bool)} (t:TypeId) (len:Nat) (ps:Array (Nat×Operand)) (h:Sim c nt e σ a w L β):
  ROk (zj6 ((elT P t).map (·.1)) len (ps.toList.map fun p=>(p.1,zD e p.2))) σ (Yield P c ⟨dst,.buildSlice t len ps,ty,pos,aft,g⟩ a w L σ β):=by
 unfold zj6
 split
 .rename_i s af
  split
  .rename_i ah
   obtain⟨ho,hlen⟩:=ah
   rintro⟨hp,aq,hs⟩
   obtain⟨el,ak⟩: ∃b,elT P t=some (s,b):=by
    cases hq:elT P t with
    |none=>simp[hq]at af
    |some q=>obtain⟨q1,q2⟩:=q;simp[hq]at af;subst af;exact⟨q2,rfl⟩
   obtain⟨el,i,z,hu,hi,hz,rfl,_,ar,_,_⟩:=zd9 ak
   have ab:=All2.of_parts h ps.toList
   have ai: ∀aa,Instr.fill (fun k=>some (k*i.size,i.size)) ((Array.range (len*i.size)).map (z.cells[· %z.cells.size]!)) (ps.map fun(k,x)=>(k,a.eval x)).toList=some aa->
     (Instr.buildSlice t len (ps.map fun(k,x)=>(k,a.eval x))).run P w= .ok (.slice (some ⟨w.heap.size,0,none⟩) len len) (w.alloc (.cells aa el)):=by
    intro aa hf
    by_cases h0:len*i.size=0
    .have al:len=0:=by
      rcases Nat.mul_eq_zero.1 h0 with h|h
      .exact h
      .omega
     subst al
     simp at hlen
     subst hlen
     simp[Instr.fill]at hf
     subst hf
     have an: ∀f:Nat->Value,(Array.range 0).map f= #[]:=fun f=>by apply Array.eq_empty_of_size_eq_zero;simp
     simp[Instr.buildSlice,run_underlying hu,sizeOf,typeInfo,hi,Instr.fill,newRow,an]
    .exact run_buildSlice w t el len _ aa i z hu hi hz om h0 hf
   have aj:(ps.map fun(k,x)=>(k,a.eval x)).toList=ps.toList.map fun p=>(p.1,a.eval p.2):=sm
   obtain⟨aa,hf,au,ad⟩:=yf8 (s:=i.size) _ _ 0 ((Array.range (len*i.size)).map (z.cells[· %z.cells.size]!)) [] ho hp ab (by simp at hlen⊢;rw[hlen]) sm (by simp[All2])
   rw[<-aj]at hf
   have hr:=ai aa hf
   have ag:((ps.toList.map fun p=>(p.1,zD e p.2)).map fun p=>zG3 p.2).length=len:=by rw[B1,hlen]
   obtain⟨h1,h2⟩:=h.mem.alloc (.cells aa el) (len*i.size)
   refine⟨.slice (some ⟨w.heap.size,0,none⟩) len len,_,_,β,.inl (by simp[execOp,hr]),h1,h2,Ext.refl _ _, ?_⟩
   have ae:RdP (w.alloc (.cells aa el)) (xF L w.heap.size (len*i.size)) (.sl .full ((ps.toList.map fun p=>(p.1,zD e p.2)).map fun p=>zG3 p.2)) (.slice (some ⟨w.heap.size,0,none⟩) ((ps.toList.map fun p=>(p.1,zD e p.2)).map fun p=>zG3 p.2).length len):=by
    refine .of_row (xs:=aa.toList) hs (fun r hr=> ?_) (by rw[ag];simp[xF]) om (fun _=>sm) (fun _=>ag.symm) (yH _ _) (fun k x hk=>by rw[Ad];simpa using hk) ?_
    .obtain⟨p,ao,rfl⟩:=Ac.1 hr
     simp only[zG3,B1]
     exact(hp p ao).2
    .simp only[Cs]at ad
     exact ad.imp fun _ _=>RdP.mono h2
   rw[ag]at ae
   exact ae
  .trivial
 .trivial
theorem yR8 {ops rest:List Oper} {Q:Exit->Act->World->Prop}: ∀(l:List Oper) (K:Env->St->Prop) (e:Env) (σ:St) (a:Act) (w:World) (L:Nat->Nat) (β:List Value),(∀o∈l,o.guard=none)->Sim c nt e σ a w L β->vrun P c nt ops l K e σ->
  (∀e' σ' a' w' L' β',Sim c nt e' σ' a' w' L' β'->K e' σ'->wpList P ops.toArray Q rest a' w')->wpList P ops.toArray Q (l++rest) a w
 | [],K,e,σ,a,w,L,β,_,h,hK,hn=>hn _ _ _ _ _ _ h hK
 |o::l,K,e,σ,a,w,L,β,hg,h,hK,hn=>by
  have ih:=yR8 (ops:=ops) (rest:=rest) (Q:=Q) l K
  have aa:=hg o (Au ..)
  unfold vrun at hK
  rw[Bz]
  unfold wpList
  rw[aa]at hK
  rw[if_pos (by simp[Region.wanted,aa])]
  exact .inl (yE5 o h hK fun e' σ' a' w' L' β' hs hk=>ih e' σ' a' w' L' β' (fun x hx=>hg x (An _ hx)) hs hk hn)
theorem xU3 (o:Oper) {r:R} {K:Env->St->Prop} {next:Act->World->Prop} {Q:Exit->Act->World->Prop} (h:Sim c nt e σ a w L β) (hr:ROk r σ (Yield P c o a w L σ β)) (hv:vfin nt o.dst r K e σ)
  (hn: ∀e' σ' a' w' L' β',Sim c nt e' σ' a' w' L' β'->K e' σ'->next a' w'):o.wp P a w next Q:=by
 have done: ∀{v σ'},Yield P c o a w L σ β v σ'->vput nt o.dst v K e σ'->o.wp P a w next Q:=by
  rintro v σ' ⟨x,w',L',β',aa,hm,hle,ab,ad⟩ hp
  obtain⟨e',hs,hk⟩:=zC3 h hm hle ab ad hp
  unfold Oper.wp
  rcases aa with aa|⟨aa,rfl⟩
  .rw[aa];exact hn _ _ _ _ _ _ hs hk
  .rw[aa];exact hn _ _ _ _ _ _ hs hk
 cases r with
 |fail=>exact hv.elim
 |ok v=>exact done hr hv
 |need p v=>exact done (hr hv.1) hv.2
 |st v σ'=>exact done hr hv
 |needst p v σ'=>exact done (hr hv.1) hv.2
 |all f=>obtain⟨b,hr⟩:=hr;exact done hr (hv b)
 |any l=>obtain⟨p,hp,hr⟩:=hr;exact done hr (hv p hp)
theorem ya6 {Q:QT} {id:Nat} {ops pre rest:List Oper} {d:Option Tmp} {t:TypeId} {n:Nat} {ps:List (Nat×Operand)} {ty:TypeId} {pos:String} {aft:Array Edge} (k:Nat) (h0:ops.take k=pre) (h1:ops.drop k=⟨d,.buildSlice t n ps.toArray,ty,pos,aft,none⟩::rest) (hg:(ops.all fun o=>o.guard.isNone)=true)
  (h:wrun P c nt ops pre (fun e' σ'=>wfin nt d (zj6 ((elT P t).map (·.1)) n (ps.map fun p=>(p.1,zD e' p.2))) (wrun P c nt ops rest (Q .normal) fx fx fx) fx e' σ') fx fx fx e σ):wVW P c nt (.region id ops.toArray false) Q fx fx e σ:=by
 intro a w L β hs
 have aa:ops=pre++⟨d,.buildSlice t n ps.toArray,ty,pos,aft,none⟩::rest:=by rw[<-h0,<-h1,Bf]
 have ad: ∀o∈ops,o.guard=none:=fun o ho=>by
  have:=Af.1 hg o ho
  simpa using this
 refine wp_region_list (ops:=ops.toArray) ?_
 show wpList P ops.toArray (Lift c nt Q) ops a w
 have key:=yR8 (P:=P) (ops:=ops) (rest:=⟨d,.buildSlice t n ps.toArray,ty,pos,aft,none⟩::rest) (Q:=Lift c nt Q) pre _ e σ a w L β (fun o ho=>ad o (by rw[aa];exact D3 _ ho)) hs h (fun e' σ' a' w' L' β' ab hk=>by
  unfold wpList
  rw[if_pos (by simp[Region.wanted])]
  refine .inl (xU3 (K:=vrun P c nt ops rest (Q .normal)) ⟨d,.buildSlice t n ps.toArray,ty,pos,aft,none⟩ ab (yi3 t n ps.toArray ab) (by
   have ae:vfin nt d (zj6 ((elT P t).map (·.1)) n (ps.map fun p=>(p.1,zD e' p.2))) (vrun P c nt ops rest (Q .normal)) e' σ':=hk
   simpa using ae) fun e2 σ2 a2 w2 L2 β2 af ag=> ?_)
  exact yE6 (P:=P) (ops:=ops) (Q:=Lift c nt Q) rest (Q .normal) e2 σ2 a2 w2 L2 β2 af ag fun e3 σ3 a3 w3 L3 β3 ah ai=>⟨e3,σ3,L3,β3,ah,ai⟩)
 rw[<-aa]at key
 exact key
attribute [go_sem] zj6 zG3 demFl
end
end Go.Vx
