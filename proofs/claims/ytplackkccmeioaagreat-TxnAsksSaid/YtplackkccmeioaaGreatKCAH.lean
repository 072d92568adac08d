/-
  A literal list whose rows hold lists without room: told as such, so that one may append to them once they stand in a list of one's own.
  No condition: a library text; nothing of the program is named.
-/
import Derived.Test.YtplackkccmeioaaGreatKCAF
set_option maxHeartbeats 8000000
namespace Go.Vx
open Go
section
variable {P:Program} {c:Ctx} {nt:Nat} {e:Env} {I:St} {a:Act} {w:World} {L:Nat->Nat} {J:aj1} {o:Oper}
def nA:V->V
 | .sl .full rows=> .sl .full rows
 |v=>k5 v
theorem df.nA {v:V} {x:Value} (r:df w L I J v x) (h:pN v):cF w L (nA v) x:=by
 cases v with
 |sl g rows=>cases g with
  |full=>exact r
  |ro=>simpa
  |app id=>exact df.k5 r h
 |_=>exact df.k5 r h
def rV (v:V):List V:=(xO v).map nA
def Kj (es:aj5) (len:Nat) (parts:List (Nat×V)):R:=
 match es with
 |some s=>if sH 0 parts=true/\parts.length=len then .ee ((∀p∈parts,oj p.2=true/\(xO p.2).length=s)/\len*s<=16777216/\0<s) (.sl .full (parts.map λp=>rV p.2))else .fail
 |none=> .fail
theorem xF2 {v:V} {x:Value} (r:bP (df w L I J) (xO v) x.cells.toList) (hp:oj v):bP (cF w L) (rV v) x.cells.toList:=by
 unfold oj at hp
 unfold rV
 refine bP.kG ?_
 revert r hp
 generalize xO v=cs
 generalize x.cells.toList=xs
 intro r hp
 induction cs generalizing xs with
 |nil=>cases xs<;>simpa
 |cons p cs ih=>cases xs with
  |nil=>simpa
  |cons y ys=>
   simp at hp
   exact⟨df.nA r.1 hp.1,ih _ r.2 (by grind)⟩
theorem Sd {s:Nat}: ∀(parts:List (Nat×V)) (aa:List (Nat×Value)) (k:Nat) (arr:aj3) (done:List V),sH k parts=true->(∀p∈parts,oj p.2=true/\(xO p.2).length=s)->
  bP (λp q=>p.1=q.1/\dD w L I J p.2 q.2) parts aa->arr.size=(k+parts.length)*s->done.length=k*s->bP (cF w L) done (arr.toList.take (k*s))->
  ∃ab,Instr.fill (λi=>some (i*s,s)) arr aa=some ab/\ab.size=arr.size/\bP (cF w L) (done++(parts.map λp=>rV p.2).flatten) ab.toList
 | [],[],k,arr,done,_,_,_,af,hd,ae=>by
  refine⟨arr,rfl,rfl, ?_⟩
  grind[Aa]
 |(i,v)::parts,(i',x)::aa,k,arr,done,ho,hp,⟨⟨hi,hr⟩,ah⟩,af,hd,ae=>by
  simp only[sH,Ab,aiB]at ho
  obtain⟨⟨rfl,ai⟩,ho⟩:=ho
  have aj:=hp (i,v) sm
  simp only at hi aj
  subst hi
  have ad:=BN hr ai
  have hlen:=ad.length
  simp only[Cq]at hlen
  have an:x.cells.size=s:=om
  simp only[Ah]at af
  have hm:(i+(parts.length+1))*s=i*s+s+parts.length*s:=by grind
  have aq:(i+1)*s=i*s+s:=by grind
  rw[Jb (s:=s) rfl an om]
  have ak:=xF2 ad aj.1
  have ar:(rV v).length=s:=by grind[rV]
  obtain⟨ab,h1,h2,h3⟩:=Sd parts aa (i+1) (yD arr (i*s) x.cells.toList) (done++rV v) ho (λp ao=>hp p (by simp[ao])) ah (by rw[yJ,af];grind) (by grind) (by
   have al:i*s+x.cells.toList.length<=arr.size:=by grind
   have e1:(yD arr (i*s) x.cells.toList).toList.take ((i+1)*s)=arr.toList.take (i*s)++x.cells.toList:=by
    apply Bi
    intro j
    rw[Ap]
    have au:(List.take (i*s) arr.toList).length=i*s:=by grind
    by_cases hj:j<(i+1)*s
    .rw[aiv hj,Aq,wO _ _ _ _ al]
     grind
    grind
   rw[e1]
   exact ae.append ak)
  grind[yJ]
 | [],_::_,_,_,_,_,_,h,_,_,_=>h.elim
 |_::_,[],_,_,_,_,_,h,_,_,_=>h.elim
theorem yl0 {dst:Option Tmp} {ty:TypeId} {pos:String} {dX:Array Edge} {g:Option (Nat×Bool)} (t:TypeId) (len:Nat) (ps:Array (Nat×Operand)) (h:dQ c nt e I a w L J):
  fa (Kj ((eF P t).map (·.1)) len (ps.toList.map λp=>(p.1,zG e p.2))) I (bU P c ⟨dst,.buildSlice t len ps,ty,pos,dX,g⟩ a w L I J):=by
 unfold Kj
 split
 .rename_i s al
  split
  .rename_i ae
   obtain⟨ho,hlen⟩:=ae
   rintro⟨hp,an,hs⟩
   obtain⟨el,aj⟩: ∃b,eF P t=some (s,b):=by
    simp_all
   obtain⟨el,i,z,hu,hi,hz,rfl,_,ao,_,_⟩:=qm aj
   have ab:=bP.iq h ps.toList
   have af: ∀aa,Instr.fill (λk=>some (k*i.size,i.size)) ((Array.range (len*i.size)).map (z.cells[· %z.cells.size]!)) (ps.map λ(k,x)=>(k,a.eval x)).toList=some aa->
     (Instr.buildSlice t len (ps.map λ(k,x)=>(k,a.eval x))).run P w= .ok (.slice (some ⟨w.heap.size,0,none⟩) len len) (w.alloc (.cells aa el)):=by
    intro aa hf
    by_cases h0:len*i.size=0
    .have aq:len=0:=by
      rcases Nat.mul_eq_zero.1 h0 with h|h
      all_goals omega
     simp_all[Array.eq_empty_of_size_eq_zero,Instr.buildSlice,run_underlying,sizeOf,typeInfo,newRow]
    grind[run_buildSlice]
   have ah:(ps.map λ(k,x)=>(k,a.eval x)).toList=ps.toList.map λp=>(p.1,a.eval p.2):=sm
   obtain⟨aa,hf,ar,ad⟩:=Sd (s:=i.size) _ _ 0 ((Array.range (len*i.size)).map (z.cells[· %z.cells.size]!)) [] ho hp ab (by grind) sm (by simp[bP])
   rw[<-ah]at hf
   have hr:=af aa hf
   have ak:((ps.toList.map λp=>(p.1,zG e p.2)).map λp=>rV p.2).length=len:=by grind
   obtain⟨h1,h2⟩:=h.mem.alloc (.cells aa el) (len*i.size)
   refine⟨.slice (some ⟨w.heap.size,0,none⟩) len len,_,_,J,(by simp_all[execOp]),h1,h2,Ext.refl _ _, ?_⟩
   have ai:cF (w.alloc (.cells aa el)) (xM L w.heap.size (len*i.size)) (.sl .full ((ps.toList.map λp=>(p.1,zG e p.2)).map λp=>rV p.2)) (.slice (some ⟨w.heap.size,0,none⟩) ((ps.toList.map λp=>(p.1,zG e p.2)).map λp=>rV p.2).length len):=by
    refine .kF (xs:=aa.toList) hs (λr hr=> ?_) (by grind[xM]) om sm om (yL _ _) sm ?_
    .obtain⟨p,au,rfl⟩:=Ac.1 hr
     grind[rV]
    .simp only[C7]at ad
     exact ad.imp (by grind[cF.mono])
   rw[ak]at ai
   trivial
  trivial
 trivial
theorem Se {ops rest:List Oper} {Q:Exit->Act->World->Prop}: ∀(l:List Oper) (K:Env->St->Prop) (e:Env) (I:St) (a:Act) (w:World) (L:Nat->Nat) (J:aj1),(∀o∈l,o.guard=none)->dQ c nt e I a w L J->j9 P c nt ops l K e I->
  (∀e' I' a' w' L' J',dQ c nt e' I' a' w' L' J'->K e' I'->wpList P ops.toArray Q rest a' w')->wpList P ops.toArray Q (l++rest) a w
 | [],K,e,I,a,w,L,J,_,h,hK,hn=>hn _ _ _ _ _ _ h hK
 |o::l,K,e,I,a,w,L,J,hg,h,hK,hn=>by
  have ih:=Se (ops:=ops) (rest:=rest) (Q:=Q) l K
  have aa:=hg o (B1 ..)
  unfold j9 at hK
  rw[Bt]
  unfold wpList
  rw[aa]at hK
  rw[aiv (by grind[Region.wanted])]
  exact .inl (Jm o h hK (by grind))
theorem wf0 (o:Oper) {r:R} {K:Env->St->Prop} {next:Act->World->Prop} {Q:Exit->Act->World->Prop} (h:dQ c nt e I a w L J) (hr:fa r I (bU P c o a w L I J)) (hv:mh nt o.dst r K e I)
  (hn: ∀e' I' a' w' L' J',dQ c nt e' I' a' w' L' J'->K e' I'->next a' w'):o.wp P a w next Q:=by
 have done: ∀{v I'},bU P c o a w L I J v I'->fc nt o.dst v K e I'->o.wp P a w next Q:=by
  rintro v I' ⟨x,w',L',J',aa,hm,hle,ab,ad⟩ hp
  obtain⟨e',hs,hk⟩:=EX h hm hle ab ad hp
  unfold Oper.wp
  rcases aa with aa|⟨aa,rfl⟩
  .rw[aa];exact hn _ _ _ _ _ _ hs hk
  .rw[aa];exact hn _ _ _ _ _ _ hs hk
 cases r with
 |fail=>trivial
 |ok v=>exact done hr hv
 |ee p v=>exact done (hr hv.1) hv.2
 |st v I'=>exact done hr hv
 |dF p v I'=>exact done (hr hv.1) hv.2
 |all f=>obtain⟨b,hr⟩:=hr;exact done hr (hv b)
 |any l=>obtain⟨p,hp,hr⟩:=hr;exact done hr (hv p hp)
theorem Sf {Q:QT} {id:Nat} {ops pre rest:List Oper} {d:Option Tmp} {t:TypeId} {n:Nat} {ps:List (Nat×Operand)} {ty:TypeId} {pos:String} {dX:Array Edge} (k:Nat) (h0:ops.take k=pre) (h1:ops.drop k=⟨d,.buildSlice t n ps.toArray,ty,pos,dX,none⟩::rest) (hg:(ops.all λo=>o.guard.isNone))
  (h:mq P c nt ops pre (λe' I'=>dR nt d (Kj ((eF P t).map (·.1)) n (ps.map λp=>(p.1,zG e' p.2))) (mq P c nt ops rest (Q .normal) fx fx fx) fx e' I') fx fx fx e I):gE P c nt (.region id ops.toArray false) Q fx fx e I:=by
 intro a w L J hs
 have ab:ops=pre++⟨d,.buildSlice t n ps.toArray,ty,pos,dX,none⟩::rest:=by grind[B8]
 have ad: ∀o∈ops,o.guard=none:=λo ho=>by
  have:=Am.1 hg o ho
  simp_all
 refine wp_region_list (ops:=ops.toArray) ?_
 show wpList P ops.toArray (fu c nt Q) ops a w
 have key:=Se (P:=P) (ops:=ops) (rest:=⟨d,.buildSlice t n ps.toArray,ty,pos,dX,none⟩::rest) (Q:=fu c nt Q) pre _ e I a w L J (by grind) hs h (λe' I' a' w' L' J' aa hk=>by
  unfold wpList
  rw[aiv (by rfl)]
  refine .inl (wf0 (K:=j9 P c nt ops rest (Q .normal)) ⟨d,.buildSlice t n ps.toArray,ty,pos,dX,none⟩ aa (yl0 t n ps.toArray aa) (by
   simpa) λe2 I2 a2 w2 L2 J2 ae af=> ?_)
  grind[Mr,fu])
 grind
attribute [go_sem] Kj rV nA
end
end Go.Vx
