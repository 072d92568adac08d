/-
  A literal list whose rows hold lists without room: told as such, so that one may append to them once they stand in a list of one's own.
  No condition: a library text; nothing of the program is named.
-/
import Derived.Test.YtplackkccmeioaaGreatKBAF
set_option maxHeartbeats 8000000
namespace Go.Vx
open Go
section
variable {P:Program} {c:Ctx} {nt:Nat} {e:Env} {I:St} {a:Act} {w:World} {L:Nat->Nat} {J:ahR} {o:Oper}
def mX:V->V
 | .sl .full rows=> .sl .full rows
 |v=>ly v
theorem cW.mX {v:V} {x:Value} (r:cW w L I J v x) (h:pc v):cF w L (mX v) x:=by
 cases v with
 |sl g rows=>cases g with
  |full=>exact r
  |ro=>simpa
  |app id=>exact cW.ly r h
 |_=>exact cW.ly r h
def rA (v:V):List V:=(xM v).map mX
def JB (es:ahV) (len:Nat) (parts:List (Nat×V)):R:=
 match es with
 |some s=>if rU 0 parts=true/\parts.length=len then .ec ((∀p∈parts,nD p.2=true/\(xM p.2).length=s)/\len*s<=16777216/\0<s) (.sl .full (parts.map λp=>rA p.2))else .fail
 |none=> .fail
theorem ZH {v:V} {x:Value} (r:bP (cW w L I J) (xM v) x.cells.toList) (hp:nD v):bP (cF w L) (rA v) x.cells.toList:=by
 unfold nD at hp
 unfold rA
 refine bP.kp ?_
 revert r hp
 generalize xM v=cs
 generalize x.cells.toList=xs
 intro r hp
 induction cs generalizing xs with
 |nil=>cases xs<;>simpa
 |cons p cs ih=>cases xs with
  |nil=>simpa
  |cons y ys=>
   simp at hp
   exact⟨cW.mX r.1 hp.1,ih _ r.2 (by grind)⟩
theorem Rf {s:Nat}: ∀(parts:List (Nat×V)) (aa:List (Nat×Value)) (k:Nat) (arr:ahT) (done:List V),rU k parts=true->(∀p∈parts,nD p.2=true/\(xM p.2).length=s)->
  bP (λp q=>p.1=q.1/\dt w L I J p.2 q.2) parts aa->arr.size=(k+parts.length)*s->done.length=k*s->bP (cF w L) done (arr.toList.take (k*s))->
  ∃ab,Instr.fill (λi=>some (i*s,s)) arr aa=some ab/\ab.size=arr.size/\bP (cF w L) (done++(parts.map λp=>rA p.2).flatten) ab.toList
 | [],[],k,arr,done,_,_,_,af,hd,ae=>by
  refine⟨arr,rfl,rfl, ?_⟩
  grind[Aa]
 |(i,v)::parts,(i',x)::aa,k,arr,done,ho,hp,⟨⟨hi,hr⟩,ah⟩,af,hd,ae=>by
  simp only[rU,Ab,ahm]at ho
  obtain⟨⟨rfl,ai⟩,ho⟩:=ho
  have aj:=hp (i,v) sm
  simp only at hi aj
  subst hi
  have ad:=AH hr ai
  have hlen:=ad.length
  simp only[Cq]at hlen
  have an:x.cells.size=s:=om
  simp only[Ak]at af
  have hm:(i+(parts.length+1))*s=i*s+s+parts.length*s:=by grind
  have aq:(i+1)*s=i*s+s:=by grind
  rw[Ir (s:=s) rfl an om]
  have ak:=ZH ad aj.1
  have ar:(rA v).length=s:=by grind[rA]
  obtain⟨ab,h1,h2,h3⟩:=Rf parts aa (i+1) (yC arr (i*s) x.cells.toList) (done++rA v) ho (λp ao=>hp p (by simp[ao])) ah (by rw[yH,af];grind) (by grind) (by
   have al:i*s+x.cells.toList.length<=arr.size:=by grind
   have e1:(yC arr (i*s) x.cells.toList).toList.take ((i+1)*s)=arr.toList.take (i*s)++x.cells.toList:=by
    apply Bg
    intro j
    rw[An]
    have au:(List.take (i*s) arr.toList).length=i*s:=by grind
    by_cases hj:j<(i+1)*s
    .rw[ahg hj,Ao,wM _ _ _ _ al]
     grind
    grind
   rw[e1]
   exact ae.append ak)
  grind[yH]
 | [],_::_,_,_,_,_,_,h,_,_,_=>h.elim
 |_::_,[],_,_,_,_,_,h,_,_,_=>h.elim
theorem ZI {dst:Option Tmp} {ty:TypeId} {pos:String} {dX:Array Edge} {g:Option (Nat×Bool)} (t:TypeId) (len:Nat) (ps:Array (Nat×Operand)) (h:dP c nt e I a w L J):
  eZ (JB ((eE P t).map (·.1)) len (ps.toList.map λp=>(p.1,zG e p.2))) I (bU P c ⟨dst,.buildSlice t len ps,ty,pos,dX,g⟩ a w L I J):=by
 unfold JB
 split
 .rename_i s al
  split
  .rename_i ae
   obtain⟨ho,hlen⟩:=ae
   rintro⟨hp,an,hs⟩
   obtain⟨el,aj⟩: ∃b,eE P t=some (s,b):=by
    simp_all
   obtain⟨el,i,z,hu,hi,hz,rfl,_,ao,_,_⟩:=pJ aj
   have ab:=bP.gY h ps.toList
   have af: ∀aa,Instr.fill (λk=>some (k*i.size,i.size)) ((Array.range (len*i.size)).map (z.cells[· %z.cells.size]!)) (ps.map λ(k,x)=>(k,a.eval x)).toList=some aa->
     (Instr.buildSlice t len (ps.map λ(k,x)=>(k,a.eval x))).run P w= .ok (.slice (some ⟨w.heap.size,0,none⟩) len len) (w.alloc (.cells aa el)):=by
    intro aa hf
    by_cases h0:len*i.size=0
    .have aq:len=0:=by
      rcases Nat.mul_eq_zero.1 h0 with h|h
      all_goals omega
     simp_all[Array.eq_empty_of_size_eq_zero,Instr.buildSlice,run_underlying,sizeOf,typeInfo,newRow]
    grind[run_buildSlice]
   have ah:(ps.map λ(k,x)=>(k,a.eval x)).toList=ps.toList.map λp=>(p.1,a.eval p.2):=sm
   obtain⟨aa,hf,ar,ad⟩:=Rf (s:=i.size) _ _ 0 ((Array.range (len*i.size)).map (z.cells[· %z.cells.size]!)) [] ho hp ab (by grind) sm (by simp[bP])
   rw[<-ah]at hf
   have hr:=af aa hf
   have ak:((ps.toList.map λp=>(p.1,zG e p.2)).map λp=>rA p.2).length=len:=by grind
   obtain⟨h1,h2⟩:=h.mem.alloc (.cells aa el) (len*i.size)
   refine⟨.slice (some ⟨w.heap.size,0,none⟩) len len,_,_,J,(by simp_all[execOp]),h1,h2,Ext.refl _ _, ?_⟩
   have ai:cF (w.alloc (.cells aa el)) (xK L w.heap.size (len*i.size)) (.sl .full ((ps.toList.map λp=>(p.1,zG e p.2)).map λp=>rA p.2)) (.slice (some ⟨w.heap.size,0,none⟩) ((ps.toList.map λp=>(p.1,zG e p.2)).map λp=>rA p.2).length len):=by
    refine .kn (xs:=aa.toList) hs (λr hr=> ?_) (by grind[xK]) om sm om (yJ _ _) sm ?_
    .obtain⟨p,au,rfl⟩:=Ac.1 hr
     grind[rA]
    .simp only[Bu]at ad
     exact ad.imp (by grind[cF.mono])
   rw[ak]at ai
   trivial
  trivial
 trivial
theorem Rg {ops rest:List Oper} {Q:Exit->Act->World->Prop}: ∀(l:List Oper) (K:Env->St->Prop) (e:Env) (I:St) (a:Act) (w:World) (L:Nat->Nat) (J:ahR),(∀o∈l,o.guard=none)->dP c nt e I a w L J->jR P c nt ops l K e I->
  (∀e' I' a' w' L' J',dP c nt e' I' a' w' L' J'->K e' I'->wpList P ops.toArray Q rest a' w')->wpList P ops.toArray Q (l++rest) a w
 | [],K,e,I,a,w,L,J,_,h,hK,hn=>hn _ _ _ _ _ _ h hK
 |o::l,K,e,I,a,w,L,J,hg,h,hK,hn=>by
  have ih:=Rg (ops:=ops) (rest:=rest) (Q:=Q) l K
  have aa:=hg o (Av ..)
  unfold jR at hK
  rw[Bm]
  unfold wpList
  rw[aa]at hK
  rw[ahg (by grind[Region.wanted])]
  exact .inl (IB o h hK (by grind))
theorem ZJ (o:Oper) {r:R} {K:Env->St->Prop} {next:Act->World->Prop} {Q:Exit->Act->World->Prop} (h:dP c nt e I a w L J) (hr:eZ r I (bU P c o a w L I J)) (hv:lM nt o.dst r K e I)
  (hn: ∀e' I' a' w' L' J',dP c nt e' I' a' w' L' J'->K e' I'->next a' w'):o.wp P a w next Q:=by
 have done: ∀{v I'},bU P c o a w L I J v I'->eY nt o.dst v K e I'->o.wp P a w next Q:=by
  rintro v I' ⟨x,w',L',J',aa,hm,hle,ab,ad⟩ hp
  obtain⟨e',hs,hk⟩:=En h hm hle ab ad hp
  unfold Oper.wp
  rcases aa with aa|⟨aa,rfl⟩
  .rw[aa];exact hn _ _ _ _ _ _ hs hk
  .rw[aa];exact hn _ _ _ _ _ _ hs hk
 cases r with
 |fail=>trivial
 |ok v=>exact done hr hv
 |ec p v=>exact done (hr hv.1) hv.2
 |st v I'=>exact done hr hv
 |dz p v I'=>exact done (hr hv.1) hv.2
 |all f=>obtain⟨b,hr⟩:=hr;exact done hr (hv b)
 |any l=>obtain⟨p,hp,hr⟩:=hr;exact done hr (hv p hp)
theorem Rh {Q:QT} {id:Nat} {ops pre rest:List Oper} {d:Option Tmp} {t:TypeId} {n:Nat} {ps:List (Nat×Operand)} {ty:TypeId} {pos:String} {dX:Array Edge} (k:Nat) (h0:ops.take k=pre) (h1:ops.drop k=⟨d,.buildSlice t n ps.toArray,ty,pos,dX,none⟩::rest) (hg:(ops.all λo=>o.guard.isNone))
  (h:lQ P c nt ops pre (λe' I'=>dQ nt d (JB ((eE P t).map (·.1)) n (ps.map λp=>(p.1,zG e' p.2))) (lQ P c nt ops rest (Q .normal) fx fx fx) fx e' I') fx fx fx e I):gx P c nt (.region id ops.toArray false) Q fx fx e I:=by
 intro a w L J hs
 have ab:ops=pre++⟨d,.buildSlice t n ps.toArray,ty,pos,dX,none⟩::rest:=by grind[B6]
 have ad: ∀o∈ops,o.guard=none:=λo ho=>by
  have:=Am.1 hg o ho
  simp_all
 refine wp_region_list (ops:=ops.toArray) ?_
 show wpList P ops.toArray (fo c nt Q) ops a w
 have key:=Rg (P:=P) (ops:=ops) (rest:=⟨d,.buildSlice t n ps.toArray,ty,pos,dX,none⟩::rest) (Q:=fo c nt Q) pre _ e I a w L J (by grind) hs h (λe' I' a' w' L' J' aa hk=>by
  unfold wpList
  rw[ahg (by rfl)]
  refine .inl (ZJ (K:=jR P c nt ops rest (Q .normal)) ⟨d,.buildSlice t n ps.toArray,ty,pos,dX,none⟩ aa (ZI t n ps.toArray aa) (by
   simpa) λe2 I2 a2 w2 L2 J2 ae af=> ?_)
  grind[Lz,fo])
 grind
attribute [go_sem] JB rA mX
end
end Go.Vx
