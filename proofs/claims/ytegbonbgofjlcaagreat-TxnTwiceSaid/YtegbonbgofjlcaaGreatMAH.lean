/-
  A literal list whose rows hold lists without room: told as such, so that one may append to them once they stand in a list of one's own.
  No condition: a library text; nothing of the program is named.
-/
import Derived.Test.YtegbonbgofjlcaaGreatMAF
set_option maxHeartbeats 8000000
namespace Go.Vx
open Go
section
variable{P:Program}{c:Ctx}{nt:Nat}{e:Env}{I:St}{a:Act}{w:World}{L:Nat->Nat}{J:alY}{o:Oper}
def oh:V->V |.sl .full rows=>.sl .full rows|v=>lS v
theorem dy.oh{v:V}{x:Value}(r:dy w L I J v x)(h:o7 v):cM w L (oh v) x:=by cases v with
 |sl g rows=>cases g with |full=>exact r|ro=>simpa|app id=>exact dy.lS r h
 |_=>exact dy.lS r h
def tq (v:V):List V:=(xT v).map oh
def LR(es:am2)(len:Nat)(parts:List (Nat×V)):R:=match es with |some s=>if tU 0 parts=true/\parts.length=len then .eP ((∀p∈parts,o8 p.2=true/\(xT p.2).length=s)/\len*s<=16777216/\0<s) (.sl .full (parts.map λp=>tq p.2))else .fail|none=>.fail
theorem xP1{v:V}{x:Value}(r:bP (dy w L I J) (xT v) x.cells.toList)(hp:o8 v):bP (cM w L) (tq v) x.cells.toList:=by unfold o8 at hp;unfold tq;refine bP.la ?_;revert r hp;generalize xT v=cs;generalize x.cells.toList=xs;intro r hp;induction cs generalizing xs with |nil=>cases xs<;>simpa|cons p cs ih=>cases xs with |nil=>simpa|cons y ys=>simp at hp;exact⟨dy.oh r.1 hp.1,ih _ r.2 (by grind)⟩
theorem T4{s:Nat}:∀(parts:List (Nat×V))(aa:List (Nat×Value))(k:Nat)(arr:am0)(done:List V),tU k parts=true->(∀p∈parts,o8 p.2=true/\(xT p.2).length=s)->bP (λp q=>p.1=q.1/\dP w L I J p.2 q.2) parts aa->arr.size=(k+parts.length)*s->done.length=k*s->bP (cM w L) done (arr.toList.take (k*s))->∃ab,Instr.fill (λi=>some (i*s,s)) arr aa=some ab/\ab.size=arr.size/\bP (cM w L) (done++(parts.map λp=>tq p.2).flatten) ab.toList
 |[],[],k,arr,done,_,_,_,af,hd,ae=>by refine⟨arr,rfl,rfl,?_⟩;grind[Ad]|(i,v)::parts,(i',x)::aa,k,arr,done,ho,hp,⟨⟨hi,hr⟩,ah⟩,af,hd,ae=>by
  simp only[tU,Aa,alx]at ho;obtain⟨⟨rfl,ai⟩,ho⟩:=ho;have aj:=hp (i,v) sM;simp only at hi aj;subst hi;have ad:=Ek hr ai;have hlen:=ad.length;simp only[Cv]at hlen;have an:x.cells.size=s:=om;simp only[Ah]at af;have hm:(i+(parts.length+1))*s=i*s+s+parts.length*s:=by grind
  have aq:(i+1)*s=i*s+s:=by grind
  rw[KG (s:=s) rfl an om];have ak:=xP1 ad aj.1;have ar:(tq v).length=s:=by grind[tq]
  obtain⟨ab,h1,h2,h3⟩:=T4 parts aa (i+1) (yH arr (i*s) x.cells.toList) (done++tq v) ho (λp ao=>hp p (by simp[ao])) ah (by rw[yK,af];grind) (by grind) (by
   have al:i*s+x.cells.toList.length<=arr.size:=by grind
   have e1:(yH arr (i*s) x.cells.toList).toList.take ((i+1)*s)=arr.toList.take (i*s)++x.cells.toList:=by
    apply Bi;intro j;rw[An];have au:(List.take (i*s) arr.toList).length=i*s:=by grind
    by_cases hj:j<(i+1)*s;.rw[alq hj,Ao,wV _ _ _ _ al];grind
    grind
   rw[e1];exact ae.append ak);grind[yK]|[],_::_,_,_,_,_,_,h,_,_,_=>h.elim|_::_,[],_,_,_,_,_,h,_,_,_=>h.elim
theorem yp5{dst:Option Tmp}{ty:TypeId}{pos:String}{eK:Array Edge}{g:Option (Nat×Bool)}(t:TypeId)(len:Nat)(ps:Array (Nat×Operand))(h:ez c nt e I a w L J):fG (LR ((eV P t).map (·.1)) len (ps.toList.map λp=>(p.1,zI e p.2))) I (bT P c ⟨dst,.buildSlice t len ps,ty,pos,eK,g⟩ a w L I J):=by
 unfold LR;split
 .rename_i s al;split
  .rename_i ae;obtain⟨ho,hlen⟩:=ae;rintro⟨hp,an,hs⟩;obtain⟨el,aj⟩:∃b,eV P t=some (s,b):=by simp_all
   obtain⟨el,i,z,hu,hi,hz,rfl,_,ao,_,_⟩:=rD aj;have ab:=bP.iK h ps.toList;have af:∀aa,Instr.fill (λk=>some (k*i.size,i.size)) ((Array.range (len*i.size)).map (z.cells[·%z.cells.size]!)) (ps.map λ(k,x)=>(k,a.eval x)).toList=some aa->(Instr.buildSlice t len (ps.map λ(k,x)=>(k,a.eval x))).run P w=.ok (.slice (some ⟨w.heap.size,0,none⟩) len len) (w.alloc (.cells aa el)):=by
    intro aa hf;by_cases h0:len*i.size=0
    .have aq:len=0:=by rcases Nat.mul_eq_zero.1 h0 with h|h;all_goals omega
     simp_all[Array.eq_empty_of_size_eq_zero,Instr.buildSlice,run_underlying,sizeOf,typeInfo,newRow]
    grind[run_buildSlice]
   have ah:(ps.map λ(k,x)=>(k,a.eval x)).toList=ps.toList.map λp=>(p.1,a.eval p.2):=sM;obtain⟨aa,hf,ar,ad⟩:=T4 (s:=i.size) _ _ 0 ((Array.range (len*i.size)).map (z.cells[·%z.cells.size]!)) [] ho hp ab (by grind) sM (by simp[bP]);rw[<-ah]at hf;have hr:=af aa hf;have ak:((ps.toList.map λp=>(p.1,zI e p.2)).map λp=>tq p.2).length=len:=by grind
   obtain⟨h1,h2⟩:=h.mem.alloc (.cells aa el) (len*i.size);refine⟨.slice (some ⟨w.heap.size,0,none⟩) len len,_,_,J,(by simp_all[execOp]),h1,h2,Ext.refl _ _,?_⟩;have ai:cM (w.alloc (.cells aa el)) (xQ L w.heap.size (len*i.size)) (.sl .full ((ps.toList.map λp=>(p.1,zI e p.2)).map λp=>tq p.2)) (.slice (some ⟨w.heap.size,0,none⟩) ((ps.toList.map λp=>(p.1,zI e p.2)).map λp=>tq p.2).length len):=by
    refine .k9 (xs:=aa.toList) hs (λr hr=>?_) (by grind[xQ]) om sM om (yM _ _) sM ?_;.obtain⟨p,au,rfl⟩:=Ab.1 hr;grind[tq]
    .simp only[Cc]at ad;exact ad.imp (by grind[cM.mono])
   rw[ak]at ai;trivial
  trivial
 trivial
theorem T5{ops rest:List Oper}{Q:Exit->Act->World->Prop}:∀(l:List Oper)(K:Env->St->Prop)(e:Env)(I:St)(a:Act)(w:World)(L:Nat->Nat)(J:alY),(∀o∈l,o.guard=none)->ez c nt e I a w L J->kI P c nt ops l K e I->(∀e' I' a' w' L' J',ez c nt e' I' a' w' L' J'->K e' I'->wpList P ops.toArray Q rest a' w')->wpList P ops.toArray Q (l++rest) a w
 |[],K,e,I,a,w,L,J,_,h,hK,hn=>hn _ _ _ _ _ _ h hK|o::l,K,e,I,a,w,L,J,hg,h,hK,hn=>by have ih:=T5 (ops:=ops) (rest:=rest) (Q:=Q) l K;have aa:=hg o (B2 ..);unfold kI at hK;rw[Bk];unfold wpList;rw[aa]at hK;rw[alq (by grind[Region.wanted])];exact .inl (KP o h hK (by grind))
theorem wq5(o:Oper){r:R}{K:Env->St->Prop}{next:Act->World->Prop}{Q:Exit->Act->World->Prop}(h:ez c nt e I a w L J)(hr:fG r I (bT P c o a w L I J))(hv:mQ nt o.dst r K e I)(hn:∀e' I' a' w' L' J',ez c nt e' I' a' w' L' J'->K e' I'->next a' w'):o.wp P a w next Q:=by
 have done:∀{v I'},bT P c o a w L I J v I'->fy nt o.dst v K e I'->o.wp P a w next Q:=by
  rintro v I'⟨x,w',L',J',aa,hm,hle,ab,ad⟩hp;obtain⟨e',hs,hk⟩:=Gs h hm hle ab ad hp;unfold Oper.wp;rcases aa with aa|⟨aa,rfl⟩;.rw[aa];exact hn _ _ _ _ _ _ hs hk
  .rw[aa];exact hn _ _ _ _ _ _ hs hk
 cases r with |fail=>trivial|ok v=>exact done hr hv|eP p v=>exact done (hr hv.1) hv.2|st v I'=>exact done hr hv|dR p v I'=>exact done (hr hv.1) hv.2|all f=>obtain⟨b,hr⟩:=hr;exact done hr (hv b)|any l=>obtain⟨p,hp,hr⟩:=hr;exact done hr (hv p hp)
theorem T6{Q:QT}{id:Nat}{ops pre rest:List Oper}{d:Option Tmp}{t:TypeId}{n:Nat}{ps:List (Nat×Operand)}{ty:TypeId}{pos:String}{eK:Array Edge}(k:Nat)(h0:ops.take k=pre)(h1:ops.drop k=⟨d,.buildSlice t n ps.toArray,ty,pos,eK,none⟩::rest)(hg:(ops.all λo=>o.guard.isNone))(h:mU P c nt ops pre (λe' I'=>eC nt d (LR ((eV P t).map (·.1)) n (ps.map λp=>(p.1,zI e' p.2))) (mU P c nt ops rest (Q .normal) fx fx fx) fx e' I') fx fx fx e I):gV P c nt (.region id ops.toArray false) Q fx fx e I:=by
 intro a w L J hs;have ab:ops=pre++⟨d,.buildSlice t n ps.toArray,ty,pos,eK,none⟩::rest:=by grind[B0]
 have ad:∀o∈ops,o.guard=none:=λo ho=>by have:=Am.1 hg o ho;simp_all
 refine wp_region_list (ops:=ops.toArray) ?_;show wpList P ops.toArray (fY c nt Q) ops a w;have key:=T5 (P:=P) (ops:=ops) (rest:=⟨d,.buildSlice t n ps.toArray,ty,pos,eK,none⟩::rest) (Q:=fY c nt Q) pre _ e I a w L J (by grind) hs h (λe' I' a' w' L' J' aa hk=>by
  unfold wpList;rw[alq (by rfl)];refine .inl (wq5 (K:=kI P c nt ops rest (Q .normal)) ⟨d,.buildSlice t n ps.toArray,ty,pos,eK,none⟩ aa (yp5 t n ps.toArray aa) (by simpa) λe2 I2 a2 w2 L2 J2 ae af=>?_);grind[NZ,fY]);grind
attribute [go_sem] LR tq oh
end
end Go.Vx
