/-
  A literal list whose rows hold lists without room: told as such, so that one may append to them once they stand in a list of one's own.
  No condition: a library text; nothing of the program is named.
-/
import Derived.Test.YtefbicjgbaaieaaGreatLAF
set_option maxHeartbeats 8000000
namespace Go.Vx
open Go
section
variable{P:Program}{c:Ctx}{nt:Nat}{e:Env}{U:St}{a:Act}{w:World}{L:Nat->Nat}{I:ail}{o:Oper}
def nF:V->V |.sl .full rows=>.sl .full rows|v=>pT v
theorem cU.nF{v:V}{x:Value}(r:cU w L U I v x)(h:oz v):cy w L (nF v) x:=by cases v with
 |sl g rows=>cases g with |full=>exact r|ro=>simpa|app id=>exact cU.pT r h
 |_=>exact cU.pT r h
def sq (v:V):List V:=(xT v).map nF
def JS(es:aip)(len:Nat)(parts:List (Nat×V)):R:=match es with |some s=>if sP 0 parts=true/\parts.length=len then .eF ((∀p∈parts,uv p.2=true/\(xT p.2).length=s)/\len*s<=16777216/\0<s) (.sl .full (parts.map λp=>sq p.2))else .fail|none=>.fail
theorem ZN{v:V}{x:Value}(r:bM (cU w L U I) (xT v) x.cells.toList)(hp:uv v):bM (cy w L) (sq v) x.cells.toList:=by unfold uv at hp;unfold sq;refine bM.kQ ?_;revert r hp;generalize xT v=cs;generalize x.cells.toList=xs;intro r hp;induction cs generalizing xs with |nil=>cases xs<;>simpa|cons p cs ih=>cases xs with |nil=>simpa|cons y ys=>simp at hp;exact⟨cU.nF r.1 hp.1,ih _ r.2 (by grind)⟩
theorem RA{s:Nat}:∀(parts:List (Nat×V))(aa:List (Nat×Value))(k:Nat)(arr:ain)(done:List V),sP k parts=true->(∀p∈parts,uv p.2=true/\(xT p.2).length=s)->bM (λp q=>p.1=q.1/\dj w L U I p.2 q.2) parts aa->arr.size=(k+parts.length)*s->done.length=k*s->bM (cy w L) done (arr.toList.take (k*s))->∃ab,Instr.fill (λi=>some (i*s,s)) arr aa=some ab/\ab.size=arr.size/\bM (cy w L) (done++(parts.map λp=>sq p.2).flatten) ab.toList
 |[],[],k,arr,done,_,_,_,af,hd,ae=>by refine⟨arr,rfl,rfl,?_⟩;grind[Ac]|(i,v)::parts,(i',x)::aa,k,arr,done,ho,hp,⟨⟨hi,hr⟩,ag⟩,af,hd,ae=>by
  simp only[sP,A8,ahX]at ho;obtain⟨⟨rfl,ah⟩,ho⟩:=ho;have ai:=hp (i,v) sm;simp only at hi ai;subst hi;have ad:=BS hr ah;have hlen:=ad.length;simp only[Co]at hlen;have al:x.cells.size=s:=om;simp only[Af]at af;have hm:(i+(parts.length+1))*s=i*s+s+parts.length*s:=by grind
  have ao:(i+1)*s=i*s+s:=by grind
  rw[IL (s:=s) rfl al om];have aj:=ZN ad ai.1;have aq:(sq v).length=s:=by grind[sq]
  obtain⟨ab,h1,h2,h3⟩:=RA parts aa (i+1) (xU arr (i*s) x.cells.toList) (done++sq v) ho (λp an=>hp p (by simp[an])) ag (by rw[xV,af];grind) (by grind) (by
   have ak:i*s+x.cells.toList.length<=arr.size:=by grind
   have e1:(xU arr (i*s) x.cells.toList).toList.take ((i+1)*s)=arr.toList.take (i*s)++x.cells.toList:=by
    apply Bs;intro j;rw[Aw];have ar:(List.take (i*s) arr.toList).length=i*s:=by grind
    by_cases hj:j<(i+1)*s;.rw[ahP hj,Am,vw _ _ _ _ ak];grind
    grind
   rw[e1];exact ae.append aj);grind[xV]|[],_::_,_,_,_,_,_,h,_,_,_=>h.elim|_::_,[],_,_,_,_,_,h,_,_,_=>h.elim
theorem ZO{dst:Option Tmp}{ty:TypeId}{pos:String}{dU:Array Edge}{g:Option (Nat×Bool)}(t:TypeId)(len:Nat)(ps:Array (Nat×Operand))(h:dM c nt e U a w L I):fD (JS ((ec P t).map (·.1)) len (ps.toList.map λp=>(p.1,zI e p.2))) U (bS P c ⟨dst,.buildSlice t len ps,ty,pos,dU,g⟩ a w L U I):=by
 unfold JS;split
 .rename_i s ak;split
  .rename_i ae;obtain⟨ho,hlen⟩:=ae;rintro⟨hp,al,hs⟩;obtain⟨el,ai⟩:∃b,ec P t=some (s,b):=by simp_all
   obtain⟨el,i,z,hu,hi,hz,rfl,_,an,_,_⟩:=qu ai;have ab:=bM.ic h ps.toList;have af:∀aa,Instr.fill (λk=>some (k*i.size,i.size)) ((Array.range (len*i.size)).map (z.cells[·%z.cells.size]!)) (ps.map λ(k,x)=>(k,a.eval x)).toList=some aa->(Instr.buildSlice t len (ps.map λ(k,x)=>(k,a.eval x))).run P w=.ok (.slice (some ⟨w.heap.size,0,none⟩) len len) (w.alloc (.cells aa el)):=by
    intro aa hf;by_cases h0:len*i.size=0
    .have ao:len=0:=by rcases Nat.mul_eq_zero.1 h0 with h|h;all_goals omega
     simp_all[Array.eq_empty_of_size_eq_zero,Instr.buildSlice,run_underlying,sizeOf,typeInfo,newRow]
    grind[run_buildSlice]
   have ag:(ps.map λ(k,x)=>(k,a.eval x)).toList=ps.toList.map λp=>(p.1,a.eval p.2):=sm;obtain⟨aa,hf,aq,ad⟩:=RA (s:=i.size) _ _ 0 ((Array.range (len*i.size)).map (z.cells[·%z.cells.size]!)) [] ho hp ab (by grind) sm (by simp[bM]);rw[<-ag]at hf;have hr:=af aa hf;have aj:((ps.toList.map λp=>(p.1,zI e p.2)).map λp=>sq p.2).length=len:=by grind
   obtain⟨h1,h2⟩:=h.mem.alloc (.cells aa el) (len*i.size);refine⟨.slice (some ⟨w.heap.size,0,none⟩) len len,_,_,I,(by simp_all[execOp]),h1,h2,Ext.refl _ _,?_⟩;have ah:cy (w.alloc (.cells aa el)) (xQ L w.heap.size (len*i.size)) (.sl .full ((ps.toList.map λp=>(p.1,zI e p.2)).map λp=>sq p.2)) (.slice (some ⟨w.heap.size,0,none⟩) ((ps.toList.map λp=>(p.1,zI e p.2)).map λp=>sq p.2).length len):=by
    refine .kP (xs:=aa.toList) hs (λr hr=>?_) (by grind[xQ]) om sm om (yR _ _) sm ?_;.obtain⟨p,ar,rfl⟩:=Aa.1 hr;grind[sq]
    .simp only[C0]at ad;exact ad.imp (by grind[cy.mono])
   rw[aj]at ah;trivial
  trivial
 trivial
theorem RB{ops rest:List Oper}{Q:Exit->Act->World->Prop}:∀(l:List Oper)(K:Env->St->Prop)(e:Env)(U:St)(a:Act)(w:World)(L:Nat->Nat)(I:ail),(∀o∈l,o.guard=none)->dM c nt e U a w L I->kg P c nt ops l K e U->(∀e' U' a' w' L' I',dM c nt e' U' a' w' L' I'->K e' U'->wpList P ops.toArray Q rest a' w')->wpList P ops.toArray Q (l++rest) a w
 |[],K,e,U,a,w,L,I,_,h,hK,hn=>hn _ _ _ _ _ _ h hK|o::l,K,e,U,a,w,L,I,hg,h,hK,hn=>by have ih:=RB (ops:=ops) (rest:=rest) (Q:=Q) l K;have aa:=hg o (Ax ..);unfold kg at hK;rw[Bg];unfold wpList;rw[aa]at hK;rw[ahP (by grind[Region.wanted])];exact .inl (IW o h hK (by grind))
theorem ZP(o:Oper){r:R}{K:Env->St->Prop}{next:Act->World->Prop}{Q:Exit->Act->World->Prop}(h:dM c nt e U a w L I)(hr:fD r U (bS P c o a w L U I))(hv:mA nt o.dst r K e U)(hn:∀e' U' a' w' L' I',dM c nt e' U' a' w' L' I'->K e' U'->next a' w'):o.wp P a w next Q:=by
 have done:∀{v U'},bS P c o a w L U I v U'->eV nt o.dst v K e U'->o.wp P a w next Q:=by
  rintro v U'⟨x,w',L',I',aa,hm,hle,ab,ad⟩hp;obtain⟨e',hs,hk⟩:=EV h hm hle ab ad hp;unfold Oper.wp;rcases aa with aa|⟨aa,rfl⟩;.rw[aa];exact hn _ _ _ _ _ _ hs hk
  .rw[aa];exact hn _ _ _ _ _ _ hs hk
 cases r with |fail=>trivial|ok v=>exact done hr hv|eF p v=>exact done (hr hv.1) hv.2|st v U'=>exact done hr hv|dp p v U'=>exact done (hr hv.1) hv.2|all f=>obtain⟨b,hr⟩:=hr;exact done hr (hv b)|any l=>obtain⟨p,hp,hr⟩:=hr;exact done hr (hv p hp)
theorem RC{Q:QT}{id:Nat}{ops pre rest:List Oper}{d:Option Tmp}{t:TypeId}{n:Nat}{ps:List (Nat×Operand)}{ty:TypeId}{pos:String}{dU:Array Edge}(k:Nat)(h0:ops.take k=pre)(h1:ops.drop k=⟨d,.buildSlice t n ps.toArray,ty,pos,dU,none⟩::rest)(hg:(ops.all λo=>o.guard.isNone))(h:mE P c nt ops pre (λe' U'=>dN nt d (JS ((ec P t).map (·.1)) n (ps.map λp=>(p.1,zI e' p.2))) (mE P c nt ops rest (Q .normal) fx fx fx) fx e' U') fx fx fx e U):ga P c nt (.region id ops.toArray false) Q fx fx e U:=by
 intro a w L I hs;have ab:ops=pre++⟨d,.buildSlice t n ps.toArray,ty,pos,dU,none⟩::rest:=by grind[Bt]
 have ad:∀o∈ops,o.guard=none:=λo ho=>by have:=Aj.1 hg o ho;simp_all
 refine wp_region_list (ops:=ops.toArray) ?_;show wpList P ops.toArray (fo c nt Q) ops a w;have key:=RB (P:=P) (ops:=ops) (rest:=⟨d,.buildSlice t n ps.toArray,ty,pos,dU,none⟩::rest) (Q:=fo c nt Q) pre _ e U a w L I (by grind) hs h (λe' U' a' w' L' I' aa hk=>by
  unfold wpList;rw[ahP (by rfl)];refine .inl (ZP (K:=kg P c nt ops rest (Q .normal)) ⟨d,.buildSlice t n ps.toArray,ty,pos,dU,none⟩ aa (ZO t n ps.toArray aa) (by simpa) λe2 U2 a2 w2 L2 I2 ae af=>?_);grind[LM,fo]);grind
attribute [go_sem] JS sq nF
end
end Go.Vx
