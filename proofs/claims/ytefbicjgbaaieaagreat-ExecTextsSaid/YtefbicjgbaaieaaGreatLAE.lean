/-
  Running code over trees: what a closed run comes to, and that the contracts say the same.
  No condition: a library text; nothing of the program is named.
-/
import Derived.Test.YtefbicjgbaaieaaGreatLAD
import Derived.Carry
import Derived.ProofKit
import Derived.OpenShut
import Derived.IntWalk
import Derived.Test.YtefbicjgbaaieaaGreatRows
set_option maxHeartbeats 8000000
namespace Go.Vx
open Go
mutual
inductive lp(P:Program):TypeId->List V->Prop|bool{t:TypeId}(b:Bool):P.underlying t=some .bool->lp P t [.bool b]|int{t:TypeId}{k:IntKind}{n:Int}:P.underlying t=some (.int k)->(Lit.int k n).wf=true->lp P t [.int k n]|str{t:TypeId}{s:aij}:P.underlying t=some .string->s.length<=maxLen->lp P t [.str s]|sl{t e:TypeId}{rows:List (List V)}:P.underlying t=some (.slice e)->rows.length<=maxLen->kV P e rows->lp P t [.sl .ro rows]|struct{t:TypeId}{fs:Array Field}{cells:List V}:P.underlying t=some (.struct fs)->ki P (fs.toList.map (·.type)) cells->lp P t cells
inductive kV(P:Program):TypeId->List (List V)->Prop|nil{e:TypeId}:kV P e []|cons{e:TypeId}{r:List V}{rows:List (List V)}:lp P e r->kV P e rows->kV P e (r::rows)inductive ki(P:Program):List TypeId->List V->Prop|nil:ki P [] []|cons{t:TypeId}{ts:List TypeId}{a b:List V}:lp P t a->ki P ts b->ki P (t::ts) (a++b)end
def AM(P:Program):Nat->List Field->Nat->Bool |o,[],n=>o==n|o,f::fs,n=>f.offset==o&&AM P (o+P.cellsOf f.type) fs n
def kj(P:Program)(T:List TypeId):Bool:=T.all λt=>match P.underlying t with |some .bool|some (.int _)|some .string=>true|some (.slice e)=>T.contains e&&decide (0<P.cellsOf e)|some (.struct fs)=>fs.all (λf=>T.contains f.type)&&AM P 0 fs.toList (P.cellsOf t)|_=>false
def ik(w:World):Nat->Nat:=λb=>match w.heap[b]?with|some (.cells c _ _)=>c.size|_=>0
section
variable{H:Type}{enc:TypeId×Value->H}{P:Program}{w:World}{base:Nat}{spare:Nat->Bool}{held:Bool}
theorem QC{b o:Nat}{x:Value}(h:w.cell? ⟨b,o,none⟩=some x):o<ik w b:=by unfold World.cell? at h;unfold ik;grind
theorem QD{T:List TypeId}(hT:kj P T){t:TypeId}(h:t∈T):(match P.underlying t with |some .bool|some (.int _)|some .string=>true|some (.slice e)=>T.contains e&&decide (0<P.cellsOf e)|some (.struct fs)=>fs.all (λf=>T.contains f.type)&&AM P 0 fs.toList (P.cellsOf t)|_=>false)=true:=by grind[kj]
inductive Sm(M:Nat):V->Prop|bool(b:Bool):Sm M (.bool b)|int(k:IntKind)(n:Int):Sm M (.int k n)|str{s:aij}:s.length<=M->Sm M (.str s)|sl{g:Tag}{rows:List (List V)}:rows.length<=M->(∀r∈rows,∀v∈r,Sm M v)->Sm M (.sl g rows)|agg{cs:List V}:(∀v∈cs,Sm M v)->Sm M (.agg cs)
structure pb{H:Type}(B:DataW H->Nat)(BA:List (DataW H)->Nat):Prop where
 str:∀s:aij,s.length<=B (.lit (.string s))sl:∀es sp,BA es<=B (.slice es sp)agg:∀ps,BA ps<=B (.agg ps)mem:∀d l,d∈l->B d<=BA l
 len:∀l:List (DataW H),l.length<=BA l
def JB{H:Type}(d:DataW H)(vs:List V):Prop:=∀(B:DataW H->Nat)(BA:List (DataW H)->Nat),pb B BA->∀M,B d<=M->∀v∈vs,Sm M v
theorem Mg{T:List TypeId}(hT:kj P T):∀(fuel:Nat)(t:TypeId)(cs:ail)(x:DataW H×List MemPlace),t∈T->DataW.trod enc P w base spare held fuel t cs=some x->∃vs,lp P t vs/\bM (cy w (ik w)) vs cs/\JB x.1 vs
 |0,t,cs,x,_,h=>by simp[DataW.trod]at h|fuel+1,t,cs,x,ht,h=>by
  have hk:=QD hT ht;split at hk;.rename_i hu;obtain⟨b,rfl,_⟩:=DataW.trod_bool hu h;exact⟨[.bool b],.bool b hu,⟨.bool b,tV⟩,λ_ _ _ _ _ v hv=>by simp at hv;subst hv;exact .bool b⟩
  .rename_i k hu;obtain⟨n,rfl,_,hw⟩:=DataW.trod_int hu h;exact⟨[.int k n],.int hu hw,⟨.int k n,tV⟩,λ_ _ _ _ _ v hv=>by simp at hv;subst hv;exact .int k n⟩
  .rename_i hu;obtain⟨s,rfl,rfl,hs⟩:=DataW.trod_string hu h;have hr:cy w (ik w) (.str s.data.toList) (.string ⟨s.data.toList.toArray⟩):=.str _;exact⟨[.str s.data.toList],.str hu (sU hs),⟨hr,tV⟩,λB BA hB M hM v hv=>by simp at hv;subst hv;exact .str (by have:=hB.str s.data.toList;simp only at hM;simp at this hM⊢;omega)⟩
  .rename_i e hu;simp only[A8,ahS,List.contains_iff_mem]at hk;obtain⟨he,ae⟩:=hk;rcases DataW.trod_slice hu h with⟨rfl,_⟩|⟨a,len,cap,elems,rest,n,a1,rfl,af,hb,hl,hm,hlen,a6,_,_⟩;.exact⟨[.sl .ro []],.sl hu (A3 _) .nil,⟨.jk _ _ _ (λq=>by cases q) (λ_=>sm),tV⟩,λ_ _ _ _ _ v hv=>by simp at hv;subst hv;exact .sl (A3 _) sm⟩
   .obtain rfl:fuel=n:=om;have each:∀i,i<len->∃(vs:List V)(aa:ail),lp P e vs/\bM (cy w (ik w)) vs aa/\aa.length=P.cellsOf e/\(∀j,j<P.cellsOf e->w.cell? ((a.add (i*P.cellsOf e)).add j)=aa[j]?)/\∃d∈elems.map (·.1),JB d vs:=by intro i hi;have h1:=a6 i hi;rw[A0 om]at h1;cases hc:w.cells? base (a.add (i*P.cellsOf e)) (P.cellsOf e)with |none=>rw[hc]at h1;cases h1|some aa=>rw[hc]at h1;obtain⟨_,ag,ab⟩:=World.cells?_some hc;obtain⟨vs,hs,hr,aj⟩:=Mg hT fuel e aa _ he h1;grind
    rcases Nat.eq_zero_or_pos len with rfl|a7;.exact⟨[.sl .ro []],.sl hu (A3 _) .nil,⟨.jk _ _ _ (λq=>by cases q) (λ_=>sm),tV⟩,λ_ _ _ _ _ v hv=>by simp at hv;subst hv;exact .sl (A3 _) sm⟩
    .obtain⟨b,o,spot⟩:=a;have ah:spot=none:=by obtain⟨vs,aa,_,_,ag,ab,_⟩:=each 0 a7;have h0:=ab 0 ae;rw[A0 om]at h0;simp only[Cz,Addr.add,ai0]at h0;cases spot with|none=>rfl|some _=>grind[World.cell?]
     subst ah;have aG:∀i j,((⟨b,o,none⟩:Addr).add (i*P.cellsOf e)).add j=⟨b,o+i*P.cellsOf e+j,none⟩:=by intro i j;rw[wP,wP]
     have key:∀m,m<=len->∃rows:List (List V),rows.length=m/\kV P e rows/\(∀r∈rows,r.length=P.cellsOf e)/\(∀r∈rows,∃d∈elems.map (·.1),JB d r)/\∀i j(hi:i<rows.length)(hj:j<rows[i].length),∃x,w.cell? ⟨b,o+(len-m+i)*P.cellsOf e+j,none⟩=some x/\cy w (ik w) (rows[i][j]) x:=by intro m;induction m with |zero=>exactλ_=>⟨[],rfl,.nil,λ_ q=>by simp at q,λ_ q=>by simp at q,λi j hi=>by simp at hi⟩|succ m ih=>
       intro hm;obtain⟨rows,h1,h2,h3,ai,h4⟩:=ih om;obtain⟨vs,aa,hs,hr,ag,ab,aj⟩:=each (len-(m+1)) om;refine⟨vs::rows,by simp[h1],.cons hs h2,λr ad=>?_,λr ad=>?_,λi j hi hj=>?_⟩
       .rcases Ag.1 ad with rfl|ad;.rw[hr.length,ag]
        grind
       .rcases Ag.1 ad with rfl|ad;.exact aj
        .exact ai r ad
       .cases i with |zero=>simp only[List.getElem_cons_zero]at hj⊢;obtain⟨x,hx,ak⟩:=hr.get j _ (A0 hj);grind|succ i=>simp only[List.getElem_cons_succ]at hj⊢;obtain⟨x,hx,ak⟩:=h4 i j (sU hi) hj;refine⟨x,?_,ak⟩;grind
     obtain⟨rows,h1,h2,h3,ai,h4⟩:=key len (A6 _);have al:len-len=0:=om;rw[al]at h4;simp only[Ab]at h4;subst h1;refine⟨[.sl .ro rows],.sl hu om h2,⟨?_,tV⟩,λB BA hB M hM v hv=>by simp at hv;subst hv;rw[af]at hM;have q1:=hB.sl (elems.map (·.1)) (rest.map (·.1));have q2:=hB.len (elems.map (·.1));rw[Bq]at q2;simp only at hM;refine .sl om λr hr v hv=>?_;obtain⟨d,hd,a8⟩:=ai r hr;have q3:=hB.mem _ _ hd;exact a8 B BA hB M om v hv⟩;let c:Nat->Nat->Value:=λi j=>(w.cell? ⟨b,o+i*P.cellsOf e+j,none⟩).getD undef;refine .sl .ro rows (P.cellsOf e) b o cap c (λ_=>sm) ae h3 ?_ hl (λq=>by cases q) (λi j hi hj=>?_) (λi j hi hj=>?_)
     .obtain⟨x,hx,_⟩:=h4 (rows.length-1) (P.cellsOf e-1) om (by rw[h3 _ (A7 _)];omega);have aH:=QC hx;have h5:(rows.length-1)*P.cellsOf e+P.cellsOf e=rows.length*P.cellsOf e:=by rw[<-Nat.succ_mul];congr 1;omega
      omega
     all_goals grind
  .rename_i fs hu;simp only[A8,Cj,List.contains_iff_mem]at hk;obtain⟨an,ao⟩:=hk;obtain⟨xs,n,a1,af,hlen,aA,aq⟩:=DataW.trod_struct hu h;obtain rfl:fuel=n:=om;have key:∀(l:List Field)(pre:List Field)(off:Nat),fs.toList=pre++l->AM P off l (P.cellsOf t)=true->off<=cs.length->∃vs,ki P (l.map (·.type)) vs/\bM (cy w (ik w)) vs (cs.drop off)/\JB (.agg (xs.map (·.1))) vs:=by intro l;induction l with |nil=>intro pre off _ hr _;unfold AM at hr;have:off=P.cellsOf t:=sU hr;refine⟨[],.nil,?_,λ_ _ _ _ _ v hv=>by simp at hv⟩;rw[A4 om];trivial|cons f l ih=>
     intro pre off ar hr hle;unfold AM at hr;simp only[A8,ahX]at hr;obtain⟨au,hr⟩:=hr;have hf:fs[pre.length]?=some f:=by
      have:fs.toList[pre.length]?=some f:=by rw[ar];simp
      simpa using this
     have hx:=aq pre.length f hf;have av:pre.length<xs.length:=by rw[aA];exact(Cl.1 hf).1
     rw[A0 av,au]at hx;obtain⟨aB,aw,ax,ay⟩:=Mg hT fuel f.type _ _ (an f (Array.mem_of_getElem? hf)) hx;have az:off+P.cellsOf f.type<=cs.length:=by
      rw[hlen];clear ih hx aq aw ax ay;revert hr;generalize off+P.cellsOf f.type=o2;intro hr;have:∀(l:List Field)(o:Nat),AM P o l (P.cellsOf t)=true->o<=P.cellsOf t:=by intro l;induction l<;>grind[AM]
      grind
     obtain⟨aC,aD,aE,aF⟩:=ih (pre++[f]) (off+P.cellsOf f.type) (by rw[ar];simp) hr az;refine⟨aB++aC,.cons aw aD,?_,λB BA hB M hM v hv=>by
      rcases Ak.1 hv with hv|hv;.have q1:=hB.agg (xs.map (·.1));have q2:=hB.mem (xs[pre.length]'av).1 (xs.map (·.1)) (Aa.2 ⟨_,A7 _,rfl⟩);exact ay B BA hB M om v hv
      .exact aF B BA hB M hM v hv⟩;have e:cs.drop off=(cs.drop off).take (P.cellsOf f.type)++cs.drop (off+P.cellsOf f.type):=by rw[<-Do];exact(Bt _ _).symm
     rw[e];exact ax.append aE
   obtain⟨vs,h1,h2,h3⟩:=key fs.toList [] 0 rfl ao (A3 _);exact⟨vs,.struct hu h1,by simpa using h2,by rw[af];exact h3⟩
  grind
def uL(P:Program)(t:TypeId)(vs:List V):V:=match P.underlying t with|some (.struct _)=>.agg vs|_=>vs.headD .u
inductive km(P:Program):List TypeId->List V->Prop|nil:km P [] []|cons{t:TypeId}{ts:List TypeId}{vs:List V}{xs:List V}:lp P t vs->km P ts xs->km P (t::ts) (uL P t vs::xs)
theorem Yr{W:World}{r:Reach}{b:Nat}{t:TypeId}{v:Value}{T:List TypeId}(hT:kj P T)(ht:t∈T)(h:Value.okWide P W r b t v):(∃fs cs,P.underlying t=some (.struct fs)/\v=.agg cs)\/((∀fs,P.underlying t≠some (.struct fs))/\v.oneCell'=true):=by
 have hk:=QD hT ht;split at hk;.rename_i hu;refine .inr ⟨(by grind),?_⟩;cases v<;>simp[Value.okWide,hu,Cell.okWide,Cell.ok]at h<;>rfl
 .rename_i k hu;refine .inr ⟨(by grind),?_⟩;cases v<;>simp[Value.okWide,hu,Cell.okWide,Cell.ok]at h<;>rfl
 .rename_i hu;refine .inr ⟨(by grind),?_⟩;cases v<;>simp[Value.okWide,hu,Cell.okWide,Cell.ok]at h<;>rfl
 .rename_i e hu;refine .inr ⟨(by grind),?_⟩;cases v<;>simp[Value.okWide,hu,Cell.okWide,Cell.ok]at h<;>rfl
 .rename_i fs hu;refine .inl ⟨fs,?_⟩;simp only[Value.okWide,hu]at h;grind
 grind
theorem QE{T:List TypeId}(hT:kj P T):∀(ts:List TypeId)(aa:ail)(ds:List (DataW H))(ps:List MemPlace),(∀t∈ts,t∈T)->(∀(j:Nat) t v,ts[j]?=some t->aa[j]?=some v->Value.okWide P w .any base t v)->DataW.TrodAll enc P w 0 spare held ts aa ds ps->∃xs,km P ts xs/\bM (dj w (ik w) [] []) xs aa/\∀(B:DataW H->Nat)(BA:List (DataW H)->Nat),pb B BA->∀M,(∀d∈ds,B d<=M)->∀v∈xs,Sm M v
 |[],[],_,_,_,_,_=>⟨[],.nil,tV,sm⟩|t::ts,v::aa,ds,ps,hm,cK,h=>by
  obtain⟨v',gP,d,ae,p,q,hv,rfl,rfl,h1,h2⟩:=ChangeShapes.trodAll_cons h;cases hv;obtain⟨xs,af,ag,ai⟩:=QE hT ts aa ae q (by grind) (λj t' v' h1 h2=>cK (j+1) t' v' (by grind) (by grind)) h2;obtain⟨fuel,hf⟩:=h1;obtain⟨vs,hs,hr,ah⟩:=Mg hT fuel t _ _ (by grind) hf;suffices tq:dj w (ik w) [] [] (uL P t vs) v/\∀M,(∀v∈vs,Sm M v)->Sm M (uL P t vs)from⟨uL P t vs::xs,.cons hs af,⟨tq.1,ag⟩,λB BA hB M hM v' ab=>by
    rcases Ag.1 ab with rfl|ab;.exact tq.2 M λv hv=>ah B BA hB M (by grind) v hv
    grind⟩;rcases Yr hT (by grind) (cK 0 t v rfl rfl)with⟨fs,cs,hu,rfl⟩|⟨aj,ad⟩;.unfold uL;rw[hu];exact⟨⟨cs.toList,sm,hr.imp (by grind[cU.de])⟩,λM hM=>.agg hM⟩
  .rw[Gy ad]at hr;have:uL P t vs=vs.headD .u:=by unfold uL;simp
   rw[this];cases vs with |nil=>trivial|cons x vs=>exact⟨dj.dv (cU.de hr.1),(by grind)⟩
 |[],_::_,_,_,_,_,h=>by trivial|_::_,[],ds,_,_,_,h=>by trivial
theorem Mh{w':World}{Mi:Nat->Bool}(hl:laidOutB P):∀(ts:List TypeId)(aa:ail)(ds:List (DataW H))(ps:List MemPlace),(∀t∈ts,P.readableRec t=true/\t<P.types.size)->DataW.TrodAll enc P w 0 (λ_=>true) true ts aa ds ps->(∀x∈ps,w.sameAt w' x)->(∀x∈ps,Mi x.block=true)->DataW.TrodAll enc P w' 0 Mi true ts aa ds ps
 |[],_,_,_,_,h,_,_=>by obtain⟨rfl,rfl,rfl⟩:=ChangeShapes.trodAll_nil h;rfl|t::ts,aa,ds,ps,hr,h,hs,hp=>by obtain⟨v,gP,d,ab,p,q,rfl,rfl,rfl,h1,h2⟩:=ChangeShapes.trodAll_cons h;exact⟨p,q,(by grind[WideElems.Trod_stays]),(by simp_all[Mh]),rfl⟩
theorem Ys(w:World)(ht:gZ w (ik w)):Mem (entry w (ik w) [] []) w (ik w) [] []:=⟨rfl,sm,sm,sm,λb hb hx=>(by trivial),Le.refl _ _,A6 _,rfl,rfl,rfl,A6 _,(by grind[ik]),Ext.refl _ _,ht⟩
theorem Yt{f:FuncId}{fn:Func}{s:ChangeSpec}{apart fresh handsOn again:Bool}(T ts:List TypeId)(tb:TypeId)(au:fn.params=ts.toArray)(ag:fn.resultTypes=#[tb])(hb:P.underlying tb=some .bool)(hT:kj P T)(av:ts.all (T.contains ·))(aw:ts.all (λt=>P.readableRec t&&decide (t<P.types.size)))(hl:laidOutB P)(aa:s.vars=[])(ax:∀(H:Type)(ds:List (DataW H)),ds.length=ts.length->s.fn H ds={results:=[.lit (.bool true)],args:=ds})(al:List V->Prop)(hw:∀xs,km P ts xs->al xs->bL P f xs [] λr _=>r=.bool true)(H:Type)(enc:TypeId×Value->H)(W:World)(base:Nat)(args:ain)(ds gs:List (DataW H))(before:List MemPlace)(az:∀(j:Nat) t v,fn.params[j]?=some t->args[j]?=some v->Value.okWide P W .any base t v)(hW:DataW.Whole enc P fn.params.toList s.vars apart W args.toList ds gs before)(ah:gZ W (ik W))(fq:∀xs,(∀(B:DataW H->Nat)(BA:List (DataW H)->Nat),pb B BA->∀M,(∀d∈ds++gs,B d<=M)->∀v∈xs,Sm M v)->al xs):Calls P f args W λe W'=>∃v,e=.returned v/\s.post enc P fn apart fresh handsOn again W args v W':=by
 have ai:=hW;obtain⟨p,q,hA,hV,rfl,an,ao⟩:=hW;rw[aa]at hV;obtain⟨rfl,rfl⟩:=ChangeShapes.trodVars_none hV;have aj:fn.params.toList=ts:=by rw[au]
 rw[aj]at hA;rw[Aj]at av aw;obtain⟨xs,hx,hr,a1⟩:=QE (base:=base) hT ts args.toList ds p (by grind) (by grind) hA;have hlen:ds.length=ts.length:=by
  have:∀(ts:List TypeId)(ad:ail)(ds:List (DataW H))(p:List MemPlace),DataW.TrodAll enc P W 0 (λ_=>true) true ts ad ds p->ds.length=ts.length:=by intro ts;induction ts with |nil=>intro ad ds p h;obtain⟨_,rfl,_⟩:=ChangeShapes.trodAll_nil h;rfl|cons t ts ih=>intro ad ds p h;obtain⟨_,_,_,a6,_,_,_,rfl,_,_,h2⟩:=ChangeShapes.trodAll_cons h;grind
  grind
 have ae:=hw xs hx (by grind) W (ik W) [] args.toList (Ys W ah) hr;have aq:args.toList.toArray=args:=sm;rw[aq]at ae;refine ae.mono ?_;rintro e W' ⟨v,r,L',U',I',rfl,rfl,_,hm,ar⟩;have ay:v=.bool true:=pU ar;subst ay;have ab:RowKit.Below W.heap.size W W':=⟨hm.os,hm.tape,hm.output,hm.size,λk hk=>(hm.same k hk (by simp[entry,uz])).1⟩;have af:=ai.lt;simp only[Ay]at af ai an ao;have ak:s.fn H ds={results:=[.lit (.bool true)],args:=ds}:=(by grind);refine⟨_,rfl,ds,[],p,[],p,[],ai,?_,?_,?_,?_,λ_=>⟨?_,?_⟩⟩;.rw[Ay,ak,ag];exact ChangeShapes.trodAll_mk1 (RowKit.shut_bool hb _)
 .rw[Ay,ak,aj];exact Mh hl ts _ _ _ (by grind) hA (λx hx=>ab.same (af x hx)) (by grind)
 .rw[Ay,ak,aa];rfl
 .exact ab.frame _
 .exact RowKit.ok_one ag rfl (RowKit.okWide_bool_mk hb _)
 .rw[aj,ag];refine⟨[.lit (.bool true)]++ds,[],p,⟨[]++p,[],ChangeShapes.trodAll_append (Mh (Mi:=λ_=>true) hl ts _ _ _ (by grind) hA (λx hx=>ab.same (af x hx)) sm) ?_,by rw[aa];rfl,sm,?_,ao⟩,(by grind)⟩;.exact ChangeShapes.trodAll_mk1 (RowKit.shut_bool hb _)
  .intro b off hp;rw[ab.frozen (p:=⟨b,off,none⟩) (af _ hp)];exact an b off hp
theorem Yu{f:FuncId}{fn:Func}{s:ChangeSpec}{apart fresh handsOn again:Bool}(T ts:List TypeId)(tb:TypeId)(af:fn.params=ts.toArray)(ag:fn.resultTypes=#[tb])(hb:P.underlying tb=some .bool)(hT:kj P T)(ah:ts.all (T.contains ·))(ai:ts.all (λt=>P.readableRec t&&decide (t<P.types.size)))(hl:laidOutB P)(aa:s.vars=[])(ab:∀(H:Type)(ds:List (DataW H)),ds.length=ts.length->s.fn H ds={results:=[.lit (.bool true)],args:=ds})(hw:∀xs,km P ts xs->bL P f xs [] λr _=>r=.bool true)(H:Type)(enc:TypeId×Value->H)(W:World)(base:Nat)(args:ain)(ds gs:List (DataW H))(before:List MemPlace)(ae:∀(j:Nat) t v,fn.params[j]?=some t->args[j]?=some v->Value.okWide P W .any base t v)(hW:DataW.Whole enc P fn.params.toList s.vars apart W args.toList ds gs before)(ad:gZ W (ik W)):Calls P f args W λe W'=>∃v,e=.returned v/\s.post enc P fn apart fresh handsOn again W args v W':=Yt T ts tb af ag hb hT ah ai hl aa ab (λ_=>True) (by grind) H enc W base args ds gs before ae hW ad sm
variable {t:TypeId} {vs:List V}
theorem km.cons_inv{ts:List TypeId}{xs:List V}(h:km P (t::ts) xs):∃vs aa,xs=uL P t vs::aa/\lp P t vs/\km P ts aa:=by cases h<;>grind
theorem km.mG{xs:List V}(h:km P [] xs):xs=[]:=by cases h;rfl
theorem lp.kH{k:IntKind}(hu:P.underlying t=some (.int k))(h:lp P t vs):∃n,vs=[.int k n]/\(Lit.int k n).wf=true:=by cases h<;>grind
theorem lp.vY(hu:P.underlying t=some .string)(h:lp P t vs):∃s,vs=[.str s]/\s.length<=maxLen:=by cases h<;>grind
theorem lp.tu{e:TypeId}(hu:P.underlying t=some (.slice e))(h:lp P t vs):∃rows,vs=[.sl .ro rows]/\rows.length<=maxLen/\kV P e rows:=by cases h<;>grind
theorem lp.pc{fs:Array Field}(hu:P.underlying t=some (.struct fs))(h:lp P t vs):ki P (fs.toList.map (·.type)) vs:=by cases h<;>grind
theorem ki.cons_inv{ts:List TypeId}(h:ki P (t::ts) vs):∃a b,vs=a++b/\lp P t a/\ki P ts b:=by cases h<;>grind
theorem ki.mG(h:ki P [] vs):vs=[]:=by cases h;rfl
theorem kV.mH{J:Type}{f:J->List V}{ok:J->Prop}(h:∀r,lp P t r->∃x,r=f x/\ok x):∀{rows:List (List V)},kV P t rows->∃xs:List J,rows=xs.map f/\∀x∈xs,ok x
 |[],_=>sm|r::rows,hr=>by cases hr with|cons h1 h2=>obtain⟨x,rfl,hx⟩:=h r h1;obtain⟨xs,rfl,aa⟩:=kV.mH h h2;exact⟨x::xs,rfl,(by grind)⟩
theorem QF{v:V}(h:(match P.underlying t with|some (.struct _)=>false|_=>true)):uL P t [v]=v:=by unfold uL;grind
theorem JC{n:Int}(h:(Lit.int .i64 n).wf):-9223372036854775808<=n/\n<=9223372036854775807:=by grind[Lit.wf,IntKind.min,IntKind.max,IntKind.signed,IntKind.bits]
end
variable{ρ:Nat->Nat}{U:St}{f:FuncId}{P:Program}{c:Ctx}{bY:List V}{cc:List V}{KV:V->St->Prop}
theorem Yv{j:Nat}(h:j<=9223372036854775807):IntKind.i64.wrap (j:Int)=j:=(by grind[IntWalk.i64_in])
theorem bR{n:Int}(h:-9223372036854775808<=n)(h2:n<=9223372036854775807):IntKind.i64.wrap n=n:=(by grind[IntWalk.i64_in])
theorem cC{n:Int}(h:0<=n)(h2:n<=18446744073709551615):IntKind.u64.wrap n=n:=by grind[IntKind.wrap,IntKind.bits,IntKind.signed]
@[go_sem]theorem JD(n:Nat)(h:n<=9223372036854775807):IntKind.i64.wrap (no_index(OfNat.ofNat n))=OfNat.ofNat n:=by rw[show(OfNat.ofNat n:Int)=((n:Nat):Int)from rfl];grind[Yv]
@[go_sem]theorem Hc:IntKind.i64.wrap 0=0:=by rfl
@[go_sem]theorem Hd:IntKind.i64.wrap 1=1:=by rfl
theorem zR{i n:Nat}(h:i<n)(hn:n<=9223372036854775807):IntKind.i64.wrap ((i:Int)+1)=((i+1:Nat):Int):=by rw[IntWalk.i64_in _ om];rfl
theorem vZ{J:Type}{f:J->List V}{s:Nat}{l:List J}(h:∀x,(f x).length=s):eM s (l.map f):=λr hr=>by grind
theorem zT{s:Nat}{r:List V}(h:r.length=s):eM s [r]:=λx hx=>by grind
theorem wC(k:Nat){n0:Nat}{R:V->St->Prop}{s:St}{v r:V}(hs:U.take k=s)(hl:s.length=k)(cK:s.all (bO k))(hn:n0<=k)(hr:cR (cO (List.range k) U.length) r v)(hR:R r s):bW (some v) n0 R U:=by grind[qI]
def dq(n:Int):Prop:=-9223372036854775808<=n/\n<=9223372036854775807
instance(n:Int):Decidable (dq n):=inferInstanceAs(Decidable (_/\_))
@[go_sem]def yG(n:Int):List V:=[.int .i64 n]
theorem yJ{gP vs:List V}(h:bM (qB ρ) gP vs):cR ρ (.cm gP) (.cm vs):=.inr (by grind)
theorem lJ{g:Tag}{rows:List (List V)}:qB ρ (.sl .ro rows) (.sl g rows):=.inr sm
theorem xJ{v:V}(h:vT v):qB ρ v v:=.inl (L4 h).symm
theorem yH{g:Tag}{rows:List (List V)}:oU ρ (.sl .ro rows) (.sl g rows):=.inr sm
theorem zU{v:V}(h:oZ v):oU ρ v v:=.inl (DA h).symm
theorem uM{aa cs:List V}(h:bM (oU ρ) aa cs):cR ρ (.agg aa) (.agg cs):=.inr (by grind)
theorem xS{aa cs:List V}(h:bM (oU ρ) aa cs):qB ρ (.agg aa) (.agg cs):=.inr (by grind)
theorem Yw{args:List V}{R:V->Prop}(hc:bL P f cc [] λr s=>R r/\s=[])(hb:wQ P f)(aa:bM (cR (cO [] U.length)) cc (args++bY))(hn:∀r,R r->iH r)(hk:∀r,R r->KV r U):jE P c (.fn f bY) args U KV fx:=by refine VC.of hc hb [] C5 rfl sm aa ?_;rintro r U' ⟨hR,rfl⟩_;grind[DB,wD,gr]
theorem QG{k:Nat}{s:St}(hk:k<=U.length)(hs:s.length=k)(cK:s.all (bO k)):wD (List.range k) U s=s++U.drop k:=by
 have e1:(s.take (List.range k).length).map (yO (cO (List.range k) U.length))=s:=by grind[wU,mF,tg]
 have e2:(s.drop (List.range k).length).map (yO (cO (List.range k) U.length))=[]:=by grind
 unfold wD;rw[e1,e2,Ay];apply Bs;intro i;by_cases hi:i<k;.rw[IT (List.range k) U s i i Bw (by grind) (by grind) (by grind),Be om]
 simp_all[uA,Bb]
theorem sf(k:Nat){args:List V}{gp:St}{R:V->St->Prop}(hc:bL P f cc gp R)(hb:wQ P f)(hk:U.take k=gp)(hl:gp.length=k)(cK:gp.all (bO k))(aa:bM (cR (cO (List.range k) U.length)) cc (args++bY))(hR:∀r s,R r s->s.length=k/\s.all (bO k)=true/\jZ k r)(hK:∀r s,R r s->KV r (s++U.drop k)):jE P c (.fn f bY) args U KV fx:=by
 have ab:k<=U.length:=by grind
 refine VC.of hc hb (List.range k) Bw (by grind) (λi j o h1 h2=>?_) aa λr s h _=>?_
 .obtain⟨h3,h4⟩:=A5.1 h1;simp at h3 h4;subst h4;have ho:bO k o:=by grind
  rw[mF (n:=k) (by grind[tg]) ho];grind
 grind[L5,tg,QG]
theorem pd(i:Nat){o:Ob}{args:List V}{R:V->St->Prop}(hc:bL P f cc [o] R)(hb:wQ P f)(ho:U[i]?=some o)(cK:bO 0 o)(aa:bM (cR (cO [i] U.length)) cc (args++bY))(hR:∀r s,R r s->∃o2,s=[o2]/\bO 0 o2)(hK:∀r o2,R r [o2]->KV (dG (cO [i] U.length) r) (U.set i o2)):jE P c (.fn f bY) args U KV fx:=by
 refine Yd hc hb ho cK aa λr s h _=>?_;obtain⟨o2,rfl,h2⟩:=hR r s h;have e:wD [i] U [o2]=U.set i o2:=by simp only[wD,Bm,C3,Df,Cx,Au,Ad,Bp,gr,Ay];rw[mF (n:=0) om h2]
 grind
theorem Yx {i N:Nat}:cO [i] N 0=i:=rfl
attribute [go_sem] dG dQ dz dE Yx
section
variable{ρ:Nat->Nat}(jn:∀i,ρ i=i)
include jn
theorem Yy(v:V):dE ρ v=v:=by cases v with|sl g rows=>cases g<;>simp[dE,jn]|_=>simp[dE,jn]
theorem QH(v:V):dz ρ v=v:=by have h:dE ρ=λv=>v:=funext (by grind[Yy]);cases v<;>grind[dz,Dy]
theorem QI(v:V):dQ ρ v=v:=by have h:dz ρ=λv=>v:=funext (by grind[QH]);cases v<;>grind[dQ,Dy]
theorem AN(v:V):dG ρ v=v:=by have h:dQ ρ=λv=>v:=funext (by grind[QI]);cases v<;>grind[dG,Dy]
theorem AO(o:Ob):yO ρ o=o:=by have h:dz ρ=λv=>v:=funext (by grind[QH]);cases o with |box cells=>grind[yO,Dy]|cj rows s=>simp_all[yO]|mp dD gk cM=>have h:dQ ρ=λv=>v:=funext (by grind[QI]);grind[yO,Dy]|it m since seen last=>cases m<;>simp[yO,jn]|_=>rfl
end
variable{U:St}{P:Program}{c:Ctx}{nt:Nat}{Q:QT}{e:Env}{y:Code}
theorem FG{f:FuncId}{bY args cc:List V}{KV:V->St->Prop}{R:V->St->Prop}(hc:bL P f cc [] R)(hb:wQ P f)(aa:bM (cR (cO [] 0)) cc (args++bY))(hK:∀r s,R r s->KV r s):jE P c (.fn f bY) args [] KV fx:=by
 have hid:∀i,cO [] 0 i=i:=(by grind[cO]);refine VC.of hc hb [] C5 rfl sm aa λr s h _=>?_;have e:wD [] [] s=s:=by have h2:yO (cO [] 0)=λo=>o:=funext (by grind[AO]);simp_all[wD,gr]
 show KV (dG (cO [] 0) r) (wD [] [] s);grind[AN]
theorem zW{id:Nat}{ops:List Oper}(q:List (Nat×Nat))(n0:Nat)(hn:n0<=U.length)(hm:P.follows .mixedOrders)(hd:(uH ops q&&rX ops))(h:rZ P c nt (Kp.pre n0) ops q 0 ops (Q .normal) fx fx fx e U):ga P c nt (.region id ops.toArray true) Q fx fx e U:=by simp only[A8]at hd;obtain⟨tr,ht,hK⟩:=DF ops 0 (Q .normal) e U h;exact VW.draw (n0:=Kp.pre n0) hm hn hd.1 hd.2 ht hK
theorem pY{id:Nat}{ops:List Oper}(q:List (Nat×Nat))(x n0:Nat)(hn:n0<=U.length)(hm:P.follows .mixedOrders)(hd:(uH ops q&&rX ops))(h:rZ P c nt (Kp.mk x n0 [] none) ops q 0 ops (Q .normal) fx fx fx e U):ga P c nt (.region id ops.toArray true) Q fx fx e U:=by simp only[A8]at hd;obtain⟨tr,ht,hK⟩:=DF ops 0 (Q .normal) e U h;exact VW.draw (n0:=Kp.mk x n0 [] none) hm hn hd.1 hd.2 ht hK
theorem wL(t s:Nat)(h0:0<s)(ht:e t=.sl .full [])(hy:ga P c nt y Q fx fx (fe e t (.sl (.app U.length) [])) (U++[.app 0 s])):ga P c nt y Q fx fx e U:=by
 intro a w L I hs;have hr:=hs.env t;rw[ht]at hr;obtain⟨ad,hx⟩:∃ad,a.tmps.getD t undef=.slice ad 0 0:=by have hr:cy w L (.sl .full []) (a.tmps.getD t undef):=hr;generalize a.tmps.getD t undef=x at hr;cases hr<;>simp_all
 have aa:=Ext.push U I hs.mem.len (.app 0 s) (.slice ad 0 0);refine hy a w L (I++[.slice ad 0 0]) ⟨hs.mem.own h0,hs.size,hs.defs,λk=>?_⟩;simp only[fe];split;.rename_i hk;subst hk;rw[hx];exact⟨.jk .ro ad 0 om sm,0,s,sm,sm,λ_=>by rw[<-hs.mem.len];simp,sm⟩
 .exact(hs.env k).mono (Le.refl _ _) aa
theorem DK(id off s:Nat)(cells:List V)(h0:0<s)(cD:U[id]?=some (.box cells))(hc:cells[off]?=some (.sl .full []))(hy:ga P c nt y Q fx fx e (U.set id (.box (cells.set off (.sl (.app U.length) [])))++[.app 0 s])):ga P c nt y Q fx fx e U:=by intro a w L I hs;obtain⟨x,h1,h2⟩:=XZ hs.mem h0 cD hc;exact hy a w L (I++[x]) ⟨h1,hs.size,hs.defs,λk=>(hs.env k).mono (Le.refl _ _) h2⟩
theorem FH(t s:Nat)(h0:0<s)(ht:e t=.sl .full [])(hy:ga P c nt y Q fx fx (fe e t (.cL U.length s 0 0 0)) (U++[.cj [] s])):ga P c nt y Q fx fx e U:=by
 intro a w L I hs;have hr:=hs.env t;rw[ht]at hr;obtain⟨ad,hx⟩:∃ad,a.tmps.getD t undef=.slice ad 0 0:=by have hr:cy w L (.sl .full []) (a.tmps.getD t undef):=hr;generalize a.tmps.getD t undef=x at hr;cases hr<;>simp_all
 have aa:=Ext.push U I hs.mem.len (.cj [] s) (.slice ad 0 0);refine hy a w L (I++[.slice ad 0 0]) ⟨hs.mem.mw h0,hs.size,hs.defs,λk=>?_⟩;simp only[fe];split;.rename_i hk;subst hk;rw[hx];exact GJ (w':=w) (L':=L) (s:=s) (rows:=[]) (cap:=0) (a0:=ad) hs.mem.len sm om
 .exact(hs.env k).mono (Le.refl _ _) aa
theorem Yz{s:St}(h:U.length<=s.length):wD (List.range U.length) U s=s:=by
 have ra:∀i,cO (List.range U.length) U.length i=i:=(by grind[tg,rU]);have hid:yO (cO (List.range U.length) U.length)=λo=>o:=funext (by grind[AO]);apply Bs;intro i;by_cases hi:i<s.length;.have:=EU (cS:=List.range U.length) (Uc:=U) (U':=s) Bw (λq hq=>D4.1 hq) (sU h) (A0 hi);grind
 grind[Jy]
theorem He{f:FuncId}{bY args:List V}{KV:V->St->Prop}{R:V->St->Prop}(hc:bL P f (args++bY) U R)(hb:wQ P f)(hk:∀r s,R r s->U.length<=s.length->KV r s):jE P c (.fn f bY) args U KV fx:=by
 have ra:∀i,cO (List.range U.length) U.length i=i:=(by grind[tg,rU]);refine VC.of hc hb (List.range U.length) Bw sm (λi j o hi ho=>?_) ?_ ?_;.grind[AO]
 .have:∀l:List V,bM (cR (cO (List.range U.length) U.length)) l l:=by intro l;induction l with |nil=>trivial|cons a l ih=>exact⟨.inl (AN ra a).symm,ih⟩
  grind
 grind[AN,Yz]
theorem Mj{n0:Nat}{R:V->St->Prop}{r:V}(hn:n0<=U.length)(hR:R r U):bW (some r) n0 R U:=by have ra:∀i,cO (List.range U.length) U.length i=i:=(by grind[tg,rU]);refine⟨r,rfl,r,U,List.range U.length,U,r,.refl _ _,⟨sm,Bw,λi j o hi ho=>?_,(by grind)⟩,.inl (AN ra r).symm,hR⟩;grind[AO]
end Go.Vx
namespace Go.Proofs.YtefbicjgbaaieaaGreat
open Go Go.Vx Go.Proofs.Tryz
@[go_sem]theorem QJ:eT prog 2=some 1/\eT prog 3=some 1/\eT prog 4=some 1/\eT prog 5=some 1/\eT prog 9=some 1/\eT prog 25=some 1/\eT prog 29=some 1/\eT prog 30=some 1/\eT prog 32=some 3/\eT prog 36=some 1/\eT prog 38=some 3/\eT prog 41=some 1/\eT prog 50=some 2/\eT prog 52=some 2/\eT prog 53=some 1/\eT prog 57=some 3:=by and_intros<;>kernel_rfl
@[go_sem]theorem QK:eT prog 58=some 1/\eT prog 60=some 2/\eT prog 61=some 1/\eT prog 63=some 3/\eT prog 65=some 1/\eT prog 66=some 1/\eT prog 68=some 2/\eT prog 74=some 1/\eT prog 75=some 1/\eT prog 76=some 1/\eT prog 77=some 1/\eT prog 79=some 6/\eT prog 81=some 15/\eT prog 97=some 1/\eT prog 117=some 4/\eT prog 120=some 7:=by and_intros<;>kernel_rfl
@[go_sem]theorem QL:eT prog 122=some 7/\eT prog 124=some 1/\eT prog 125=some 1/\eT prog 137=some 1/\eT prog 141=some 11/\eT prog 169=some 1/\eT prog 180=some 4/\eT prog 188=some 3/\eT prog 191=some 2/\eT prog 195=some 1/\eT prog 200=some 3/\eT prog 239=some 3/\eT prog 310=some 2:=by and_intros<;>kernel_rfl
@[go_sem]theorem Mk:cQ prog 2=some false/\cQ prog 3=some false/\cQ prog 4=some false/\cQ prog 5=some false/\cQ prog 9=some false/\cQ prog 25=some false/\cQ prog 29=some false/\cQ prog 30=some false/\cQ prog 32=some true/\cQ prog 36=some false/\cQ prog 38=some true/\cQ prog 41=some false/\cQ prog 50=some true/\cQ prog 52=some true/\cQ prog 53=some false/\cQ prog 57=some true:=by and_intros<;>kernel_rfl
@[go_sem]theorem Ml:cQ prog 58=some false/\cQ prog 60=some true/\cQ prog 61=some false/\cQ prog 63=some true/\cQ prog 65=some false/\cQ prog 66=some false/\cQ prog 68=some true/\cQ prog 74=some false/\cQ prog 75=some false/\cQ prog 76=some false/\cQ prog 77=some false/\cQ prog 79=some true/\cQ prog 81=some true/\cQ prog 97=some false/\cQ prog 117=some true/\cQ prog 120=some true:=by and_intros<;>kernel_rfl
@[go_sem]theorem Mm:cQ prog 122=some true/\cQ prog 124=some false/\cQ prog 125=some false/\cQ prog 137=some false/\cQ prog 141=some true/\cQ prog 169=some false/\cQ prog 180=some true/\cQ prog 188=some true/\cQ prog 191=some true/\cQ prog 195=some false/\cQ prog 200=some true/\cQ prog 239=some true/\cQ prog 310=some true:=by and_intros<;>kernel_rfl
@[go_sem]theorem QM:ka prog 2=0/\ka prog 3=0/\ka prog 4=1/\ka prog 5=0/\ka prog 9=0/\ka prog 29=0/\ka prog 57=0/\ka prog 61=3/\ka prog 63=0/\ka prog 134=0/\ka prog 261=0:=by and_intros<;>kernel_rfl
@[go_sem]theorem QN:nv prog 2=none/\nv prog 3=none/\nv prog 4=none/\nv prog 5=none/\nv prog 9=none/\nv prog 29=none/\nv prog 57=some [.s,.b,.s]/\nv prog 61=none/\nv prog 63=some [.i .i64,.i .i64,.s]/\nv prog 134=none/\nv prog 261=none:=by and_intros<;>kernel_rfl
@[go_sem]theorem QO:jI prog 2=some (.int .i64)/\jI prog 3=some (.int .i64)/\jI prog 5=some (.int .u8)/\jI prog 9=some .str/\jI prog 133=some .bytes/\jI prog 134=some (.int .u64)/\jI prog 261=some (.int .u64):=by and_intros<;>kernel_rfl
@[go_sem]theorem JE:gK prog 3=some [.int .i64 0]/\gK prog 28=some [.sl .full [],.sl .full [],.sl .full [],.sl .full [],.sl .full [],.sl .full [],.sl .full [],.sl .full []]/\gK prog 32=some [.int .i64 0,.int .i64 0,.sl .full []]/\gK prog 38=some [.int .i64 0,.int .i64 0,.sl .full []]/\gK prog 50=some [.int .i64 0,.sl .full []]/\gK prog 52=some [.str [],.str []]/\gK prog 55=some [.int .i64 0,.sl .full []]/\gK prog 57=some [.str [],.bool false,.str []]/\gK prog 60=some [.sl .full [],.int .i64 0]/\gK prog 63=some [.int .i64 0,.int .i64 0,.str []]/\gK prog 68=some [.sl .full [],.sl .full []]/\gK prog 79=some [.int .i64 0,.str [],.int .i64 0,.int .i64 0,.str [],.sl .full []]/\gK prog 81=some [.int .i64 0,.str [],.sl .full [],.sl .full [],.sl .full [],.bool false,.int .i64 0,.str [],.int .i64 0,.int .i64 0,.str [],.sl .full [],.str [],.bool false,.int .i64 0]/\gK prog 120=some [.int .i64 0,.int .i64 0,.str [],.int .i64 0,.int .i64 0,.str [],.sl .full []]/\gK prog 122=some [.str [],.int .i64 0,.str [],.int .i64 0,.int .i64 0,.str [],.sl .full []]/\gK prog 127=some [.sl .full [],.sl .full [],.raw (.map none),.raw (.map none),.raw (.map none)]:=by and_intros<;>kernel_rfl
@[go_sem]theorem JF:gK prog 141=some [.str [],.sl .full [],.int .i64 0,.int .i64 0,.int .i64 0,.sl .full [],.sl .full [],.sl .full [],.int .i64 0,.int .i64 0,.int .i64 0]/\gK prog 158=some [.int .i64 0,.sl .full []]/\gK prog 168=some [.int .i64 0,.sl .full []]/\gK prog 174=some [.sl .full [],.int .i64 0,.int .i64 0,.int .i64 0,.int .i64 0]/\gK prog 180=some [.int .i64 0,.int .i64 0,.str [],.int .i64 0]/\gK prog 191=some [.int .i64 0,.str []]/\gK prog 200=some [.int .i64 0,.str [],.sl .full []]/\gK prog 239=some [.int .i64 0,.str [],.sl .full []]/\gK prog 310=some [.raw .nilFunc,.raw .nilFunc]/\gK prog 334=some [.str [],.str [],.int .i64 0,.int .i64 0,.str []]:=by and_intros<;>kernel_rfl
@[go_sem]theorem Mn:du prog 9=1/\du prog 22=2/\du prog 25=2/\du prog 30=2/\du prog 33=2/\du prog 36=2/\du prog 41=2/\du prog 42=2/\du prog 53=2/\du prog 58=2/\du prog 61=2/\du prog 65=2/\du prog 66=2/\du prog 74=2/\du prog 75=2/\du prog 76=2:=by and_intros<;>kernel_rfl
@[go_sem]theorem Mo:du prog 77=2/\du prog 97=2/\du prog 107=2/\du prog 111=2/\du prog 133=2/\du prog 137=2/\du prog 160=2/\du prog 164=2/\du prog 169=2/\du prog 195=2/\du prog 201=2/\du prog 331=2:=by and_intros<;>kernel_rfl
@[go_sem] theorem Mq:qo prog 9=true:=kR
@[go_sem]theorem Mr:eQ prog 22=some 1/\eQ prog 25=some 2/\eQ prog 30=some 2/\eQ prog 33=some 2/\eQ prog 36=some 15/\eQ prog 41=some 4/\eQ prog 42=some 2/\eQ prog 53=some 3/\eQ prog 58=some 1/\eQ prog 61=some 3/\eQ prog 65=some 1/\eQ prog 66=some 11/\eQ prog 74=some 7/\eQ prog 75=some 1/\eQ prog 76=some 7/\eQ prog 77=some 6:=by and_intros<;>kernel_rfl
@[go_sem]theorem Ms:eQ prog 97=some 1/\eQ prog 107=some 2/\eQ prog 111=some 2/\eQ prog 133=some 1/\eQ prog 137=some 3/\eQ prog 160=some 3/\eQ prog 169=some 4/\eQ prog 195=some 3/\eQ prog 201=some 2/\eQ prog 217=some 1/\eQ prog 331=some 5/\eQ prog 378=some 1:=by and_intros<;>kernel_rfl
@[go_sem]theorem QP:ec prog 25=some (2,32)/\ec prog 30=some (2,32)/\ec prog 33=some (2,32)/\ec prog 36=some (15,216)/\ec prog 42=some (2,32)/\ec prog 53=some (3,40)/\ec prog 58=some (1,24)/\ec prog 61=some (3,32)/\ec prog 65=some (1,8)/\ec prog 66=some (11,160)/\ec prog 74=some (7,88)/\ec prog 75=some (1,24)/\ec prog 76=some (7,96)/\ec prog 77=some (6,80)/\ec prog 97=some (1,16)/\ec prog 107=some (2,32):=by and_intros<;>kernel_rfl
@[go_sem]theorem QQ:ec prog 111=some (2,32)/\ec prog 133=some (1,1)/\ec prog 160=some (3,48)/\ec prog 169=some (4,40)/\ec prog 195=some (3,48)/\ec prog 201=some (2,24)/\ec prog 217=some (1,1)/\ec prog 331=some (5,64)/\ec prog 378=some (1,24):=by and_intros<;>kernel_rfl
@[go_sem]theorem Mt:iD prog 26=some (8,1,false):=kR
@[go_sem]theorem Mu:ff prog 28=some [(0,8)]/\ff prog 32=some [(0,1),(1,1),(2,1)]/\ff prog 38=some [(0,1),(1,1),(2,1)]/\ff prog 50=some [(0,1),(1,1)]/\ff prog 52=some [(0,1),(1,1)]/\ff prog 55=some [(0,1),(1,1)]/\ff prog 57=some [(0,1),(1,1),(2,1)]/\ff prog 60=some [(0,1),(1,1)]/\ff prog 63=some [(0,1),(1,1),(2,1)]/\ff prog 68=some [(0,1),(1,1)]/\ff prog 79=some [(0,1),(1,1),(2,3),(5,1)]/\ff prog 81=some [(0,1),(1,1),(2,1),(3,1),(4,1),(5,1),(6,6),(12,1),(13,1),(14,1)]/\ff prog 120=some [(0,1),(1,6)]/\ff prog 122=some [(0,1),(1,6)]/\ff prog 127=some [(0,2),(2,1),(3,1),(4,1)]/\ff prog 141=some [(0,1),(1,1),(2,1),(3,1),(4,1),(5,6)]:=by and_intros<;>kernel_rfl
@[go_sem]theorem Mw:ff prog 158=some [(0,1),(1,1)]/\ff prog 168=some [(0,1),(1,1)]/\ff prog 174=some [(0,1),(1,1),(2,1),(3,1),(4,1)]/\ff prog 180=some [(0,1),(1,1),(2,1),(3,1)]/\ff prog 191=some [(0,1),(1,1)]/\ff prog 200=some [(0,2),(2,1)]/\ff prog 239=some [(0,1),(1,1),(2,1)]/\ff prog 310=some [(0,1),(1,1)]/\ff prog 334=some [(0,1),(1,1),(2,3)]:=by and_intros<;>kernel_rfl
@[go_sem]theorem Mx:cI prog 28 0=some (0,8,true)/\cI prog 32 0=some (0,1,false)/\cI prog 32 1=some (1,1,false)/\cI prog 32 2=some (2,1,false)/\cI prog 38 0=some (0,1,false)/\cI prog 38 1=some (1,1,false)/\cI prog 38 2=some (2,1,false)/\cI prog 50 0=some (0,1,false)/\cI prog 50 1=some (1,1,false)/\cI prog 52 0=some (0,1,false)/\cI prog 52 1=some (1,1,false)/\cI prog 55 0=some (0,1,false)/\cI prog 55 1=some (1,1,false)/\cI prog 57 0=some (0,1,false)/\cI prog 57 1=some (1,1,false)/\cI prog 57 2=some (2,1,false):=by and_intros<;>kernel_rfl
@[go_sem]theorem My:cI prog 60 0=some (0,1,false)/\cI prog 60 1=some (1,1,false)/\cI prog 63 0=some (0,1,false)/\cI prog 63 1=some (1,1,false)/\cI prog 63 2=some (2,1,false)/\cI prog 68 0=some (0,1,false)/\cI prog 68 1=some (1,1,false)/\cI prog 79 0=some (0,1,false)/\cI prog 79 1=some (1,1,false)/\cI prog 79 2=some (2,3,true)/\cI prog 79 3=some (5,1,false)/\cI prog 81 0=some (0,1,false)/\cI prog 81 1=some (1,1,false)/\cI prog 81 2=some (2,1,false)/\cI prog 81 3=some (3,1,false)/\cI prog 81 4=some (4,1,false):=by and_intros<;>kernel_rfl
@[go_sem]theorem Mz:cI prog 81 5=some (5,1,false)/\cI prog 81 6=some (6,6,true)/\cI prog 81 7=some (12,1,false)/\cI prog 81 8=some (13,1,false)/\cI prog 81 9=some (14,1,false)/\cI prog 117 0=some (0,1,false)/\cI prog 117 1=some (1,1,false)/\cI prog 117 2=some (2,1,false)/\cI prog 117 3=some (3,1,false)/\cI prog 120 0=some (0,1,false)/\cI prog 120 1=some (1,6,true)/\cI prog 122 0=some (0,1,false)/\cI prog 122 1=some (1,6,true)/\cI prog 127 0=some (0,2,true)/\cI prog 127 1=some (2,1,false)/\cI prog 127 2=some (3,1,false):=by and_intros<;>kernel_rfl
@[go_sem]theorem MA:cI prog 127 3=some (4,1,false)/\cI prog 141 0=some (0,1,false)/\cI prog 141 1=some (1,1,false)/\cI prog 141 2=some (2,1,false)/\cI prog 141 3=some (3,1,false)/\cI prog 141 4=some (4,1,false)/\cI prog 158 0=some (0,1,false)/\cI prog 158 1=some (1,1,false)/\cI prog 168 0=some (0,1,false)/\cI prog 168 1=some (1,1,false)/\cI prog 174 0=some (0,1,false)/\cI prog 174 1=some (1,1,false)/\cI prog 174 2=some (2,1,false)/\cI prog 174 3=some (3,1,false)/\cI prog 174 4=some (4,1,false)/\cI prog 180 0=some (0,1,false):=by and_intros<;>kernel_rfl
@[go_sem]theorem MB:cI prog 180 1=some (1,1,false)/\cI prog 180 2=some (2,1,false)/\cI prog 180 3=some (3,1,false)/\cI prog 188 0=some (0,1,false)/\cI prog 188 1=some (1,1,false)/\cI prog 188 2=some (2,1,false)/\cI prog 191 0=some (0,1,false)/\cI prog 191 1=some (1,1,false)/\cI prog 200 0=some (0,2,true)/\cI prog 200 1=some (2,1,false)/\cI prog 239 0=some (0,1,false)/\cI prog 239 1=some (1,1,false)/\cI prog 239 2=some (2,1,false)/\cI prog 310 0=some (0,1,false)/\cI prog 310 1=some (1,1,false)/\cI prog 334 0=some (0,1,false):=by and_intros<;>kernel_rfl
@[go_sem]theorem MC:cI prog 334 1=some (1,1,false)/\cI prog 334 2=some (2,3,true):=by and_intros<;>kernel_rfl
@[go_sem]theorem MD:iP prog 65=some [.int .i64 0]/\iP prog 133=some [.int .u8 0]/\iP prog 217=some [.bool false]:=by and_intros<;>kernel_rfl
@[go_sem]theorem Tryz.FI:nz prog 124=true:=kR
@[go_sem]theorem Tryz.JG:gq prog 124=some (.st [.i .i64,.s],.str []):=kR
@[go_sem]theorem Tryz.FJ:nz prog 125=true:=kR
@[go_sem]theorem Tryz.pZ:gq prog 125=some (.st [.i .i64,.s],.int .i64 0):=kR
@[go_sem]theorem Tryz.Hf:ER prog 195=true:=kR
theorem cB{P:Program}{f:FuncId}(h:wQ P f=true:=by kernel_rfl):wQ P f=true:=h
end Go.Proofs.YtefbicjgbaaieaaGreat
namespace Go.Proofs.YtefbicjgbaaieaaGreat
open Go Go.Vx Go.Proofs.Tryz
set_option maxRecDepth 100000
structure eG where
 name:aij
 kind:Int
 null:Bool deriving DecidableEq
@[go_sem]def eG.row(x:eG):List V:=[.str x.name,.int .i64 x.kind,.bool x.null]
structure AP where
 DL:aim
 qR:aim
 tw:aim
 Hg:Int
 DM:Int
 v7:Int deriving DecidableEq
structure bH where
 name:aij
 bP:List eG
 key:Int
 place:Int
 region:Int
 kW:AP deriving DecidableEq
@[go_sem]def bH.row(x:bH):List V:=[.str x.name,.sl .ro (x.bP.map eG.row),.int .i64 x.key,.int .i64 x.place,.int .i64 x.region,.sl .ro (x.kW.DL.map (λn=>[V.int .i64 n])),.sl .ro (x.kW.qR.map (λn=>[V.int .i64 n])),.sl .ro (x.kW.tw.map (λn=>[V.int .i64 n])),.int .i64 x.kW.Hg,.int .i64 x.kW.DM,.int .i64 x.kW.v7]
structure bF where
 kind:Int
 n:Int
 s:aij deriving DecidableEq
@[go_sem]def bF.row(x:bF):List V:=[.int .i64 x.kind,.int .i64 x.n,.str x.s]
structure bF.ok(x:bF):Prop where kind:-9223372036854775808<=x.kind/\x.kind<=9223372036854775807n:-9223372036854775808<=x.n/\x.n<=9223372036854775807s:x.s.length<=maxLen
inductive bG where|mk(kind:Int)(s:aij)(v:bF)(args:List bG)
def bG.kind:bG->Int
 | .mk x _ _ _=>x
def bG.s:bG->aij
 | .mk _ x _ _=>x
def bG.v:bG->bF
 | .mk _ _ x _=>x
def bG.args:bG->List bG|.mk _ _ _ x=>x
mutual
def bG.row:bG->List V|.mk a0 a1 a2 a3=>[.int .i64 a0,.str a1,.int .i64 a2.kind,.int .i64 a2.n,.str a2.s,.sl .ro (bG.rows a3)]def bG.rows:List bG->List (List V) |[]=>[]|e::l=>bG.row e::bG.rows l
end
theorem bG.nE:∀l:List bG,bG.rows l=l.map bG.row|[]=>rfl|e::l=>by rw[bG.rows,bG.nE l];rfl
@[go_sem]theorem bG.bK(x:bG):x.row=[.int .i64 x.kind,.str x.s,.int .i64 x.v.kind,.int .i64 x.v.n,.str x.v.s,.sl .ro (x.args.map bG.row)]:=by cases x;rw[bG.row,bG.nE];rfl
structure cJ where
 kind:Int
 e:bG
@[go_sem]def cJ.row(x:cJ):List V:=[.int .i64 x.kind,.int .i64 x.e.kind,.str x.e.s,.int .i64 x.e.v.kind,.int .i64 x.e.v.n,.str x.e.v.s,.sl .ro (x.e.args.map bG.row)]
structure bX where
 name:aij
 e:bG
@[go_sem]def bX.row(x:bX):List V:=[.str x.name,.int .i64 x.e.kind,.str x.e.s,.int .i64 x.e.v.kind,.int .i64 x.e.v.n,.str x.e.v.s,.sl .ro (x.e.args.map bG.row)]
structure bQ where
 kind:Int
 table:aij
 items:List cJ
 rows:List (List bG)cp:List bX
 cz:Bool
 bU:bG
 order:aij
 down:Bool
 cG:Int
@[go_sem]def bQ.row(x:bQ):List V:=[.int .i64 x.kind,.str x.table,.sl .ro (x.items.map cJ.row),.sl .ro (x.rows.map (λ(l:List bG)=>[V.sl .ro (l.map bG.row)])),.sl .ro (x.cp.map bX.row),.bool x.cz,.int .i64 x.bU.kind,.str x.bU.s,.int .i64 x.bU.v.kind,.int .i64 x.bU.v.n,.str x.bU.v.s,.sl .ro (x.bU.args.map bG.row),.str x.order,.bool x.down,.int .i64 x.cG]
structure dR where
 mode:Int
 n:Int
 stmts:List bQ
@[go_sem]def dR.row(x:dR):List V:=[.int .i64 x.mode,.int .i64 x.n,.sl .ro (x.stmts.map bQ.row)]
structure fh where
 lK:Int
 a:Int
 b:Int
 c:Int deriving DecidableEq
@[go_sem]def fh.row(x:fh):List V:=[.int .i64 x.lK,.int .i64 x.a,.int .i64 x.b,.int .i64 x.c]
structure fh.ok(x:fh):Prop where lK:-9223372036854775808<=x.lK/\x.lK<=9223372036854775807a:-9223372036854775808<=x.a/\x.a<=9223372036854775807b:-9223372036854775808<=x.b/\x.b<=9223372036854775807c:-9223372036854775808<=x.c/\x.c<=9223372036854775807
theorem fh.DN{vs:List V}(h:lp prog 117 vs):∃x:fh,vs=x.row/\x.ok:=by have h:ki prog [3,3,3,3] vs:=h.pc underlying117;obtain⟨_,_,rfl,h0,h⟩:=h.cons_inv;obtain⟨_,_,rfl,h1,h⟩:=h.cons_inv;obtain⟨_,_,rfl,h2,h⟩:=h.cons_inv;obtain⟨_,_,rfl,h3,h⟩:=h.cons_inv;obtain rfl:=h.mG;obtain⟨x0,rfl,w0⟩:=h0.kH underlying3;have w0:=JC w0;obtain⟨x1,rfl,w1⟩:=h1.kH underlying3;have w1:=JC w1;obtain⟨x2,rfl,w2⟩:=h2.kH underlying3;have w2:=JC w2;obtain⟨x3,rfl,w3⟩:=h3.kH underlying3;have w3:=JC w3;exact⟨⟨x0,x1,x2,x3⟩,rfl,⟨w0,w1,w2,w3⟩⟩
end Go.Proofs.YtefbicjgbaaieaaGreat
namespace Go.Vx
open Go
section
variable{P:Program}{c:Ctx}{nt:Nat}{n0:Kp}
variable{ops:List Oper}{q:List (Nat×Nat)}{U:St}{e:Env}{e0:Env}{tr:List (V×St)}{bJ:Array Bool}{i:Nat}{o:Oper}{z:List V}
theorem YA{Q:Exit->Act->World->Prop}{cd:St}(hn:n0.n<=cd.length)(ht:o9 P c nt n0 ops q 0 ops e0 cd tr)(B:Nat->Nat->Prop)(sp:∀{i j:Nat}{x y:Oper},i<j->ops[i]?=some x->ops[j]?=some y->uG ops q i j x y=false\/B i j){a:Act}{w:World}{L:Nat->Nat}{I:ail}(aa:ops[i]?=some o)(au:bJ.getD i false=false)(a6:i<bJ.size)(ahead:∀{k:Nat},k≠i->B k i->bJ.getD k false)(nD:∀{k:Nat},B i k->bJ.getD k false=false)(a7:∀{k j:Nat},B k j->bJ.getD j false=true->bJ.getD k false)(hs:dM c nt (fE (λi=>bJ.getD i false) 0 ops tr e0) (fS (λi=>bJ.getD i false) q 0 ops tr cd) a w L I){next:Act->World->Prop}(a8:∀a' w' L' I',dM c nt (fE (λk=>(bJ.setIfInBounds i true).getD k false) 0 ops tr e0) (fS (λk=>(bJ.setIfInBounds i true).getD k false) q 0 ops tr cd) a' w' L' I'->next a' w'):if Region.wanted o (yielded ops.toArray a.tmps)then o.wp P a w next Q\/(o.asks P a w/\LetsOut Q)else next (a.put o.dst undef) w:=by
 have aj:∀k,k≠i->(bJ.setIfInBounds i true).getD k false=bJ.getD k false:=λk hk=>getD_set_ne false (λq=>hk q.symm);have av:(bJ.setIfInBounds i true).getD i false:=by simp[Array.getD,a6]
 obtain⟨al,aA⟩:=Fz ops q ops tr 0 e0 cd ht;obtain⟨v,U',aw,ag⟩:=aA i o aa;rw[Ab]at ag;have ax:∀t∈o8 ops o,fE (λi=>bJ.getD i false) 0 ops tr e0 t=fE (λj=>decide (j<i)) 0 ops tr e0 t:=by
  intro t al;refine qK _ _ t ops tr 0 e0 e0 rfl λk o' hk ad=>?_;rw[Ab];rcases Ba k i with ab|ab|ab
  .rw[ahR ab];rcases sp ab hk aa with hc|hb;.exact absurd al ((xD hc).2.1 t ad).1
   .exact ahead om hb
  .subst ab;rw[au];simp
  .rw[ahQ om];rcases sp ab aa hk with hc|hb;.exact absurd al ((xD hc).2.2 t ad)
   .exact nD hb
 have ak:2<=zX q i o->fS (λi=>bJ.getD i false) q 0 ops tr cd=fS (λj=>decide (j<i)) q 0 ops tr cd:=by
  intro af;refine th _ _ q ops tr 0 cd λk o' hk ad=>?_;rw[Ab]at ad⊢;rcases Ba k i with ab|ab|ab
  .rw[ahR ab];rcases sp ab hk aa with hc|hb;.have:=(xD hc).1;rw[AG ad (wS _ _ _) af (wS _ _ _)]at this;cases this
   .exact ahead om hb
  .subst ab;rw[au];simp
  .rw[ahQ om];rcases sp ab aa hk with hc|hb;.have:=(xD hc).1;rw[Jo,AG ad (wS _ _ _) af (wS _ _ _)]at this;cases this
   .exact nD hb
 have ay:zX q i o=1->n0.of (fS (λi=>bJ.getD i false) q 0 ops tr cd)=n0.of (fS (λj=>decide (j<i)) q 0 ops tr cd):=by
  intro az;have pre:∀N,N<=ops.length->∃m,m<=N/\∀k o',k<N->ops[k]?=some o'->3<=zX q k o'->bJ.getD k false=decide (k<m):=by intro N;induction N with |zero=>exactλ_=>⟨0,A6 _,λk o' h=>om⟩|succ N aB=>
    intro hN;obtain⟨m,hm,ae⟩:=aB om;have a1:=A0 (show N<ops.length by omega);by_cases hw:3<=zX q N (ops[N]'om)/\bJ.getD N false=true
    .refine⟨N+1,A6 _,λk o' hk ah h3=>?_⟩;rw[ahR hk];by_cases an:k=N;.subst an;exact hw.2
     .rcases sp (show k<N by omega) ah a1 with hc|hb;.have:=(xD hc).1;rw[AG h3 (wS _ _ _) om (wS _ _ _)]at this;cases this
      .exact a7 hb hw.2
    .refine⟨m,om,λk o' hk ah h3=>?_⟩;by_cases an:k=N;.subst an;rw[a1]at ah;cases ah;rw[ahQ om];cases hl:bJ.getD k false with |false=>rfl|true=>exact absurd ⟨h3,hl⟩ hw
     .exact ae k o' om ah h3
  obtain⟨m,hm,ae⟩:=pre ops.length (A6 _);have e1:fS (λi=>bJ.getD i false) q 0 ops tr cd=fS (λx=>decide (x<m)) q 0 ops tr cd:=th _ _ q ops tr 0 cd λk o' hk h3=>by rw[Ab]at h3⊢;exact ae k o' (A5.1 hk).1 hk h3
  rw[e1];have aD:i<ops.length:=(A5.1 aa).1
  rcases Nat.le_total m i with aC|aC;.have:=(Jq ht hn (i-m) m om (λk o' h5 h6 hk h4=>by
    have h7:=ae k o' (A5.1 hk).1 hk om;rw[ahQ om]at h7;rcases sp (show k<i by omega) hk aa with hc|hb;.have:=(xD hc).1;rw[h4,az,Jp dc]at this;cases this
    .rw[ahead om hb]at h7;cases h7)).2;rw[show m+(i-m)=i by omega]at this;grind
  .have:=(Jq ht hn (m-i) i om (λk o' h5 h6 hk h4=>by
    have h7:=ae k o' (A5.1 hk).1 hk om;rw[ahR om]at h7;have ab:k≠i:=λqq=>by subst qq;rw[hk]at aa;cases aa;omega
    rcases sp (show i<k by omega) aa hk with hc|hb;.have:=(xD hc).1;rw[Jo,h4,az,Jp dc]at this;cases this
    grind)).2;rw[show i+(m-i)=m by omega]at this;omega
 refine Jn (ops:=ops) (Q:=Q) (next:=next) o hs (ag.step ax ak ay) ?_;rintro e' s' a' w' L' I' aE ⟨rfl,rfl⟩;have e1:fP (fE (λi=>bJ.getD i false) 0 ops tr e0) o.dst v=fE (λk=>(bJ.setIfInBounds i true).getD k false) 0 ops tr e0:=by
  funext t;by_cases ai:o.dst=some t
  .rw[AB _ _ _ _ ai];refine(DD _ t ops tr 0 i e0 o v U' aa aw ai (by rw[Ab];exact av) λk' o' ao aq ar=>?_).symm;rw[Ab,aj k' om];rcases sp ao aa aq with hc|hb;.exact absurd ar ((xD hc).2.1 t ai).2
   .exact nD hb
  .rw[AD _ _ _ _ ai];refine qK _ _ t ops tr 0 e0 e0 rfl λk o' hk ad=>?_;rw[Ab];refine(aj k λq=>?_).symm;subst q;rw[aa]at hk;cases hk;exact ai ad
 have e2:(if 3<=zX q i o then U' else fS (λi=>bJ.getD i false) q 0 ops tr cd)=fS (λk=>(bJ.setIfInBounds i true).getD k false) q 0 ops tr cd:=by
  split
  .rename_i af;refine(Fy _ q ops tr 0 i cd o v U' aa aw (by rw[Ab];exact af) (by rw[Ab];exact av) λk' o' ao aq ar=>?_).symm;rw[Ab]at ar⊢;rw[aj k' om];rcases sp ao aa aq with hc|hb;.have:=(xD hc).1;rw[AG af (wS _ _ _) om (wS _ _ _)]at this;cases this
   grind
  .rename_i af;refine th _ _ q ops tr 0 cd λk o' hk ad=>?_;rw[Ab]at ad⊢;refine(aj k λq=>?_).symm;subst q;rw[aa]at hk;cases hk;exact af ad
 grind
theorem YB(B:Nat->Nat->Prop)(sp:∀{i j:Nat}{x y:Oper},i<j->ops[i]?=some x->ops[j]?=some y->uG ops q i j x y=false\/B i j)(ab:ops[i]?=some o)(af:bJ.getD i false=false)(ahead:∀{k:Nat},k≠i->B k i->bJ.getD k false)(nD:∀{k:Nat},B i k->bJ.getD k false=false):∀t∈o8 ops o,fE (λi=>bJ.getD i false) 0 ops tr e0 t=fE (λj=>decide (j<i)) 0 ops tr e0 t:=by
 intro t ad;refine qK _ _ t ops tr 0 e0 e0 rfl λk o' hk ae=>?_;rw[Ab];rcases Ba k i with aa|aa|aa
 .rw[ahR aa];rcases sp aa hk ab with hc|hb;.exact absurd ad ((xD hc).2.1 t ae).1
  grind
 .grind
 .rw[ahQ om];rcases sp aa ab hk with hc|hb;.exact absurd ad ((xD hc).2.2 t ae)
  grind
theorem YC(B:Nat->Nat->Prop)(sp:∀{i j:Nat}{x y:Oper},i<j->ops[i]?=some x->ops[j]?=some y->uG ops q i j x y=false\/B i j){v:V}{U':St}(ab:ops[i]?=some o)(ad:tr[i]?=some (v,U'))(ai:i<bJ.size)(nD:∀{k:Nat},B i k->bJ.getD k false=false):fP (fE (λi=>bJ.getD i false) 0 ops tr e0) o.dst v=fE (λk=>(bJ.setIfInBounds i true).getD k false) 0 ops tr e0:=by
 have ae:∀k,k≠i->(bJ.setIfInBounds i true).getD k false=bJ.getD k false:=λk hk=>getD_set_ne false om;have aj:(bJ.setIfInBounds i true).getD i false:=by simp_all
 funext t;by_cases aa:o.dst=some t
 .rw[AB _ _ _ _ aa];refine(DD _ t ops tr 0 i e0 o v U' ab ad aa (by grind) λk' o' af ag ah=>?_).symm;rw[Ab,ae k' om];rcases sp af ab ag with hc|hb;.exact absurd ah ((xD hc).2.1 t aa).2
  grind
 .rw[AD _ _ _ _ aa];refine qK _ _ t ops tr 0 e0 e0 rfl λk o' hk ak=>?_;grind
theorem QR{n:Nat}(D:Nat->Bool):∀(os:List Oper)(tr:List (V×St))(i:Nat)(e:Env),(∀t,jZ n (e t)=true)->(∀(k:Nat) v s,tr[k]?=some (v,s)->D (i+k)=true->jZ n v=true)->∀t,jZ n (fE D i os tr e t)=true
 |[],_,_,_,h,_=>by simpa|o::os,[],_,_,h,_=>by simpa|o::os,(v,s)::tr,i,e,h,hv=>by
  rw[fE];refine QR D os tr (i+1) _ (λt=>?_) (λk v' s' hk hD=>hv (k+1) v' s' (by grind) (by grind));split
  .rename_i ab;by_cases aa:o.dst=some t;.rw[AB _ _ _ _ aa];exact hv 0 v s rfl om
   grind[AD]
  grind
theorem dM.pick{e e':Env}{U s:St}{a:Act}{w:World}{L:Nat->Nat}{I:ail}{pick:aik}(h:dM c nt e U a w L I)(hp:gy c.cd.length pick U s)(hc:c.β0.length=c.cd.length)(he:∀t,cR (cO pick U.length) (e' t) (e t)):∃I',dM c nt e' s a w L I':=⟨_,h.mem.pick hp hc,h.size,h.defs,λt=>zf (hp.jm h.mem.len) (he t) (h.env t)⟩
theorem YD{n0:Nat}(hn:n0<=U.length)(aa:U.all (bO U.length))(hz:z.all oZ):gy n0 (List.range U.length++[U.length+1,U.length]) (U++[.box z,.box z]) (U++[.box z,.box z]):=by
 have hb:∀ρ,yO ρ (.box z)=.box z:=(by grind[yO,wU,DA]);have hr:∀i,i<U.length->cO (List.range U.length++[U.length+1,U.length]) (U++[Ob.box z,Ob.box z]).length i=i:=(by grind[jD]);refine⟨sm,?_,λi j o hi ho=>?_,λi hi=>?_⟩;.grind
 .by_cases h1:i<U.length;.rw[Be (by grind),Dr h1]at hi;cases hi;rw[Be h1]at ho;have h2:bO U.length o:=(by grind);grind[mF]
  .rw[Bb (by grind)]at hi;grind
 grind
theorem QS{Q:Exit->Act->World->Prop}{next:Act->World->Prop}{a:Act}{w:World}{L:Nat->Nat}{I:ail}{d:Tmp}{t ty:TypeId}{pos:String}{dU:Array Edge}(hz:gK P t=some z)(hd:d<nt)(h:dM c nt e U a w L I)(hn:∀a' w' L' I',dM c nt (fe e d (.ptr U.length 0)) (U++[.box z]) a' w' L' I'->next a' w'):if Region.wanted (⟨some d,.alloc t,ty,pos,dU,none⟩:Oper) (yielded ops.toArray a.tmps)then(⟨some d,.alloc t,ty,pos,dU,none⟩:Oper).wp P a w next Q\/((⟨some d,.alloc t,ty,pos,dU,none⟩:Oper).asks P a w/\LetsOut Q)else next (a.put (some d) undef) w:=by
 refine Jn (ops:=ops) (Q:=Q) (next:=next) ⟨some d,.alloc t,ty,pos,dU,none⟩ (K:=λe' s'=>e'=fe e d (.ptr U.length 0)/\s'=U++[.box z]) h ?_ ?_
 .have aa:xP P (some d) e U (.alloc t)=.st (.ptr U.length 0) (U++[.box z]):=by
   have h1:bZ P e U (.alloc t)=.st (.ptr U.length 0) (U++[.box z]):=by grind[bZ,rR]
   have h2:gX P e U (.alloc t)=bZ P e U (.alloc t):=rfl;grind[xP]
  show mA nt (some d) (xP P (some d) e U (.alloc t)) _ e U;rw[aa];trivial
 grind
theorem YE{Q:Exit->Env->St->Prop}{cd:St}{p dA dB:Nat}{t tA tB:TypeId}{aC aD:String}{aA aB:Array Edge}(hn:n0.n<=cd.length)(bb:c.cd.length<=cd.length)(bc:c.β0.length=c.cd.length)(hA:ops[p]?=some ⟨some dA,.alloc t,tA,aC,aA,none⟩)(hB:ops[p+1]?=some ⟨some dB,.alloc t,tB,aD,aB,none⟩)(bd:dA≠dB)(b4:zX q p ⟨some dA,.alloc t,tA,aC,aA,none⟩=3)(b5:zX q (p+1) ⟨some dB,.alloc t,tB,aD,aB,none⟩=3)(hz:gK P t=some z)(bf:z.all oZ)(ay:∀(k:Nat) o,k<p->ops[k]?=some o->zX q k o<2/\dA∉o8 ops o/\dB∉o8 ops o/\o.dst≠some dA/\o.dst≠some dB)(aQ:∀(k:Nat) o,p+1<k->ops[k]?=some o->p∈(fW ops []).getD k []/\(p+1)∈(fW ops []).getD k [])(hd:∀{i j:Nat}{x y:Oper},i<j->ops[i]?=some x->ops[j]?=some y->uG ops q i j x y=false\/(i∈(fW ops []).getD j []\/(i=p/\j=p+1)))(aH:rX ops)(bg:cd.all (bO cd.length))(h0:∀s,jZ cd.length (e0 s))(hv:∀(k:Nat) v s,k<p->tr[k]?=some (v,s)->jZ cd.length v)(ht:o9 P c nt n0 ops q 0 ops e0 cd tr)(hQ:Q .normal (fE (λ_=>true) 0 ops tr e0) (fS (λ_=>true) q 0 ops tr cd)):∀(fuel:Nat)(bJ:Array Bool)(a:Act)(w:World)(L:Nat->Nat)(I:ail),bJ.size=ops.length->bJ.toList.count false=fuel->(∀(j:Nat) o,ops[j]?=some o->bJ.getD j false=true->∀e∈o.after.toList,Region.binds .any e=true->bJ.getD e.on false=true)->((bJ.getD (p+1) false=true->bJ.getD p false=true)/\dM c nt (fE (λi=>bJ.getD i false) 0 ops tr e0) (fS (λi=>bJ.getD i false) q 0 ops tr cd) a w L I\/(bJ.getD (p+1) false=true/\bJ.getD p false=false)/\dM c nt (fe (fE (λi=>bJ.getD i false) 0 ops tr e0) dB (.ptr cd.length 0)) (cd++[.box z]) a w L I)->wpAny P .any ops.toArray (fo c nt Q) fuel bJ a w:=by
 obtain⟨b6,aI⟩:=Fz ops q ops tr 0 e0 cd ht;have b7:p+1<ops.length:=(A5.1 hB).1;have bh:fS (λj=>decide (j<p)) q 0 ops tr cd=cd:=AE _ q ops tr 0 cd λk o hk h3=>by
  rw[Ab]at h3⊢;by_cases al:k<p;.have:=(ay k o al hk).1;omega
  .simp;omega
 have aR:∀(e:Env)(U:St)(d:Tmp),xP P (some d) e U (.alloc t)=.st (.ptr U.length 0) (U++[.box z]):=λe U d=>by
  have h1:bZ P e U (.alloc t)=.st (.ptr U.length 0) (U++[.box z]):=by simp only[bZ,rR,hz]
  have h2:gX P e U (.alloc t)=bZ P e U (.alloc t):=rfl;unfold xP;rw[h2,h1];simp
 have fact:∀{k d tt ps af E S v s'},Fact P c nt n0 ops q k ⟨some d,.alloc t,tt,ps,af,none⟩ E S v s'->v=.ptr S.length 0/\s'=S++[.box z]/\d<nt:=by
  intro k d tt ps af E S v s' hf;obtain⟨bj,_,_,_,g,hg,hb⟩:=hf;simp only at hg;subst hg;simp only[ai0]at hb;obtain⟨_,_,_,hb⟩:=hb;rw[aR]at hb;rcases hb with⟨hr,_⟩|⟨_,hr,_⟩|⟨_,hr|⟨_,hr,_⟩⟩;.cases hr
  .cases hr
  .cases hr;exact⟨rfl,rfl,bj d rfl⟩
  .cases hr
 obtain⟨vA,sA,aE,aS⟩:=aI p _ hA;rw[Ab,bh]at aS;obtain⟨rfl,rfl,bk⟩:=fact aS;have bm:fS (λj=>decide (j<p+1)) q 0 ops tr cd=cd++[.box z]:=Fy _ q ops tr 0 p cd _ _ _ hA aE (by rw[Ab];omega) sm λk' o' ao _ _=>by simp;omega
 obtain⟨vB,sB,aq,aT⟩:=aI (p+1) _ hB;rw[Ab,bm]at aT;obtain⟨rfl,rfl,bn⟩:=fact aT;simp only[Al,Bm,Cb,List.singleton_append]at aq;have fin:∀(bJ:Array Bool)(a:Act)(w:World)(L:Nat->Nat)(I:ail),dM c nt (fE (λi=>bJ.getD i false) 0 ops tr e0) (fS (λi=>bJ.getD i false) q 0 ops tr cd) a w L I->(∀i,i<ops.length->bJ.getD i false=true)->fo c nt Q .normal a w:=by
  intro bJ a w L I hs aj;have e1:fE (λi=>bJ.getD i false) 0 ops tr e0=fE (λ_=>true) 0 ops tr e0:=by funext t;exact qK _ _ t ops tr 0 e0 e0 rfl λk o hk _=>by rw[Ab];exact aj k (A5.1 hk).1
  have e2:fS (λi=>bJ.getD i false) q 0 ops tr cd=fS (λ_=>true) q 0 ops tr cd:=th _ _ q ops tr 0 cd λk o hk _=>by rw[Ab];exact aj k (A5.1 hk).1
  rw[e1,e2]at hs;exact⟨_,_,L,I,hs,hQ⟩
 have ar:∀(bJ:Array Bool),bJ.size=ops.length->Region.ready .any ops.toArray bJ=[]->∀i,i<ops.length->bJ.getD i false=true:=by intro bJ an hr i;induction i using Nat.strongRecOn with|ind i ih=>intro hi;cases az:bJ.getD i false with |true=>rfl|false=>
    exfalso;have hm:i∈Region.ready .any ops.toArray bJ:=by
     refine mem_ready.2 ⟨?_,ops[i],by simp[hi],λe he hb=>?_⟩;.have aa:i<bJ.size:=om;simpa[Array.getD,aa]using az
     .unfold rX at aH;simp only[Aj,D4]at aH;have:=aH i hi;rw[A0 hi]at this;simp only[Cj]at this;have:=this e he;simp only[hb,Bool.not_true,Bf,ahS]at this;exact ih e.on this om
    rw[hr]at hm;cases hm
 intro fuel;induction fuel with
 |zero=>
  intro bJ a w L I an aU au hs;have aj:∀i,i<ops.length->bJ.getD i false:=by intro i hi;have aa:i<bJ.size:=om;cases az:bJ[i]with|true=>simp[Array.getD,aa,az]|false=>
    exfalso;have:false∈bJ.toList:=by rw[<-az];simp
    have:=List.count_pos_iff.2 this;omega
  rcases hs with⟨_,hs⟩|⟨⟨_,hp⟩,_⟩;.refine⟨?_,fin bJ a w L I hs aj⟩;cases hr:Region.ready .any ops.toArray bJ with|nil=>rfl|cons i l=>
    exfalso;have hm:i∈Region.ready .any ops.toArray bJ:=by rw[hr];simp
    obtain⟨h1,o,ho,_⟩:=mem_ready.1 hm;have hi:i<ops.length:=(A5.1 (sU ho)).1;have:=aj i hi;have aa:i<bJ.size:=om;simp[Array.getD,aa]at this h1;rw[this]at h1;cases h1
  .rw[aj p om]at hp;cases hp|succ fuel ih=>
  intro bJ a w L I an aU au hs;refine⟨λhr=>?_,λi hi=>?_⟩
  .rcases hs with⟨_,hs⟩|⟨⟨_,hp⟩,_⟩;.exact fin bJ a w L I hs (ar bJ an hr)
   .rw[ar bJ an hr p om]at hp;cases hp
  obtain⟨h1,o,ho,aJ⟩:=mem_ready.1 hi;have ab:ops[i]?=some o:=sU ho;have b8:i<ops.length:=(A5.1 ab).1;have aa:i<bJ.size:=om;have ag:bJ.getD i false=false:=by simp[Array.getD,aa]at h1⊢;exact h1
  have ad:∀k,k≠i->(bJ.setIfInBounds i true).getD k false=bJ.getD k false:=λk hk=>getD_set_ne false (λq=>hk q.symm);have a1:(bJ.setIfInBounds i true).getD i false:=by simp[Array.getD,aa]
  have aF:∀(j:Nat) o,ops[j]?=some o->(bJ.setIfInBounds i true).getD j false=true->∀e∈o.after.toList,Region.binds .any e=true->(bJ.setIfInBounds i true).getD e.on false=true:=by
   intro j o' hj aV e he hb;by_cases aW:j=i;.subst aW;rw[ab]at hj;cases hj;exact getD_set_true (aJ e (sU he) hb)
   .rw[ad j aW]at aV;exact getD_set_true (au j o' hj aV e he hb)
  have ahead:∀{k:Nat},k≠i->k∈(fW ops []).getD i []->bJ.getD k false=true:=λ{k}hk hb=>by have:=DE (D:=λj=>(bJ.setIfInBounds i true).getD j false) aF hb a1;rwa[ad k hk]at this
  have nD:∀{k:Nat},i∈(fW ops []).getD k []->bJ.getD k false=false:=λ{k}hb=>by cases hk:bJ.getD k false with|false=>rfl|true=>have:=DE (D:=λj=>bJ.getD j false) au hb hk;rw[ag]at this;cases this
  have a6:(bJ.setIfInBounds i true).toList.count false=fuel:=by
   have:=Qx (l:=bJ) (i:=i) (by rw[Az aa];have:=ag;simp[Array.getD,aa]at this;rw[this]);omega
  have next:=λa' w' L' I' h=>ih (bJ.setIfInBounds i true) a' w' L' I' (sU an) a6 aF h;unfold wpOp;rw[ho];show if Region.wanted o (yielded ops.toArray a.tmps)then o.wp P a w (wpAny P .any ops.toArray (fo c nt Q) fuel (bJ.setIfInBounds i true)) (fo c nt Q)\/_ else _;have only:bJ.getD p false=false->∀k,p+1<k->bJ.getD k false=false:=λhp k hk=>by cases hl:bJ.getD k false with|false=>rfl|true=>
    have bo:k<ops.length:=by
     rcases Ck k ops.length with h|h;.exact h
     .exfalso;simp[Array.getD,an,Nat.not_lt.2 h]at hl
    have:=DE (D:=λj=>bJ.getD j false) au (aQ k _ hk (A0 bo)).1 hl;rw[hp]at this;cases this
  have bp:(i≠p+1\/bJ.getD p false=true)->(bJ.getD (p+1) false=true->bJ.getD p false=true)->dM c nt (fE (λi=>bJ.getD i false) 0 ops tr e0) (fS (λi=>bJ.getD i false) q 0 ops tr cd) a w L I->if Region.wanted o (yielded ops.toArray a.tmps)then o.wp P a w (wpAny P .any ops.toArray (fo c nt Q) fuel (bJ.setIfInBounds i true)) (fo c nt Q)\/(o.asks P a w/\LetsOut (fo c nt Q))else wpAny P .any ops.toArray (fo c nt Q) fuel (bJ.setIfInBounds i true) (a.put o.dst undef) w:=by
   intro ae hinv hs;refine YA hn ht (λi j=>i∈(fW ops []).getD j []\/(i=p/\j=p+1)) (λh1 h2 h3=>hd h1 h2 h3) ab ag aa ?_ ?_ ?_ hs λa' w' L' I' ai=>next a' w' L' I' (.inl ⟨?_,ai⟩)
   .rintro k hk(hb|⟨rfl,rfl⟩);.exact ahead hk hb
    .rcases ae with h|h;.exact absurd rfl h
     .exact h
   .rintro k(hb|⟨rfl,rfl⟩);.exact nD hb
    .cases hl:bJ.getD (i+1) false with |false=>rfl|true=>rw[hinv hl]at ag;cases ag
   .rintro k j(hb|⟨rfl,rfl⟩) hj;.exact DE (D:=λj=>bJ.getD j false) au hb hj
    .exact hinv hj
   .intro h;by_cases av:i=p;.subst av;exact a1
    .rw[ad p (λq=>av q.symm)];by_cases aG:i=p+1
     .rcases ae with h'|h';.exact absurd aG h'
      .exact h'
     .rw[ad (p+1) (λq=>aG q.symm)]at h;exact hinv h
  rcases hs with⟨hinv,hs⟩|⟨⟨a7,a8⟩,hs⟩
  .by_cases ae:i=p+1/\bJ.getD p false=false;·
    obtain⟨rfl,hp⟩:=ae;rw[hB]at ab;cases ab;have aX:fS (λi=>bJ.getD i false) q 0 ops tr cd=cd:=AE _ q ops tr 0 cd λk o hk h3=>by
     rw[Ab]at h3⊢;rcases Ba k p with al|rfl|al;.have:=(ay k o al hk).1;omega
     .exact hp
     .by_cases aw:k=p+1;.subst aw;exact ag
      .exact only hp k om
    rw[aX]at hs;refine QS (ops:=ops) (Q:=fo c nt Q) (next:=wpAny P .any ops.toArray (fo c nt Q) fuel (bJ.setIfInBounds (p+1) true)) hz bn hs λa' w' L' I' ai=>next a' w' L' I' (.inr ⟨⟨a1,by rw[ad p om];exact hp⟩,?_⟩);have:fe (fE (λi=>(bJ.setIfInBounds (p+1) true).getD i false) 0 ops tr e0) dB (.ptr cd.length 0)=fe (fE (λi=>bJ.getD i false) 0 ops tr e0) dB (.ptr cd.length 0):=by
     funext s;simp only[fe];split;.rfl
     .rename_i bq;refine qK _ _ s ops tr 0 e0 e0 rfl λk o hk ax=>?_;rw[Ab];refine ad k λe=>?_;subst e;rw[hB]at hk;cases hk;exact bq (ai6 ax).symm
    grind
   .exact bp (by
     by_cases h:i=p+1;.right;cases hl:bJ.getD p false with |true=>rfl|false=>exact absurd ⟨h,hl⟩ ae
     .exact .inl h) hinv hs
  ·by_cases av:i=p
   .subst av;rw[hA]at ab;cases ab;refine QS (ops:=ops) (Q:=fo c nt Q) (next:=wpAny P .any ops.toArray (fo c nt Q) fuel (bJ.setIfInBounds i true)) hz bk hs λa' w' L' I' ai=>?_;have hlen:(cd++[Ob.box z]).length=cd.length+1:=sm;rw[hlen,Cb,List.singleton_append]at ai;have aK:∀k,i+1<k->(bJ.setIfInBounds i true).getD k false=false:=λk hk=>by rw[ad k om];exact only a8 k hk
    have b9:fS (λk=>(bJ.setIfInBounds i true).getD k false) q 0 ops tr cd=cd++[.box z,.box z]:=Fy _ q ops tr 0 (i+1) cd _ _ _ hB aq (by rw[Ab];omega) (by rw[Ab,ad (i+1) om];exact a7) λk' o' ao _ _=>by rw[Ab];exact aK k' ao
    have br:fE (λk=>(bJ.setIfInBounds i true).getD k false) 0 ops tr e0 dA=.ptr cd.length 0:=DD _ dA ops tr 0 i e0 _ _ _ hA aE rfl (by rw[Ab];exact a1) λk' o' ao aL aY=>by
      rw[Ab];by_cases aw:k'=i+1;.subst aw;rw[hB]at aL;cases aL;exact absurd (ai6 aY).symm bd
      .exact aK k' om
    have bt:fE (λk=>(bJ.setIfInBounds i true).getD k false) 0 ops tr e0 dB=.ptr (cd.length+1) 0:=DD _ dB ops tr 0 (i+1) e0 _ _ _ hB aq rfl (by rw[Ab,ad (i+1) om];exact a7) λk' o' ao aL aY=>by rw[Ab];exact aK k' ao
    have bu:∀s,s≠dA->s≠dB->fE (λk=>(bJ.setIfInBounds i true).getD k false) 0 ops tr e0 s=fE (λk=>bJ.getD k false) 0 ops tr e0 s/\jZ cd.length (fE (λk=>bJ.getD k false) 0 ops tr e0 s)=true:=by
     intro s bw bx;refine⟨qK _ _ s ops tr 0 e0 e0 rfl λk o hk ax=>?_,?_⟩;.rw[Ab];refine ad k λe=>?_;subst e;rw[hA]at hk;cases hk;exact bw (ai6 ax).symm
     .have e1:fE (λk=>bJ.getD k false) 0 ops tr e0 s=fE (λk=>decide (k<i)&&bJ.getD k false) 0 ops tr e0 s:=by
       refine qK _ _ s ops tr 0 e0 e0 rfl λk o hk ax=>?_;rw[Ab];rcases Ba k i with h|rfl|h;.simp[h]
       .rw[ag];simp
       .by_cases aw:k=i+1;.subst aw;rw[hB]at hk;cases hk;exact absurd (ai6 ax).symm bx
        .rw[only a8 k om];simp
      rw[e1];refine QR _ ops tr 0 e0 h0 (λk v s hk hD=>?_) s;rw[Ab]at hD;simp only[A8,ahS]at hD;exact hv k v s hD.1 hk
    have aP:=YD (n0:=c.cd.length) bb bg bf;have hr:∀k,k<cd.length->cO (List.range cd.length++[cd.length+1,cd.length]) (cd++[Ob.box z,Ob.box z]).length k=k:=λk hk=>by rw[jD (by simp;omega),List.getElem_append_left (sU hk)];simp
    obtain⟨I2,bA⟩:=ai.pick (e':=fE (λk=>(bJ.setIfInBounds i true).getD k false) 0 ops tr e0) aP bc λs=>by
     by_cases h1:s=dA;.subst h1;rw[br];refine .inl ?_;simp only[fe,ai0,dG,dQ,dz,dE];rw[jD sm,List.getElem_append_right sm];simp
     .by_cases h2:s=dB;.subst h2;rw[bt];refine .inl ?_;simp only[fe,ahO h1,ai0,dG,dQ,dz,dE];rw[jD sm,List.getElem_append_right sm];simp
      .obtain⟨q1,q2⟩:=bu s h1 h2;rw[q1];simp only[fe,ahO h1,ahO h2];exact .inl (L5 hr q2).symm
    grind
   ·have bB:i≠p+1:=λe=>by subst e;rw[a7]at ag;cases ag
    have aZ:i<p:=by
     rcases Ba i p with h|h|h;.exact h
     .exact absurd h av
     .exfalso;have:=ahead (k:=p) om (aQ i o om ab).1;rw[a8]at this;cases this
    obtain⟨bC,bD,bz,bE,b0⟩:=ay i o aZ ab;have sp:∀{i j:Nat}{x y:Oper},i<j->ops[i]?=some x->ops[j]?=some y->uG ops q i j x y=false\/(i∈(fW ops []).getD j []\/(i=p/\j=p+1)):=λh1 h2 h3=>hd h1 h2 h3;have ah:∀{k:Nat},k≠i->(k∈(fW ops []).getD i []\/(k=p/\i=p+1))->bJ.getD k false=true:=by
     rintro k hk(hb|⟨_,h⟩);.exact ahead hk hb
     .omega
    have be:∀{k:Nat},(i∈(fW ops []).getD k []\/(i=p/\k=p+1))->bJ.getD k false=false:=by
     rintro k(hb|⟨h,_⟩);.exact nD hb
     .omega
    have ba:=YB (e0:=e0) (tr:=tr) (λi j=>i∈(fW ops []).getD j []\/(i=p/\j=p+1)) sp ab ag ah be;obtain⟨v,U',b1,ak⟩:=aI i o ab;rw[Ab]at ak;have b2:fS (λj=>decide (j<i)) q 0 ops tr cd=cd:=AE _ q ops tr 0 cd λk o hk h3=>by
     rw[Ab]at h3⊢;by_cases al:k<p;.have:=(ay k o al hk).1;omega
     .simp;omega
    rw[b2]at ak;refine Jn (ops:=ops) (Q:=fo c nt Q) (next:=wpAny P .any ops.toArray (fo c nt Q) fuel (bJ.setIfInBounds i true)) o hs (ak.step (λs ai=>?_) (λh=>om) λ_=>?_) ?_
    .simp only[fe];split;.rename_i h;subst h;exact absurd ai bz
     .exact ba s ai
    .rw[Kp.ma hn]
    .rintro e' s' a' w' L' I' ai ⟨rfl,rfl⟩;rw[ahO om]at ai;refine next a' w' L' I' (.inr ⟨⟨by rw[ad (p+1) om];exact a7,by rw[ad p om];exact a8⟩,?_⟩);have b3:=YC (e0:=e0) (λi j=>i∈(fW ops []).getD j []\/(i=p/\j=p+1)) sp ab b1 aa be;have:fP (fe (fE (λi=>bJ.getD i false) 0 ops tr e0) dB (.ptr cd.length 0)) o.dst v=fe (fE (λk=>(bJ.setIfInBounds i true).getD k false) 0 ops tr e0) dB (.ptr cd.length 0):=by
      rw[<-b3];funext s;by_cases h2:s=dB;.subst h2;rw[AD _ _ _ _ b0];simp[fe]
      .by_cases h3:o.dst=some s;.rw[AB _ _ _ _ h3];simp only[fe,ahO h2];rw[AB _ _ _ _ h3]
       .rw[AD _ _ _ _ h3];simp only[fe,ahO h2];rw[AD _ _ _ _ h3]
     grind
theorem QU(D:Nat->Bool):∀(ad aa:List Oper)(ae ab:List (V×St))(i:Nat)(e:Env),ae.length=ad.length->fE D i (ad++aa) (ae++ab) e=fE D (i+ad.length) aa ab (fE D i ad ae e)
 |[],aa,[],ab,i,e,_=>by rfl|[],_,_::_,_,_,_,h=>by grind|_::_,_,[],_,_,_,h=>by grind|o::os,aa,(v,s)::tr,ab,i,e,h=>by simp only[Bg,fE,Af];rw[QU D os aa tr ab (i+1) _ (sU h),show i+1+os.length=i+(os.length+1)by omega]
theorem QV(D:Nat->Bool)(q:List (Nat×Nat)):∀(ad aa:List Oper)(ae ab:List (V×St))(i:Nat)(U:St),ae.length=ad.length->fS D q i (ad++aa) (ae++ab) U=fS D q (i+ad.length) aa ab (fS D q i ad ae U)
 |[],aa,[],ab,i,e,_=>by rfl|[],_,_::_,_,_,_,h=>by grind|_::_,_,[],_,_,_,h=>by grind|o::os,aa,(v,s)::tr,ab,i,e,h=>by simp only[Bg,fS,Af];rw[QV D q os aa tr ab (i+1) _ (sU h),show i+1+os.length=i+(os.length+1)by omega]
theorem QW{ops:List Oper}{q:List (Nat×Nat)}:∀(aa ab:List Oper)(ae ad:List (V×St))(i:Nat)(e:Env)(U:St),o9 P c nt n0 ops q i aa e U ae->o9 P c nt n0 ops q (i+aa.length) ab (fE (λ_=>true) i aa ae e) (fS (λ_=>true) q i aa ae U) ad->o9 P c nt n0 ops q i (aa++ab) e U (ae++ad)
 |[],ab,[],ad,i,e,U,_,h=>by simpa|[],_,_::_,_,_,_,_,h,_=>h.elim|_::_,_,[],_,_,_,_,h,_=>h.elim|o::os,ab,(v,s)::tr,ad,i,e,U,h1,h2=>by
  refine⟨h1.1,QW os ab tr ad (i+1) _ _ h1.2 ?_⟩;rw[fE,fS,ahP rfl]at h2;have:(if((λ_=>true) i&&decide (3<=zX q i o))=true then s else U)=s:=by
   by_cases h3:3<=zX q i o;.grind
   .rw[ahO (by grind)];exact(h1.1.2.1 om).symm
  grind
def two(P:Program)(ops:List Oper)(q:List (Nat×Nat))(p:Nat):Bool:=match ops[p]?,ops[p+1]?with |some ⟨some dA,.alloc t,tA,ME,aA,none⟩,some ⟨some dB,.alloc t',tB,MF,aB,none⟩=>Nat.beq t t'&&!Nat.beq dA dB&&Nat.beq (zX q p ⟨some dA,.alloc t,tA,ME,aA,none⟩) 3&&Nat.beq (zX q (p+1) ⟨some dB,.alloc t',tB,MF,aB,none⟩) 3&&(match gK P t with|some z=>z.all oZ|none=>false)&&((List.range ops.length).all λk=>match ops[k]?with |some o=>if k<p then decide (zX q k o<2)&&!(o8 ops o).contains dA&&!(o8 ops o).contains dB&&(match o.dst with|some d=>!Nat.beq d dA&&!Nat.beq d dB|none=>false)else if p+1<k then((fW ops []).getD k []).contains p&&((fW ops []).getD k []).contains (p+1)else true|none=>true)&&((List.range ops.length).all λj=>(List.range j).all λi=>match ops[i]?,ops[j]?with |some x,some y=>(!uG ops q i j x y||((fW ops []).getD j []).contains i||(Nat.beq i p&&Nat.beq j (p+1)))&&(!Nat.blt j p||(match x.dst,y.dst with|some d,some d'=>!Nat.beq d d'|_,_=>true))|_,_=>true)|_,_=>false
theorem VW.Hh{id:Nat}{Q:Exit->Env->St->Prop}(p:Nat)(hm:P.follows .mixedOrders)(hn:n0.n<=U.length)(hc:c.cd.length<=U.length)(an:c.β0.length=c.cd.length)(h2:two P ops q p)(ao:rX ops)(aq:U.all (bO U.length))(h0:∀s,jZ U.length (e s))(h:rY P c nt n0 ops q 0 (ops.take p) (λe' U'=>(∀s,jZ U.length (e' s)=true)/\rY P c nt n0 ops q p (ops.drop p) (Q .normal) e' U') e U):VW P c nt (.region id ops.toArray true) Q e U:=by
 obtain⟨aa,ah,aJ,h⟩:=DF _ _ _ _ _ h;obtain⟨ab,ar,hK⟩:=DF _ _ _ _ _ h;unfold two at h2;split at h2;case h_2=>cases h2
 rename_i dA t tA aG aA dB t' tB aH aB hA hB;simp only[A8,Nat.beq_eq,Dm,Aj,D4]at h2;obtain⟨⟨⟨⟨⟨⟨au,av⟩,aw⟩,ax⟩,hz⟩,hk⟩,hd⟩:=h2;subst au;have aK:p+1<ops.length:=(A5.1 hB).1;have ae:(ops.take p).length=p:=by simp;omega
 obtain⟨af,aI⟩:=Fz ops q _ _ _ _ _ ah;have ht:=QW (ops.take p) (ops.drop p) aa ab 0 e U ah (by rw[ae,Ab];exact ar);have hE:=QU (λ_=>true) (ops.take p) (ops.drop p) aa ab 0 e af;have hS:=QV (λ_=>true) q (ops.take p) (ops.drop p) aa ab 0 U af;rw[ae,Ab]at hE hS;rw[Bt]at ht hE hS;rw[<-hE,<-hS]at hK;obtain⟨z,ay,az⟩:∃z,gK P t=some z/\z.all oZ=true:=by
  split at hz;.exact⟨_,by assumption,hz⟩
  .cases hz
 have ai:dA≠dB:=λq=>by subst q;simp at av
 have aj:∀(k:Nat) o,k<p->ops[k]?=some o->(zX q k o<2/\dA∉o8 ops o/\dB∉o8 ops o/\o.dst≠some dA/\o.dst≠some dB)/\∃d,o.dst=some d:=by intro k o ad ho;have:=hk k om;rw[ho]at this;simp only[ahP ad,A8,ahS,Dm]at this;obtain⟨⟨⟨a1,a2⟩,a3⟩,a4⟩:=this;cases hd:o.dst with|none=>rw[hd]at a4;cases a4|some d=>rw[hd]at a4;simp only[A8,Dm]at a4;refine⟨⟨a1,by simpa using a2,by simpa using a3,λq=>?_,λq=>?_⟩,d,rfl⟩;all_goals simp_all
 refineλa w L I hs=>?_;refine wp_region_any hm ?_;have hg:∀j,(Array.replicate ops.toArray.size false).getD j false=false:=λj=>by simp[Array.getD]
 have e1:fE (λi=>(Array.replicate ops.toArray.size false).getD i false) 0 ops (aa++ab) e=e:=by funext t;exact Jm _ t ops (aa++ab) 0 e λk o _ _=>hg _
 have e2:fS (λi=>(Array.replicate ops.toArray.size false).getD i false) q 0 ops (aa++ab) U=U:=AE _ q ops (aa++ab) 0 U λk o _ _=>hg _;refine YE hn hc an hA hB ai aw ax ay az (λk o a b=>(aj k o a b).1) (λk o a6 ho=>?_) (λ{i j x y}a7 hx hy=>?_) ao aq h0 (λk v s ad hv=>?_) ht hK _ _ a w.drew L I sm sm (λj o _ hj=>by rw[hg]at hj;cases hj) (.inl ⟨λh=>(by rw[hg]at h;cases h),?_⟩);.have:=hk k (A5.1 ho).1;rw[ho]at this;simp only[ahO (show¬k<p by omega),ahP a6,A8]at this;exact⟨by simpa using this.1,by simpa using this.2⟩
 .have:=hd j (A5.1 hy).1 i a7;rw[hx,hy]at this;simp only[A8,Ce,Dm,Nat.beq_eq]at this;grind
 .obtain⟨o,ho⟩:∃o,ops[k]?=some o:=⟨ops[k],by simp[A0 (show k<ops.length by omega)]⟩;obtain⟨_,d,ak⟩:=aj k o ad ho;have a8:aa[k]?=some (v,s):=by rw[Be (by rw[af,ae];exact ad)]at hv;exact hv
  have aC:(ops.take p)[k]?=some o:=by rw[List.getElem?_take_of_lt ad];exact ho
  have:=DD (λ_=>true) d (ops.take p) aa 0 k e o v s aC a8 ak rfl λk' o' aD ag aE=>by
   exfalso;have al:k'<p:=by rw[<-ae];exact(A5.1 ag).1
   rw[List.getElem?_take_of_lt al]at ag;have:=hd k' om k aD;rw[ho,ag]at this;simp only[A8]at this;have:=this.2;rw[ak,aE]at this;simp at this;rw[<-Bool.not_eq_true,Nat.blt_eq]at this;omega
  grind
 .rw[e1,e2];obtain⟨aF,hle⟩:=hs.mem.drew;exact⟨aF,hs.size,hs.defs,λt=>(hs.env t).mono hle (Ext.refl _ _)⟩
def mI(n:Nat)(e:Env):Prop:=∀s,jZ n (e s)=true
theorem mI.fe{n:Nat}{d:Tmp}{v:V}(he:mI n e)(hv:jZ n v):mI n (fe e d v):=λs=>by
 simp only[Vx.fe];split;.exact hv
 .exact he s
theorem MG{id:Nat}{Q:QT}{l1 l2:List Oper}(q:List (Nat×Nat))(n0 p:Nat)(hn:n0<=U.length)(hm:P.follows .mixedOrders)(hc:c.cd.length<=U.length)(aa:c.β0.length=c.cd.length)(h2:(two P ops q p&&rX ops))(ab:U.all (bO U.length))(h0:mI U.length e)(h1:ops.take p=l1)(h3:ops.drop p=l2)(h:rZ P c nt (Kp.pre n0) ops q 0 l1 (λe' U'=>mI U.length e'/\rZ P c nt (Kp.pre n0) ops q p l2 (Q .normal) fx fx fx e' U') fx fx fx e U):ga P c nt (.region id ops.toArray true) Q fx fx e U:=by subst h1;subst h3;simp only[A8]at h2;exact VW.Hh (n0:=Kp.pre n0) p hm hn hc aa h2.1 h2.2 ab h0 h
theorem Kp.pe{k:Kp}{id:Nat}(h:k.out id):(id<k.x/\k.ob=none)\/k.n<=id:=by simp_all[Kp.out]
def QX(n0:Kp):V->Bool |.sl .full _=>true|.sl (.app id) _=>n0.out id|.cL id _ _ _ _=>n0.out id|_=>false
attribute [go_sem] QX
@[go_sem]theorem v8{K:KT}{d:Option Tmp}{x y:Operand}{t1 t2:TypeId}(h:QX n0 (zI e x)):ez P c nt n0 3 d (.call ⟨.builtin .append,#[x,y],#[t1,t2]⟩) K fx fx e U=ef P c nt d (.call ⟨.builtin .append,#[x,y],#[t1,t2]⟩) K fx fx e U:=by
 show ft P c nt n0 3 d (.call ⟨.builtin .append,#[x,y],#[t1,t2]⟩) K e U=jg P c nt d (.call ⟨.builtin .append,#[x,y],#[t1,t2]⟩) K e U;have h1:vV (xP P d e U (.call ⟨.builtin .append,#[x,y],#[t1,t2]⟩))=false:=by unfold xP;split;all_goals simp[Md,uK]
 have hA:∀(el:Option (Nat×Nat))(k2:Nat)(y:V),jo n0 3 U (sN el k2 U (zI e x) y):=λel k2 y=>by
  unfold sN;split
  .split;.exact⟨sm,λ_=>.inl ⟨_,rfl⟩⟩
   .rename_i hx;rw[hx]at h;have h:=Kp.pe (k:=n0) h;split<;>first|trivial|exact⟨sm,λ_=>.inr (Kp.iR h)⟩
   .rename_i hx;rw[hx]at h;have h:=Kp.pe (k:=n0) h;(repeat' split)<;>first|trivial|exact⟨sm,λ_=>.inr (Kp.iR h)⟩
   trivial
  trivial
 have hL:∀(el:Option (Nat×Nat))(k2:Nat)(y:V),jo n0 3 U (sO el k2 U (zI e x) y):=λel k2 y=>by
  unfold sO;split;.rename_i hx;rw[hx]at h;have h:=Kp.pe (k:=n0) h;(repeat' split)<;>first|trivial|exact⟨sm,λ_=>.inr (Kp.iR h)⟩
  ·(repeat' split)<;>first|trivial|exact⟨sm,λ_=>.inl ⟨_,rfl⟩⟩
 have h2:jo n0 3 U (xP P d e U (.call ⟨.builtin .append,#[x,y],#[t1,t2]⟩)):=by
  unfold xP;split;.exact hL (ec P t1) (du P t2) (zI e y)
  .exact hA (ec P t1) (du P t2) (zI e y)
 grind[ft,jg]
theorem mI.kO {n:Nat}:mI n kO:=λ_=>rfl
end
variable{U:St}{P:Program}{e:Env}{n:Nat}{m:Nat}{c:Ctx}{nt:Nat}{o:Ob}{f:FuncId}
theorem YF(t s:Nat)(rows:List (List V)){Q:QT}{y:Code}(h0:0<s)(hu:eM s rows)(ht:e t=.sl .full rows)(hy:ga P c nt y Q fx fx (fe e t (.sl (.app U.length) rows)) (U++[.app rows.length s])):ga P c nt y Q fx fx e U:=by
 intro a w L I hs;have hr:=hs.env t;rw[ht]at hr;have hr:cy w L (.sl .full rows) (a.tmps.getD t undef):=hr;obtain⟨ad,hx,ab⟩:∃ad,a.tmps.getD t undef=.slice ad rows.length rows.length/\cy w L (.sl .ro rows) (.slice ad rows.length rows.length):=by generalize a.tmps.getD t undef=x at hr;cases hr with |jk g ad cap hg ha=>have:=hg rfl;subst this;exact⟨ad,rfl,.jk .ro ad 0 om sm⟩|sl g rows s b o cap c ha hs hlen fq db hg hc hr=>have:=hg rfl;subst this;exact⟨_,rfl,.sl .ro rows s b o _ c sm hs hlen fq db om hc hr⟩
 have aa:=Ext.push U I hs.mem.len (.app rows.length s) (.slice ad rows.length rows.length);refine hy a w L (I++[.slice ad rows.length rows.length]) ⟨hs.mem.own h0,hs.size,hs.defs,λk=>?_⟩;simp only[fe];split;.rename_i hk;subst hk;rw[hx];exact⟨ab,rows.length,s,sm,om,λ_=>by rw[<-hs.mem.len];simp,hu⟩
 .exact(hs.env k).mono (Le.refl _ _) aa
theorem YG(i j:Nat){p:Ob}{bY args cc:List V}{KV:V->St->Prop}{R:V->St->Prop}(hc:bL P f cc [o,p] R)(hb:wQ P f)(ae:i≠j)(ho:U[i]?=some o)(hp:U[j]?=some p)(cK:bO 0 o)(ad:bO 0 p)(aa:bM (cR (cO [i,j] U.length)) cc (args++bY))(hR:∀r s,R r s->∃o2 p2,s=[o2,p2]/\bO 0 o2=true/\bO 0 p2)(hK:∀r o2 p2,R r [o2,p2]->KV (dG (cO [i,j] U.length) r) ((U.set i o2).set j p2)):jE P c (.fn f bY) args U KV fx:=by
 have ab:∀q:Ob,bO 0 q=true->yO (cO [i,j] U.length) q=q:=λq h=>mF (n:=0) om h;refine VC.of hc hb [i,j] (by grind) rfl (λk l q h1 h2=>?_) aa λr s h _=>?_;.match k with|0=>simp at h1 h2;subst h1;subst h2;rw[ab _ cK];exact ho|1=>simp at h1 h2;subst h1;subst h2;rw[ab _ ad];exact hp|k+2=>simp at h1
 .obtain⟨o2,p2,rfl,h1,h2⟩:=hR r s h;grind[wD,gr]
theorem JH(pick:aik){n0:Nat}{R:V->St->Prop}{s:St}{v r:V}(aa:pick.Nodup)(hn:∀i,i<n0->pick[i]?=some i)(hlen:s.length=pick.length)(ab:∀(i j:Nat)(o:Ob),pick[i]?=some j->s[i]?=some o->U[j]?=some (yO (cO pick U.length) o))(hr:cR (cO pick U.length) r v)(hR:R r s):bW (some v) n0 R U:=⟨v,rfl,v,U,pick,s,r,.refl _ _,⟨hlen,aa,ab,hn⟩,hr,hR⟩
theorem bL.GM{args:List V}{v:V}{R:V->St->Prop}(h:bL P f args [] R)(hR:∀r s,R r s->∃r' s',oE [r] s [r'] s'/\cR (cO [] s'.length) v r'):Pure P f args v:=by intro w L I aa hm ha;refine(h w L I aa hm ha).mono ?_;rintro e w' ⟨x,r,L',U',I',he,hr,hl,ad,ae⟩;obtain⟨r',s',hf,hv⟩:=hR r U' hr;obtain⟨L2,I2,ab,ai,af,ag⟩:=hf.ok ad (show bM (dj w' L' U' I') [r] [x]from⟨ae,tV⟩);have dd:I.length=([]:St).length:=hm.len;have hp:gy (entry w L [] I).cd.length [] s' []:=⟨rfl,C5,sm,λi q=>(by trivial)⟩;have ah:=ab.pick hp dd;refine⟨x,v,L2,[],[],he,sm,om,ah,?_⟩;exact zf (hp.jm ab.len) hv ag.1
theorem YH(h:n<=m){v:V}(hv:cF n v):cF m v=true:=by cases v with|sl g rows=>cases g<;>simp_all[cF]<;>omega|_=>simp_all[cF]<;>omega
theorem MH(h:n<=m){v:V}(hv:cH n v):cH m v=true:=by cases v<;>grind[cH,YH]
theorem QY(h:n<=m){v:V}(hv:l8 n v):l8 m v=true:=by cases v<;>grind[l8,MH]
theorem QZ(h:n<=m)(ho:bO n o):bO m o=true:=by cases o with
 |box cells=>grind[bO,MH]|cj rows s=>grind[bO,MH]|mp dD gk cM=>grind[bO,QY]|it m' since seen last=>cases m' with |none=>rfl|some i=>simp_all[bO];omega
 |_=>rfl
theorem YI{bY args cc:List V}{o2:Ob}{v:V}{KV:V->St->Prop}(hc:bL P f cc [o] (λr s=>r=v/\s=[o2]))(hb:wQ P f)(ho:U[0]?=some o)(ad:bO 0 o)(ab:bO 0 o2)(aa:bM (cR (cO [0] U.length)) cc (args++bY))(hn:iH v)(hk:KV v (U.set 0 o2)):qN P c ⟨1,n,[],none⟩ 3 (.fn f bY) args U KV fx:=by
 have ae:∀q:Ob,bO 0 q=true->yO (cO [0] U.length) q=q:=λq h=>mF (n:=0) om h;have e:wD [0] U [o2]=U.set 0 o2:=by grind[wD,gr]
 refine Mf hc hb [0] sm rfl (λi j q h1 h2=>?_) aa (.inr ?_) ?_;.grind
 .rw[e];exact Kp.iR sm
 grind[DB]
def yW(b:Bool):R->Prop|.eF p _=>b=true->p|.dp p _ _=>b=true->p|_=>True
def lL(s:Nat)(rows:List (List V)):Bool:=rows.all λr=>r.length==s
theorem wa{s:Nat}{rows:List (List V)}(h:lL s rows):eM s rows:=λr hr=>by have:=Aj.1 h r hr;grind
def MI:List V->Bool|[.int .u8 _]=>true|_=>false
theorem YJ{rows:List (List V)}(h:rows.all MI):GH rows:=λr hr=>by have:=Aj.1 h r hr;unfold MI at this;grind
def JI(op:BinOp)(y:Int):Bool:=match op with |.quo|.rem=>decide (y≠0)|.shl|.shr=>decide (0<=y)|_=>true
def MJ(op:BinOp)(x y:aij):Bool:=match op with |.add=>decide (x.length+y.length<=9223372036854775807)|_=>true
def DO(op:BinOp)(x y:V):Bool:=match x,y with|.int _ _,.int _ b=>JI op b|.str a,.str b=>MJ op a b|_,_=>true
theorem YK(op:BinOp)(k:IntKind)(x y:Int):yW (JI op y) (BT op k x y):=by cases op<;>simp[BT,JI,yW]
theorem YL(op:BinOp)(x y:aij):yW (MJ op x y) (BU op x y):=by cases op<;>simp[BU,MJ,yW]
theorem YM(op:BinOp)(ek:Nat)(es:Option (List Pk))(x y:V):yW (DO op x y) (oA op ek es x y):=by
 unfold oA;split;.grind[DO,YK,JI,yW]
 .exact YL ..
 all_goals(repeat' split)<;>trivial
theorem YN(op:BinOp)(ek:Nat)(x:V)(b:Bool):yW b (vy op ek x):=by unfold vy GA;(repeat' split)<;>trivial
def MK(sl:aip)(ar:Option (Nat×Nat×Bool))(x i:V):Bool:=match x,i with |.sl _ rows,.int _ k=>(match sl with|some s=>decide (0<=k/\k<rows.length/\(rows.getD k.toNat []).length=s)|none=>true)|.ptr _ _,.int _ k=>(match ar with|some (n,_,_)=>decide (0<=k/\k<n)|none=>true)|.oQ _ _,.int _ k=>(match ar with|some (n,_,_)=>decide (0<=k/\k<n)|none=>true)|.cL _ _ _ _ m,.int _ k=>decide (0<=k/\k<m)|.j9 _ _ _ n,.int _ k=>decide (0<=k/\k<n)|_,_=>true
theorem YO(sl:aip)(ar:Option (Nat×Nat×Bool))(x i:V):yW (MK sl ar x i) (vD sl ar x i):=by
 unfold vD;split;all_goals first|trivial|simp only[MK]
 all_goals split<;>first|trivial|simp only[yW,ahS,imp_self]
def wi(x i:V)(ar:Option (Nat×Nat×Bool)):Bool:=match x,i with |.str b,.int _ k=>decide (0<=k/\k<b.length)|.agg cs,.int _ k=>(match ar with|some (n,s,false)=>decide (0<=k/\k<n/\(k.toNat*s)<cs.length)|_=>true)|_,_=>true
theorem YP(x i:V)(str:Bool)(ar:Option (Nat×Nat×Bool)):yW (wi x i ar) (vE x i str ar):=by
 unfold vE;split;.simp only[wi];split<;>first|trivial|simp only[yW,ahS,imp_self]
 .split;all_goals simp[wi,yW]
 trivial
def Hi(es:aip)(x:V)(lo hi:Option V):Bool:=match x with |.cL _ s n l0 m=>(match oB lo 0,oB hi m,es with|some l,some h,some z=>decide (0<=l/\l<=h/\(h<=m\/(l0:Int)+h<=n)/\z=s)|_,_,_=>true)|.str s=>(match oB lo 0,oB hi s.length with|some l,some h=>decide (0<=l/\l<=h/\h<=s.length)|_,_=>true)|.sl _ rows=>(match oB lo 0,oB hi rows.length,es with|some l,some h,some z=>decide (0<=l/\l<=h/\h<=rows.length)&&lL z rows|_,_,_=>true)|_=>true
theorem YQ(ar:Option (Nat×Nat×Bool))(k:Nat)(es:aip)(x:V)(lo hi:Option V):yW (Hi es x lo hi) (sQ ar k es x lo hi):=by
 unfold sQ;split
 .split;.rename_i h1 h2;split;all_goals simp_all[Hi,yW]
  trivial
 .split<;>trivial
 .split;.rename_i h1 h2;split;all_goals simp_all[Hi,yW]
  trivial
 .split;.rename_i h1 h2;split;all_goals simp_all[Hi,yW,wa]
  trivial
 trivial
def ML(es:aip)(x lo hi mx:V):Bool:=match x,lo,hi,mx,es with |.sl _ rows,.int _ l,.int _ h,.int _ m,some z=>decide (0<=l/\l<=h/\h<=rows.length/\m=h)&&lL z rows|.cL _ s _ _ n,.int _ l,.int _ h,.int _ m,some z=>decide (0<=l/\l<=h/\h<=m/\m<=n/\z=s)|_,_,_,_,_=>true
theorem YR(es:aip)(x lo hi mx:V):yW (ML es x lo hi mx) (yw es x lo hi mx):=by unfold yw;split;all_goals simp_all[ML,yW,wa]
def Q0(x:V):Bool:=match x with|.sl _ rows=>rows.all MI|_=>true
theorem YS(ks kd:Option Kd)(x:V):yW (Q0 x) (vF ks kd x):=by
 unfold vF;split;.split<;>trivial
 .split<;>trivial
 .split<;>trivial
 .split;.exact YJ
  trivial
 trivial
def Hj(el:Option (Nat×Nat))(l m:V):Bool:=match el,l,m with |some (_,lH),.int .i64 n,.int .i64 k=>decide (0<=n/\n<=k/\k.toNat*lH<=140737488355328)|_,_,_=>false
theorem YT(el:Option (Nat×Nat))(zs:Option (List V))(U:St)(l m:V):yW (Hj el l m) (vG el zs U l m):=by unfold vG;split;all_goals simp[Hj,yW]
theorem YU(el:Option (Nat×Nat))(zs:Option (List V))(U:St)(l m:V):yW (Hj el l m) (vH el zs U l m):=by unfold vH;split;all_goals simp[Hj,yW]
def MM(sl:aip)(U:St)(x:V):Bool:=match x with |.cL id s n lo m=>(match U[id]?with|some (.cj rows s')=>decide (sl=some s/\s'=s/\rows.length=n/\lo+m<=n)|_=>true)|_=>true
theorem YV(sl:aip)(zs:Option (List V))(U:St)(x:V):yW (MM sl U x) (vI sl zs U x):=by
 unfold vI;split;.split;all_goals simp_all[MM,yW]
 trivial
def qS(U:St):V->Bool |.cL id s n lo m=>(match U[id]?with|some (.cj rows s')=>decide (s'=s/\rows.length=n/\lo+m<=n)&&xB ((rows.drop lo).take m)|_=>false)|_=>true
theorem Hk{y:V}(h:qS U y):sM U y:=by
 unfold sM;split
 .simp only[qS]at h;split at h;.rename_i h1;rw[h1];simp only[A8,ahS]at h;exact⟨h.1.1,h.1.2.1,h.1.2.2,h.2⟩
  grind
 simp
def FK(el:Option (Nat×Nat))(k2:Nat)(U:St)(x y:V):Bool:=match el,BW k2 U y with |some (s,lH),some r2=>(match x with |.sl .full r1=>qS U y&&decide ((r1.length+r2.length)*lH<=140737488355328)&&lL s r1&&lL s r2|.sl (.app id) r1=>(match U[id]?with |some (.app n s')=>qS U y&&decide (r1.length=n/\s'=s/\(r1.length+r2.length)*lH<=140737488355328)&&lL s r2|_=>true)|.cL id s1 n lo m=>(match U[id]?with |some (.cj rows s')=>qS U y&&decide (s1=s/\s'=s/\rows.length=n)&&lL s r2&&(decide (lo+m+r2.length<=n)||decide (lo=0/\m=n/\(n+r2.length)*lH<=140737488355328))|_=>true)|_=>true)|_,_=>true
theorem YW(el:Option (Nat×Nat))(k2:Nat)(U:St)(x y:V):yW (FK el k2 U x y) (sN el k2 U x y):=by
 unfold sN;split
 .rename_i h2;split;.simp_all[FK,yW,Hk,wa]
  .split;all_goals simp_all[FK,yW,Hk,wa]
  .split
   .rename_i h3;split;.simp_all[FK,yW,Hk,wa]
    simp_all[FK,yW,Hk,wa];omega
   trivial
  trivial
 trivial
def MN(U:St):V->Bool |.cL id s n lo m=>(match U[id]?with|some (.cj rows s')=>decide (s'=s/\rows.length=n/\lo+m<=n)|_=>false)|_=>true
theorem Q1{y:V}(h:MN U y):BX U y:=by
 unfold BX;split;.simp only[MN]at h;grind
 simp
def Hl(el:Option (Nat×Nat))(k2:Nat)(U:St)(x y:V):Bool:=match x with |.cL id s1 n lo m=>(match el,GC k2 U y with |some (s,lH),some r2=>(match U[id]?with |some (.cj rows s')=>MN U y&&decide (s1=s/\s'=s/\rows.length=n)&&lL s r2&&(decide (lo+m+r2.length<=n)||decide (lo=0/\m=n/\(n+r2.length)*lH<=140737488355328))|_=>true)|_,_=>true)|x=>match el,BW k2 U y with
 |some (s,lH),some r2=>(match x with |.sl .full r1=>qS U y&&decide ((r1.length+r2.length)*lH<=140737488355328)&&lL s r1&&lL s r2&&(!r2.isEmpty||r1.isEmpty)|_=>true)|_,_=>true
theorem YX(el:Option (Nat×Nat))(k2:Nat)(U:St)(x y:V):yW (Hl el k2 U x y) (sO el k2 U x y):=by
 unfold sO;split
 .split
  .rename_i h2;split
   .rename_i h3;split;.simp_all[Hl,yW,Q1,wa]
    simp_all[Hl,yW,Q1,wa];omega
   trivial
  trivial
 .split
  .rename_i h2;split;.simp only[Hl,h2,yW,A8,ahS];grind[Hk,wa]
   trivial
  trivial
def Hm(L:Bool)(es:aip)(len:Nat)(parts:List (Nat×V)):Bool:=match es with |some s=>(parts.all λp=>(L||uv p.2)&&(xT p.2).length==s)&&decide (len*s<=16777216/\0<s)|none=>true
theorem YY(es:aip)(len:Nat)(parts:List (Nat×V)):yW (Hm false es len parts) (uw es len parts):=by
 unfold uw;split;.split;all_goals simp[Hm,yW]
 trivial
theorem YZ(es:aip)(len:Nat)(U:St)(parts:List (Nat×V)):yW (Hm true es len parts) (uy es len U parts):=by
 unfold uy;split;.split;all_goals simp[Hm,yW]
 trivial
def DP(P:Program)(L:Bool)(e:Env)(U:St):Op->Bool |.buildSlice t n ps=>Hm L ((ec P t).map (·.1)) n (ps.toList.map λp=>(p.1,zI e p.2))|.binOp op _ x y _=>DO op (zI e x) (zI e y)|.convert _ _ x=>Q0 (zI e x)|.slice t x lo hi none=>if L then false else Hi ((ec P t).map (·.1)) (zI e x) (lo.map (zI e)) (hi.map (zI e))|.slice t x (some lo) (some hi) (some mx)=>ML ((ec P t).map (·.1)) (zI e x) (zI e lo) (zI e hi) (zI e mx)|.indexAddr t x i=>MK (eQ P t) (iD P t) (zI e x) (zI e i)|.index t x i=>wi (zI e x) (zI e i) (iD P t)|.makeSlice t l m=>Hj (ec P t) (zI e l) (zI e m)|.call ⟨.builtin .append,⟨[x,y]⟩,⟨[t,t']⟩⟩=>if L then Hl (ec P t) (du P t') U (zI e x) (zI e y)else FK (ec P t) (du P t') U (zI e x) (zI e y)|.call ⟨.builtin .clear,⟨[x]⟩,⟨[t]⟩⟩=>MM ((ec P t).map (·.1)) U (zI e x)|_=>true
def Y0:R->Bool|.eF _ _|.dp _ _ _=>false|_=>true
theorem xC{b:Bool}{r:R}(h:Y0 r):yW b r:=by cases r<;>first|trivial|cases h
theorem MO(op:Op):yW (DP P false e U op) (bZ P e U op):=by
 unfold bZ;split;.trivial
 .trivial
 .refine xC ?_;unfold yj;(repeat' split)<;>rfl
 .refine xC ?_;unfold rR;(repeat' split)<;>rfl
 .refine xC ?_;unfold vC;(repeat' split)<;>rfl
 .refine xC ?_;unfold yt;(repeat' split)<;>rfl
 .exact YY ..
 .refine xC ?_;unfold nx;(repeat' split)<;>first|rfl|(unfold rQ;(repeat' split)<;>rfl)
 .refine xC ?_;unfold vz;(repeat' split)<;>rfl
 .refine xC ?_;unfold yl;(repeat' split)<;>rfl
 .split;.grind[YN]
  .split;.refine xC ?_;unfold zb;(repeat' split)<;>rfl
   .exact YM ..
 .refine xC ?_;unfold nw;(repeat' split)<;>rfl
 .exact YS ..
 .exact YQ ..
 .exact YR ..
 .refine xC ?_;unfold yn;(repeat' split)<;>rfl
 .refine xC ?_;unfold yy;(repeat' split)<;>rfl
 .exact YO ..
 .exact YP ..
 .refine xC ?_;unfold ym;(repeat' split)<;>rfl
 .refine xC ?_;unfold yz;(repeat' split)<;>rfl
 .exact YT ..
 .refine xC ?_;unfold yp;(repeat' split)<;>rfl
 .exact YW ..
 .exact YV ..
 .refine xC ?_;unfold qp;(repeat' split)<;>rfl
 .refine xC ?_;unfold qp;(repeat' split)<;>rfl
 .refine xC ?_;unfold za;(repeat' split)<;>rfl
 .refine xC ?_;unfold y8;(repeat' split)<;>rfl
 .refine xC ?_;unfold wI;(repeat' split)<;>rfl
 .refine xC ?_;unfold wG;(repeat' split)<;>rfl
 .refine xC ?_;unfold wG;(repeat' split)<;>rfl
 .refine xC ?_;unfold wN;(repeat' split)<;>rfl
 .refine xC ?_;unfold wB;(repeat' split)<;>rfl
 .refine xC ?_;unfold zc;(repeat' split)<;>rfl
 .refine xC ?_;unfold qx;(repeat' split)<;>rfl
 .refine xC ?_;unfold ze;(repeat' split)<;>rfl
 .refine xC ?_;unfold nA;(repeat' split)<;>rfl
 .trivial
theorem Y1(op:Op):yW (DP P false e U op&&DP P true e U op) (gX P e U op):=by
 have lE:∀{b c:Bool}{r:R},yW b r->yW (c&&b) r:=by intro b c r h;cases r with |eF p v=>exactλq=>h (by grind)|dp p v s=>exactλq=>h (by grind)|_=>trivial
 have aa:∀{b c:Bool}{r:R},yW b r->yW (b&&c) r:=by simp_all
 unfold gX;split;.exact lE (YZ ..)
 .exact lE (YU ..)
 .refine xC ?_;unfold y4;(repeat' split)<;>rfl
 .refine lE (b:=false) ?_;unfold yu;(repeat' split)<;>first|trivial|exactλq=>by cases q
 .exact lE (YX ..)
 .refine xC ?_;unfold nA;(repeat' split)<;>rfl
 grind[MO]
def qT(b:Bool)(U:St):R->Option (V×St) |.ok v=>some (v,U)|.eF _ v=>if b then some (v,U)else none|.st v U'=>some (v,U')|.dp _ v U'=>if b then some (v,U')else none|_=>none
def MP(P:Program)(d:Option Tmp)(e:Env)(U:St)(op:Op):Option (V×St):=if l7 e d then qT (DP P false e U op&&DP P true e U op) U (gX P e U op)else qT (DP P false e U op) U (bZ P e U op)
theorem MQ{b:Bool}{U':St}{r:R}{v:V}{d:Option Tmp}{K:KT}(hn:yW b r)(h:qT b U r=some (v,U'))(hk:eV nt d v K e U'):mA nt d r K e U:=by cases r with
 |fail=>cases h|ok v'=>cases h;exact hk|eF p v'=>
  simp only[qT]at h;split at h;.rename_i hb;cases h;exact⟨hn hb,hk⟩
  grind|st v' s=>cases h;exact hk|dp p v' s=>
  simp only[qT]at h;split at h;.rename_i hb;cases h;exact⟨hn hb,hk⟩
  grind|all f=>cases h|any l=>cases h
theorem Y2{U':St}{op:Op}{v:V}{d:Option Tmp}{K:KT}(h:MP P d e U op=some (v,U'))(hk:eV nt d v K e U'):mA nt d (xP P d e U op) K e U:=by
 unfold MP at h;unfold xP;split at h;.rename_i hh;rw[ahP hh];grind[MQ,Y1]
 .rename_i hh;rw[ahO hh];grind[MQ,MO]
end Go.Vx
