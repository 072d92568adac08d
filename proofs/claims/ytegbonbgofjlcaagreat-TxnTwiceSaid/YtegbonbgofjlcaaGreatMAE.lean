/-
  More rules for walks.
  No condition: a library text; nothing of the program is named.
-/
import Derived.Test.YtegbonbgofjlcaaGreatMAD
import Derived.Carry
import Derived.ProofKit
import Derived.OpenShut
import Derived.IntWalk
import Derived.Test.YtegbonbgofjlcaaGreatRows
set_option maxHeartbeats 8000000
namespace Go.Vx
open Go
mutual
inductive mG(P:Program):TypeId->List V->Prop|bool{t:TypeId}(b:Bool):P.underlying t=some .bool->mG P t [.bool b]|int{t:TypeId}{k:IntKind}{n:Int}:P.underlying t=some (.int k)->(Lit.int k n).wf=true->mG P t [.int k n]|str{t:TypeId}{s:alW}:P.underlying t=some .string->s.length<=maxLen->mG P t [.str s]|sl{t e:TypeId}{rows:List (List V)}:P.underlying t=some (.slice e)->rows.length<=maxLen->lj P e rows->mG P t [.sl .ro rows]|struct{t:TypeId}{fs:Array Field}{cells:List V}:P.underlying t=some (.struct fs)->kK P (fs.toList.map (·.type)) cells->mG P t cells
inductive lj(P:Program):TypeId->List (List V)->Prop|nil{e:TypeId}:lj P e []|cons{e:TypeId}{r:List V}{rows:List (List V)}:mG P e r->lj P e rows->lj P e (r::rows)inductive kK(P:Program):List TypeId->List V->Prop|nil:kK P [] []|cons{t:TypeId}{ts:List TypeId}{a b:List V}:mG P t a->kK P ts b->kK P (t::ts) (a++b)end
def CX(P:Program):Nat->List Field->Nat->Bool |o,[],n=>o==n|o,f::fs,n=>f.offset==o&&CX P (o+P.cellsOf f.type) fs n
def Ff(P:Program)(T:List TypeId):Bool:=T.all λt=>match P.underlying t with |some .bool|some (.int _)|some .string=>true|some (.slice e)=>T.contains e&&decide (0<P.cellsOf e)|some (.struct fs)=>fs.all (λf=>T.contains f.type)&&CX P 0 fs.toList (P.cellsOf t)|_=>false
def iO(w:World):Nat->Nat:=λb=>match w.heap[b]?with|some (.cells c _ _)=>c.size|_=>0
section
variable{H:Type}{enc:TypeId×Value->H}{P:Program}{w:World}{base:Nat}{spare:Nat->Bool}{held:Bool}
theorem S0{b o:Nat}{x:Value}(h:w.cell? ⟨b,o,none⟩=some x):o<iO w b:=by unfold World.cell? at h;unfold iO;grind
theorem S1{T:List TypeId}(hT:Ff P T){t:TypeId}(h:t∈T):(match P.underlying t with |some .bool|some (.int _)|some .string=>true|some (.slice e)=>T.contains e&&decide (0<P.cellsOf e)|some (.struct fs)=>fs.all (λf=>T.contains f.type)&&CX P 0 fs.toList (P.cellsOf t)|_=>false)=true:=by grind[Ff]
inductive Sm(M:Nat):V->Prop|bool(b:Bool):Sm M (.bool b)|int(k:IntKind)(n:Int):Sm M (.int k n)|str{s:alW}:s.length<=M->Sm M (.str s)|sl{g:Tag}{rows:List (List V)}:rows.length<=M->(∀r∈rows,∀v∈r,Sm M v)->Sm M (.sl g rows)|agg{cs:List V}:(∀v∈cs,Sm M v)->Sm M (.agg cs)
structure pP{H:Type}(B:DataW H->Nat)(BA:List (DataW H)->Nat):Prop where
 str:∀s:alW,s.length<=B (.lit (.string s))sl:∀es sp,BA es<=B (.slice es sp)agg:∀ps,BA ps<=B (.agg ps)mem:∀d l,d∈l->B d<=BA l
 len:∀l:List (DataW H),l.length<=BA l
def Lx{H:Type}(d:DataW H)(vs:List V):Prop:=∀(B:DataW H->Nat)(BA:List (DataW H)->Nat),pP B BA->∀M,B d<=M->∀v∈vs,Sm M v
theorem On{T:List TypeId}(hT:Ff P T):∀(fuel:Nat)(t:TypeId)(cs:alY)(x:DataW H×List MemPlace),t∈T->DataW.trod enc P w base spare held fuel t cs=some x->∃vs,mG P t vs/\bP (cM w (iO w)) vs cs/\Lx x.1 vs
 |0,t,cs,x,_,h=>by simp[DataW.trod]at h|fuel+1,t,cs,x,ht,h=>by
  have hk:=S1 hT ht;split at hk;.rename_i hu;obtain⟨b,rfl,_⟩:=DataW.trod_bool hu h;exact⟨[.bool b],.bool b hu,⟨.bool b,tV⟩,λ_ _ _ _ _ v hv=>by simp at hv;subst hv;exact .bool b⟩
  .rename_i k hu;obtain⟨n,rfl,_,hw⟩:=DataW.trod_int hu h;exact⟨[.int k n],.int hu hw,⟨.int k n,tV⟩,λ_ _ _ _ _ v hv=>by simp at hv;subst hv;exact .int k n⟩
  .rename_i hu;obtain⟨s,rfl,rfl,hs⟩:=DataW.trod_string hu h;have hr:cM w (iO w) (.str s.data.toList) (.string ⟨s.data.toList.toArray⟩):=.str _;exact⟨[.str s.data.toList],.str hu (sU hs),⟨hr,tV⟩,λB BA hB M hM v hv=>by simp at hv;subst hv;exact .str (by have:=hB.str s.data.toList;simp only at hM;simp at this hM⊢;omega)⟩
  .rename_i e hu;simp only[Aa,alw,alL]at hk;obtain⟨he,ae⟩:=hk;rcases DataW.trod_slice hu h with⟨rfl,_⟩|⟨a,len,cap,elems,rest,n,a6,rfl,af,hb,hl,hm,hlen,a7,_,_⟩;.exact⟨[.sl .ro []],.sl hu (A5 _) .nil,⟨.jI _ _ _ (λq=>by cases q) (λ_=>sM),tV⟩,λ_ _ _ _ _ v hv=>by simp at hv;subst hv;exact .sl (A5 _) sM⟩
   .obtain rfl:fuel=n:=om;have each:∀i,i<len->∃(vs:List V)(aa:alY),mG P e vs/\bP (cM w (iO w)) vs aa/\aa.length=P.cellsOf e/\(∀j,j<P.cellsOf e->w.cell? ((a.add (i*P.cellsOf e)).add j)=aa[j]?)/\∃d∈elems.map (·.1),Lx d vs:=by intro i hi;have h1:=a7 i hi;rw[A0 om]at h1;cases hc:w.cells? base (a.add (i*P.cellsOf e)) (P.cellsOf e)with |none=>rw[hc]at h1;cases h1|some aa=>rw[hc]at h1;obtain⟨_,ah,ab⟩:=World.cells?_some hc;obtain⟨vs,hs,hr,ak⟩:=On hT fuel e aa _ he h1;grind
    rcases Nat.eq_zero_or_pos len with rfl|a8;.exact⟨[.sl .ro []],.sl hu (A5 _) .nil,⟨.jI _ _ _ (λq=>by cases q) (λ_=>sM),tV⟩,λ_ _ _ _ _ v hv=>by simp at hv;subst hv;exact .sl (A5 _) sM⟩
    .obtain⟨b,o,spot⟩:=a;have ai:spot=none:=by obtain⟨vs,aa,_,_,ah,ab,_⟩:=each 0 a8;have h0:=ab 0 ae;rw[A0 om]at h0;simp only[D0,Addr.add,alB]at h0;cases spot with|none=>rfl|some _=>grind[World.cell?]
     subst ai;have aH:∀i j,((⟨b,o,none⟩:Addr).add (i*P.cellsOf e)).add j=⟨b,o+i*P.cellsOf e+j,none⟩:=by intro i j;rw[wM,wM]
     have key:∀m,m<=len->∃rows:List (List V),rows.length=m/\lj P e rows/\(∀r∈rows,r.length=P.cellsOf e)/\(∀r∈rows,∃d∈elems.map (·.1),Lx d r)/\∀i j(hi:i<rows.length)(hj:j<rows[i].length),∃x,w.cell? ⟨b,o+(len-m+i)*P.cellsOf e+j,none⟩=some x/\cM w (iO w) (rows[i][j]) x:=by intro m;induction m with |zero=>exactλ_=>⟨[],rfl,.nil,λ_ q=>by simp at q,λ_ q=>by simp at q,λi j hi=>by simp at hi⟩|succ m ih=>
       intro hm;obtain⟨rows,h1,h2,h3,aj,h4⟩:=ih om;obtain⟨vs,aa,hs,hr,ah,ab,ak⟩:=each (len-(m+1)) om;refine⟨vs::rows,by simp[h1],.cons hs h2,λr ad=>?_,λr ad=>?_,λi j hi hj=>?_⟩
       .rcases Af.1 ad with rfl|ad;.rw[hr.length,ah]
        grind
       .rcases Af.1 ad with rfl|ad;.exact ak
        .exact aj r ad
       .cases i with |zero=>simp only[List.getElem_cons_zero]at hj⊢;obtain⟨x,hx,al⟩:=hr.get j _ (A0 hj);grind|succ i=>simp only[List.getElem_cons_succ]at hj⊢;obtain⟨x,hx,al⟩:=h4 i j (sU hi) hj;refine⟨x,?_,al⟩;grind
     obtain⟨rows,h1,h2,h3,aj,h4⟩:=key len (A7 _);have an:len-len=0:=om;rw[an]at h4;simp only[Ae]at h4;subst h1;refine⟨[.sl .ro rows],.sl hu om h2,⟨?_,tV⟩,λB BA hB M hM v hv=>by simp at hv;subst hv;rw[af]at hM;have q1:=hB.sl (elems.map (·.1)) (rest.map (·.1));have q2:=hB.len (elems.map (·.1));rw[Au]at q2;simp only at hM;refine .sl om λr hr v hv=>?_;obtain⟨d,hd,aA⟩:=aj r hr;have q3:=hB.mem _ _ hd;exact aA B BA hB M om v hv⟩;let c:Nat->Nat->Value:=λi j=>(w.cell? ⟨b,o+i*P.cellsOf e+j,none⟩).getD undef;refine .sl .ro rows (P.cellsOf e) b o cap c (λ_=>sM) ae h3 ?_ hl (λq=>by cases q) (λi j hi hj=>?_) (λi j hi hj=>?_)
     .obtain⟨x,hx,_⟩:=h4 (rows.length-1) (P.cellsOf e-1) om (by rw[h3 _ (A9 _)];omega);have aI:=S0 hx;have h5:(rows.length-1)*P.cellsOf e+P.cellsOf e=rows.length*P.cellsOf e:=by rw[<-Nat.succ_mul];congr 1;omega
      omega
     all_goals grind
  .rename_i fs hu;simp only[Aa,Cl,alL]at hk;obtain⟨ao,aq⟩:=hk;obtain⟨xs,n,a6,af,hlen,aB,ar⟩:=DataW.trod_struct hu h;obtain rfl:fuel=n:=om;have key:∀(l:List Field)(pre:List Field)(off:Nat),fs.toList=pre++l->CX P off l (P.cellsOf t)=true->off<=cs.length->∃vs,kK P (l.map (·.type)) vs/\bP (cM w (iO w)) vs (cs.drop off)/\Lx (.agg (xs.map (·.1))) vs:=by intro l;induction l with |nil=>intro pre off _ hr _;unfold CX at hr;have:off=P.cellsOf t:=sU hr;refine⟨[],.nil,?_,λ_ _ _ _ _ v hv=>by simp at hv⟩;rw[A8 om];trivial|cons f l ih=>
     intro pre off au hr hle;unfold CX at hr;simp only[Aa,alx]at hr;obtain⟨av,hr⟩:=hr;have hf:fs[pre.length]?=some f:=by
      have:fs.toList[pre.length]?=some f:=by rw[au];simp
      simpa using this
     have hx:=ar pre.length f hf;have aw:pre.length<xs.length:=by rw[aB];exact(Bu.1 hf).1
     rw[A0 aw,av]at hx;obtain⟨aC,ax,ay,az⟩:=On hT fuel f.type _ _ (ao f (Array.mem_of_getElem? hf)) hx;have a1:off+P.cellsOf f.type<=cs.length:=by
      rw[hlen];clear ih hx ar ax ay az;revert hr;generalize off+P.cellsOf f.type=o2;intro hr;have:∀(l:List Field)(o:Nat),CX P o l (P.cellsOf t)=true->o<=P.cellsOf t:=by intro l;induction l<;>grind[CX]
      grind
     obtain⟨aD,aE,aF,aG⟩:=ih (pre++[f]) (off+P.cellsOf f.type) (by rw[au];simp) hr a1;refine⟨aC++aD,.cons ax aE,?_,λB BA hB M hM v hv=>by
      rcases Ai.1 hv with hv|hv;.have q1:=hB.agg (xs.map (·.1));have q2:=hB.mem (xs[pre.length]'aw).1 (xs.map (·.1)) (Ab.2 ⟨_,A9 _,rfl⟩);exact az B BA hB M om v hv
      .exact aG B BA hB M hM v hv⟩;have e:cs.drop off=(cs.drop off).take (P.cellsOf f.type)++cs.drop (off+P.cellsOf f.type):=by rw[<-alQ];exact(B0 _ _).symm
     rw[e];exact ay.append aF
   obtain⟨vs,h1,h2,h3⟩:=key fs.toList [] 0 rfl aq (A5 _);exact⟨vs,.struct hu h1,by simpa using h2,by rw[af];exact h3⟩
  grind
def vU(P:Program)(t:TypeId)(vs:List V):V:=match P.underlying t with|some (.struct _)=>.agg vs|_=>vs.headD .u
inductive kL(P:Program):List TypeId->List V->Prop|nil:kL P [] []|cons{t:TypeId}{ts:List TypeId}{vs:List V}{xs:List V}:mG P t vs->kL P ts xs->kL P (t::ts) (vU P t vs::xs)
theorem xj9{W:World}{r:Reach}{b:Nat}{t:TypeId}{v:Value}{T:List TypeId}(hT:Ff P T)(ht:t∈T)(h:Value.okWide P W r b t v):(∃fs cs,P.underlying t=some (.struct fs)/\v=.agg cs)\/((∀fs,P.underlying t≠some (.struct fs))/\v.oneCell'=true):=by
 have hk:=S1 hT ht;split at hk;.rename_i hu;refine .inr ⟨(by grind),?_⟩;cases v<;>simp[Value.okWide,hu,Cell.okWide,Cell.ok]at h<;>rfl
 .rename_i k hu;refine .inr ⟨(by grind),?_⟩;cases v<;>simp[Value.okWide,hu,Cell.okWide,Cell.ok]at h<;>rfl
 .rename_i hu;refine .inr ⟨(by grind),?_⟩;cases v<;>simp[Value.okWide,hu,Cell.okWide,Cell.ok]at h<;>rfl
 .rename_i e hu;refine .inr ⟨(by grind),?_⟩;cases v<;>simp[Value.okWide,hu,Cell.okWide,Cell.ok]at h<;>rfl
 .rename_i fs hu;refine .inl ⟨fs,?_⟩;simp only[Value.okWide,hu]at h;grind
 grind
theorem S2{T:List TypeId}(hT:Ff P T):∀(ts:List TypeId)(aa:alY)(ds:List (DataW H))(ps:List MemPlace),(∀t∈ts,t∈T)->(∀(j:Nat) t v,ts[j]?=some t->aa[j]?=some v->Value.okWide P w .any base t v)->DataW.TrodAll enc P w 0 spare held ts aa ds ps->∃xs,kL P ts xs/\bP (dP w (iO w) [] []) xs aa/\∀(B:DataW H->Nat)(BA:List (DataW H)->Nat),pP B BA->∀M,(∀d∈ds,B d<=M)->∀v∈xs,Sm M v
 |[],[],_,_,_,_,_=>⟨[],.nil,tV,sM⟩|t::ts,v::aa,ds,ps,hm,cZ,h=>by
  obtain⟨v',iA,d,ae,p,q,hv,rfl,rfl,h1,h2⟩:=ChangeShapes.trodAll_cons h;cases hv;obtain⟨xs,af,ah,aj⟩:=S2 hT ts aa ae q (by grind) (λj t' v' h1 h2=>cZ (j+1) t' v' (by grind) (by grind)) h2;obtain⟨fuel,hf⟩:=h1;obtain⟨vs,hs,hr,ai⟩:=On hT fuel t _ _ (by grind) hf;suffices uv:dP w (iO w) [] [] (vU P t vs) v/\∀M,(∀v∈vs,Sm M v)->Sm M (vU P t vs)from⟨vU P t vs::xs,.cons hs af,⟨uv.1,ah⟩,λB BA hB M hM v' ab=>by
    rcases Af.1 ab with rfl|ab;.exact uv.2 M λv hv=>ai B BA hB M (by grind) v hv
    grind⟩;rcases xj9 hT (by grind) (cZ 0 t v rfl rfl)with⟨fs,cs,hu,rfl⟩|⟨ak,ad⟩;.unfold vU;rw[hu];exact⟨⟨cs.toList,sM,hr.imp (by grind[dy.dJ])⟩,λM hM=>.agg hM⟩
  .rw[H5 ad]at hr;have:vU P t vs=vs.headD .u:=by unfold vU;simp
   rw[this];cases vs with |nil=>trivial|cons x vs=>exact⟨dP.dX (dy.dJ hr.1),(by grind)⟩
 |[],_::_,_,_,_,_,h=>by trivial|_::_,[],ds,_,_,_,h=>by trivial
theorem Oo{w':World}{Oq:Nat->Bool}(hl:laidOutB P):∀(ts:List TypeId)(aa:alY)(ds:List (DataW H))(ps:List MemPlace),(∀t∈ts,P.readableRec t=true/\t<P.types.size)->DataW.TrodAll enc P w 0 (λ_=>true) true ts aa ds ps->(∀x∈ps,w.sameAt w' x)->(∀x∈ps,Oq x.block=true)->DataW.TrodAll enc P w' 0 Oq true ts aa ds ps
 |[],_,_,_,_,h,_,_=>by obtain⟨rfl,rfl,rfl⟩:=ChangeShapes.trodAll_nil h;rfl|t::ts,aa,ds,ps,hr,h,hs,hp=>by obtain⟨v,iA,d,ab,p,q,rfl,rfl,rfl,h1,h2⟩:=ChangeShapes.trodAll_cons h;exact⟨p,q,(by grind[WideElems.Trod_stays]),(by simp_all[Oo]),rfl⟩
theorem xF4(w:World)(ht:iJ w (iO w)):Mem (entry w (iO w) [] []) w (iO w) [] []:=⟨rfl,sM,sM,sM,λb hb hx=>(by trivial),Le.refl _ _,A7 _,rfl,rfl,rfl,A7 _,(by grind[iO]),Ext.refl _ _,ht⟩
theorem xE4{f:FuncId}{fn:Func}{s:ChangeSpec}{apart fresh handsOn again:Bool}(T ts:List TypeId)(tb:TypeId)(av:fn.params=ts.toArray)(ah:fn.resultTypes=#[tb])(hb:P.underlying tb=some .bool)(hT:Ff P T)(aw:ts.all (T.contains ·))(ax:ts.all (λt=>P.readableRec t&&decide (t<P.types.size)))(hl:laidOutB P)(aa:s.vars=[])(ay:∀(H:Type)(ds:List (DataW H)),ds.length=ts.length->s.fn H ds={results:=[.lit (.bool true)],args:=ds})(an:List V->Prop)(hw:∀xs,kL P ts xs->an xs->bN P f xs [] λr _=>r=.bool true)(H:Type)(enc:TypeId×Value->H)(W:World)(base:Nat)(args:am0)(ds gs:List (DataW H))(before:List MemPlace)(a1:∀(j:Nat) t v,fn.params[j]?=some t->args[j]?=some v->Value.okWide P W .any base t v)(hW:DataW.Whole enc P fn.params.toList s.vars apart W args.toList ds gs before)(ai:iJ W (iO W))(fD:∀xs,(∀(B:DataW H->Nat)(BA:List (DataW H)->Nat),pP B BA->∀M,(∀d∈ds++gs,B d<=M)->∀v∈xs,Sm M v)->an xs):Calls P f args W λe W'=>∃v,e=.returned v/\s.post enc P fn apart fresh handsOn again W args v W':=by
 have aj:=hW;obtain⟨p,q,hA,hV,rfl,ao,aq⟩:=hW;rw[aa]at hV;obtain⟨rfl,rfl⟩:=ChangeShapes.trodVars_none hV;have ak:fn.params.toList=ts:=by rw[av]
 rw[ak]at hA;rw[Am]at aw ax;obtain⟨xs,hx,hr,a6⟩:=S2 (base:=base) hT ts args.toList ds p (by grind) (by grind) hA;have hlen:ds.length=ts.length:=by
  have:∀(ts:List TypeId)(ad:alY)(ds:List (DataW H))(p:List MemPlace),DataW.TrodAll enc P W 0 (λ_=>true) true ts ad ds p->ds.length=ts.length:=by intro ts;induction ts with |nil=>intro ad ds p h;obtain⟨_,rfl,_⟩:=ChangeShapes.trodAll_nil h;rfl|cons t ts ih=>intro ad ds p h;obtain⟨_,_,_,a7,_,_,_,rfl,_,_,h2⟩:=ChangeShapes.trodAll_cons h;grind
  grind
 have ae:=hw xs hx (by grind) W (iO W) [] args.toList (xF4 W ai) hr;have ar:args.toList.toArray=args:=sM;rw[ar]at ae;refine ae.mono ?_;rintro e W' ⟨v,r,L',I',J',rfl,rfl,_,hm,au⟩;have az:v=.bool true:=qQ au;subst az;have ab:RowKit.Below W.heap.size W W':=⟨hm.os,hm.tape,hm.output,hm.size,λk hk=>(hm.same k hk (by simp[entry,vM])).1⟩;have af:=aj.lt;simp only[Aw]at af aj ao aq;have al:s.fn H ds={results:=[.lit (.bool true)],args:=ds}:=(by grind);refine⟨_,rfl,ds,[],p,[],p,[],aj,?_,?_,?_,?_,λ_=>⟨?_,?_⟩⟩;.rw[Aw,al,ah];exact ChangeShapes.trodAll_mk1 (RowKit.shut_bool hb _)
 .rw[Aw,al,ak];exact Oo hl ts _ _ _ (by grind) hA (λx hx=>ab.same (af x hx)) (by grind)
 .rw[Aw,al,aa];rfl
 .exact ab.frame _
 .exact RowKit.ok_one ah rfl (RowKit.okWide_bool_mk hb _)
 .rw[ak,ah];refine⟨[.lit (.bool true)]++ds,[],p,⟨[]++p,[],ChangeShapes.trodAll_append (Oo (Oq:=λ_=>true) hl ts _ _ _ (by grind) hA (λx hx=>ab.same (af x hx)) sM) ?_,by rw[aa];rfl,sM,?_,aq⟩,(by grind)⟩;.exact ChangeShapes.trodAll_mk1 (RowKit.shut_bool hb _)
  .intro b off hp;rw[ab.frozen (p:=⟨b,off,none⟩) (af _ hp)];exact ao b off hp
theorem xU3{f:FuncId}{fn:Func}{s:ChangeSpec}{apart fresh handsOn again:Bool}(T ts:List TypeId)(tb:TypeId)(af:fn.params=ts.toArray)(ah:fn.resultTypes=#[tb])(hb:P.underlying tb=some .bool)(hT:Ff P T)(ai:ts.all (T.contains ·))(aj:ts.all (λt=>P.readableRec t&&decide (t<P.types.size)))(hl:laidOutB P)(aa:s.vars=[])(ab:∀(H:Type)(ds:List (DataW H)),ds.length=ts.length->s.fn H ds={results:=[.lit (.bool true)],args:=ds})(hw:∀xs,kL P ts xs->bN P f xs [] λr _=>r=.bool true)(H:Type)(enc:TypeId×Value->H)(W:World)(base:Nat)(args:am0)(ds gs:List (DataW H))(before:List MemPlace)(ae:∀(j:Nat) t v,fn.params[j]?=some t->args[j]?=some v->Value.okWide P W .any base t v)(hW:DataW.Whole enc P fn.params.toList s.vars apart W args.toList ds gs before)(ad:iJ W (iO W)):Calls P f args W λe W'=>∃v,e=.returned v/\s.post enc P fn apart fresh handsOn again W args v W':=xE4 T ts tb af ah hb hT ai aj hl aa ab (λ_=>True) (by grind) H enc W base args ds gs before ae hW ad sM
variable {t:TypeId} {vs:List V}
theorem kL.cons_inv{ts:List TypeId}{xs:List V}(h:kL P (t::ts) xs):∃vs aa,xs=vU P t vs::aa/\mG P t vs/\kL P ts aa:=by cases h<;>grind
theorem kL.mW{xs:List V}(h:kL P [] xs):xs=[]:=by cases h;rfl
theorem mG.iY{k:IntKind}(hu:P.underlying t=some (.int k))(h:mG P t vs):∃n,vs=[.int k n]/\(Lit.int k n).wf=true:=by cases h<;>grind
theorem mG.uw{e:TypeId}(hu:P.underlying t=some (.slice e))(h:mG P t vs):∃rows,vs=[.sl .ro rows]/\rows.length<=maxLen/\lj P e rows:=by cases h<;>grind
theorem mG.pQ{fs:Array Field}(hu:P.underlying t=some (.struct fs))(h:mG P t vs):kK P (fs.toList.map (·.type)) vs:=by cases h<;>grind
theorem kK.cons_inv{ts:List TypeId}(h:kK P (t::ts) vs):∃a b,vs=a++b/\mG P t a/\kK P ts b:=by cases h<;>grind
theorem kK.mW(h:kK P [] vs):vs=[]:=by cases h;rfl
theorem lj.mX{U:Type}{f:U->List V}{ok:U->Prop}(h:∀r,mG P t r->∃x,r=f x/\ok x):∀{rows:List (List V)},lj P t rows->∃xs:List U,rows=xs.map f/\∀x∈xs,ok x
 |[],_=>sM|r::rows,hr=>by cases hr with|cons h1 h2=>obtain⟨x,rfl,hx⟩:=h r h1;obtain⟨xs,rfl,aa⟩:=lj.mX h h2;exact⟨x::xs,rfl,(by grind)⟩
theorem Ou{v:V}(h:(match P.underlying t with|some (.struct _)=>false|_=>true)):vU P t [v]=v:=by unfold vU;grind
theorem G9{n:Int}(h:(Lit.int .i64 n).wf):-9223372036854775808<=n/\n<=9223372036854775807:=by grind[Lit.wf,IntKind.min,IntKind.max,IntKind.signed,IntKind.bits]
end
variable{ρ:Nat->Nat}{I:St}{f:FuncId}{P:Program}{c:Ctx}{cd:List V}{ct:List V}{KV:V->St->Prop}
theorem wj9{j:Nat}(h:j<=9223372036854775807):IntKind.i64.wrap (j:Int)=j:=(by grind[IntWalk.i64_in])
theorem bX{n:Int}(h:-9223372036854775808<=n)(h2:n<=9223372036854775807):IntKind.i64.wrap n=n:=(by grind[IntWalk.i64_in])
theorem dp{n:Int}(h:0<=n)(h2:n<=18446744073709551615):IntKind.u64.wrap n=n:=by grind[IntKind.wrap,IntKind.bits,IntKind.signed]
@[go_sem]theorem Ly(n:Nat)(h:n<=9223372036854775807):IntKind.i64.wrap (no_index(OfNat.ofNat n))=OfNat.ofNat n:=by rw[show(OfNat.ofNat n:Int)=((n:Nat):Int)from rfl];grind[wj9]
@[go_sem]theorem IM:IntKind.i64.wrap 0=0:=by rfl
@[go_sem]theorem IN:IntKind.i64.wrap 1=1:=by rfl
@[go_sem]theorem Ha{k k':IntKind}{x y:Int}{ek:Nat}{es:Option (List Pk)}(h:k≠k'):nG .shl ek es (.int k x) (.int k' y)=.eP (0<=y) (.int k (k.wrap (x*2^(min y.toNat k.bits)))):=by grind[nG]
theorem zO{i n:Nat}(h:i<n)(hn:n<=9223372036854775807):IntKind.i64.wrap ((i:Int)+1)=((i+1:Nat):Int):=by rw[IntWalk.i64_in _ om];rfl
theorem lK{U:Type}{f:U->List V}{s:Nat}{l:List U}(h:∀x,(f x).length=s):eU s (l.map f):=λr hr=>by grind
theorem zZ{s:Nat}{r:List V}(h:r.length=s):eU s [r]:=λx hx=>by grind
theorem yW(k:Nat){n0:Nat}{R:V->St->Prop}{s:St}{v r:V}(hs:I.take k=s)(hl:s.length=k)(cZ:s.all (bS k))(hn:n0<=k)(hr:cW (cO (List.range k) I.length) r v)(hR:R r s):cz (some v) n0 R I:=by grind[nJ]
def cL(n:Int):Prop:=-9223372036854775808<=n/\n<=9223372036854775807
instance(n:Int):Decidable (cL n):=inferInstanceAs(Decidable (_/\_))
@[go_sem]def yU(n:Int):List V:=[.int .i64 n]
theorem yO{iA vs:List V}(h:bP (jb ρ) iA vs):cW ρ (.cC iA) (.cC vs):=.inr (by grind)
theorem rP{g:Tag}{rows:List (List V)}:jb ρ (.sl .ro rows) (.sl g rows):=.inr sM
theorem xD{v:V}(h:ym v):jb ρ v v:=.inl (Oc h).symm
theorem zY{g:Tag}{rows:List (List V)}:pK ρ (.sl .ro rows) (.sl g rows):=.inr sM
theorem zF{v:V}(h:mV v):pK ρ v v:=.inl (CH h).symm
theorem xM{aa cs:List V}(h:bP (pK ρ) aa cs):cW ρ (.agg aa) (.agg cs):=.inr (by grind)
theorem wH{aa cs:List V}(h:bP (pK ρ) aa cs):jb ρ (.agg aa) (.agg cs):=.inr (by grind)
theorem wr0{args:List V}{R:V->Prop}(hc:bN P f ct [] λr s=>R r/\s=[])(hb:xI P f)(aa:bP (cW (cO [] I.length)) ct (args++cd))(hn:∀r,R r->gY r)(hk:∀r,R r->KV r I):jn P c (.fn f cd) args I KV fx:=by refine VC.of hc hb [] Bo rfl sM aa ?_;rintro r I' ⟨hR,rfl⟩_;grind[CI,yY,fW]
theorem S3{k:Nat}{s:St}(hk:k<=I.length)(hs:s.length=k)(cZ:s.all (bS k)):yY (List.range k) I s=s++I.drop k:=by
 have e1:(s.take (List.range k).length).map (yC (cO (List.range k) I.length))=s:=by grind[wF,yV,rL]
 have e2:(s.drop (List.range k).length).map (yC (cO (List.range k) I.length))=[]:=by grind
 unfold yY;rw[e1,e2,Aw];apply Bi;intro i;by_cases hi:i<k;.rw[KM (List.range k) I s i i Be (by grind) (by grind) (by grind),Ap om]
 simp_all[ua,Ar]
theorem vV(k:Nat){args:List V}{fM:St}{R:V->St->Prop}(hc:bN P f ct fM R)(hb:xI P f)(hk:I.take k=fM)(hl:fM.length=k)(cZ:fM.all (bS k))(aa:bP (cW (cO (List.range k) I.length)) ct (args++cd))(hR:∀r s,R r s->s.length=k/\s.all (bS k)=true/\hZ k r)(hK:∀r s,R r s->KV r (s++I.drop k)):jn P c (.fn f cd) args I KV fx:=by
 have ab:k<=I.length:=by grind
 refine VC.of hc hb (List.range k) Be (by grind) (λi j o h1 h2=>?_) aa λr s h _=>?_
 .obtain⟨h3,h4⟩:=A3.1 h1;simp at h3 h4;subst h4;have ho:bS k o:=by grind
  rw[yV (n:=k) (by grind[rL]) ho];grind
 grind[Od,rL,S3]
theorem mY(i:Nat){o:Ob}{args:List V}{R:V->St->Prop}(hc:bN P f ct [o] R)(hb:xI P f)(ho:I[i]?=some o)(cZ:bS 0 o)(aa:bP (cW (cO [i] I.length)) ct (args++cd))(hR:∀r s,R r s->∃o2,s=[o2]/\bS 0 o2)(hK:∀r o2,R r [o2]->KV (dL (cO [i] I.length) r) (I.set i o2)):jn P c (.fn f cd) args I KV fx:=by
 refine wq9 hc hb ho cZ aa λr s h _=>?_;obtain⟨o2,rfl,h2⟩:=hR r s h;have e:yY [i] I [o2]=I.set i o2:=by simp only[yY,Bh,Bx,D2,C7,B1,Ag,Bq,fW,Aw];rw[yV (n:=0) om h2]
 grind
theorem wn2 {i N:Nat}:cO [i] N 0=i:=rfl
attribute [go_sem] dL dQ du dv wn2
section
variable{ρ:Nat->Nat}(jo:∀i,ρ i=i)
include jo
theorem wn1(v:V):dv ρ v=v:=by cases v with|sl g rows=>cases g<;>simp[dv,jo]|_=>simp[dv,jo]
theorem S4(v:V):du ρ v=v:=by have h:dv ρ=λv=>v:=funext (by grind[wn1]);cases v<;>grind[du,E7]
theorem S5(v:V):dQ ρ v=v:=by have h:du ρ=λv=>v:=funext (by grind[S4]);cases v<;>grind[dQ,E7]
theorem CY(v:V):dL ρ v=v:=by have h:dQ ρ=λv=>v:=funext (by grind[S5]);cases v<;>grind[dL,E7]
theorem CZ(o:Ob):yC ρ o=o:=by have h:du ρ=λv=>v:=funext (by grind[S4]);cases o with |box cells=>grind[yC,E7]|cv rows s=>simp_all[yC]|mp dZ gH dm=>have h:dQ ρ=λv=>v:=funext (by grind[S5]);grind[yC,E7]|it m since seen last=>cases m<;>simp[yC,jo]|_=>rfl
end
variable{I:St}{P:Program}{c:Ctx}{nt:Nat}{Q:QT}{e:Env}{y:Code}
theorem DA{f:FuncId}{cd args ct:List V}{KV:V->St->Prop}{R:V->St->Prop}(hc:bN P f ct [] R)(hb:xI P f)(aa:bP (cW (cO [] 0)) ct (args++cd))(hK:∀r s,R r s->KV r s):jn P c (.fn f cd) args [] KV fx:=by
 have hid:∀i,cO [] 0 i=i:=(by grind[cO]);refine VC.of hc hb [] Bo rfl sM aa λr s h _=>?_;have e:yY [] [] s=s:=by have h2:yC (cO [] 0)=λo=>o:=funext (by grind[CZ]);simp_all[yY,fW]
 show KV (dL (cO [] 0) r) (yY [] [] s);grind[CY]
theorem xV{id:Nat}{ops:List Oper}(q:List (Nat×Nat))(n0:Nat)(hn:n0<=I.length)(hm:P.follows .mixedOrders)(hd:(vT ops q&&s8 ops))(h:tc P c nt (Kp.pre n0) ops q 0 ops (Q .normal) fx fx fx e I):gV P c nt (.region id ops.toArray true) Q fx fx e I:=by simp only[Aa]at hd;obtain⟨tr,ht,hK⟩:=EZ ops 0 (Q .normal) e I h;exact VW.draw (n0:=Kp.pre n0) hm hn hd.1 hd.2 ht hK
theorem wP{id:Nat}{ops:List Oper}(q:List (Nat×Nat))(x n0:Nat)(hn:n0<=I.length)(hm:P.follows .mixedOrders)(hd:(vT ops q&&s8 ops))(h:tc P c nt (Kp.mk x n0 [] none) ops q 0 ops (Q .normal) fx fx fx e I):gV P c nt (.region id ops.toArray true) Q fx fx e I:=by simp only[Aa]at hd;obtain⟨tr,ht,hK⟩:=EZ ops 0 (Q .normal) e I h;exact VW.draw (n0:=Kp.mk x n0 [] none) hm hn hd.1 hd.2 ht hK
theorem wQ(t s:Nat)(h0:0<s)(ht:e t=.sl .full [])(hy:gV P c nt y Q fx fx (ft e t (.sl (.app I.length) [])) (I++[.app 0 s])):gV P c nt y Q fx fx e I:=by
 intro a w L J hs;have hr:=hs.env t;rw[ht]at hr;obtain⟨ad,hx⟩:∃ad,a.tmps.getD t undef=.slice ad 0 0:=by have hr:cM w L (.sl .full []) (a.tmps.getD t undef):=hr;generalize a.tmps.getD t undef=x at hr;cases hr<;>simp_all
 have aa:=Ext.push I J hs.mem.len (.app 0 s) (.slice ad 0 0);refine hy a w L (J++[.slice ad 0 0]) ⟨hs.mem.own h0,hs.size,hs.defs,λk=>?_⟩;simp only[ft];split;.rename_i hk;subst hk;rw[hx];exact⟨.jI .ro ad 0 om sM,0,s,sM,sM,λ_=>by rw[<-hs.mem.len];simp,sM⟩
 .exact(hs.env k).mono (Le.refl _ _) aa
theorem Fg(id off s:Nat)(cells:List V)(h0:0<s)(cP:I[id]?=some (.box cells))(hc:cells[off]?=some (.sl .full []))(hy:gV P c nt y Q fx fx e (I.set id (.box (cells.set off (.sl (.app I.length) [])))++[.app 0 s])):gV P c nt y Q fx fx e I:=by intro a w L J hs;obtain⟨x,h1,h2⟩:=wg8 hs.mem h0 cP hc;exact hy a w L (J++[x]) ⟨h1,hs.size,hs.defs,λk=>(hs.env k).mono (Le.refl _ _) h2⟩
theorem Fh(t s:Nat)(h0:0<s)(ht:e t=.sl .full [])(hy:gV P c nt y Q fx fx (ft e t (.cS I.length s 0 0 0)) (I++[.cv [] s])):gV P c nt y Q fx fx e I:=by
 intro a w L J hs;have hr:=hs.env t;rw[ht]at hr;obtain⟨ad,hx⟩:∃ad,a.tmps.getD t undef=.slice ad 0 0:=by have hr:cM w L (.sl .full []) (a.tmps.getD t undef):=hr;generalize a.tmps.getD t undef=x at hr;cases hr<;>simp_all
 have aa:=Ext.push I J hs.mem.len (.cv [] s) (.slice ad 0 0);refine hy a w L (J++[.slice ad 0 0]) ⟨hs.mem.mM h0,hs.size,hs.defs,λk=>?_⟩;simp only[ft];split;.rename_i hk;subst hk;rw[hx];exact Ih (w':=w) (L':=L) (s:=s) (rows:=[]) (cap:=0) (a0:=ad) hs.mem.len sM om
 .exact(hs.env k).mono (Le.refl _ _) aa
theorem yW0{s:St}(h:I.length<=s.length):yY (List.range I.length) I s=s:=by
 have ra:∀i,cO (List.range I.length) I.length i=i:=(by grind[rL,rG]);have hid:yC (cO (List.range I.length) I.length)=λo=>o:=funext (by grind[CZ]);apply Bi;intro i;by_cases hi:i<s.length;.have:=Ev (dz:=List.range I.length) (Ic:=I) (I':=s) Be (λq hq=>Cs.1 hq) (sU h) (A0 hi);grind
 grind[G6]
theorem Hb{f:FuncId}{cd args:List V}{KV:V->St->Prop}{R:V->St->Prop}(hc:bN P f (args++cd) I R)(hb:xI P f)(hk:∀r s,R r s->I.length<=s.length->KV r s):jn P c (.fn f cd) args I KV fx:=by
 have ra:∀i,cO (List.range I.length) I.length i=i:=(by grind[rL,rG]);refine VC.of hc hb (List.range I.length) Be sM (λi j o hi ho=>?_) ?_ ?_;.grind[CZ]
 .have:∀l:List V,bP (cW (cO (List.range I.length) I.length)) l l:=by intro l;induction l with |nil=>trivial|cons a l ih=>exact⟨.inl (CY ra a).symm,ih⟩
  grind
 grind[CY,yW0]
theorem Hc{n0:Nat}{R:V->St->Prop}{r:V}(hn:n0<=I.length)(hR:R r I):cz (some r) n0 R I:=by have ra:∀i,cO (List.range I.length) I.length i=i:=(by grind[rL,rG]);refine⟨r,rfl,r,I,List.range I.length,I,r,.refl _ _,⟨sM,Be,λi j o hi ho=>?_,(by grind)⟩,.inl (CY ra r).symm,hR⟩;grind[CZ]
end Go.Vx
namespace Go.Proofs.YtegbonbgofjlcaaGreat
open Go Go.Vx Go.Proofs.Tryz
@[go_sem]theorem S6:eJ prog 2=some 1/\eJ prog 3=some 1/\eJ prog 4=some 1/\eJ prog 5=some 1/\eJ prog 9=some 1/\eJ prog 24=some 4/\eJ prog 28=some 1/\eJ prog 29=some 1/\eJ prog 31=some 2/\eJ prog 33=some 11/\eJ prog 37=some 1/\eJ prog 39=some 3/\eJ prog 45=some 1/\eJ prog 46=some 1/\eJ prog 48=some 2/\eJ prog 53=some 1:=by and_intros<;>kernel_rfl
@[go_sem]theorem S7:eJ prog 54=some 1/\eJ prog 56=some 3/\eJ prog 58=some 16/\eJ prog 62=some 1/\eJ prog 63=some 1/\eJ prog 65=some 14/\eJ prog 67=some 15/\eJ prog 76=some 1/\eJ prog 77=some 1/\eJ prog 79=some 9/\eJ prog 83=some 1/\eJ prog 85=some 9/\eJ prog 87=some 12/\eJ prog 93=some 2/\eJ prog 100=some 4/\eJ prog 102=some 1:=by and_intros<;>kernel_rfl
@[go_sem]theorem S8:eJ prog 103=some 1/\eJ prog 104=some 1/\eJ prog 106=some 3/\eJ prog 107=some 1/\eJ prog 109=some 6/\eJ prog 111=some 15/\eJ prog 114=some 7/\eJ prog 116=some 7/\eJ prog 128=some 11/\eJ prog 145=some 1/\eJ prog 147=some 2/\eJ prog 152=some 1/\eJ prog 156=some 11/\eJ prog 168=some 1/\eJ prog 179=some 4/\eJ prog 187=some 3:=by and_intros<;>kernel_rfl
@[go_sem]theorem S9:eJ prog 193=some 7/\eJ prog 211=some 1/\eJ prog 212=some 1/\eJ prog 216=some 2/\eJ prog 222=some 1/\eJ prog 225=some 2/\eJ prog 228=some 2/\eJ prog 231=some 3/\eJ prog 238=some 2/\eJ prog 241=some 1/\eJ prog 284=some 1/\eJ prog 300=some 4/\eJ prog 303=some 2/\eJ prog 306=some 1/\eJ prog 311=some 3/\eJ prog 441=some 2:=by and_intros<;>kernel_rfl
@[go_sem]theorem Ov:cQ prog 2=some false/\cQ prog 3=some false/\cQ prog 4=some false/\cQ prog 5=some false/\cQ prog 9=some false/\cQ prog 24=some true/\cQ prog 28=some false/\cQ prog 29=some false/\cQ prog 31=some true/\cQ prog 33=some true/\cQ prog 37=some false/\cQ prog 39=some true/\cQ prog 45=some false/\cQ prog 46=some false/\cQ prog 48=some true/\cQ prog 53=some false:=by and_intros<;>kernel_rfl
@[go_sem]theorem Ow:cQ prog 54=some false/\cQ prog 56=some true/\cQ prog 58=some true/\cQ prog 62=some false/\cQ prog 63=some false/\cQ prog 65=some true/\cQ prog 67=some true/\cQ prog 76=some false/\cQ prog 77=some false/\cQ prog 79=some true/\cQ prog 83=some false/\cQ prog 85=some true/\cQ prog 87=some true/\cQ prog 93=some true/\cQ prog 100=some true/\cQ prog 102=some false:=by and_intros<;>kernel_rfl
@[go_sem]theorem Ox:cQ prog 103=some false/\cQ prog 104=some false/\cQ prog 106=some true/\cQ prog 107=some false/\cQ prog 109=some true/\cQ prog 111=some true/\cQ prog 114=some true/\cQ prog 116=some true/\cQ prog 128=some true/\cQ prog 145=some false/\cQ prog 147=some true/\cQ prog 152=some false/\cQ prog 156=some true/\cQ prog 168=some false/\cQ prog 179=some true/\cQ prog 187=some true:=by and_intros<;>kernel_rfl
@[go_sem]theorem Oy:cQ prog 193=some true/\cQ prog 211=some false/\cQ prog 212=some false/\cQ prog 216=some true/\cQ prog 222=some false/\cQ prog 225=some true/\cQ prog 228=some true/\cQ prog 231=some true/\cQ prog 238=some true/\cQ prog 241=some false/\cQ prog 284=some false/\cQ prog 300=some true/\cQ prog 303=some true/\cQ prog 306=some false/\cQ prog 311=some true/\cQ prog 441=some true:=by and_intros<;>kernel_rfl
@[go_sem]theorem Ta:jl prog 2=0/\jl prog 3=0/\jl prog 4=1/\jl prog 5=0/\jl prog 9=0/\jl prog 24=0/\jl prog 28=0/\jl prog 29=3/\jl prog 31=0/\jl prog 62=3/\jl prog 63=3/\jl prog 93=0/\jl prog 106=0/\jl prog 185=0/\jl prog 228=0/\jl prog 231=0:=by and_intros<;>kernel_rfl
@[go_sem]theorem Tb:jl prog 241=3/\jl prog 317=0:=by and_intros<;>kernel_rfl
@[go_sem]theorem Tc:kZ prog 2=none/\kZ prog 3=none/\kZ prog 4=none/\kZ prog 5=none/\kZ prog 9=none/\kZ prog 24=some [.i .i64,.i .i64,.i .i64,.i .i64]/\kZ prog 28=none/\kZ prog 29=none/\kZ prog 31=some [.i .i64,.i .i64]/\kZ prog 62=none/\kZ prog 63=none/\kZ prog 93=some [.s,.s]/\kZ prog 106=some [.i .i64,.i .i64,.s]/\kZ prog 185=none/\kZ prog 228=some [.s,.s]/\kZ prog 231=some [.s,.b,.s]:=by and_intros<;>kernel_rfl
@[go_sem]theorem Td:kZ prog 241=none/\kZ prog 317=none:=by and_intros<;>kernel_rfl
@[go_sem]theorem Te:j9 prog 2=some (.int .i64)/\j9 prog 3=some (.int .i64)/\j9 prog 5=some (.int .u8)/\j9 prog 9=some .str/\j9 prog 185=some (.int .u64)/\j9 prog 265=some .bytes/\j9 prog 317=some (.int .u64):=by and_intros<;>kernel_rfl
@[go_sem]theorem Lz:xF prog 3=some [.int .i64 0]/\xF prog 24=some [.int .i64 0,.int .i64 0,.int .i64 0,.int .i64 0]/\xF prog 31=some [.int .i64 0,.int .i64 0]/\xF prog 33=some [.int .i64 0,.sl .full [],.int .i64 0,.int .i64 0,.int .i64 0,.int .i64 0,.int .i64 0,.int .i64 0,.int .i64 0,.int .i64 0,.bool false]/\xF prog 39=some [.int .i64 0,.int .i64 0,.sl .full []]/\xF prog 48=some [.sl .full [],.sl .full []]/\xF prog 56=some [.int .i64 0,.int .i64 0,.sl .full []]/\xF prog 58=some [.int .i64 0,.int .i64 0,.int .i64 0,.int .i64 0,.int .i64 0,.int .i64 0,.sl .full [],.int .i64 0,.int .i64 0,.int .i64 0,.int .i64 0,.int .i64 0,.sl .full [],.int .i64 0,.int .i64 0,.sl .full []]/\xF prog 65=some [.int .i64 0,.int .i64 0,.int .i64 0,.int .i64 0,.int .i64 0,.int .i64 0,.int .i64 0,.int .i64 0,.int .i64 0,.int .i64 0,.int .i64 0,.bool false,.sl .full [],.sl .full []]/\xF prog 67=some [.int .i64 0,.int .i64 0,.int .i64 0,.int .i64 0,.int .i64 0,.int .i64 0,.int .i64 0,.int .i64 0,.int .i64 0,.int .i64 0,.int .i64 0,.int .i64 0,.bool false,.sl .full [],.sl .full []]/\xF prog 79=some [.int .i64 0,.int .i64 0,.int .i64 0,.int .i64 0,.int .i64 0,.int .i64 0,.sl .full [],.sl .full [],.sl .full []]/\xF prog 82=some [.int .i64 0,.int .i64 0,.int .i64 0,.int .i64 0,.int .i64 0,.int .i64 0,.sl .full [],.sl .full [],.sl .full [],.int .i64 0,.int .i64 0,.int .i64 0,.int .i64 0,.int .i64 0,.int .i64 0,.sl .full [],.sl .full [],.sl .full [],.int .i64 0,.int .i64 0,.int .i64 0,.int .i64 0,.int .i64 0,.int .i64 0,.sl .full [],.sl .full [],.sl .full [],.int .i64 0,.int .i64 0,.int .i64 0,.int .i64 0,.int .i64 0,.int .i64 0,.sl .full [],.sl .full [],.sl .full []]/\xF prog 85=some [.int .i64 0,.int .i64 0,.int .i64 0,.int .i64 0,.int .i64 0,.int .i64 0,.int .i64 0,.bool false,.str []]/\xF prog 87=some [.str [],.sl .full [],.bool false,.int .i64 0,.int .i64 0,.int .i64 0,.int .i64 0,.int .i64 0,.int .i64 0,.int .i64 0,.bool false,.str []]/\xF prog 93=some [.str [],.str []]/\xF prog 106=some [.int .i64 0,.int .i64 0,.str []]:=by and_intros<;>kernel_rfl
@[go_sem]theorem LA:xF prog 109=some [.int .i64 0,.str [],.int .i64 0,.int .i64 0,.str [],.sl .full []]/\xF prog 111=some [.int .i64 0,.str [],.sl .full [],.sl .full [],.sl .full [],.bool false,.int .i64 0,.str [],.int .i64 0,.int .i64 0,.str [],.sl .full [],.str [],.bool false,.int .i64 0]/\xF prog 114=some [.int .i64 0,.int .i64 0,.str [],.int .i64 0,.int .i64 0,.str [],.sl .full []]/\xF prog 116=some [.str [],.int .i64 0,.str [],.int .i64 0,.int .i64 0,.str [],.sl .full []]/\xF prog 128=some [.int .i64 0,.int .i64 0,.int .i64 0,.sl .full [],.sl .full [],.sl .full [],.int .i64 0,.int .i64 0,.int .i64 0,.int .i64 0,.bool false]/\xF prog 147=some [.sl .full [],.int .i64 0]/\xF prog 156=some [.str [],.sl .full [],.int .i64 0,.int .i64 0,.int .i64 0,.sl .full [],.sl .full [],.sl .full [],.int .i64 0,.int .i64 0,.int .i64 0]/\xF prog 173=some [.sl .full [],.int .i64 0,.int .i64 0,.int .i64 0,.int .i64 0]/\xF prog 179=some [.int .i64 0,.int .i64 0,.str [],.int .i64 0]/\xF prog 193=some [.int .i64 0,.int .i64 0,.int .i64 0,.int .i64 0,.int .i64 0,.int .i64 0,.bool false]/\xF prog 214=some [.sl .full [],.sl .full [],.raw (.map none),.raw (.map none),.raw (.map none)]/\xF prog 216=some [.int .i64 0,.sl .full []]/\xF prog 225=some [.int .i64 0,.sl .full []]/\xF prog 228=some [.str [],.str []]/\xF prog 231=some [.str [],.bool false,.str []]/\xF prog 238=some [.int .i64 0,.sl .full []]:=by and_intros<;>kernel_rfl
@[go_sem]theorem LB:xF prog 300=some [.int .i64 0,.int .i64 0,.bool false,.str []]/\xF prog 303=some [.int .i64 0,.str []]/\xF prog 311=some [.int .i64 0,.str [],.sl .full []]/\xF prog 320=some [.sl .full []]/\xF prog 441=some [.raw .nilFunc,.raw .nilFunc]:=by and_intros<;>kernel_rfl
@[go_sem]theorem Oz:dU prog 9=1/\dU prog 22=2/\dU prog 29=2/\dU prog 37=2/\dU prog 45=2/\dU prog 46=2/\dU prog 53=2/\dU prog 54=2/\dU prog 60=2/\dU prog 62=2/\dU prog 63=2/\dU prog 76=2/\dU prog 77=2/\dU prog 83=2/\dU prog 102=2/\dU prog 103=2:=by and_intros<;>kernel_rfl
@[go_sem]theorem OA:dU prog 104=2/\dU prog 107=2/\dU prog 123=2/\dU prog 145=2/\dU prog 152=2/\dU prog 168=2/\dU prog 209=2/\dU prog 222=2/\dU prog 241=2/\dU prog 265=2/\dU prog 284=2/\dU prog 306=2/\dU prog 312=2:=by and_intros<;>kernel_rfl
@[go_sem] theorem OB:rA prog 9=true:=kR
@[go_sem]theorem OC:fm prog 22=some 4/\fm prog 29=some 2/\fm prog 37=some 15/\fm prog 45=some 1/\fm prog 46=some 11/\fm prog 53=some 11/\fm prog 54=some 2/\fm prog 60=some 15/\fm prog 62=some 2/\fm prog 63=some 3/\fm prog 76=some 12/\fm prog 77=some 7/\fm prog 83=some 4/\fm prog 102=some 7/\fm prog 103=some 1/\fm prog 104=some 7:=by and_intros<;>kernel_rfl
@[go_sem]theorem OD:fm prog 107=some 6/\fm prog 123=some 2/\fm prog 145=some 1/\fm prog 152=some 3/\fm prog 168=some 4/\fm prog 209=some 2/\fm prog 222=some 2/\fm prog 241=some 3/\fm prog 265=some 1/\fm prog 284=some 1/\fm prog 306=some 3/\fm prog 312=some 2/\fm prog 460=some 1:=by and_intros<;>kernel_rfl
@[go_sem]theorem OE:fb prog 24=some [(0,1),(1,1),(2,1),(3,1)]/\fb prog 31=some [(0,1),(1,1)]/\fb prog 33=some [(0,1),(1,1),(2,4),(6,1),(7,2),(9,1),(10,1)]/\fb prog 39=some [(0,1),(1,1),(2,1)]/\fb prog 48=some [(0,1),(1,1)]/\fb prog 56=some [(0,1),(1,1),(2,1)]/\fb prog 58=some [(0,4),(4,3),(7,1),(8,2),(10,1),(11,1),(12,1),(13,3)]/\fb prog 65=some [(0,1),(1,1),(2,1),(3,1),(4,4),(8,2),(10,1),(11,1),(12,1),(13,1)]/\fb prog 67=some [(0,1),(1,14)]/\fb prog 82=some [(0,36)]/\fb prog 85=some [(0,4),(4,1),(5,2),(7,1),(8,1)]/\fb prog 87=some [(0,1),(1,1),(2,1),(3,9)]/\fb prog 93=some [(0,1),(1,1)]/\fb prog 106=some [(0,1),(1,1),(2,1)]/\fb prog 109=some [(0,1),(1,1),(2,3),(5,1)]/\fb prog 111=some [(0,1),(1,1),(2,1),(3,1),(4,1),(5,1),(6,6),(12,1),(13,1),(14,1)]:=by and_intros<;>kernel_rfl
@[go_sem]theorem OF:fb prog 114=some [(0,1),(1,6)]/\fb prog 116=some [(0,1),(1,6)]/\fb prog 128=some [(0,1),(1,1),(2,1),(3,1),(4,1),(5,1),(6,4),(10,1)]/\fb prog 147=some [(0,1),(1,1)]/\fb prog 156=some [(0,1),(1,1),(2,1),(3,1),(4,1),(5,6)]/\fb prog 173=some [(0,1),(1,1),(2,1),(3,1),(4,1)]/\fb prog 179=some [(0,1),(1,1),(2,1),(3,1)]/\fb prog 193=some [(0,4),(4,2),(6,1)]/\fb prog 214=some [(0,2),(2,1),(3,1),(4,1)]/\fb prog 216=some [(0,1),(1,1)]/\fb prog 225=some [(0,1),(1,1)]/\fb prog 228=some [(0,1),(1,1)]/\fb prog 231=some [(0,1),(1,1),(2,1)]/\fb prog 238=some [(0,1),(1,1)]/\fb prog 300=some [(0,2),(2,1),(3,1)]/\fb prog 303=some [(0,1),(1,1)]:=by and_intros<;>kernel_rfl
@[go_sem]theorem OG:fb prog 311=some [(0,2),(2,1)]/\fb prog 320=some [(0,1)]/\fb prog 441=some [(0,1),(1,1)]:=by and_intros<;>kernel_rfl
@[go_sem]theorem OH:cu prog 24 0=some (0,1,false)/\cu prog 24 1=some (1,1,false)/\cu prog 24 2=some (2,1,false)/\cu prog 24 3=some (3,1,false)/\cu prog 31 0=some (0,1,false)/\cu prog 31 1=some (1,1,false)/\cu prog 33 0=some (0,1,false)/\cu prog 33 1=some (1,1,false)/\cu prog 33 2=some (2,4,true)/\cu prog 33 3=some (6,1,false)/\cu prog 33 4=some (7,2,true)/\cu prog 33 5=some (9,1,false)/\cu prog 33 6=some (10,1,false)/\cu prog 39 0=some (0,1,false)/\cu prog 39 1=some (1,1,false)/\cu prog 39 2=some (2,1,false):=by and_intros<;>kernel_rfl
@[go_sem]theorem OI:cu prog 48 0=some (0,1,false)/\cu prog 48 1=some (1,1,false)/\cu prog 56 0=some (0,1,false)/\cu prog 56 1=some (1,1,false)/\cu prog 56 2=some (2,1,false)/\cu prog 58 0=some (0,4,true)/\cu prog 58 1=some (4,3,true)/\cu prog 58 2=some (7,1,false)/\cu prog 58 3=some (8,2,true)/\cu prog 58 4=some (10,1,false)/\cu prog 58 5=some (11,1,false)/\cu prog 58 6=some (12,1,false)/\cu prog 58 7=some (13,3,true)/\cu prog 65 0=some (0,1,false)/\cu prog 65 1=some (1,1,false)/\cu prog 65 2=some (2,1,false):=by and_intros<;>kernel_rfl
@[go_sem]theorem OJ:cu prog 65 3=some (3,1,false)/\cu prog 65 4=some (4,4,true)/\cu prog 65 5=some (8,2,true)/\cu prog 65 6=some (10,1,false)/\cu prog 65 7=some (11,1,false)/\cu prog 65 8=some (12,1,false)/\cu prog 65 9=some (13,1,false)/\cu prog 67 0=some (0,1,false)/\cu prog 67 1=some (1,14,true)/\cu prog 79 0=some (0,1,false)/\cu prog 79 1=some (1,1,false)/\cu prog 79 2=some (2,2,true)/\cu prog 79 3=some (4,1,false)/\cu prog 79 4=some (5,1,false)/\cu prog 79 5=some (6,1,false)/\cu prog 79 6=some (7,1,false):=by and_intros<;>kernel_rfl
@[go_sem]theorem OK:cu prog 79 7=some (8,1,false)/\cu prog 82 0=some (0,36,true)/\cu prog 85 0=some (0,4,true)/\cu prog 85 1=some (4,1,false)/\cu prog 85 2=some (5,2,true)/\cu prog 85 3=some (7,1,false)/\cu prog 85 4=some (8,1,false)/\cu prog 87 0=some (0,1,false)/\cu prog 87 1=some (1,1,false)/\cu prog 87 2=some (2,1,false)/\cu prog 87 3=some (3,9,true)/\cu prog 93 0=some (0,1,false)/\cu prog 93 1=some (1,1,false)/\cu prog 100 0=some (0,1,false)/\cu prog 100 1=some (1,1,false)/\cu prog 100 2=some (2,1,false):=by and_intros<;>kernel_rfl
@[go_sem]theorem OL:cu prog 100 3=some (3,1,false)/\cu prog 106 0=some (0,1,false)/\cu prog 106 1=some (1,1,false)/\cu prog 106 2=some (2,1,false)/\cu prog 109 0=some (0,1,false)/\cu prog 109 1=some (1,1,false)/\cu prog 109 2=some (2,3,true)/\cu prog 109 3=some (5,1,false)/\cu prog 111 0=some (0,1,false)/\cu prog 111 1=some (1,1,false)/\cu prog 111 2=some (2,1,false)/\cu prog 111 3=some (3,1,false)/\cu prog 111 4=some (4,1,false)/\cu prog 111 5=some (5,1,false)/\cu prog 111 6=some (6,6,true)/\cu prog 111 7=some (12,1,false):=by and_intros<;>kernel_rfl
@[go_sem]theorem OM:cu prog 111 8=some (13,1,false)/\cu prog 111 9=some (14,1,false)/\cu prog 114 0=some (0,1,false)/\cu prog 114 1=some (1,6,true)/\cu prog 116 0=some (0,1,false)/\cu prog 116 1=some (1,6,true)/\cu prog 128 0=some (0,1,false)/\cu prog 128 1=some (1,1,false)/\cu prog 128 2=some (2,1,false)/\cu prog 128 3=some (3,1,false)/\cu prog 128 4=some (4,1,false)/\cu prog 128 5=some (5,1,false)/\cu prog 128 6=some (6,4,true)/\cu prog 128 7=some (10,1,false)/\cu prog 147 0=some (0,1,false)/\cu prog 147 1=some (1,1,false):=by and_intros<;>kernel_rfl
@[go_sem]theorem ON:cu prog 156 0=some (0,1,false)/\cu prog 156 1=some (1,1,false)/\cu prog 156 2=some (2,1,false)/\cu prog 156 3=some (3,1,false)/\cu prog 156 4=some (4,1,false)/\cu prog 173 0=some (0,1,false)/\cu prog 173 1=some (1,1,false)/\cu prog 173 2=some (2,1,false)/\cu prog 173 3=some (3,1,false)/\cu prog 173 4=some (4,1,false)/\cu prog 179 0=some (0,1,false)/\cu prog 179 1=some (1,1,false)/\cu prog 179 2=some (2,1,false)/\cu prog 179 3=some (3,1,false)/\cu prog 187 0=some (0,1,false)/\cu prog 187 1=some (1,1,false):=by and_intros<;>kernel_rfl
@[go_sem]theorem OO:cu prog 187 2=some (2,1,false)/\cu prog 193 0=some (0,4,true)/\cu prog 193 1=some (4,2,true)/\cu prog 193 2=some (6,1,false)/\cu prog 214 0=some (0,2,true)/\cu prog 214 1=some (2,1,false)/\cu prog 214 2=some (3,1,false)/\cu prog 214 3=some (4,1,false)/\cu prog 216 0=some (0,1,false)/\cu prog 216 1=some (1,1,false)/\cu prog 225 0=some (0,1,false)/\cu prog 225 1=some (1,1,false)/\cu prog 228 0=some (0,1,false)/\cu prog 228 1=some (1,1,false)/\cu prog 231 0=some (0,1,false)/\cu prog 231 1=some (1,1,false):=by and_intros<;>kernel_rfl
@[go_sem]theorem OP:cu prog 231 2=some (2,1,false)/\cu prog 238 0=some (0,1,false)/\cu prog 238 1=some (1,1,false)/\cu prog 300 0=some (0,2,true)/\cu prog 300 1=some (2,1,false)/\cu prog 300 2=some (3,1,false)/\cu prog 303 0=some (0,1,false)/\cu prog 303 1=some (1,1,false)/\cu prog 311 0=some (0,2,true)/\cu prog 311 1=some (2,1,false)/\cu prog 320 0=some (0,1,false)/\cu prog 441 0=some (0,1,false)/\cu prog 441 1=some (1,1,false):=by and_intros<;>kernel_rfl
@[go_sem]theorem Tf:eV prog 29=some (2,32)/\eV prog 37=some (15,216)/\eV prog 45=some (1,8)/\eV prog 46=some (11,160)/\eV prog 53=some (11,136)/\eV prog 54=some (2,32)/\eV prog 60=some (15,152)/\eV prog 62=some (2,32)/\eV prog 63=some (3,40)/\eV prog 76=some (12,128)/\eV prog 77=some (7,56)/\eV prog 83=some (4,40)/\eV prog 102=some (7,88)/\eV prog 103=some (1,24)/\eV prog 104=some (7,96)/\eV prog 107=some (6,80):=by and_intros<;>kernel_rfl
@[go_sem]theorem Tg:eV prog 123=some (2,32)/\eV prog 145=some (1,24)/\eV prog 168=some (4,40)/\eV prog 209=some (2,32)/\eV prog 222=some (2,32)/\eV prog 241=some (3,32)/\eV prog 265=some (1,1)/\eV prog 284=some (1,16)/\eV prog 306=some (3,48)/\eV prog 312=some (2,24)/\eV prog 460=some (1,24):=by and_intros<;>kernel_rfl
@[go_sem]theorem OQ:jJ prog 45=some [.int .i64 0]/\jJ prog 265=some [.int .u8 0]:=by and_intros<;>kernel_rfl
@[go_sem]theorem OR:ja prog 80=some (4,9,true):=kR
@[go_sem]theorem Tryz.Hd:nY prog 211=true:=kR
@[go_sem]theorem Tryz.LC:gU prog 211=some (.st [.i .i64,.s],.str []):=kR
@[go_sem]theorem Tryz.He:nY prog 212=true:=kR
@[go_sem]theorem Tryz.qT:gU prog 212=some (.st [.i .i64,.s],.int .i64 0):=kR
@[go_sem]theorem Tryz.IP:Gq prog 306=true:=kR
theorem cB{P:Program}{f:FuncId}(h:xI P f=true:=by kernel_rfl):xI P f=true:=h
end Go.Proofs.YtegbonbgofjlcaaGreat
namespace Go.Proofs.YtegbonbgofjlcaaGreat
open Go Go.Vx Go.Proofs.Tryz
set_option maxRecDepth 100000
structure fZ where
 name:alW
 kind:Int
 null:Bool deriving DecidableEq
@[go_sem]def fZ.row(x:fZ):List V:=[.str x.name,.int .i64 x.kind,.bool x.null]
structure DB where
 Fi:alZ
 rQ:alZ
 ux:alZ
 IQ:Int
 Fj:Int
 yv:Int deriving DecidableEq
structure bL where
 name:alW
 cw:List fZ
 key:Int
 place:Int
 region:Int
 mZ:DB deriving DecidableEq
@[go_sem]def bL.row(x:bL):List V:=[.str x.name,.sl .ro (x.cw.map fZ.row),.int .i64 x.key,.int .i64 x.place,.int .i64 x.region,.sl .ro (x.mZ.Fi.map (λn=>[V.int .i64 n])),.sl .ro (x.mZ.rQ.map (λn=>[V.int .i64 n])),.sl .ro (x.mZ.ux.map (λn=>[V.int .i64 n])),.int .i64 x.mZ.IQ,.int .i64 x.mZ.Fj,.int .i64 x.mZ.yv]
structure bK where
 kind:Int
 n:Int
 s:alW deriving DecidableEq
@[go_sem]def bK.row(x:bK):List V:=[.int .i64 x.kind,.int .i64 x.n,.str x.s]
structure bK.ok(x:bK):Prop where kind:-9223372036854775808<=x.kind/\x.kind<=9223372036854775807n:-9223372036854775808<=x.n/\x.n<=9223372036854775807s:x.s.length<=maxLen
inductive bJ where|mk(kind:Int)(s:alW)(v:bK)(args:List bJ)
def bJ.kind:bJ->Int
 | .mk x _ _ _=>x
def bJ.s:bJ->alW
 | .mk _ x _ _=>x
def bJ.v:bJ->bK
 | .mk _ _ x _=>x
def bJ.args:bJ->List bJ|.mk _ _ _ x=>x
mutual
def bJ.row:bJ->List V|.mk a0 a1 a2 a3=>[.int .i64 a0,.str a1,.int .i64 a2.kind,.int .i64 a2.n,.str a2.s,.sl .ro (bJ.rows a3)]def bJ.rows:List bJ->List (List V) |[]=>[]|e::l=>bJ.row e::bJ.rows l
end
theorem bJ.og:∀l:List bJ,bJ.rows l=l.map bJ.row|[]=>rfl|e::l=>by rw[bJ.rows,bJ.og l];rfl
@[go_sem]theorem bJ.bQ(x:bJ):x.row=[.int .i64 x.kind,.str x.s,.int .i64 x.v.kind,.int .i64 x.v.n,.str x.v.s,.sl .ro (x.args.map bJ.row)]:=by cases x;rw[bJ.row,bJ.og];rfl
structure de where
 kind:Int
 e:bJ
@[go_sem]def de.row(x:de):List V:=[.int .i64 x.kind,.int .i64 x.e.kind,.str x.e.s,.int .i64 x.e.v.kind,.int .i64 x.e.v.n,.str x.e.v.s,.sl .ro (x.e.args.map bJ.row)]
structure cy where
 name:alW
 e:bJ
@[go_sem]def cy.row(x:cy):List V:=[.str x.name,.int .i64 x.e.kind,.str x.e.s,.int .i64 x.e.v.kind,.int .i64 x.e.v.n,.str x.e.v.s,.sl .ro (x.e.args.map bJ.row)]
structure bZ where
 kind:Int
 table:alW
 items:List de
 rows:List (List bJ)cJ:List cy
 ef:Bool
 cH:bJ
 order:alW
 down:Bool
 bV:Int
@[go_sem]def bZ.row(x:bZ):List V:=[.int .i64 x.kind,.str x.table,.sl .ro (x.items.map de.row),.sl .ro (x.rows.map (λ(l:List bJ)=>[V.sl .ro (l.map bJ.row)])),.sl .ro (x.cJ.map cy.row),.bool x.ef,.int .i64 x.cH.kind,.str x.cH.s,.int .i64 x.cH.v.kind,.int .i64 x.cH.v.n,.str x.cH.v.s,.sl .ro (x.cH.args.map bJ.row),.str x.order,.bool x.down,.int .i64 x.bV]
structure eF where
 mode:Int
 n:Int
 stmts:List bZ
@[go_sem]def eF.row(x:eF):List V:=[.int .i64 x.mode,.int .i64 x.n,.sl .ro (x.stmts.map bZ.row)]
structure ca where
 lo:alW
 hi:alW deriving DecidableEq
@[go_sem]def ca.row(x:ca):List V:=[.str x.lo,.str x.hi]
structure ca.ok(x:ca):Prop where
 lo:x.lo.length<=maxLen
 hi:x.hi.length<=maxLen
structure gW where
 l7:Int
 a:Int
 b:Int
 c:Int deriving DecidableEq
@[go_sem]def gW.row(x:gW):List V:=[.int .i64 x.l7,.int .i64 x.a,.int .i64 x.b,.int .i64 x.c]
structure gW.ok(x:gW):Prop where l7:-9223372036854775808<=x.l7/\x.l7<=9223372036854775807a:-9223372036854775808<=x.a/\x.a<=9223372036854775807b:-9223372036854775808<=x.b/\x.b<=9223372036854775807c:-9223372036854775808<=x.c/\x.c<=9223372036854775807
theorem gW.Fk{vs:List V}(h:mG prog 100 vs):∃x:gW,vs=x.row/\x.ok:=by have h:kK prog [3,3,3,3] vs:=h.pQ underlying100;obtain⟨_,_,rfl,h0,h⟩:=h.cons_inv;obtain⟨_,_,rfl,h1,h⟩:=h.cons_inv;obtain⟨_,_,rfl,h2,h⟩:=h.cons_inv;obtain⟨_,_,rfl,h3,h⟩:=h.cons_inv;obtain rfl:=h.mW;obtain⟨x0,rfl,w0⟩:=h0.iY underlying3;have w0:=G9 w0;obtain⟨x1,rfl,w1⟩:=h1.iY underlying3;have w1:=G9 w1;obtain⟨x2,rfl,w2⟩:=h2.iY underlying3;have w2:=G9 w2;obtain⟨x3,rfl,w3⟩:=h3.iY underlying3;have w3:=G9 w3;exact⟨⟨x0,x1,x2,x3⟩,rfl,⟨w0,w1,w2,w3⟩⟩
structure dM where
 key:alW
 data:alW deriving DecidableEq
@[go_sem]def dM.row(x:dM):List V:=[.str x.key,.str x.data]
structure di where
 key:alW
 drop:Bool
 data:alW deriving DecidableEq
@[go_sem]def di.row(x:di):List V:=[.str x.key,.bool x.drop,.str x.data]
structure di.ok(x:di):Prop where
 key:x.key.length<=maxLen
 drop:True
 data:x.data.length<=maxLen
structure eZ where
 node:Int
 dY:Int
 seq:Int
 attempt:Int deriving DecidableEq
@[go_sem]def eZ.row(x:eZ):List V:=[.int .i64 x.node,.int .i64 x.dY,.int .i64 x.seq,.int .i64 x.attempt]
structure eZ.ok(x:eZ):Prop where node:-9223372036854775808<=x.node/\x.node<=9223372036854775807dY:-9223372036854775808<=x.dY/\x.dY<=9223372036854775807seq:-9223372036854775808<=x.seq/\x.seq<=9223372036854775807attempt:-9223372036854775808<=x.attempt/\x.attempt<=9223372036854775807
structure cA where
 range:Int
 state:Int
 home:Int
 cj:List ca
 writes:List di
 dK:List dM
 dh:eZ
 yes:Bool deriving DecidableEq
@[go_sem]def cA.row(x:cA):List V:=[.int .i64 x.range,.int .i64 x.state,.int .i64 x.home,.sl .ro (x.cj.map ca.row),.sl .ro (x.writes.map di.row),.sl .ro (x.dK.map dM.row),.int .i64 x.dh.node,.int .i64 x.dh.dY,.int .i64 x.dh.seq,.int .i64 x.dh.attempt,.bool x.yes]
structure cT where
 wall:Int
 tie:Int deriving DecidableEq
@[go_sem]def cT.row(x:cT):List V:=[.int .i64 x.wall,.int .i64 x.tie]
structure cT.ok(x:cT):Prop where wall:-9223372036854775808<=x.wall/\x.wall<=9223372036854775807tie:-9223372036854775808<=x.tie/\x.tie<=9223372036854775807
structure fI where
 kind:Int
 cE:Int
 node:Int
 home:Int
 dh:eZ
 at_:cT
 wall:Int
 yes:Bool
 cj:List ca
 writes:List di deriving DecidableEq
@[go_sem]def fI.row(x:fI):List V:=[.int .i64 x.kind,.int .i64 x.cE,.int .i64 x.node,.int .i64 x.home,.int .i64 x.dh.node,.int .i64 x.dh.dY,.int .i64 x.dh.seq,.int .i64 x.dh.attempt,.int .i64 x.at_.wall,.int .i64 x.at_.tie,.int .i64 x.wall,.bool x.yes,.sl .ro (x.cj.map ca.row),.sl .ro (x.writes.map di.row)]
structure fI.ok(x:fI):Prop where
 kind:-9223372036854775808<=x.kind/\x.kind<=9223372036854775807cE:-9223372036854775808<=x.cE/\x.cE<=9223372036854775807node:-9223372036854775808<=x.node/\x.node<=9223372036854775807home:-9223372036854775808<=x.home/\x.home<=9223372036854775807dh:x.dh.ok
 at_:x.at_.ok
 wall:-9223372036854775808<=x.wall/\x.wall<=9223372036854775807yes:True
 cj:x.cj.length<=maxLen/\∀y∈x.cj,y.ok
 writes:x.writes.length<=maxLen/\∀y∈x.writes,y.ok
structure dq where
 range:Int
 cmd:fI deriving DecidableEq
@[go_sem]def dq.row(x:dq):List V:=[.int .i64 x.range,.int .i64 x.cmd.kind,.int .i64 x.cmd.cE,.int .i64 x.cmd.node,.int .i64 x.cmd.home,.int .i64 x.cmd.dh.node,.int .i64 x.cmd.dh.dY,.int .i64 x.cmd.dh.seq,.int .i64 x.cmd.dh.attempt,.int .i64 x.cmd.at_.wall,.int .i64 x.cmd.at_.tie,.int .i64 x.cmd.wall,.bool x.cmd.yes,.sl .ro (x.cmd.cj.map ca.row),.sl .ro (x.cmd.writes.map di.row)]
structure cU where
 err:Int
 dK:List dM
 dh:eZ
 home:Int
 at_:cT
 wall:Int
 yes:Bool deriving DecidableEq
@[go_sem]def cU.row(x:cU):List V:=[.int .i64 x.err,.sl .ro (x.dK.map dM.row),.int .i64 x.dh.node,.int .i64 x.dh.dY,.int .i64 x.dh.seq,.int .i64 x.dh.attempt,.int .i64 x.home,.int .i64 x.at_.wall,.int .i64 x.at_.tie,.int .i64 x.wall,.bool x.yes]
structure cc where
 at_:cT
 drop:Bool
 data:alW deriving DecidableEq
@[go_sem]def cc.row(x:cc):List V:=[.int .i64 x.at_.wall,.int .i64 x.at_.tie,.bool x.drop,.str x.data]
structure fL where
 dh:eZ
 home:Int
 at_:cT
 drop:Bool
 data:alW deriving DecidableEq
@[go_sem]def fL.row(x:fL):List V:=[.int .i64 x.dh.node,.int .i64 x.dh.dY,.int .i64 x.dh.seq,.int .i64 x.dh.attempt,.int .i64 x.home,.int .i64 x.at_.wall,.int .i64 x.at_.tie,.bool x.drop,.str x.data]
structure bW where
 key:alW
 cF:List cc
 locked:Bool
 lock:fL deriving DecidableEq
@[go_sem]def bW.row(x:bW):List V:=[.str x.key,.sl .ro (x.cF.map cc.row),.bool x.locked,.int .i64 x.lock.dh.node,.int .i64 x.lock.dh.dY,.int .i64 x.lock.dh.seq,.int .i64 x.lock.dh.attempt,.int .i64 x.lock.home,.int .i64 x.lock.at_.wall,.int .i64 x.lock.at_.tie,.bool x.lock.drop,.str x.lock.data]
structure db where
 dh:eZ
 at_:cT
 yes:Bool deriving DecidableEq
@[go_sem]def db.row(x:db):List V:=[.int .i64 x.dh.node,.int .i64 x.dh.dY,.int .i64 x.dh.seq,.int .i64 x.dh.attempt,.int .i64 x.at_.wall,.int .i64 x.at_.tie,.bool x.yes]
structure dj where
 cE:Int
 na:Int
 floor:cT
 closed:Int
 low:Int
 cells:List bW
 records:List db
 done:List db deriving DecidableEq
@[go_sem]def dj.row(x:dj):List V:=[.int .i64 x.cE,.int .i64 x.na,.int .i64 x.floor.wall,.int .i64 x.floor.tie,.int .i64 x.closed,.int .i64 x.low,.sl .ro (x.cells.map bW.row),.sl .ro (x.records.map db.row),.sl .ro (x.done.map db.row)]
end Go.Proofs.YtegbonbgofjlcaaGreat
namespace Go.Vx
open Go
section
variable{P:Program}{c:Ctx}{nt:Nat}{n0:Kp}
variable{ops:List Oper}{q:List (Nat×Nat)}{I:St}{e:Env}{e0:Env}{tr:List (V×St)}{bM:Array Bool}{i:Nat}{o:Oper}{z:List V}
theorem xM7{Q:Exit->Act->World->Prop}{cD:St}(hn:n0.n<=cD.length)(ht:pO P c nt n0 ops q 0 ops e0 cD tr)(B:Nat->Nat->Prop)(sp:∀{i j:Nat}{x y:Oper},i<j->ops[i]?=some x->ops[j]?=some y->vS ops q i j x y=false\/B i j){a:Act}{w:World}{L:Nat->Nat}{J:alY}(aa:ops[i]?=some o)(av:bM.getD i false=false)(a7:i<bM.size)(ahead:∀{k:Nat},k≠i->B k i->bM.getD k false)(oc:∀{k:Nat},B i k->bM.getD k false=false)(a8:∀{k j:Nat},B k j->bM.getD j false=true->bM.getD k false)(hs:ez c nt (fE (λi=>bM.getD i false) 0 ops tr e0) (fS (λi=>bM.getD i false) q 0 ops tr cD) a w L J){next:Act->World->Prop}(aA:∀a' w' L' J',ez c nt (fE (λk=>(bM.setIfInBounds i true).getD k false) 0 ops tr e0) (fS (λk=>(bM.setIfInBounds i true).getD k false) q 0 ops tr cD) a' w' L' J'->next a' w'):if Region.wanted o (yielded ops.toArray a.tmps)then o.wp P a w next Q\/(o.asks P a w/\LetsOut Q)else next (a.put o.dst undef) w:=by
 have ak:∀k,k≠i->(bM.setIfInBounds i true).getD k false=bM.getD k false:=λk hk=>getD_set_ne false (λq=>hk q.symm);have aw:(bM.setIfInBounds i true).getD i false:=by simp[Array.getD,a7]
 obtain⟨an,aB⟩:=GZ ops q ops tr 0 e0 cD ht;obtain⟨v,I',ax,ah⟩:=aB i o aa;rw[Ae]at ah;have ay:∀t∈pN ops o,fE (λi=>bM.getD i false) 0 ops tr e0 t=fE (λj=>decide (j<i)) 0 ops tr e0 t:=by
  intro t an;refine rN _ _ t ops tr 0 e0 e0 rfl λk o' hk ad=>?_;rw[Ae];rcases Bc k i with ab|ab|ab
  .rw[als ab];rcases sp ab hk aa with hc|hb;.exact absurd an ((xA hc).2.1 t ad).1
   .exact ahead om hb
  .subst ab;rw[av];simp
  .rw[alr om];rcases sp ab aa hk with hc|hb;.exact absurd an ((xA hc).2.2 t ad)
   .exact oc hb
 have al:2<=yB q i o->fS (λi=>bM.getD i false) q 0 ops tr cD=fS (λj=>decide (j<i)) q 0 ops tr cD:=by
  intro af;refine uq _ _ q ops tr 0 cD λk o' hk ad=>?_;rw[Ae]at ad⊢;rcases Bc k i with ab|ab|ab
  .rw[als ab];rcases sp ab hk aa with hc|hb;.have:=(xA hc).1;rw[CQ ad (wN _ _ _) af (wN _ _ _)]at this;cases this
   .exact ahead om hb
  .subst ab;rw[av];simp
  .rw[alr om];rcases sp ab aa hk with hc|hb;.have:=(xA hc).1;rw[Lm,CQ ad (wN _ _ _) af (wN _ _ _)]at this;cases this
   .exact oc hb
 have az:yB q i o=1->n0.of (fS (λi=>bM.getD i false) q 0 ops tr cD)=n0.of (fS (λj=>decide (j<i)) q 0 ops tr cD):=by
  intro a1;have pre:∀N,N<=ops.length->∃m,m<=N/\∀k o',k<N->ops[k]?=some o'->3<=yB q k o'->bM.getD k false=decide (k<m):=by intro N;induction N with |zero=>exactλ_=>⟨0,A7 _,λk o' h=>om⟩|succ N aC=>
    intro hN;obtain⟨m,hm,ae⟩:=aC om;have a6:=A0 (show N<ops.length by omega);by_cases hw:3<=yB q N (ops[N]'om)/\bM.getD N false=true
    .refine⟨N+1,A7 _,λk o' hk ai h3=>?_⟩;rw[als hk];by_cases ao:k=N;.subst ao;exact hw.2
     .rcases sp (show k<N by omega) ai a6 with hc|hb;.have:=(xA hc).1;rw[CQ h3 (wN _ _ _) om (wN _ _ _)]at this;cases this
      .exact a8 hb hw.2
    .refine⟨m,om,λk o' hk ai h3=>?_⟩;by_cases ao:k=N;.subst ao;rw[a6]at ai;cases ai;rw[alr om];cases hl:bM.getD k false with |false=>rfl|true=>exact absurd ⟨h3,hl⟩ hw
     .exact ae k o' om ai h3
  obtain⟨m,hm,ae⟩:=pre ops.length (A7 _);have e1:fS (λi=>bM.getD i false) q 0 ops tr cD=fS (λx=>decide (x<m)) q 0 ops tr cD:=uq _ _ q ops tr 0 cD λk o' hk h3=>by rw[Ae]at h3⊢;exact ae k o' (A3.1 hk).1 hk h3
  rw[e1];have aE:i<ops.length:=(A3.1 aa).1
  rcases Nat.le_total m i with aD|aD;.have:=(Lp ht hn (i-m) m om (λk o' h5 h6 hk h4=>by
    have h7:=ae k o' (A3.1 hk).1 hk om;rw[alr om]at h7;rcases sp (show k<i by omega) hk aa with hc|hb;.have:=(xA hc).1;rw[h4,a1,Lo dC]at this;cases this
    .rw[ahead om hb]at h7;cases h7)).2;rw[show m+(i-m)=i by omega]at this;grind
  .have:=(Lp ht hn (m-i) i om (λk o' h5 h6 hk h4=>by
    have h7:=ae k o' (A3.1 hk).1 hk om;rw[als om]at h7;have ab:k≠i:=λqq=>by subst qq;rw[hk]at aa;cases aa;omega
    rcases sp (show i<k by omega) aa hk with hc|hb;.have:=(xA hc).1;rw[Lm,h4,a1,Lo dC]at this;cases this
    grind)).2;rw[show i+(m-i)=m by omega]at this;omega
 refine Ll (ops:=ops) (Q:=Q) (next:=next) o hs (ah.step ay al az) ?_;rintro e' s' a' w' L' J' aF ⟨rfl,rfl⟩;have e1:gB (fE (λi=>bM.getD i false) 0 ops tr e0) o.dst v=fE (λk=>(bM.setIfInBounds i true).getD k false) 0 ops tr e0:=by
  funext t;by_cases aj:o.dst=some t
  .rw[CM _ _ _ _ aj];refine(EX _ t ops tr 0 i e0 o v I' aa ax aj (by rw[Ae];exact aw) λk' o' aq ar au=>?_).symm;rw[Ae,ak k' om];rcases sp aq aa ar with hc|hb;.exact absurd au ((xA hc).2.1 t aj).2
   .exact oc hb
  .rw[CN _ _ _ _ aj];refine rN _ _ t ops tr 0 e0 e0 rfl λk o' hk ad=>?_;rw[Ae];refine(ak k λq=>?_).symm;subst q;rw[aa]at hk;cases hk;exact aj ad
 have e2:(if 3<=yB q i o then I' else fS (λi=>bM.getD i false) q 0 ops tr cD)=fS (λk=>(bM.setIfInBounds i true).getD k false) q 0 ops tr cD:=by
  split
  .rename_i af;refine(GY _ q ops tr 0 i cD o v I' aa ax (by rw[Ae];exact af) (by rw[Ae];exact aw) λk' o' aq ar au=>?_).symm;rw[Ae]at au⊢;rw[ak k' om];rcases sp aq aa ar with hc|hb;.have:=(xA hc).1;rw[CQ af (wN _ _ _) om (wN _ _ _)]at this;cases this
   grind
  .rename_i af;refine uq _ _ q ops tr 0 cD λk o' hk ad=>?_;rw[Ae]at ad⊢;refine(ak k λq=>?_).symm;subst q;rw[aa]at hk;cases hk;exact af ad
 grind
theorem xQ3(B:Nat->Nat->Prop)(sp:∀{i j:Nat}{x y:Oper},i<j->ops[i]?=some x->ops[j]?=some y->vS ops q i j x y=false\/B i j)(ab:ops[i]?=some o)(af:bM.getD i false=false)(ahead:∀{k:Nat},k≠i->B k i->bM.getD k false)(oc:∀{k:Nat},B i k->bM.getD k false=false):∀t∈pN ops o,fE (λi=>bM.getD i false) 0 ops tr e0 t=fE (λj=>decide (j<i)) 0 ops tr e0 t:=by
 intro t ad;refine rN _ _ t ops tr 0 e0 e0 rfl λk o' hk ae=>?_;rw[Ae];rcases Bc k i with aa|aa|aa
 .rw[als aa];rcases sp aa hk ab with hc|hb;.exact absurd ad ((xA hc).2.1 t ae).1
  grind
 .grind
 .rw[alr om];rcases sp aa ab hk with hc|hb;.exact absurd ad ((xA hc).2.2 t ae)
  grind
theorem xQ2(B:Nat->Nat->Prop)(sp:∀{i j:Nat}{x y:Oper},i<j->ops[i]?=some x->ops[j]?=some y->vS ops q i j x y=false\/B i j){v:V}{I':St}(ab:ops[i]?=some o)(ad:tr[i]?=some (v,I'))(aj:i<bM.size)(oc:∀{k:Nat},B i k->bM.getD k false=false):gB (fE (λi=>bM.getD i false) 0 ops tr e0) o.dst v=fE (λk=>(bM.setIfInBounds i true).getD k false) 0 ops tr e0:=by
 have ae:∀k,k≠i->(bM.setIfInBounds i true).getD k false=bM.getD k false:=λk hk=>getD_set_ne false om;have ak:(bM.setIfInBounds i true).getD i false:=by simp_all
 funext t;by_cases aa:o.dst=some t
 .rw[CM _ _ _ _ aa];refine(EX _ t ops tr 0 i e0 o v I' ab ad aa (by grind) λk' o' af ah ai=>?_).symm;rw[Ae,ae k' om];rcases sp af ab ah with hc|hb;.exact absurd ai ((xA hc).2.1 t aa).2
  grind
 .rw[CN _ _ _ _ aa];refine rN _ _ t ops tr 0 e0 e0 rfl λk o' hk al=>?_;grind
theorem Th{n:Nat}(D:Nat->Bool):∀(os:List Oper)(tr:List (V×St))(i:Nat)(e:Env),(∀t,hZ n (e t)=true)->(∀(k:Nat) v s,tr[k]?=some (v,s)->D (i+k)=true->hZ n v=true)->∀t,hZ n (fE D i os tr e t)=true
 |[],_,_,_,h,_=>by simpa|o::os,[],_,_,h,_=>by simpa|o::os,(v,s)::tr,i,e,h,hv=>by
  rw[fE];refine Th D os tr (i+1) _ (λt=>?_) (λk v' s' hk hD=>hv (k+1) v' s' (by grind) (by grind));split
  .rename_i ab;by_cases aa:o.dst=some t;.rw[CM _ _ _ _ aa];exact hv 0 v s rfl om
   grind[CN]
  grind
theorem ez.pick{e e':Env}{I s:St}{a:Act}{w:World}{L:Nat->Nat}{J:alY}{pick:alX}(h:ez c nt e I a w L J)(hp:gT c.cD.length pick I s)(hc:c.β0.length=c.cD.length)(he:∀t,cW (cO pick I.length) (e' t) (e t)):∃J',ez c nt e' s a w L J':=⟨_,h.mem.pick hp hc,h.size,h.defs,λt=>BP (hp.jK h.mem.len) (he t) (h.env t)⟩
theorem xk6{n0:Nat}{z2:List V}(hn:n0<=I.length)(aa:I.all (bS I.length))(hz:z.all mV)(ab:z2.all mV):gT n0 (List.range I.length++[I.length+1,I.length]) (I++[.box z2,.box z]) (I++[.box z,.box z2]):=by
 have hb:∀ρ,yC ρ (.box z)=.box z:=(by grind[yC,wF,CH]);have ad:∀ρ,yC ρ (.box z2)=.box z2:=(by grind[yC,wF,CH]);have hr:∀i,i<I.length->cO (List.range I.length++[I.length+1,I.length]) (I++[Ob.box z2,Ob.box z]).length i=i:=(by grind[jW]);refine⟨sM,?_,λi j o hi ho=>?_,λi hi=>?_⟩;.grind
 .by_cases h1:i<I.length;.rw[Ap (by grind),Dh h1]at hi;cases hi;rw[Ap h1]at ho;have h2:bS I.length o:=(by grind);grind[yV]
  .rw[Ar (by grind)]at hi;grind
 grind
theorem Ti{Q:Exit->Act->World->Prop}{next:Act->World->Prop}{a:Act}{w:World}{L:Nat->Nat}{J:alY}{d:Tmp}{t ty:TypeId}{pos:String}{eK:Array Edge}(hz:xF P t=some z)(hd:d<nt)(h:ez c nt e I a w L J)(hn:∀a' w' L' J',ez c nt (ft e d (.ptr I.length 0)) (I++[.box z]) a' w' L' J'->next a' w'):if Region.wanted (⟨some d,.alloc t,ty,pos,eK,none⟩:Oper) (yielded ops.toArray a.tmps)then(⟨some d,.alloc t,ty,pos,eK,none⟩:Oper).wp P a w next Q\/((⟨some d,.alloc t,ty,pos,eK,none⟩:Oper).asks P a w/\LetsOut Q)else next (a.put (some d) undef) w:=by
 refine Ll (ops:=ops) (Q:=Q) (next:=next) ⟨some d,.alloc t,ty,pos,eK,none⟩ (K:=λe' s'=>e'=ft e d (.ptr I.length 0)/\s'=I++[.box z]) h ?_ ?_
 .have aa:wD P (some d) e I (.alloc t)=.st (.ptr I.length 0) (I++[.box z]):=by
   have h1:cx P e I (.alloc t)=.st (.ptr I.length 0) (I++[.box z]):=by grind[cx,sW]
   have h2:iM P e I (.alloc t)=cx P e I (.alloc t):=rfl;grind[wD]
  show mQ nt (some d) (wD P (some d) e I (.alloc t)) _ e I;rw[aa];trivial
 grind
theorem wg7{Q:Exit->Env->St->Prop}{cD:St}{p dA dB:Nat}{t t2 tA tB:TypeId}{aD aE:String}{aA aB:Array Edge}{z2:List V}(hn:n0.n<=cD.length)(bf:c.cD.length<=cD.length)(bg:c.β0.length=c.cD.length)(hA:ops[p]?=some ⟨some dA,.alloc t,tA,aD,aA,none⟩)(hB:ops[p+1]?=some ⟨some dB,.alloc t2,tB,aE,aB,none⟩)(bh:dA≠dB)(b7:yB q p ⟨some dA,.alloc t,tA,aD,aA,none⟩=3)(b8:yB q (p+1) ⟨some dB,.alloc t2,tB,aE,aB,none⟩=3)(hz:xF P t=some z)(bj:z.all mV)(aR:xF P t2=some z2)(aS:z2.all mV)(az:∀(k:Nat) o,k<p->ops[k]?=some o->yB q k o<2/\dA∉pN ops o/\dB∉pN ops o/\o.dst≠some dA/\o.dst≠some dB)(aT:∀(k:Nat) o,p+1<k->ops[k]?=some o->p∈(gJ ops []).getD k []/\(p+1)∈(gJ ops []).getD k [])(hd:∀{i j:Nat}{x y:Oper},i<j->ops[i]?=some x->ops[j]?=some y->vS ops q i j x y=false\/(i∈(gJ ops []).getD j []\/(i=p/\j=p+1)))(aI:s8 ops)(bk:cD.all (bS cD.length))(h0:∀s,hZ cD.length (e0 s))(hv:∀(k:Nat) v s,k<p->tr[k]?=some (v,s)->hZ cD.length v)(ht:pO P c nt n0 ops q 0 ops e0 cD tr)(hQ:Q .normal (fE (λ_=>true) 0 ops tr e0) (fS (λ_=>true) q 0 ops tr cD)):∀(fuel:Nat)(bM:Array Bool)(a:Act)(w:World)(L:Nat->Nat)(J:alY),bM.size=ops.length->bM.toList.count false=fuel->(∀(j:Nat) o,ops[j]?=some o->bM.getD j false=true->∀e∈o.after.toList,Region.binds .any e=true->bM.getD e.on false=true)->((bM.getD (p+1) false=true->bM.getD p false=true)/\ez c nt (fE (λi=>bM.getD i false) 0 ops tr e0) (fS (λi=>bM.getD i false) q 0 ops tr cD) a w L J\/(bM.getD (p+1) false=true/\bM.getD p false=false)/\ez c nt (ft (fE (λi=>bM.getD i false) 0 ops tr e0) dB (.ptr cD.length 0)) (cD++[.box z2]) a w L J)->wpAny P .any ops.toArray (fY c nt Q) fuel bM a w:=by
 obtain⟨b9,aJ⟩:=GZ ops q ops tr 0 e0 cD ht;have bA:p+1<ops.length:=(A3.1 hB).1;have bm:fS (λj=>decide (j<p)) q 0 ops tr cD=cD:=CO _ q ops tr 0 cD λk o hk h3=>by
  rw[Ae]at h3⊢;by_cases an:k<p;.have:=(az k o an hk).1;omega
  .simp;omega
 have aU:∀{t:TypeId}{z:List V}(_:xF P t=some z)(e:Env)(I:St)(d:Tmp),wD P (some d) e I (.alloc t)=.st (.ptr I.length 0) (I++[.box z]):=λ{t}{z}hz e I d=>by
  have h1:cx P e I (.alloc t)=.st (.ptr I.length 0) (I++[.box z]):=by simp only[cx,sW,hz]
  have h2:iM P e I (.alloc t)=cx P e I (.alloc t):=rfl;unfold wD;rw[h2,h1];simp
 have fact:∀{t:TypeId}{z:List V}(_:xF P t=some z){k d tt ps af E S v s'},Fact P c nt n0 ops q k ⟨some d,.alloc t,tt,ps,af,none⟩ E S v s'->v=.ptr S.length 0/\s'=S++[.box z]/\d<nt:=by
  intro t z hz k d tt ps af E S v s' hf;obtain⟨bn,_,_,_,g,hg,hb⟩:=hf;simp only at hg;subst hg;simp only[alB]at hb;obtain⟨_,_,_,hb⟩:=hb;rw[aU hz]at hb;rcases hb with⟨hr,_⟩|⟨_,hr,_⟩|⟨_,hr|⟨_,hr,_⟩⟩;.cases hr
  .cases hr
  .cases hr;exact⟨rfl,rfl,bn d rfl⟩
  .cases hr
 obtain⟨vA,sA,aF,aV⟩:=aJ p _ hA;rw[Ae,bm]at aV;obtain⟨rfl,rfl,bo⟩:=fact hz aV;have bp:fS (λj=>decide (j<p+1)) q 0 ops tr cD=cD++[.box z]:=GY _ q ops tr 0 p cD _ _ _ hA aF (by rw[Ae];omega) sM λk' o' aq _ _=>by simp;omega
 obtain⟨vB,sB,ar,aW⟩:=aJ (p+1) _ hB;rw[Ae,bp]at aW;obtain⟨rfl,rfl,bq⟩:=fact aR aW;simp only[Al,Bh,Bj,List.singleton_append]at ar;have fin:∀(bM:Array Bool)(a:Act)(w:World)(L:Nat->Nat)(J:alY),ez c nt (fE (λi=>bM.getD i false) 0 ops tr e0) (fS (λi=>bM.getD i false) q 0 ops tr cD) a w L J->(∀i,i<ops.length->bM.getD i false=true)->fY c nt Q .normal a w:=by
  intro bM a w L J hs ak;have e1:fE (λi=>bM.getD i false) 0 ops tr e0=fE (λ_=>true) 0 ops tr e0:=by funext t;exact rN _ _ t ops tr 0 e0 e0 rfl λk o hk _=>by rw[Ae];exact ak k (A3.1 hk).1
  have e2:fS (λi=>bM.getD i false) q 0 ops tr cD=fS (λ_=>true) q 0 ops tr cD:=uq _ _ q ops tr 0 cD λk o hk _=>by rw[Ae];exact ak k (A3.1 hk).1
  rw[e1,e2]at hs;exact⟨_,_,L,J,hs,hQ⟩
 have au:∀(bM:Array Bool),bM.size=ops.length->Region.ready .any ops.toArray bM=[]->∀i,i<ops.length->bM.getD i false=true:=by intro bM ao hr i;induction i using Nat.strongRecOn with|ind i ih=>intro hi;cases a1:bM.getD i false with |true=>rfl|false=>
    exfalso;have hm:i∈Region.ready .any ops.toArray bM:=by
     refine mem_ready.2 ⟨?_,ops[i],by simp[hi],λe he hb=>?_⟩;.have aa:i<bM.size:=om;simpa[Array.getD,aa]using a1
     .unfold s8 at aI;simp only[Am,Cs]at aI;have:=aI i hi;rw[A0 hi]at this;simp only[Cl]at this;have:=this e he;simp only[hb,Bool.not_true,Bv,alw]at this;exact ih e.on this om
    rw[hr]at hm;cases hm
 intro fuel;induction fuel with
 |zero=>
  intro bM a w L J ao aX av hs;have ak:∀i,i<ops.length->bM.getD i false:=by intro i hi;have aa:i<bM.size:=om;cases a1:bM[i]with|true=>simp[Array.getD,aa,a1]|false=>
    exfalso;have:false∈bM.toList:=by rw[<-a1];simp
    have:=List.count_pos_iff.2 this;omega
  rcases hs with⟨_,hs⟩|⟨⟨_,hp⟩,_⟩;.refine⟨?_,fin bM a w L J hs ak⟩;cases hr:Region.ready .any ops.toArray bM with|nil=>rfl|cons i l=>
    exfalso;have hm:i∈Region.ready .any ops.toArray bM:=by rw[hr];simp
    obtain⟨h1,o,ho,_⟩:=mem_ready.1 hm;have hi:i<ops.length:=(A3.1 (sU ho)).1;have:=ak i hi;have aa:i<bM.size:=om;simp[Array.getD,aa]at this h1;rw[this]at h1;cases h1
  .rw[ak p om]at hp;cases hp|succ fuel ih=>
  intro bM a w L J ao aX av hs;refine⟨λhr=>?_,λi hi=>?_⟩
  .rcases hs with⟨_,hs⟩|⟨⟨_,hp⟩,_⟩;.exact fin bM a w L J hs (au bM ao hr)
   .rw[au bM ao hr p om]at hp;cases hp
  obtain⟨h1,o,ho,aK⟩:=mem_ready.1 hi;have ab:ops[i]?=some o:=sU ho;have bB:i<ops.length:=(A3.1 ab).1;have aa:i<bM.size:=om;have ai:bM.getD i false=false:=by simp[Array.getD,aa]at h1⊢;exact h1
  have ad:∀k,k≠i->(bM.setIfInBounds i true).getD k false=bM.getD k false:=λk hk=>getD_set_ne false (λq=>hk q.symm);have a6:(bM.setIfInBounds i true).getD i false:=by simp[Array.getD,aa]
  have aG:∀(j:Nat) o,ops[j]?=some o->(bM.setIfInBounds i true).getD j false=true->∀e∈o.after.toList,Region.binds .any e=true->(bM.setIfInBounds i true).getD e.on false=true:=by
   intro j o' hj aY e he hb;by_cases aZ:j=i;.subst aZ;rw[ab]at hj;cases hj;exact getD_set_true (aK e (sU he) hb)
   .rw[ad j aZ]at aY;exact getD_set_true (av j o' hj aY e he hb)
  have ahead:∀{k:Nat},k≠i->k∈(gJ ops []).getD i []->bM.getD k false=true:=λ{k}hk hb=>by have:=EY (D:=λj=>(bM.setIfInBounds i true).getD j false) aG hb a6;rwa[ad k hk]at this
  have oc:∀{k:Nat},i∈(gJ ops []).getD k []->bM.getD k false=false:=λ{k}hb=>by cases hk:bM.getD k false with |false=>rfl|true=>have:=EY (D:=λj=>bM.getD j false) av hb hk;rw[ai]at this;cases this
  have a7:(bM.setIfInBounds i true).toList.count false=fuel:=by
   have:=SU (l:=bM) (i:=i) (by rw[B4 aa];have:=ai;simp[Array.getD,aa]at this;rw[this]);omega
  have next:=λa' w' L' J' h=>ih (bM.setIfInBounds i true) a' w' L' J' (sU ao) a7 aG h;unfold wpOp;rw[ho];show if Region.wanted o (yielded ops.toArray a.tmps)then o.wp P a w (wpAny P .any ops.toArray (fY c nt Q) fuel (bM.setIfInBounds i true)) (fY c nt Q)\/_ else _;have only:bM.getD p false=false->∀k,p+1<k->bM.getD k false=false:=λhp k hk=>by cases hl:bM.getD k false with |false=>rfl|true=>
    have br:k<ops.length:=by
     rcases C3 k ops.length with h|h;.exact h
     .exfalso;simp[Array.getD,ao,Nat.not_lt.2 h]at hl
    have:=EY (D:=λj=>bM.getD j false) av (aT k _ hk (A0 br)).1 hl;rw[hp]at this;cases this
  have bt:(i≠p+1\/bM.getD p false=true)->(bM.getD (p+1) false=true->bM.getD p false=true)->ez c nt (fE (λi=>bM.getD i false) 0 ops tr e0) (fS (λi=>bM.getD i false) q 0 ops tr cD) a w L J->if Region.wanted o (yielded ops.toArray a.tmps)then o.wp P a w (wpAny P .any ops.toArray (fY c nt Q) fuel (bM.setIfInBounds i true)) (fY c nt Q)\/(o.asks P a w/\LetsOut (fY c nt Q))else wpAny P .any ops.toArray (fY c nt Q) fuel (bM.setIfInBounds i true) (a.put o.dst undef) w:=by
   intro ae hinv hs;refine xM7 hn ht (λi j=>i∈(gJ ops []).getD j []\/(i=p/\j=p+1)) (λh1 h2 h3=>hd h1 h2 h3) ab ai aa ?_ ?_ ?_ hs λa' w' L' J' aj=>next a' w' L' J' (.inl ⟨?_,aj⟩)
   .rintro k hk(hb|⟨rfl,rfl⟩);.exact ahead hk hb
    .rcases ae with h|h;.exact absurd rfl h
     .exact h
   .rintro k(hb|⟨rfl,rfl⟩);.exact oc hb
    .cases hl:bM.getD (i+1) false with|false=>rfl|true=>rw[hinv hl]at ai;cases ai
   .rintro k j(hb|⟨rfl,rfl⟩) hj;.exact EY (D:=λj=>bM.getD j false) av hb hj
    .exact hinv hj
   .intro h;by_cases aw:i=p;.subst aw;exact a6
    .rw[ad p (λq=>aw q.symm)];by_cases aH:i=p+1
     .rcases ae with h'|h';.exact absurd aH h'
      .exact h'
     .rw[ad (p+1) (λq=>aH q.symm)]at h;exact hinv h
  rcases hs with⟨hinv,hs⟩|⟨⟨a8,aC⟩,hs⟩
  .by_cases ae:i=p+1/\bM.getD p false=false;·
    obtain⟨rfl,hp⟩:=ae;rw[hB]at ab;cases ab;have ba:fS (λi=>bM.getD i false) q 0 ops tr cD=cD:=CO _ q ops tr 0 cD λk o hk h3=>by
     rw[Ae]at h3⊢;rcases Bc k p with an|rfl|an;.have:=(az k o an hk).1;omega
     .exact hp
     .by_cases ax:k=p+1;.subst ax;exact ai
      .exact only hp k om
    rw[ba]at hs;refine Ti (ops:=ops) (Q:=fY c nt Q) (next:=wpAny P .any ops.toArray (fY c nt Q) fuel (bM.setIfInBounds (p+1) true)) aR bq hs λa' w' L' J' aj=>next a' w' L' J' (.inr ⟨⟨a6,by rw[ad p om];exact hp⟩,?_⟩);have:ft (fE (λi=>(bM.setIfInBounds (p+1) true).getD i false) 0 ops tr e0) dB (.ptr cD.length 0)=ft (fE (λi=>bM.getD i false) 0 ops tr e0) dB (.ptr cD.length 0):=by
     funext s;simp only[ft];split;.rfl
     .rename_i bu;refine rN _ _ s ops tr 0 e0 e0 rfl λk o hk ay=>?_;rw[Ae];refine ad k λe=>?_;subst e;rw[hB]at hk;cases hk;exact bu (alI ay).symm
    grind
   .exact bt (by
     by_cases h:i=p+1;.right;cases hl:bM.getD p false with |true=>rfl|false=>exact absurd ⟨h,hl⟩ ae
     .exact .inl h) hinv hs
  ·by_cases aw:i=p
   .subst aw;rw[hA]at ab;cases ab;refine Ti (ops:=ops) (Q:=fY c nt Q) (next:=wpAny P .any ops.toArray (fY c nt Q) fuel (bM.setIfInBounds i true)) hz bo hs λa' w' L' J' aj=>?_;have hlen:(cD++[Ob.box z2]).length=cD.length+1:=sM;rw[hlen,Bj,List.singleton_append]at aj;have aL:∀k,i+1<k->(bM.setIfInBounds i true).getD k false=false:=λk hk=>by rw[ad k om];exact only aC k hk
    have bC:fS (λk=>(bM.setIfInBounds i true).getD k false) q 0 ops tr cD=cD++[.box z,.box z2]:=GY _ q ops tr 0 (i+1) cD _ _ _ hB ar (by rw[Ae];omega) (by rw[Ae,ad (i+1) om];exact a8) λk' o' aq _ _=>by rw[Ae];exact aL k' aq
    have bw:fE (λk=>(bM.setIfInBounds i true).getD k false) 0 ops tr e0 dA=.ptr cD.length 0:=EX _ dA ops tr 0 i e0 _ _ _ hA aF rfl (by rw[Ae];exact a6) λk' o' aq aP bb=>by
      rw[Ae];by_cases ax:k'=i+1;.subst ax;rw[hB]at aP;cases aP;exact absurd (alI bb).symm bh
      .exact aL k' om
    have bx:fE (λk=>(bM.setIfInBounds i true).getD k false) 0 ops tr e0 dB=.ptr (cD.length+1) 0:=EX _ dB ops tr 0 (i+1) e0 _ _ _ hB ar rfl (by rw[Ae,ad (i+1) om];exact a8) λk' o' aq aP bb=>by rw[Ae];exact aL k' aq
    have bz:∀s,s≠dA->s≠dB->fE (λk=>(bM.setIfInBounds i true).getD k false) 0 ops tr e0 s=fE (λk=>bM.getD k false) 0 ops tr e0 s/\hZ cD.length (fE (λk=>bM.getD k false) 0 ops tr e0 s)=true:=by
     intro s b0 b1;refine⟨rN _ _ s ops tr 0 e0 e0 rfl λk o hk ay=>?_,?_⟩;.rw[Ae];refine ad k λe=>?_;subst e;rw[hA]at hk;cases hk;exact b0 (alI ay).symm
     .have e1:fE (λk=>bM.getD k false) 0 ops tr e0 s=fE (λk=>decide (k<i)&&bM.getD k false) 0 ops tr e0 s:=by
       refine rN _ _ s ops tr 0 e0 e0 rfl λk o hk ay=>?_;rw[Ae];rcases Bc k i with h|rfl|h;.simp[h]
       .rw[ai];simp
       .by_cases ax:k=i+1;.subst ax;rw[hB]at hk;cases hk;exact absurd (alI ay).symm b1
        .rw[only aC k om];simp
      rw[e1];refine Th _ ops tr 0 e0 h0 (λk v s hk hD=>?_) s;rw[Ae]at hD;simp only[Aa,alw]at hD;exact hv k v s hD.1 hk
    have aQ:=xk6 (n0:=c.cD.length) bf bk bj aS;have hr:∀k,k<cD.length->cO (List.range cD.length++[cD.length+1,cD.length]) (cD++[Ob.box z2,Ob.box z]).length k=k:=λk hk=>by rw[jW (by simp;omega),List.getElem_append_left (sU hk)];simp
    obtain⟨J2,bD⟩:=aj.pick (e':=fE (λk=>(bM.setIfInBounds i true).getD k false) 0 ops tr e0) aQ bg λs=>by
     by_cases h1:s=dA;.subst h1;rw[bw];refine .inl ?_;simp only[ft,alB,dL,dQ,du,dv];rw[jW sM,List.getElem_append_right sM];simp
     .by_cases h2:s=dB;.subst h2;rw[bx];refine .inl ?_;simp only[ft,alp h1,alB,dL,dQ,du,dv];rw[jW sM,List.getElem_append_right sM];simp
      .obtain⟨q1,q2⟩:=bz s h1 h2;rw[q1];simp only[ft,alp h1,alp h2];exact .inl (Od hr q2).symm
    grind
   ·have bE:i≠p+1:=λe=>by subst e;rw[a8]at ai;cases ai
    have bc:i<p:=by
     rcases Bc i p with h|h|h;.exact h
     .exact absurd h aw
     .exfalso;have:=ahead (k:=p) om (aT i o om ab).1;rw[aC]at this;cases this
    obtain⟨bF,bG,b2,bH,b3⟩:=az i o bc ab;have sp:∀{i j:Nat}{x y:Oper},i<j->ops[i]?=some x->ops[j]?=some y->vS ops q i j x y=false\/(i∈(gJ ops []).getD j []\/(i=p/\j=p+1)):=λh1 h2 h3=>hd h1 h2 h3;have ah:∀{k:Nat},k≠i->(k∈(gJ ops []).getD i []\/(k=p/\i=p+1))->bM.getD k false=true:=by
     rintro k hk(hb|⟨_,h⟩);.exact ahead hk hb
     .omega
    have be:∀{k:Nat},(i∈(gJ ops []).getD k []\/(i=p/\k=p+1))->bM.getD k false=false:=by
     rintro k(hb|⟨h,_⟩);.exact oc hb
     .omega
    have bd:=xQ3 (e0:=e0) (tr:=tr) (λi j=>i∈(gJ ops []).getD j []\/(i=p/\j=p+1)) sp ab ai ah be;obtain⟨v,I',b4,al⟩:=aJ i o ab;rw[Ae]at al;have b5:fS (λj=>decide (j<i)) q 0 ops tr cD=cD:=CO _ q ops tr 0 cD λk o hk h3=>by
     rw[Ae]at h3⊢;by_cases an:k<p;.have:=(az k o an hk).1;omega
     .simp;omega
    rw[b5]at al;refine Ll (ops:=ops) (Q:=fY c nt Q) (next:=wpAny P .any ops.toArray (fY c nt Q) fuel (bM.setIfInBounds i true)) o hs (al.step (λs aj=>?_) (λh=>om) λ_=>?_) ?_
    .simp only[ft];split;.rename_i h;subst h;exact absurd aj b2
     .exact bd s aj
    .rw[Kp.mF hn]
    .rintro e' s' a' w' L' J' aj ⟨rfl,rfl⟩;rw[alp om]at aj;refine next a' w' L' J' (.inr ⟨⟨by rw[ad (p+1) om];exact a8,by rw[ad p om];exact aC⟩,?_⟩);have b6:=xQ2 (e0:=e0) (λi j=>i∈(gJ ops []).getD j []\/(i=p/\j=p+1)) sp ab b4 aa be;have:gB (ft (fE (λi=>bM.getD i false) 0 ops tr e0) dB (.ptr cD.length 0)) o.dst v=ft (fE (λk=>(bM.setIfInBounds i true).getD k false) 0 ops tr e0) dB (.ptr cD.length 0):=by
      rw[<-b6];funext s;by_cases h2:s=dB;.subst h2;rw[CN _ _ _ _ b3];simp[ft]
      .by_cases h3:o.dst=some s;.rw[CM _ _ _ _ h3];simp only[ft,alp h2];rw[CM _ _ _ _ h3]
       .rw[CN _ _ _ _ h3];simp only[ft,alp h2];rw[CN _ _ _ _ h3]
     grind
theorem Tj(D:Nat->Bool):∀(ad aa:List Oper)(ae ab:List (V×St))(i:Nat)(e:Env),ae.length=ad.length->fE D i (ad++aa) (ae++ab) e=fE D (i+ad.length) aa ab (fE D i ad ae e)
 |[],aa,[],ab,i,e,_=>by rfl|[],_,_::_,_,_,_,h=>by grind|_::_,_,[],_,_,_,h=>by grind|o::os,aa,(v,s)::tr,ab,i,e,h=>by simp only[Bk,fE,Ah];rw[Tj D os aa tr ab (i+1) _ (sU h),show i+1+os.length=i+(os.length+1)by omega]
theorem Tk(D:Nat->Bool)(q:List (Nat×Nat)):∀(ad aa:List Oper)(ae ab:List (V×St))(i:Nat)(I:St),ae.length=ad.length->fS D q i (ad++aa) (ae++ab) I=fS D q (i+ad.length) aa ab (fS D q i ad ae I)
 |[],aa,[],ab,i,e,_=>by rfl|[],_,_::_,_,_,_,h=>by grind|_::_,_,[],_,_,_,h=>by grind|o::os,aa,(v,s)::tr,ab,i,e,h=>by simp only[Bk,fS,Ah];rw[Tk D q os aa tr ab (i+1) _ (sU h),show i+1+os.length=i+(os.length+1)by omega]
theorem Tl{ops:List Oper}{q:List (Nat×Nat)}:∀(aa ab:List Oper)(ae ad:List (V×St))(i:Nat)(e:Env)(I:St),pO P c nt n0 ops q i aa e I ae->pO P c nt n0 ops q (i+aa.length) ab (fE (λ_=>true) i aa ae e) (fS (λ_=>true) q i aa ae I) ad->pO P c nt n0 ops q i (aa++ab) e I (ae++ad)
 |[],ab,[],ad,i,e,I,_,h=>by simpa|[],_,_::_,_,_,_,_,h,_=>h.elim|_::_,_,[],_,_,_,_,h,_=>h.elim|o::os,ab,(v,s)::tr,ad,i,e,I,h1,h2=>by
  refine⟨h1.1,Tl os ab tr ad (i+1) _ _ h1.2 ?_⟩;rw[fE,fS,alq rfl]at h2;have:(if((λ_=>true) i&&decide (3<=yB q i o))=true then s else I)=s:=by
   by_cases h3:3<=yB q i o;.grind
   .rw[alp (by grind)];exact(h1.1.2.1 om).symm
  grind
def two(P:Program)(ops:List Oper)(q:List (Nat×Nat))(p:Nat):Bool:=match ops[p]?,ops[p+1]?with |some ⟨some dA,.alloc t,tA,OS,aA,none⟩,some ⟨some dB,.alloc t',tB,OT,aB,none⟩=>!Nat.beq dA dB&&Nat.beq (yB q p ⟨some dA,.alloc t,tA,OS,aA,none⟩) 3&&Nat.beq (yB q (p+1) ⟨some dB,.alloc t',tB,OT,aB,none⟩) 3&&(match xF P t with|some z=>z.all mV|none=>false)&&(match xF P t' with|some z=>z.all mV|none=>false)&&((List.range ops.length).all λk=>match ops[k]?with |some o=>if k<p then decide (yB q k o<2)&&!(pN ops o).contains dA&&!(pN ops o).contains dB&&(match o.dst with|some d=>!Nat.beq d dA&&!Nat.beq d dB|none=>false)else if p+1<k then((gJ ops []).getD k []).contains p&&((gJ ops []).getD k []).contains (p+1)else true|none=>true)&&((List.range ops.length).all λj=>(List.range j).all λi=>match ops[i]?,ops[j]?with |some x,some y=>(!vS ops q i j x y||((gJ ops []).getD j []).contains i||(Nat.beq i p&&Nat.beq j (p+1)))&&(!Nat.blt j p||(match x.dst,y.dst with|some d,some d'=>!Nat.beq d d'|_,_=>true))|_,_=>true)|_,_=>false
theorem VW.IS{id:Nat}{Q:Exit->Env->St->Prop}(p:Nat)(hm:P.follows .mixedOrders)(hn:n0.n<=I.length)(hc:c.cD.length<=I.length)(aq:c.β0.length=c.cD.length)(h2:two P ops q p)(ar:s8 ops)(au:I.all (bS I.length))(h0:∀s,hZ I.length (e s))(h:ta P c nt n0 ops q 0 (ops.take p) (λe' I'=>(∀s,hZ I.length (e' s)=true)/\ta P c nt n0 ops q p (ops.drop p) (Q .normal) e' I') e I):VW P c nt (.region id ops.toArray true) Q e I:=by
 obtain⟨aa,aj,aP,h⟩:=EZ _ _ _ _ _ h;obtain⟨ab,av,hK⟩:=EZ _ _ _ _ _ h;unfold two at h2;split at h2;case h_2=>cases h2
 rename_i dA t tA aJ aA dB t' tB aK aB hA hB;simp only[Aa,Nat.beq_eq,Du,Am,Cs]at h2;obtain⟨⟨⟨⟨⟨⟨aw,ax⟩,ay⟩,hz⟩,af⟩,hk⟩,hd⟩:=h2;have aQ:p+1<ops.length:=(A3.1 hB).1;have ae:(ops.take p).length=p:=by simp;omega
 obtain⟨ah,aL⟩:=GZ ops q _ _ _ _ _ aj;have ht:=Tl (ops.take p) (ops.drop p) aa ab 0 e I aj (by rw[ae,Ae];exact av);have hE:=Tj (λ_=>true) (ops.take p) (ops.drop p) aa ab 0 e ah;have hS:=Tk (λ_=>true) q (ops.take p) (ops.drop p) aa ab 0 I ah;rw[ae,Ae]at hE hS;rw[B0]at ht hE hS;rw[<-hE,<-hS]at hK;obtain⟨z,az,a6⟩:∃z,xF P t=some z/\z.all mV=true:=by
  split at hz;.exact⟨_,by assumption,hz⟩
  .cases hz
 obtain⟨z2,a7,a8⟩:∃z,xF P t'=some z/\z.all mV=true:=by
  split at af;.exact⟨_,by assumption,af⟩
  .cases af
 have ak:dA≠dB:=λq=>by subst q;simp at aw
 have al:∀(k:Nat) o,k<p->ops[k]?=some o->(yB q k o<2/\dA∉pN ops o/\dB∉pN ops o/\o.dst≠some dA/\o.dst≠some dB)/\∃d,o.dst=some d:=by intro k o ad ho;have:=hk k om;rw[ho]at this;simp only[alq ad,Aa,alw,Du]at this;obtain⟨⟨⟨a1,a2⟩,a3⟩,a4⟩:=this;cases hd:o.dst with|none=>rw[hd]at a4;cases a4|some d=>rw[hd]at a4;simp only[Aa,Du]at a4;refine⟨⟨a1,by simpa using a2,by simpa using a3,λq=>?_,λq=>?_⟩,d,rfl⟩;all_goals simp_all
 refineλa w L J hs=>?_;refine wp_region_any hm ?_;have hg:∀j,(Array.replicate ops.toArray.size false).getD j false=false:=λj=>by simp[Array.getD]
 have e1:fE (λi=>(Array.replicate ops.toArray.size false).getD i false) 0 ops (aa++ab) e=e:=by funext t;exact Lk _ t ops (aa++ab) 0 e λk o _ _=>hg _
 have e2:fS (λi=>(Array.replicate ops.toArray.size false).getD i false) q 0 ops (aa++ab) I=I:=CO _ q ops (aa++ab) 0 I λk o _ _=>hg _;refine wg7 hn hc aq hA hB ak ax ay az a6 a7 a8 (λk o a b=>(al k o a b).1) (λk o aC ho=>?_) (λ{i j x y}aD hx hy=>?_) ar au h0 (λk v s ad hv=>?_) ht hK _ _ a w.drew L J sM sM (λj o _ hj=>by rw[hg]at hj;cases hj) (.inl ⟨λh=>(by rw[hg]at h;cases h),?_⟩);.have:=hk k (A3.1 ho).1;rw[ho]at this;simp only[alp (show¬k<p by omega),alq aC,Aa]at this;exact⟨by simpa using this.1,by simpa using this.2⟩
 .have:=hd j (A3.1 hy).1 i aD;rw[hx,hy]at this;simp only[Aa,Ch,Du,Nat.beq_eq]at this;grind
 .obtain⟨o,ho⟩:∃o,ops[k]?=some o:=⟨ops[k],by simp[A0 (show k<ops.length by omega)]⟩;obtain⟨_,d,an⟩:=al k o ad ho;have aE:aa[k]?=some (v,s):=by rw[Ap (by rw[ah,ae];exact ad)]at hv;exact hv
  have aF:(ops.take p)[k]?=some o:=by rw[List.getElem?_take_of_lt ad];exact ho
  have:=EX (λ_=>true) d (ops.take p) aa 0 k e o v s aF aE an rfl λk' o' aG ai aH=>by
   exfalso;have ao:k'<p:=by rw[<-ae];exact(A3.1 ai).1
   rw[List.getElem?_take_of_lt ao]at ai;have:=hd k' om k aG;rw[ho,ai]at this;simp only[Aa]at this;have:=this.2;rw[an,aH]at this;simp at this;rw[<-Bool.not_eq_true,Nat.blt_eq]at this;omega
  grind
 .rw[e1,e2];obtain⟨aI,hle⟩:=hs.mem.drew;exact⟨aI,hs.size,hs.defs,λt=>(hs.env t).mono hle (Ext.refl _ _)⟩
def jr(n:Nat)(e:Env):Prop:=∀s,hZ n (e s)=true
theorem jr.ft{n:Nat}{d:Tmp}{v:V}(he:jr n e)(hv:hZ n v):jr n (ft e d v):=λs=>by
 simp only[Vx.ft];split;.exact hv
 .exact he s
theorem Hf{id:Nat}{Q:QT}{l1 l2:List Oper}(q:List (Nat×Nat))(n0 p:Nat)(hn:n0<=I.length)(hm:P.follows .mixedOrders)(hc:c.cD.length<=I.length)(aa:c.β0.length=c.cD.length)(h2:(two P ops q p&&s8 ops))(ab:I.all (bS I.length))(h0:jr I.length e)(h1:ops.take p=l1)(h3:ops.drop p=l2)(h:tc P c nt (Kp.pre n0) ops q 0 l1 (λe' I'=>jr I.length e'/\tc P c nt (Kp.pre n0) ops q p l2 (Q .normal) fx fx fx e' I') fx fx fx e I):gV P c nt (.region id ops.toArray true) Q fx fx e I:=by subst h1;subst h3;simp only[Aa]at h2;exact VW.IS (n0:=Kp.pre n0) p hm hn hc aa h2.1 h2.2 ab h0 h
theorem Kp.pS{k:Kp}{id:Nat}(h:k.out id):(id<k.x/\k.ob=none)\/k.n<=id:=by simp_all[Kp.out]
def Tm(n0:Kp):V->Bool |.sl .full _=>true|.sl (.app id) _=>n0.out id|.cS id _ _ _ _=>n0.out id|_=>false
attribute [go_sem] Tm
@[go_sem]theorem yw{K:KT}{d:Option Tmp}{x y:Operand}{t1 t2:TypeId}(h:Tm n0 (zI e x)):ff P c nt n0 3 d (.call ⟨.builtin .append,#[x,y],#[t1,t2]⟩) K fx fx e I=fe P c nt d (.call ⟨.builtin .append,#[x,y],#[t1,t2]⟩) K fx fx e I:=by
 show gx P c nt n0 3 d (.call ⟨.builtin .append,#[x,y],#[t1,t2]⟩) K e I=jX P c nt d (.call ⟨.builtin .append,#[x,y],#[t1,t2]⟩) K e I;have h1:CR (wD P d e I (.call ⟨.builtin .append,#[x,y],#[t1,t2]⟩))=false:=by unfold wD;split;all_goals simp[SX,yo]
 have hA:∀(el:Option (Nat×Nat))(k2:Nat)(y:V),kf n0 3 I (tS el k2 I (zI e x) y):=λel k2 y=>by
  unfold tS;split
  .split;.exact⟨sM,λ_=>.inl ⟨_,rfl⟩⟩
   .rename_i hx;rw[hx]at h;have h:=Kp.pS (k:=n0) h;split<;>first|trivial|exact⟨sM,λ_=>.inr (Kp.jq h)⟩
   .rename_i hx;rw[hx]at h;have h:=Kp.pS (k:=n0) h;(repeat' split)<;>first|trivial|exact⟨sM,λ_=>.inr (Kp.jq h)⟩
   trivial
  trivial
 have hL:∀(el:Option (Nat×Nat))(k2:Nat)(y:V),kf n0 3 I (tT el k2 I (zI e x) y):=λel k2 y=>by
  unfold tT;split;.rename_i hx;rw[hx]at h;have h:=Kp.pS (k:=n0) h;(repeat' split)<;>first|trivial|exact⟨sM,λ_=>.inr (Kp.jq h)⟩
  ·(repeat' split)<;>first|trivial|exact⟨sM,λ_=>.inl ⟨_,rfl⟩⟩
 have h2:kf n0 3 I (wD P d e I (.call ⟨.builtin .append,#[x,y],#[t1,t2]⟩)):=by
  unfold wD;split;.exact hL (eV P t1) (dU P t2) (zI e y)
  .exact hA (eV P t1) (dU P t2) (zI e y)
 grind[gx,jX]
theorem jr.iI {n:Nat}:jr n iI:=λ_=>rfl
end
variable {P:Program}{I:St}
theorem we1(t s:Nat)(rows:List (List V)){c:Ctx}{nt:Nat}{e:Env}{Q:QT}{y:Code}(h0:0<s)(hu:eU s rows)(ht:e t=.sl .full rows)(hy:gV P c nt y Q fx fx (ft e t (.sl (.app I.length) rows)) (I++[.app rows.length s])):gV P c nt y Q fx fx e I:=by
 intro a w L J hs;have hr:=hs.env t;rw[ht]at hr;have hr:cM w L (.sl .full rows) (a.tmps.getD t undef):=hr;obtain⟨ad,hx,ab⟩:∃ad,a.tmps.getD t undef=.slice ad rows.length rows.length/\cM w L (.sl .ro rows) (.slice ad rows.length rows.length):=by generalize a.tmps.getD t undef=x at hr;cases hr with|jI g ad cap hg ha=>have:=hg rfl;subst this;exact⟨ad,rfl,.jI .ro ad 0 om sM⟩|sl g rows s b o cap c ha hs hlen fD dG hg hc hr=>have:=hg rfl;subst this;exact⟨_,rfl,.sl .ro rows s b o _ c sM hs hlen fD dG om hc hr⟩
 have aa:=Ext.push I J hs.mem.len (.app rows.length s) (.slice ad rows.length rows.length);refine hy a w L (J++[.slice ad rows.length rows.length]) ⟨hs.mem.own h0,hs.size,hs.defs,λk=>?_⟩;simp only[ft];split;.rename_i hk;subst hk;rw[hx];exact⟨ab,rows.length,s,sM,om,λ_=>by rw[<-hs.mem.len];simp,hu⟩
 .exact(hs.env k).mono (Le.refl _ _) aa
theorem wr1{c:Ctx}(i j:Nat){o p:Ob}{f:FuncId}{cd args ct:List V}{KV:V->St->Prop}{R:V->St->Prop}(hc:bN P f ct [o,p] R)(hb:xI P f)(ae:i≠j)(ho:I[i]?=some o)(hp:I[j]?=some p)(cZ:bS 0 o)(ad:bS 0 p)(aa:bP (cW (cO [i,j] I.length)) ct (args++cd))(hR:∀r s,R r s->∃o2 p2,s=[o2,p2]/\bS 0 o2=true/\bS 0 p2)(hK:∀r o2 p2,R r [o2,p2]->KV (dL (cO [i,j] I.length) r) ((I.set i o2).set j p2)):jn P c (.fn f cd) args I KV fx:=by
 have ab:∀q:Ob,bS 0 q=true->yC (cO [i,j] I.length) q=q:=λq h=>yV (n:=0) om h;refine VC.of hc hb [i,j] (by grind) rfl (λk l q h1 h2=>?_) aa λr s h _=>?_;.match k with|0=>simp at h1 h2;subst h1;subst h2;rw[ab _ cZ];exact ho|1=>simp at h1 h2;subst h1;subst h2;rw[ab _ ad];exact hp|k+2=>simp at h1
 .obtain⟨o2,p2,rfl,h1,h2⟩:=hR r s h;grind[yY,fW]
theorem OU(pick:alX){n0:Nat}{R:V->St->Prop}{s:St}{v r:V}(aa:pick.Nodup)(hn:∀i,i<n0->pick[i]?=some i)(hlen:s.length=pick.length)(ab:∀(i j:Nat)(o:Ob),pick[i]?=some j->s[i]?=some o->I[j]?=some (yC (cO pick I.length) o))(hr:cW (cO pick I.length) r v)(hR:R r s):cz (some v) n0 R I:=⟨v,rfl,v,I,pick,s,r,.refl _ _,⟨hlen,aa,ab,hn⟩,hr,hR⟩
theorem bN.Ik{f:FuncId}{args:List V}{v:V}{R:V->St->Prop}(h:bN P f args [] R)(hR:∀r s,R r s->∃r' s',pf [r] s [r'] s'/\cW (cO [] s'.length) v r'):Pure P f args v:=by intro w L J aa hm ha;refine(h w L J aa hm ha).mono ?_;rintro e w' ⟨x,r,L',I',J',he,hr,hl,ad,ae⟩;obtain⟨r',s',hf,hv⟩:=hR r I' hr;obtain⟨L2,J2,ab,aj,af,ah⟩:=hf.ok ad (show bP (dP w' L' I' J') [r] [x]from⟨ae,tV⟩);have dD:J.length=([]:St).length:=hm.len;have hp:gT (entry w L [] J).cD.length [] s' []:=⟨rfl,Bo,sM,λi q=>(by trivial)⟩;have ai:=ab.pick hp dD;refine⟨x,v,L2,[],[],he,sM,om,ai,?_⟩;exact BP (hp.jK ab.len) hv ah.1
end Go.Vx
