/-
  A call that is handed the first of the caller's objects, and may make more of them.
  No condition: a library text; nothing of the program is named.
-/
import Derived.Test.YtplackkccmeioaaGreatKBAD
import Derived.Carry
import Derived.ProofKit
import Derived.OpenShut
import Derived.IntWalk
import Derived.Test.YtplackkccmeioaaGreatRows
set_option maxHeartbeats 8000000
namespace Go.Vx
open Go
mutual
inductive lD (P:Program):TypeId->List V->Prop
 |bool {t:TypeId} (b:Bool):P.underlying t=some .bool->lD P t [.bool b]
 |int {t:TypeId} {k:IntKind} {n:Int}:P.underlying t=some (.int k)->(Lit.int k n).wf=true->lD P t [.int k n]
 |str {t:TypeId} {s:ahP}:P.underlying t=some .string->s.length<=maxLen->lD P t [.str s]
 |sl {t e:TypeId} {rows:List (List V)}:P.underlying t=some (.slice e)->rows.length<=maxLen->kz P e rows->lD P t [.sl .ro rows]
 |struct {t:TypeId} {fs:Array Field} {cells:List V}:P.underlying t=some (.struct fs)->jT P (fs.toList.map (·.type)) cells->lD P t cells
inductive kz (P:Program):TypeId->List (List V)->Prop
 |nil {e:TypeId}:kz P e []
 |cons {e:TypeId} {r:List V} {rows:List (List V)}:lD P e r->kz P e rows->kz P e (r::rows)
inductive jT (P:Program):List TypeId->List V->Prop
 |nil:jT P [] []
 |cons {t:TypeId} {ts:List TypeId} {a b:List V}:lD P t a->jT P ts b->jT P (t::ts) (a++b)
end
def y6 (P:Program):Nat->List Field->Nat->Bool
 |o,[],n=>o==n
 |o,f::fs,n=>f.offset==o&&y6 P (o+P.cellsOf f.type) fs n
def CB (P:Program) (T:List TypeId):Bool:=T.all λt=>
 match P.underlying t with
 |some .bool|some (.int _)|some .string=>true
 |some (.slice e)=>T.contains e&&decide (0<P.cellsOf e)
 |some (.struct fs)=>fs.all (λf=>T.contains f.type)&&y6 P 0 fs.toList (P.cellsOf t)
 |_=>false
def ic (w:World):Nat->Nat:=λb=>match w.heap[b]? with|some (.cells c _ _)=>c.size|_=>0
section
variable {H:Type} {enc:TypeId×Value->H} {P:Program} {w:World} {base:Nat} {spare:Nat->Bool} {held:Bool}
theorem Qf {b o:Nat} {x:Value} (h:w.cell? ⟨b,o,none⟩=some x):o<ic w b:=by
 unfold World.cell? at h
 unfold ic
 grind
theorem Qg {T:List TypeId} (hT:CB P T) {t:TypeId} (h:t∈T):(match P.underlying t with
  |some .bool|some (.int _)|some .string=>true
  |some (.slice e)=>T.contains e&&decide (0<P.cellsOf e)
  |some (.struct fs)=>fs.all (λf=>T.contains f.type)&&y6 P 0 fs.toList (P.cellsOf t)
  |_=>false)=true:=by
 grind[CB]
inductive Sm (M:Nat):V->Prop
 |bool (b:Bool):Sm M (.bool b)
 |int (k:IntKind) (n:Int):Sm M (.int k n)
 |str {s:ahP}:s.length<=M->Sm M (.str s)
 |sl {g:Tag} {rows:List (List V)}:rows.length<=M->(∀r∈rows,∀v∈r,Sm M v)->Sm M (.sl g rows)
 |agg {cs:List V}:(∀v∈cs,Sm M v)->Sm M (.agg cs)
structure ou {H:Type} (B:DataW H->Nat) (BA:List (DataW H)->Nat):Prop where
 str: ∀s:ahP,s.length<=B (.lit (.string s))
 sl: ∀es sp,BA es<=B (.slice es sp)
 agg: ∀ps,BA ps<=B (.agg ps)
 mem: ∀d l,d∈l->B d<=BA l
 len: ∀l:List (DataW H),l.length<=BA l
def Ji {H:Type} (d:DataW H) (vs:List V):Prop:= ∀(B:DataW H->Nat) (BA:List (DataW H)->Nat),ou B BA-> ∀M,B d<=M-> ∀v∈vs,Sm M v
theorem LW {T:List TypeId} (hT:CB P T): ∀(fuel:Nat) (t:TypeId) (cs:ahR) (x:DataW H×List MemPlace),t∈T->DataW.trod enc P w base spare held fuel t cs=some x->
  ∃vs,lD P t vs/\bP (cF w (ic w)) vs cs/\Ji x.1 vs
 |0,t,cs,x,_,h=>by simp[DataW.trod]at h
 |fuel+1,t,cs,x,ht,h=>by
  have hk:=Qg hT ht
  split at hk
  .rename_i hu
   obtain⟨b,rfl,_⟩:=DataW.trod_bool hu h
   exact⟨[.bool b],.bool b hu,⟨.bool b,tV⟩,λ_ _ _ _ _ v hv=>by simp at hv;subst hv;exact .bool b⟩
  .rename_i k hu
   obtain⟨n,rfl,_,hw⟩:=DataW.trod_int hu h
   exact⟨[.int k n],.int hu hw,⟨.int k n,tV⟩,λ_ _ _ _ _ v hv=>by simp at hv;subst hv;exact .int k n⟩
  .rename_i hu
   obtain⟨s,rfl,rfl,hs⟩:=DataW.trod_string hu h
   have hr:cF w (ic w) (.str s.data.toList) (.string ⟨s.data.toList.toArray⟩):= .str _
   exact⟨[.str s.data.toList],.str hu (sU hs),⟨hr,tV⟩,λB BA hB M hM v hv=>by simp at hv;subst hv;exact .str (by have:=hB.str s.data.toList;simp only at hM;simp at this hM⊢;omega)⟩
  .rename_i e hu
   simp only[Ab,ahl,ahz]at hk
   obtain⟨he,ae⟩:=hk
   rcases DataW.trod_slice hu h with ⟨rfl,_⟩|⟨a,len,cap,elems,rest,n,a6,rfl,af,hb,hl,hm,hlen,a7,_,_⟩
   .exact⟨[.sl .ro []],.sl hu (A4 _) .nil,⟨.jb _ _ _ (λq=>by cases q) (λ_=>sm),tV⟩,λ_ _ _ _ _ v hv=>by simp at hv;subst hv;exact .sl (A4 _) sm⟩
   .obtain rfl:fuel=n:=om
    have each: ∀i,i<len-> ∃(vs:List V) (aa:ahR),lD P e vs/\bP (cF w (ic w)) vs aa/\aa.length=P.cellsOf e/\(∀j,j<P.cellsOf e->w.cell? ((a.add (i*P.cellsOf e)).add j)=aa[j]?)/\ ∃d∈elems.map (·.1),Ji d vs:=by
     intro i hi
     have h1:=a7 i hi
     rw[A0 om]at h1
     cases hc:w.cells? base (a.add (i*P.cellsOf e)) (P.cellsOf e)with
     |none=>rw[hc]at h1;cases h1
     |some aa=>
      rw[hc]at h1
      obtain⟨_,ah,ab⟩:=World.cells?_some hc
      obtain⟨vs,hs,hr,ak⟩:=LW hT fuel e aa _ he h1
      grind
    rcases Nat.eq_zero_or_pos len with rfl|a8
    .exact⟨[.sl .ro []],.sl hu (A4 _) .nil,⟨.jb _ _ _ (λq=>by cases q) (λ_=>sm),tV⟩,λ_ _ _ _ _ v hv=>by simp at hv;subst hv;exact .sl (A4 _) sm⟩
    .obtain⟨b,o,spot⟩:=a
     have ai:spot=none:=by
      obtain⟨vs,aa,_,_,ah,ab,_⟩:=each 0 a8
      have h0:=ab 0 ae
      rw[A0 om]at h0
      simp only[Cx,Addr.add,aho]at h0
      cases spot with
      |none=>rfl
      |some _=>
       grind[World.cell?]
     subst ai
     have aH: ∀i j,((⟨b,o,none⟩:Addr).add (i*P.cellsOf e)).add j=⟨b,o+i*P.cellsOf e+j,none⟩:=by
      intro i j;rw[wC,wC]
     have key: ∀m,m<=len-> ∃rows:List (List V),rows.length=m/\kz P e rows/\(∀r∈rows,r.length=P.cellsOf e)/\(∀r∈rows,∃d∈elems.map (·.1),Ji d r)/\
       ∀i j (hi:i<rows.length) (hj:j<rows[i].length),∃x,w.cell? ⟨b,o+(len - m+i)*P.cellsOf e+j,none⟩=some x/\cF w (ic w) (rows[i][j]) x:=by
      intro m
      induction m with
      |zero=>exact λ_=>⟨[],rfl,.nil,λ_ q=>by simp at q,λ_ q=>by simp at q,λi j hi=>by simp at hi⟩
      |succ m ih=>
       intro hm
       obtain⟨rows,h1,h2,h3,aj,h4⟩:=ih om
       obtain⟨vs,aa,hs,hr,ah,ab,ak⟩:=each (len - (m+1)) om
       refine⟨vs::rows,by simp[h1],.cons hs h2,λr ad=> ?_,λr ad=> ?_,λi j hi hj=> ?_⟩
       .rcases Af.1 ad with rfl|ad
        .rw[hr.length,ah]
        grind
       .rcases Af.1 ad with rfl|ad
        .exact ak
        .exact aj r ad
       .cases i with
        |zero=>
         simp only[List.getElem_cons_zero]at hj⊢
         obtain⟨x,hx,al⟩:=hr.get j _ (A0 hj)
         grind
        |succ i=>
         simp only[List.getElem_cons_succ]at hj⊢
         obtain⟨x,hx,al⟩:=h4 i j (sU hi) hj
         refine⟨x, ?_,al⟩
         grind
     obtain⟨rows,h1,h2,h3,aj,h4⟩:=key len (A7 _)
     have an:len - len=0:=om
     rw[an]at h4
     simp only[Ad]at h4
     subst h1
     refine⟨[.sl .ro rows],.sl hu om h2,⟨?_,tV⟩,λB BA hB M hM v hv=>by
      simp at hv;subst hv
      rw[af]at hM
      have q1:=hB.sl (elems.map (·.1)) (rest.map (·.1))
      have q2:=hB.len (elems.map (·.1))
      rw[Ag]at q2
      simp only at hM
      refine .sl om λr hr v hv=> ?_
      obtain⟨d,hd,aA⟩:=aj r hr
      have q3:=hB.mem _ _ hd
      exact aA B BA hB M om v hv⟩
     let c:Nat->Nat->Value:=λi j=>(w.cell? ⟨b,o+i*P.cellsOf e+j,none⟩).getD undef
     refine .sl .ro rows (P.cellsOf e) b o cap c (λ_=>sm) ae h3 ?_ hl (λq=>by cases q) (λi j hi hj=> ?_) (λi j hi hj=> ?_)
     .obtain⟨x,hx,_⟩:=h4 (rows.length - 1) (P.cellsOf e - 1) om (by rw[h3 _ (A8 _)];omega)
      have aI:=Qf hx
      have h5:(rows.length - 1)*P.cellsOf e+P.cellsOf e=rows.length*P.cellsOf e:=by
       rw[<-Nat.succ_mul];congr 1;omega
      omega
     all_goals grind
  .rename_i fs hu
   simp only[Ab,Ci,ahz]at hk
   obtain⟨ao,aq⟩:=hk
   obtain⟨xs,n,a6,af,hlen,aB,ar⟩:=DataW.trod_struct hu h
   obtain rfl:fuel=n:=om
   have key: ∀(l:List Field) (pre:List Field) (off:Nat),fs.toList=pre++l->y6 P off l (P.cellsOf t)=true->off<=cs.length->
     ∃vs,jT P (l.map (·.type)) vs/\bP (cF w (ic w)) vs (cs.drop off)/\Ji (.agg (xs.map (·.1))) vs:=by
    intro l
    induction l with
    |nil=>
     intro pre off _ hr _
     unfold y6 at hr
     have:off=P.cellsOf t:=sU hr
     refine⟨[],.nil, ?_,λ_ _ _ _ _ v hv=>by simp at hv⟩
     rw[A9 om]
     trivial
    |cons f l ih=>
     intro pre off au hr hle
     unfold y6 at hr
     simp only[Ab,ahm]at hr
     obtain⟨av,hr⟩:=hr
     have hf:fs[pre.length]? =some f:=by
      have:fs.toList[pre.length]? =some f:=by rw[au];simp
      simpa using this
     have hx:=ar pre.length f hf
     have aw:pre.length<xs.length:=by
      rw[aB];exact(Bo.1 hf).1
     rw[A0 aw,av]at hx
     obtain⟨aC,ax,ay,az⟩:=LW hT fuel f.type _ _ (ao f (Array.mem_of_getElem? hf)) hx
     have a1:off+P.cellsOf f.type<=cs.length:=by
      rw[hlen]
      clear ih hx ar ax ay az
      revert hr
      generalize off+P.cellsOf f.type=o2
      intro hr
      have: ∀(l:List Field) (o:Nat),y6 P o l (P.cellsOf t)=true->o<=P.cellsOf t:=by
       intro l
       induction l<;>grind[y6]
      grind
     obtain⟨aD,aE,aF,aG⟩:=ih (pre++ [f]) (off+P.cellsOf f.type) (by rw[au];simp) hr a1
     refine⟨aC++aD,.cons ax aE, ?_,λB BA hB M hM v hv=>by
      rcases Al.1 hv with hv|hv
      .have q1:=hB.agg (xs.map (·.1))
       have q2:=hB.mem (xs[pre.length]'aw).1 (xs.map (·.1)) (Ac.2 ⟨_,A8 _,rfl⟩)
       exact az B BA hB M om v hv
      .exact aG B BA hB M hM v hv⟩
     have e:cs.drop off=(cs.drop off).take (P.cellsOf f.type)++cs.drop (off+P.cellsOf f.type):=by
      rw[<-ahH];exact(B6 _ _).symm
     rw[e]
     exact ay.append aF
   obtain⟨vs,h1,h2,h3⟩:=key fs.toList [] 0 rfl aq (A4 _)
   exact⟨vs,.struct hu h1,by simpa using h2,by rw[af];exact h3⟩
  grind
def ug (P:Program) (t:TypeId) (vs:List V):V:=match P.underlying t with|some (.struct _)=> .agg vs|_=>vs.headD .u
inductive jU (P:Program):List TypeId->List V->Prop
 |nil:jU P [] []
 |cons {t:TypeId} {ts:List TypeId} {vs:List V} {xs:List V}:lD P t vs->jU P ts xs->jU P (t::ts) (ug P t vs::xs)
theorem Yi {W:World} {r:Reach} {b:Nat} {t:TypeId} {v:Value} {T:List TypeId} (hT:CB P T) (ht:t∈T) (h:Value.okWide P W r b t v):(∃fs cs,P.underlying t=some (.struct fs)/\v= .agg cs)\/((∀fs,P.underlying t≠some (.struct fs))/\v.oneCell'=true):=by
 have hk:=Qg hT ht
 split at hk
 .rename_i hu
  refine .inr ⟨(by grind), ?_⟩
  cases v<;>simp[Value.okWide,hu,Cell.okWide,Cell.ok]at h<;>rfl
 .rename_i k hu
  refine .inr ⟨(by grind), ?_⟩
  cases v<;>simp[Value.okWide,hu,Cell.okWide,Cell.ok]at h<;>rfl
 .rename_i hu
  refine .inr ⟨(by grind), ?_⟩
  cases v<;>simp[Value.okWide,hu,Cell.okWide,Cell.ok]at h<;>rfl
 .rename_i e hu
  refine .inr ⟨(by grind), ?_⟩
  cases v<;>simp[Value.okWide,hu,Cell.okWide,Cell.ok]at h<;>rfl
 .rename_i fs hu
  refine .inl ⟨fs, ?_⟩
  simp only[Value.okWide,hu]at h
  grind
 grind
theorem Qh {T:List TypeId} (hT:CB P T): ∀(ts:List TypeId) (aa:ahR) (ds:List (DataW H)) (ps:List MemPlace),(∀t∈ts,t∈T)->(∀(j:Nat) t v,ts[j]? =some t->aa[j]? =some v->Value.okWide P w .any base t v)->
  DataW.TrodAll enc P w 0 spare held ts aa ds ps-> ∃xs,jU P ts xs/\bP (dt w (ic w) [] []) xs aa/\ ∀(B:DataW H->Nat) (BA:List (DataW H)->Nat),ou B BA-> ∀M,(∀d∈ds,B d<=M)-> ∀v∈xs,Sm M v
 | [],[],_,_,_,_,_=>⟨[],.nil,tV,sm⟩
 |t::ts,v::aa,ds,ps,hm,cN,h=>by
  obtain⟨v',gT,d,ae,p,q,hv,rfl,rfl,h1,h2⟩:=ChangeShapes.trodAll_cons h
  cases hv
  obtain⟨xs,af,ah,aj⟩:=Qh hT ts aa ae q (by grind) (λj t' v' h1 h2=>cN (j+1) t' v' (by grind) (by grind)) h2
  obtain⟨fuel,hf⟩:=h1
  obtain⟨vs,hs,hr,ai⟩:=LW hT fuel t _ _ (by grind) hf
  suffices sC:dt w (ic w) [] [] (ug P t vs) v/\ ∀M,(∀v∈vs,Sm M v)->Sm M (ug P t vs) from
   ⟨ug P t vs::xs,.cons hs af,⟨sC.1,ah⟩,λB BA hB M hM v' ab=>by
    rcases Af.1 ab with rfl|ab
    .exact sC.2 M λv hv=>ai B BA hB M (by grind) v hv
    grind⟩
  rcases Yi hT (by grind) (cN 0 t v rfl rfl)with ⟨fs,cs,hu,rfl⟩|⟨ak,ad⟩
  .unfold ug
   rw[hu]
   exact⟨⟨cs.toList,sm,hr.imp (by grind[cW.dm])⟩,λM hM=> .agg hM⟩
  .rw[F3 ad]at hr
   have:ug P t vs=vs.headD .u:=by
    unfold ug
    simp
   rw[this]
   cases vs with
   |nil=>trivial
   |cons x vs=>exact⟨dt.dH (cW.dm hr.1),(by grind)⟩
 | [],_::_,_,_,_,_,h=>by trivial
 |_::_,[],ds,_,_,_,h=>by trivial
theorem LX {w':World} {LY:Nat->Bool} (hl:laidOutB P): ∀(ts:List TypeId) (aa:ahR) (ds:List (DataW H)) (ps:List MemPlace),(∀t∈ts,P.readableRec t=true/\t<P.types.size)->
  DataW.TrodAll enc P w 0 (λ_=>true) true ts aa ds ps->(∀x∈ps,w.sameAt w' x)->(∀x∈ps,LY x.block=true)->DataW.TrodAll enc P w' 0 LY true ts aa ds ps
 | [],_,_,_,_,h,_,_=>by
  obtain⟨rfl,rfl,rfl⟩:=ChangeShapes.trodAll_nil h
  rfl
 |t::ts,aa,ds,ps,hr,h,hs,hp=>by
  obtain⟨v,gT,d,ab,p,q,rfl,rfl,rfl,h1,h2⟩:=ChangeShapes.trodAll_cons h
  exact⟨p,q,(by grind[WideElems.Trod_stays]),
   (by simp_all[LX]),rfl⟩
theorem Yj (w:World) (ht:gX w (ic w)):Mem (entry w (ic w) [] []) w (ic w) [] []:=
 ⟨rfl,sm,sm,sm,λb hb hx=>(by trivial),Le.refl _ _,A7 _,rfl,rfl,rfl,A7 _,
  (by grind[ic]),Ext.refl _ _,ht⟩
theorem Yk {f:FuncId} {fn:Func} {s:ChangeSpec} {apart fresh handsOn again:Bool} (T ts:List TypeId) (tb:TypeId) (av:fn.params=ts.toArray) (ah:fn.resultTypes= #[tb]) (hb:P.underlying tb=some .bool) (hT:CB P T) (aw:ts.all (T.contains ·))
  (ax:ts.all (λt=>P.readableRec t&&decide (t<P.types.size))) (hl:laidOutB P) (aa:s.vars= [])
  (ay: ∀(H:Type) (ds:List (DataW H)),ds.length=ts.length->s.fn H ds={results:= [.lit (.bool true)],args:=ds})
  (an:List V->Prop) (hw: ∀xs,jU P ts xs->an xs->bN P f xs [] λr _=>r= .bool true) (H:Type) (enc:TypeId×Value->H) (W:World) (base:Nat) (args:ahT) (ds gs:List (DataW H)) (before:List MemPlace)
  (a1: ∀(j:Nat) t v,fn.params[j]? =some t->args[j]? =some v->Value.okWide P W .any base t v)
  (hW:DataW.Whole enc P fn.params.toList s.vars apart W args.toList ds gs before) (ai:gX W (ic W))
  (fq: ∀xs,(∀(B:DataW H->Nat) (BA:List (DataW H)->Nat),ou B BA-> ∀M,(∀d∈ds++gs,B d<=M)-> ∀v∈xs,Sm M v)->an xs):
  Calls P f args W λe W'=> ∃v,e= .returned v/\s.post enc P fn apart fresh handsOn again W args v W':=by
 have aj:=hW
 obtain⟨p,q,hA,hV,rfl,ao,aq⟩:=hW
 rw[aa]at hV
 obtain⟨rfl,rfl⟩:=ChangeShapes.trodVars_none hV
 have ak:fn.params.toList=ts:=by rw[av]
 rw[ak]at hA
 rw[Am]at aw ax
 obtain⟨xs,hx,hr,a6⟩:=Qh (base:=base) hT ts args.toList ds p (by grind) (by grind) hA
 have hlen:ds.length=ts.length:=by
  have: ∀(ts:List TypeId) (ad:ahR) (ds:List (DataW H)) (p:List MemPlace),DataW.TrodAll enc P W 0 (λ_=>true) true ts ad ds p->ds.length=ts.length:=by
   intro ts
   induction ts with
   |nil=>intro ad ds p h;obtain⟨_,rfl,_⟩:=ChangeShapes.trodAll_nil h;rfl
   |cons t ts ih=>intro ad ds p h;obtain⟨_,_,_,a7,_,_,_,rfl,_,_,h2⟩:=ChangeShapes.trodAll_cons h;grind
  grind
 have ae:=hw xs hx (by grind) W (ic W) [] args.toList (Yj W ai) hr
 have ar:args.toList.toArray=args:=sm
 rw[ar]at ae
 refine ae.mono ?_
 rintro e W' ⟨v,r,L',I',J',rfl,rfl,_,hm,au⟩
 have az:v= .bool true:=pd au
 subst az
 have ab:RowKit.Below W.heap.size W W':=⟨hm.os,hm.tape,hm.output,hm.size,λk hk=>(hm.same k hk (by simp[entry,tX])).1⟩
 have af:=aj.lt
 simp only[Ax]at af aj ao aq
 have al:s.fn H ds={results:= [.lit (.bool true)],args:=ds}:=(by grind)
 refine⟨_,rfl,ds,[],p,[],p,[],aj, ?_, ?_, ?_, ?_,λ_=>⟨?_, ?_⟩⟩
 .rw[Ax,al,ah]
  exact ChangeShapes.trodAll_mk1 (RowKit.shut_bool hb _)
 .rw[Ax,al,ak]
  exact LX hl ts _ _ _ (by grind) hA (λx hx=>ab.same (af x hx)) (by grind)
 .rw[Ax,al,aa]
  rfl
 .exact ab.frame _
 .exact RowKit.ok_one ah rfl (RowKit.okWide_bool_mk hb _)
 .rw[ak,ah]
  refine⟨[.lit (.bool true)]++ds,[],p,⟨[]++p,[],ChangeShapes.trodAll_append (LX (LY:=λ_=>true) hl ts _ _ _ (by grind) hA (λx hx=>ab.same (af x hx)) sm) ?_,by rw[aa];rfl,sm, ?_,aq⟩,(by grind)⟩
  .exact ChangeShapes.trodAll_mk1 (RowKit.shut_bool hb _)
  .intro b off hp
   rw[ab.frozen (p:=⟨b,off,none⟩) (af _ hp)]
   exact ao b off hp
theorem Yl {f:FuncId} {fn:Func} {s:ChangeSpec} {apart fresh handsOn again:Bool} (T ts:List TypeId) (tb:TypeId) (af:fn.params=ts.toArray) (ah:fn.resultTypes= #[tb]) (hb:P.underlying tb=some .bool) (hT:CB P T) (ai:ts.all (T.contains ·))
  (aj:ts.all (λt=>P.readableRec t&&decide (t<P.types.size))) (hl:laidOutB P) (aa:s.vars= [])
  (ab: ∀(H:Type) (ds:List (DataW H)),ds.length=ts.length->s.fn H ds={results:= [.lit (.bool true)],args:=ds})
  (hw: ∀xs,jU P ts xs->bN P f xs [] λr _=>r= .bool true) (H:Type) (enc:TypeId×Value->H) (W:World) (base:Nat) (args:ahT) (ds gs:List (DataW H)) (before:List MemPlace)
  (ae: ∀(j:Nat) t v,fn.params[j]? =some t->args[j]? =some v->Value.okWide P W .any base t v)
  (hW:DataW.Whole enc P fn.params.toList s.vars apart W args.toList ds gs before) (ad:gX W (ic W)):
  Calls P f args W λe W'=> ∃v,e= .returned v/\s.post enc P fn apart fresh handsOn again W args v W':=
 Yk T ts tb af ah hb hT ai aj hl aa ab (λ_=>True) (by grind) H enc W base args ds gs before ae hW ad sm
variable {t:TypeId} {vs:List V}
theorem jU.cons_inv {ts:List TypeId} {xs:List V} (h:jU P (t::ts) xs): ∃vs aa,xs=ug P t vs::aa/\lD P t vs/\jU P ts aa:=by
 cases h<;>grind
theorem jU.lS {xs:List V} (h:jU P [] xs):xs= []:=by cases h;rfl
theorem lD.iw {k:IntKind} (hu:P.underlying t=some (.int k)) (h:lD P t vs): ∃n,vs= [.int k n]/\(Lit.int k n).wf=true:=by
 cases h<;>grind
theorem lD.sD {e:TypeId} (hu:P.underlying t=some (.slice e)) (h:lD P t vs): ∃rows,vs= [.sl .ro rows]/\rows.length<=maxLen/\kz P e rows:=by
 cases h<;>grind
theorem lD.ov {fs:Array Field} (hu:P.underlying t=some (.struct fs)) (h:lD P t vs):jT P (fs.toList.map (·.type)) vs:=by
 cases h<;>grind
theorem jT.cons_inv {ts:List TypeId} (h:jT P (t::ts) vs): ∃a b,vs=a++b/\lD P t a/\jT P ts b:=by
 cases h<;>grind
theorem jT.lS (h:jT P [] vs):vs= []:=by cases h;rfl
theorem kz.lT {U:Type} {f:U->List V} {ok:U->Prop} (h: ∀r,lD P t r-> ∃x,r=f x/\ok x): ∀{rows:List (List V)},kz P t rows-> ∃xs:List U,rows=xs.map f/\ ∀x∈xs,ok x
 | [],_=>sm
 |r::rows,hr=>by
  cases hr with
  |cons h1 h2=>
   obtain⟨x,rfl,hx⟩:=h r h1
   obtain⟨xs,rfl,aa⟩:=kz.lT h h2
   exact⟨x::xs,rfl,(by grind)⟩
theorem LZ {v:V} (h:(match P.underlying t with|some (.struct _)=>false|_=>true)):ug P t [v]=v:=by
 unfold ug
 grind
theorem E9 {n:Int} (h:(Lit.int .i64 n).wf): -9223372036854775808<=n/\n<=9223372036854775807:=by
 grind[Lit.wf,IntKind.min,IntKind.max,IntKind.signed,IntKind.bits]
end
variable {ρ:Nat->Nat}{I:St}{f:FuncId}{P:Program}{c:Ctx}{bY:List V}{cc:List V}{KV:V->St->Prop}
theorem Ym {j:Nat} (h:j<=9223372036854775807):IntKind.i64.wrap (j:Int)=j:=(by grind[IntWalk.i64_in])
theorem bX {n:Int} (h: -9223372036854775808<=n) (h2:n<=9223372036854775807):IntKind.i64.wrap n=n:=(by grind[IntWalk.i64_in])
theorem dL {n:Int} (h:0<=n) (h2:n<=18446744073709551615):IntKind.u64.wrap n=n:=by
 grind[IntKind.wrap,IntKind.bits,IntKind.signed]
@[go_sem] theorem Jj (n:Nat) (h:n<=9223372036854775807):IntKind.i64.wrap (no_index (OfNat.ofNat n))=OfNat.ofNat n:=by
 rw[show(OfNat.ofNat n:Int)=((n:Nat):Int) from rfl]
 grind[Ym]
@[go_sem] theorem GG:IntKind.i64.wrap 0=0:=by rfl
@[go_sem] theorem GH:IntKind.i64.wrap 1=1:=by rfl
@[go_sem] theorem Fa {k k':IntKind} {x y:Int} {ek:Nat} {es:Option (List Pk)} (h:k≠k'):mz .shl ek es (.int k x) (.int k' y)= .ec (0<=y) (.int k (k.wrap (x*2^(min y.toNat k.bits)))):=by grind[mz]
theorem zQ {i n:Nat} (h:i<n) (hn:n<=9223372036854775807):IntKind.i64.wrap ((i:Int)+1)=((i+1:Nat):Int):=by
 rw[IntWalk.i64_in _ om];rfl
theorem lU {U:Type} {f:U->List V} {s:Nat} {l:List U} (h: ∀x,(f x).length=s):eI s (l.map f):=λr hr=>by
 grind
theorem zY {s:Nat} {r:List V} (h:r.length=s):eI s [r]:=λx hx=>by grind
theorem yX (k:Nat) {n0:Nat} {R:V->St->Prop} {s:St} {v r:V} (hs:I.take k=s) (hl:s.length=k) (cN:s.all (bT k)) (hn:n0<=k) (hr:cP (cH (List.range k) I.length) r v) (hR:R r s):cw (some v) n0 R I:=by
 grind[ud]
def dp (n:Int):Prop:= -9223372036854775808<=n/\n<=9223372036854775807
instance (n:Int):Decidable (dp n):=inferInstanceAs (Decidable (_/\_))
@[go_sem] def yN (n:Int):List V:= [.int .i64 n]
theorem yZ {gT vs:List V} (h:bP (mP ρ) gT vs):cP ρ (.cy gT) (.cy vs):= .inr (by grind)
theorem vF {g:Tag} {rows:List (List V)}:mP ρ (.sl .ro rows) (.sl g rows):= .inr sm
theorem xZ {v:V} (h:vy v):mP ρ v v:= .inl (LK h).symm
theorem zW {g:Tag} {rows:List (List V)}:oh ρ (.sl .ro rows) (.sl g rows):= .inr sm
theorem zF {v:V} (h:oo v):oh ρ v v:= .inl (BR h).symm
theorem wL {aa cs:List V} (h:bP (oh ρ) aa cs):cP ρ (.agg aa) (.agg cs):= .inr (by grind)
theorem wT {aa cs:List V} (h:bP (oh ρ) aa cs):mP ρ (.agg aa) (.agg cs):= .inr (by grind)
theorem Yn {args:List V} {R:V->Prop} (hc:bN P f cc [] λr s=>R r/\s= []) (hb:xF P f) (aa:bP (cP (cH [] I.length)) cc (args++bY))
  (hn: ∀r,R r->gA r) (hk: ∀r,R r->KV r I):iZ P c (.fn f bY) args I KV fx:=by
 refine VC.of hc hb [] C1 rfl sm aa ?_
 rintro r I' ⟨hR,rfl⟩ _
 grind[yk,xB,fO]
theorem Qi {k:Nat} {s:St} (hk:k<=I.length) (hs:s.length=k) (cN:s.all (bT k)):xB (List.range k) I s=s++I.drop k:=by
 have e1:(s.take (List.range k).length).map (yE (cH (List.range k) I.length))=s:=by
  grind[wE,yW,pS]
 have e2:(s.drop (List.range k).length).map (yE (cH (List.range k) I.length))= []:=by
  grind
 unfold xB
 rw[e1,e2,Ax]
 apply Bg
 intro i
 by_cases hi:i<k
 .rw[Ix (List.range k) I s i i Bc (by grind) (by grind) (by grind),Au om]
 simp_all[rZ,Ar]
theorem uh (k:Nat) {args:List V} {fb:St} {R:V->St->Prop} (hc:bN P f cc fb R) (hb:xF P f) (hk:I.take k=fb) (hl:fb.length=k) (cN:fb.all (bT k))
  (aa:bP (cP (cH (List.range k) I.length)) cc (args++bY)) (hR: ∀r s,R r s->s.length=k/\s.all (bT k)=true/\iL k r) (hK: ∀r s,R r s->KV r (s++I.drop k)):iZ P c (.fn f bY) args I KV fx:=by
 have ab:k<=I.length:=by grind
 refine VC.of hc hb (List.range k) Bc (by grind) (λi j o h1 h2=> ?_) aa λr s h _=> ?_
 .obtain⟨h3,h4⟩:=A3.1 h1
  simp at h3 h4
  subst h4
  have ho:bT k o:=by
   grind
  rw[yW (n:=k) (by grind[pS]) ho]
  grind
 grind[LL,pS,Qi]
theorem lV (i:Nat) {o:Ob} {args:List V} {R:V->St->Prop} (hc:bN P f cc [o] R) (hb:xF P f) (ho:I[i]? =some o) (cN:bT 0 o)
  (aa:bP (cP (cH [i] I.length)) cc (args++bY)) (hR: ∀r s,R r s-> ∃o2,s= [o2]/\bT 0 o2) (hK: ∀r o2,R r [o2]->KV (dF (cH [i] I.length) r) (I.set i o2)):iZ P c (.fn f bY) args I KV fx:=by
 refine X4 hc hb ho cN aa λr s h _=> ?_
 obtain⟨o2,rfl,h2⟩:=hR r s h
 have e:xB [i] I [o2]=I.set i o2:=by
  simp only[xB,Br,Cr,ahJ,Dr,Bj,Ai,Bh,fO,Ax]
  rw[yW (n:=0) om h2]
 grind
theorem Yo {i N:Nat}:cH [i] N 0=i:=rfl
attribute [go_sem] dF dK de di Yo
section
variable {ρ:Nat->Nat} (iM: ∀i,ρ i=i)
include iM
theorem Yp (v:V):di ρ v=v:=by
 cases v with
 |sl g rows=>cases g<;>simp[di,iM]
 |_=>simp[di,iM]
theorem Qj (v:V):de ρ v=v:=by
 have h:di ρ=λv=>v:=funext (by grind[Yp])
 cases v<;>grind[de,E0]
theorem Qk (v:V):dK ρ v=v:=by
 have h:de ρ=λv=>v:=funext (by grind[Qj])
 cases v<;>grind[dK,E0]
theorem y7 (v:V):dF ρ v=v:=by
 have h:dK ρ=λv=>v:=funext (by grind[Qk])
 cases v<;>grind[dF,E0]
theorem y8 (o:Ob):yE ρ o=o:=by
 have h:de ρ=λv=>v:=funext (by grind[Qj])
 cases o with
 |box cells=>grind[yE,E0]
 |cj rows s=>simp_all[yE]
 |mp dJ fW cS=>
  have h:dK ρ=λv=>v:=funext (by grind[Qk])
  grind[yE,E0]
 |it m since seen last=>cases m<;>simp[yE,iM]
 |_=>rfl
end
variable {I:St}{P:Program}{c:Ctx}{nt:Nat}{Q:QT}{e:Env}{y:Code}
theorem Jk {f:FuncId} {bY args cc:List V} {KV:V->St->Prop} {R:V->St->Prop} (hc:bN P f cc [] R) (hb:xF P f)
  (aa:bP (cP (cH [] 0)) cc (args++bY)) (hK: ∀r s,R r s->KV r s):iZ P c (.fn f bY) args [] KV fx:=by
 have hid: ∀i,cH [] 0 i=i:=(by grind[cH])
 refine VC.of hc hb [] C1 rfl sm aa λr s h _=> ?_
 have e:xB [] [] s=s:=by
  have h2:yE (cH [] 0)=λo=>o:=funext (by grind[y8])
  simp_all[xB,fO]
 show KV (dF (cH [] 0) r) (xB [] [] s)
 grind[y7]
theorem mV {id:Nat} {ops:List Oper} (q:List (Nat×Nat)) (n0:Nat) (hn:n0<=I.length) (hm:P.follows .mixedOrders) (hd:(uf ops q&&rb ops)) (h:ri P c nt (Kp.pre n0) ops q 0 ops (Q .normal) fx fx fx e I):gx P c nt (.region id ops.toArray true) Q fx fx e I:=by
 simp only[Ab]at hd
 obtain⟨tr,ht,hK⟩:=BV ops 0 (Q .normal) e I h
 exact VW.draw (n0:=Kp.pre n0) hm hn hd.1 hd.2 ht hK
theorem wH {id:Nat} {ops:List Oper} (q:List (Nat×Nat)) (x n0:Nat) (hn:n0<=I.length) (hm:P.follows .mixedOrders) (hd:(uf ops q&&rb ops)) (h:ri P c nt (Kp.mk x n0 [] none) ops q 0 ops (Q .normal) fx fx fx e I):gx P c nt (.region id ops.toArray true) Q fx fx e I:=by
 simp only[Ab]at hd
 obtain⟨tr,ht,hK⟩:=BV ops 0 (Q .normal) e I h
 exact VW.draw (n0:=Kp.mk x n0 [] none) hm hn hd.1 hd.2 ht hK
theorem lE (t s:Nat) (h0:0<s) (ht:e t= .sl .full []) (hy:gx P c nt y Q fx fx (fm e t (.sl (.app I.length) [])) (I++ [.app 0 s])):gx P c nt y Q fx fx e I:=by
 intro a w L J hs
 have hr:=hs.env t
 rw[ht]at hr
 obtain⟨ad,hx⟩: ∃ad,a.tmps.getD t undef= .slice ad 0 0:=by
  have hr:cF w L (.sl .full []) (a.tmps.getD t undef):=hr
  generalize a.tmps.getD t undef=x at hr
  cases hr<;>simp_all
 have aa:=Ext.push I J hs.mem.len (.app 0 s) (.slice ad 0 0)
 refine hy a w L (J++ [.slice ad 0 0]) ⟨hs.mem.own h0,hs.size,hs.defs,λk=> ?_⟩
 simp only[fm]
 split
 .rename_i hk
  subst hk
  rw[hx]
  exact⟨.jb .ro ad 0 om sm,0,s,sm,sm,λ_=>by rw[<-hs.mem.len];simp,sm⟩
 .exact(hs.env k).mono (Le.refl _ _) aa
theorem CC (id off s:Nat) (cells:List V) (h0:0<s) (cG:I[id]? =some (.box cells)) (hc:cells[off]? =some (.sl .full []))
  (hy:gx P c nt y Q fx fx e (I.set id (.box (cells.set off (.sl (.app I.length) [])))++ [.app 0 s])):gx P c nt y Q fx fx e I:=by
 intro a w L J hs
 obtain⟨x,h1,h2⟩:=XQ hs.mem h0 cG hc
 exact hy a w L (J++ [x]) ⟨h1,hs.size,hs.defs,λk=>(hs.env k).mono (Le.refl _ _) h2⟩
theorem Fb (t s:Nat) (h0:0<s) (ht:e t= .sl .full []) (hy:gx P c nt y Q fx fx (fm e t (.cJ I.length s 0 0 0)) (I++ [.cj [] s])):gx P c nt y Q fx fx e I:=by
 intro a w L J hs
 have hr:=hs.env t
 rw[ht]at hr
 obtain⟨ad,hx⟩: ∃ad,a.tmps.getD t undef= .slice ad 0 0:=by
  have hr:cF w L (.sl .full []) (a.tmps.getD t undef):=hr
  generalize a.tmps.getD t undef=x at hr
  cases hr<;>simp_all
 have aa:=Ext.push I J hs.mem.len (.cj [] s) (.slice ad 0 0)
 refine hy a w L (J++ [.slice ad 0 0]) ⟨hs.mem.lJ h0,hs.size,hs.defs,λk=> ?_⟩
 simp only[fm]
 split
 .rename_i hk
  subst hk
  rw[hx]
  exact Gd (w':=w) (L':=L) (s:=s) (rows:= []) (cap:=0) (a0:=ad) hs.mem.len sm om
 .exact(hs.env k).mono (Le.refl _ _) aa
theorem Yq {s:St} (h:I.length<=s.length):xB (List.range I.length) I s=s:=by
 have ra: ∀i,cH (List.range I.length) I.length i=i:=(by grind[pS,pM])
 have hid:yE (cH (List.range I.length) I.length)=λo=>o:=funext (by grind[y8])
 apply Bg
 intro i
 by_cases hi:i<s.length
 .have:=AR (cZ:=List.range I.length) (Ic:=I) (I':=s) Bc (λq hq=>Co.1 hq) (sU h) (A0 hi)
  grind
 grind[E7]
theorem Fc {f:FuncId} {bY args:List V} {KV:V->St->Prop} {R:V->St->Prop} (hc:bN P f (args++bY) I R) (hb:xF P f)
  (hk: ∀r s,R r s->I.length<=s.length->KV r s):iZ P c (.fn f bY) args I KV fx:=by
 have ra: ∀i,cH (List.range I.length) I.length i=i:=(by grind[pS,pM])
 refine VC.of hc hb (List.range I.length) Bc sm (λi j o hi ho=> ?_) ?_ ?_
 .grind[y8]
 .have: ∀l:List V,bP (cP (cH (List.range I.length) I.length)) l l:=by
   intro l
   induction l with
   |nil=>trivial
   |cons a l ih=>exact⟨.inl (y7 ra a).symm,ih⟩
  grind
 grind[y7,Yq]
theorem GI {n0:Nat} {R:V->St->Prop} {r:V} (hn:n0<=I.length) (hR:R r I):cw (some r) n0 R I:=by
 have ra: ∀i,cH (List.range I.length) I.length i=i:=(by grind[pS,pM])
 refine⟨r,rfl,r,I,List.range I.length,I,r,.refl _ _,⟨sm,Bc,λi j o hi ho=> ?_,(by grind)⟩,.inl (y7 ra r).symm,hR⟩
 grind[y8]
end Go.Vx
namespace Go.Proofs.YtplackkccmeioaaGreat
open Go Go.Vx Go.Proofs.Tryz
@[go_sem] theorem Ql:ez prog 2=some 1/\ez prog 3=some 1/\ez prog 4=some 1/\ez prog 5=some 1/\ez prog 9=some 1/\ez prog 25=some 1/\ez prog 26=some 1/\ez prog 28=some 2/\ez prog 31=some 4/\ez prog 32=some 1/\ez prog 34=some 3/\ez prog 36=some 2/\ez prog 37=some 1/\ez prog 38=some 1/\ez prog 39=some 1/\ez prog 41=some 3:=by
 and_intros<;>kernel_rfl
@[go_sem] theorem Qm:ez prog 43=some 16/\ez prog 50=some 1/\ez prog 52=some 11/\ez prog 55=some 1/\ez prog 56=some 1/\ez prog 58=some 14/\ez prog 60=some 15/\ez prog 88=some 4/\ez prog 91=some 11/\ez prog 96=some 2/\ez prog 117=some 3/\ez prog 118=some 1/\ez prog 120=some 11/\ez prog 122=some 1/\ez prog 123=some 1/\ez prog 124=some 1:=by
 and_intros<;>kernel_rfl
@[go_sem] theorem Qn:ez prog 126=some 3/\ez prog 127=some 1/\ez prog 129=some 6/\ez prog 131=some 15/\ez prog 134=some 7/\ez prog 142=some 7/\ez prog 149=some 1/\ez prog 150=some 1/\ez prog 154=some 2/\ez prog 156=some 1/\ez prog 158=some 2/\ez prog 164=some 1/\ez prog 167=some 2/\ez prog 168=some 1/\ez prog 179=some 4/\ez prog 187=some 2:=by
 and_intros<;>kernel_rfl
@[go_sem] theorem Qo:ez prog 190=some 3/\ez prog 197=some 2/\ez prog 208=some 1/\ez prog 215=some 2/\ez prog 223=some 1/\ez prog 228=some 3/\ez prog 247=some 1/\ez prog 341=some 2:=by
 and_intros<;>kernel_rfl
@[go_sem] theorem L4:cO prog 2=some false/\cO prog 3=some false/\cO prog 4=some false/\cO prog 5=some false/\cO prog 9=some false/\cO prog 25=some false/\cO prog 26=some false/\cO prog 28=some true/\cO prog 31=some true/\cO prog 32=some false/\cO prog 34=some true/\cO prog 36=some true/\cO prog 37=some false/\cO prog 38=some false/\cO prog 39=some false/\cO prog 41=some true:=by
 and_intros<;>kernel_rfl
@[go_sem] theorem L5:cO prog 43=some true/\cO prog 50=some false/\cO prog 52=some true/\cO prog 55=some false/\cO prog 56=some false/\cO prog 58=some true/\cO prog 60=some true/\cO prog 88=some true/\cO prog 91=some true/\cO prog 96=some true/\cO prog 117=some true/\cO prog 118=some false/\cO prog 120=some true/\cO prog 122=some false/\cO prog 123=some false/\cO prog 124=some false:=by
 and_intros<;>kernel_rfl
@[go_sem] theorem L6:cO prog 126=some true/\cO prog 127=some false/\cO prog 129=some true/\cO prog 131=some true/\cO prog 134=some true/\cO prog 142=some true/\cO prog 149=some false/\cO prog 150=some false/\cO prog 154=some true/\cO prog 156=some false/\cO prog 158=some true/\cO prog 164=some false/\cO prog 167=some true/\cO prog 168=some false/\cO prog 179=some true/\cO prog 187=some true:=by
 and_intros<;>kernel_rfl
@[go_sem] theorem L7:cO prog 190=some true/\cO prog 197=some true/\cO prog 208=some false/\cO prog 215=some true/\cO prog 223=some false/\cO prog 228=some true/\cO prog 247=some false/\cO prog 341=some true:=by
 and_intros<;>kernel_rfl
@[go_sem] theorem Qp:iK prog 2=0/\iK prog 3=0/\iK prog 4=1/\iK prog 5=0/\iK prog 9=0/\iK prog 31=0/\iK prog 36=0/\iK prog 38=0/\iK prog 50=3/\iK prog 55=3/\iK prog 56=3/\iK prog 70=0/\iK prog 126=0/\iK prog 187=0/\iK prog 190=0/\iK prog 208=3:=by
 and_intros<;>kernel_rfl
@[go_sem] theorem Qq:iK prog 234=0:=kR
@[go_sem] theorem Qr:ko prog 2=none/\ko prog 3=none/\ko prog 4=none/\ko prog 5=none/\ko prog 9=none/\ko prog 31=some [.i .i64,.i .i64,.i .i64,.i .i64]/\ko prog 36=some [.i .i64,.i .i64]/\ko prog 38=none/\ko prog 50=none/\ko prog 55=none/\ko prog 56=none/\ko prog 70=none/\ko prog 126=some [.i .i64,.i .i64,.s]/\ko prog 187=some [.s,.s]/\ko prog 190=some [.s,.b,.s]/\ko prog 208=none:=by
 and_intros<;>kernel_rfl
@[go_sem] theorem Qs:ko prog 234=none:=kR
@[go_sem] theorem Qt:ju prog 2=some (.int .i64)/\ju prog 3=some (.int .i64)/\ju prog 5=some (.int .u8)/\ju prog 9=some .str/\ju prog 70=some (.int .u64)/\ju prog 111=some .bytes/\ju prog 234=some (.int .u64):=by
 and_intros<;>kernel_rfl
@[go_sem] theorem Jl:xY prog 3=some [.int .i64 0]/\xY prog 28=some [.sl .full [],.sl .full []]/\xY prog 31=some [.int .i64 0,.int .i64 0,.int .i64 0,.int .i64 0]/\xY prog 34=some [.int .i64 0,.int .i64 0,.sl .full []]/\xY prog 36=some [.int .i64 0,.int .i64 0]/\xY prog 41=some [.int .i64 0,.int .i64 0,.sl .full []]/\xY prog 43=some [.int .i64 0,.int .i64 0,.int .i64 0,.int .i64 0,.int .i64 0,.int .i64 0,.sl .full [],.int .i64 0,.int .i64 0,.int .i64 0,.int .i64 0,.int .i64 0,.sl .full [],.int .i64 0,.int .i64 0,.sl .full []]/\xY prog 52=some [.int .i64 0,.sl .full [],.int .i64 0,.int .i64 0,.int .i64 0,.int .i64 0,.int .i64 0,.int .i64 0,.int .i64 0,.int .i64 0,.bool false]/\xY prog 58=some [.int .i64 0,.int .i64 0,.int .i64 0,.int .i64 0,.int .i64 0,.int .i64 0,.int .i64 0,.int .i64 0,.int .i64 0,.int .i64 0,.int .i64 0,.bool false,.sl .full [],.sl .full []]/\xY prog 60=some [.int .i64 0,.int .i64 0,.int .i64 0,.int .i64 0,.int .i64 0,.int .i64 0,.int .i64 0,.int .i64 0,.int .i64 0,.int .i64 0,.int .i64 0,.int .i64 0,.bool false,.sl .full [],.sl .full []]/\xY prog 91=some [.int .i64 0,.int .i64 0,.int .i64 0,.sl .full [],.sl .full [],.sl .full [],.int .i64 0,.int .i64 0,.int .i64 0,.int .i64 0,.bool false]/\xY prog 96=some [.str [],.str []]/\xY prog 120=some [.str [],.sl .full [],.int .i64 0,.int .i64 0,.int .i64 0,.sl .full [],.sl .full [],.sl .full [],.int .i64 0,.int .i64 0,.int .i64 0]/\xY prog 126=some [.int .i64 0,.int .i64 0,.str []]/\xY prog 129=some [.int .i64 0,.str [],.int .i64 0,.int .i64 0,.str [],.sl .full []]/\xY prog 131=some [.int .i64 0,.str [],.sl .full [],.sl .full [],.sl .full [],.bool false,.int .i64 0,.str [],.int .i64 0,.int .i64 0,.str [],.sl .full [],.str [],.bool false,.int .i64 0]:=by
 and_intros<;>kernel_rfl
@[go_sem] theorem Jm:xY prog 134=some [.int .i64 0,.int .i64 0,.str [],.int .i64 0,.int .i64 0,.str [],.sl .full []]/\xY prog 142=some [.str [],.int .i64 0,.str [],.int .i64 0,.int .i64 0,.str [],.sl .full []]/\xY prog 152=some [.sl .full [],.sl .full [],.raw (.map none),.raw (.map none),.raw (.map none)]/\xY prog 154=some [.int .i64 0,.sl .full []]/\xY prog 158=some [.sl .full [],.int .i64 0]/\xY prog 167=some [.int .i64 0,.sl .full []]/\xY prog 173=some [.sl .full [],.int .i64 0,.int .i64 0,.int .i64 0,.int .i64 0]/\xY prog 179=some [.int .i64 0,.int .i64 0,.str [],.int .i64 0]/\xY prog 187=some [.str [],.str []]/\xY prog 190=some [.str [],.bool false,.str []]/\xY prog 197=some [.int .i64 0,.sl .full []]/\xY prog 215=some [.int .i64 0,.str []]/\xY prog 228=some [.int .i64 0,.str [],.sl .full []]/\xY prog 237=some [.sl .full []]/\xY prog 341=some [.raw .nilFunc,.raw .nilFunc]:=by
 and_intros<;>kernel_rfl
@[go_sem] theorem L8:dI prog 9=1/\dI prog 22=2/\dI prog 25=2/\dI prog 26=2/\dI prog 32=2/\dI prog 37=2/\dI prog 39=2/\dI prog 47=2/\dI prog 50=2/\dI prog 55=2/\dI prog 56=2/\dI prog 69=2/\dI prog 80=2/\dI prog 111=2/\dI prog 118=2/\dI prog 122=2:=by
 and_intros<;>kernel_rfl
@[go_sem] theorem L9:dI prog 123=2/\dI prog 124=2/\dI prog 127=2/\dI prog 147=2/\dI prog 156=2/\dI prog 164=2/\dI prog 168=2/\dI prog 208=2/\dI prog 223=2/\dI prog 229=2/\dI prog 247=2:=by
 and_intros<;>kernel_rfl
@[go_sem] theorem Ma:pH prog 9=true:=kR
@[go_sem] theorem Mb:eT prog 22=some 4/\eT prog 25=some 1/\eT prog 26=some 11/\eT prog 32=some 15/\eT prog 37=some 11/\eT prog 39=some 2/\eT prog 47=some 15/\eT prog 50=some 2/\eT prog 55=some 2/\eT prog 56=some 3/\eT prog 69=some 1/\eT prog 80=some 2/\eT prog 111=some 1/\eT prog 118=some 3/\eT prog 122=some 7/\eT prog 123=some 1:=by
 and_intros<;>kernel_rfl
@[go_sem] theorem Mc:eT prog 124=some 7/\eT prog 127=some 6/\eT prog 147=some 2/\eT prog 156=some 1/\eT prog 164=some 2/\eT prog 168=some 4/\eT prog 208=some 3/\eT prog 223=some 3/\eT prog 229=some 2/\eT prog 247=some 1/\eT prog 387=some 1:=by
 and_intros<;>kernel_rfl
@[go_sem] theorem Qu:eE prog 25=some (1,8)/\eE prog 26=some (11,160)/\eE prog 32=some (15,216)/\eE prog 37=some (11,136)/\eE prog 39=some (2,32)/\eE prog 47=some (15,152)/\eE prog 50=some (2,32)/\eE prog 55=some (2,32)/\eE prog 56=some (3,40)/\eE prog 80=some (2,32)/\eE prog 111=some (1,1)/\eE prog 122=some (7,88)/\eE prog 123=some (1,24)/\eE prog 124=some (7,96)/\eE prog 127=some (6,80)/\eE prog 147=some (2,32):=by
 and_intros<;>kernel_rfl
@[go_sem] theorem Qv:eE prog 156=some (1,24)/\eE prog 164=some (2,32)/\eE prog 168=some (4,40)/\eE prog 208=some (3,32)/\eE prog 223=some (3,48)/\eE prog 229=some (2,24)/\eE prog 247=some (1,16)/\eE prog 387=some (1,24):=by
 and_intros<;>kernel_rfl
@[go_sem] theorem Md:jd prog 25=some [.int .i64 0]/\jd prog 111=some [.int .u8 0]:=by
 and_intros<;>kernel_rfl
@[go_sem] theorem Me:eU prog 28=some [(0,1),(1,1)]/\eU prog 31=some [(0,1),(1,1),(2,1),(3,1)]/\eU prog 34=some [(0,1),(1,1),(2,1)]/\eU prog 36=some [(0,1),(1,1)]/\eU prog 41=some [(0,1),(1,1),(2,1)]/\eU prog 43=some [(0,4),(4,3),(7,1),(8,2),(10,1),(11,1),(12,1),(13,3)]/\eU prog 52=some [(0,1),(1,1),(2,4),(6,1),(7,2),(9,1),(10,1)]/\eU prog 58=some [(0,1),(1,1),(2,1),(3,1),(4,4),(8,2),(10,1),(11,1),(12,1),(13,1)]/\eU prog 60=some [(0,1),(1,14)]/\eU prog 91=some [(0,1),(1,1),(2,1),(3,1),(4,1),(5,1),(6,4),(10,1)]/\eU prog 120=some [(0,1),(1,1),(2,1),(3,1),(4,1),(5,6)]/\eU prog 126=some [(0,1),(1,1),(2,1)]/\eU prog 129=some [(0,1),(1,1),(2,3),(5,1)]/\eU prog 131=some [(0,1),(1,1),(2,1),(3,1),(4,1),(5,1),(6,6),(12,1),(13,1),(14,1)]/\eU prog 134=some [(0,1),(1,6)]/\eU prog 142=some [(0,1),(1,6)]:=by
 and_intros<;>kernel_rfl
@[go_sem] theorem Mf:eU prog 152=some [(0,2),(2,1),(3,1),(4,1)]/\eU prog 154=some [(0,1),(1,1)]/\eU prog 158=some [(0,1),(1,1)]/\eU prog 167=some [(0,1),(1,1)]/\eU prog 173=some [(0,1),(1,1),(2,1),(3,1),(4,1)]/\eU prog 179=some [(0,1),(1,1),(2,1),(3,1)]/\eU prog 187=some [(0,1),(1,1)]/\eU prog 190=some [(0,1),(1,1),(2,1)]/\eU prog 197=some [(0,1),(1,1)]/\eU prog 215=some [(0,1),(1,1)]/\eU prog 228=some [(0,2),(2,1)]/\eU prog 237=some [(0,1)]/\eU prog 341=some [(0,1),(1,1)]:=by
 and_intros<;>kernel_rfl
@[go_sem] theorem Mg:cx prog 28 0=some (0,1,false)/\cx prog 28 1=some (1,1,false)/\cx prog 31 0=some (0,1,false)/\cx prog 31 1=some (1,1,false)/\cx prog 31 2=some (2,1,false)/\cx prog 31 3=some (3,1,false)/\cx prog 34 0=some (0,1,false)/\cx prog 34 1=some (1,1,false)/\cx prog 34 2=some (2,1,false)/\cx prog 36 0=some (0,1,false)/\cx prog 41 0=some (0,1,false)/\cx prog 41 2=some (2,1,false)/\cx prog 43 0=some (0,4,true)/\cx prog 43 1=some (4,3,true)/\cx prog 43 2=some (7,1,false)/\cx prog 43 3=some (8,2,true):=by
 and_intros<;>kernel_rfl
@[go_sem] theorem Mh:cx prog 43 4=some (10,1,false)/\cx prog 43 5=some (11,1,false)/\cx prog 43 6=some (12,1,false)/\cx prog 43 7=some (13,3,true)/\cx prog 52 0=some (0,1,false)/\cx prog 52 1=some (1,1,false)/\cx prog 52 2=some (2,4,true)/\cx prog 52 3=some (6,1,false)/\cx prog 52 4=some (7,2,true)/\cx prog 52 5=some (9,1,false)/\cx prog 52 6=some (10,1,false)/\cx prog 58 0=some (0,1,false)/\cx prog 58 1=some (1,1,false)/\cx prog 58 2=some (2,1,false)/\cx prog 58 3=some (3,1,false)/\cx prog 58 4=some (4,4,true):=by
 and_intros<;>kernel_rfl
@[go_sem] theorem Mi:cx prog 58 5=some (8,2,true)/\cx prog 58 6=some (10,1,false)/\cx prog 58 7=some (11,1,false)/\cx prog 58 8=some (12,1,false)/\cx prog 58 9=some (13,1,false)/\cx prog 60 0=some (0,1,false)/\cx prog 60 1=some (1,14,true)/\cx prog 88 0=some (0,1,false)/\cx prog 88 1=some (1,1,false)/\cx prog 88 2=some (2,1,false)/\cx prog 88 3=some (3,1,false)/\cx prog 91 0=some (0,1,false)/\cx prog 91 1=some (1,1,false)/\cx prog 91 2=some (2,1,false)/\cx prog 91 3=some (3,1,false)/\cx prog 91 4=some (4,1,false):=by
 and_intros<;>kernel_rfl
@[go_sem] theorem Mj:cx prog 91 5=some (5,1,false)/\cx prog 91 6=some (6,4,true)/\cx prog 91 7=some (10,1,false)/\cx prog 96 0=some (0,1,false)/\cx prog 96 1=some (1,1,false)/\cx prog 117 0=some (0,1,false)/\cx prog 117 1=some (1,1,false)/\cx prog 117 2=some (2,1,false)/\cx prog 120 0=some (0,1,false)/\cx prog 120 1=some (1,1,false)/\cx prog 120 2=some (2,1,false)/\cx prog 120 3=some (3,1,false)/\cx prog 120 4=some (4,1,false)/\cx prog 126 0=some (0,1,false)/\cx prog 126 1=some (1,1,false)/\cx prog 126 2=some (2,1,false):=by
 and_intros<;>kernel_rfl
@[go_sem] theorem Mk:cx prog 129 0=some (0,1,false)/\cx prog 129 1=some (1,1,false)/\cx prog 129 2=some (2,3,true)/\cx prog 129 3=some (5,1,false)/\cx prog 131 0=some (0,1,false)/\cx prog 131 1=some (1,1,false)/\cx prog 131 2=some (2,1,false)/\cx prog 131 3=some (3,1,false)/\cx prog 131 4=some (4,1,false)/\cx prog 131 5=some (5,1,false)/\cx prog 131 6=some (6,6,true)/\cx prog 131 7=some (12,1,false)/\cx prog 131 8=some (13,1,false)/\cx prog 131 9=some (14,1,false)/\cx prog 134 0=some (0,1,false)/\cx prog 134 1=some (1,6,true):=by
 and_intros<;>kernel_rfl
@[go_sem] theorem Ml:cx prog 142 0=some (0,1,false)/\cx prog 142 1=some (1,6,true)/\cx prog 152 0=some (0,2,true)/\cx prog 152 1=some (2,1,false)/\cx prog 152 2=some (3,1,false)/\cx prog 152 3=some (4,1,false)/\cx prog 154 0=some (0,1,false)/\cx prog 154 1=some (1,1,false)/\cx prog 158 0=some (0,1,false)/\cx prog 167 0=some (0,1,false)/\cx prog 167 1=some (1,1,false)/\cx prog 173 0=some (0,1,false)/\cx prog 173 1=some (1,1,false)/\cx prog 173 2=some (2,1,false)/\cx prog 173 3=some (3,1,false)/\cx prog 173 4=some (4,1,false):=by
 and_intros<;>kernel_rfl
@[go_sem] theorem Mm:cx prog 179 0=some (0,1,false)/\cx prog 179 1=some (1,1,false)/\cx prog 179 2=some (2,1,false)/\cx prog 179 3=some (3,1,false)/\cx prog 187 0=some (0,1,false)/\cx prog 187 1=some (1,1,false)/\cx prog 197 0=some (0,1,false)/\cx prog 197 1=some (1,1,false)/\cx prog 215 0=some (0,1,false)/\cx prog 215 1=some (1,1,false)/\cx prog 228 0=some (0,2,true)/\cx prog 228 1=some (2,1,false)/\cx prog 237 0=some (0,1,false)/\cx prog 341 0=some (0,1,false)/\cx prog 341 1=some (1,1,false):=by
 and_intros<;>kernel_rfl
@[go_sem] theorem Tryz.Fe:mN prog 149=true:=kR
@[go_sem] theorem Tryz.Jn:gv prog 149=some (.st [.i .i64,.s],.str []):=kR
@[go_sem] theorem Tryz.Ff:mN prog 150=true:=kR
@[go_sem] theorem Tryz.pj:gv prog 150=some (.st [.i .i64,.s],.int .i64 0):=kR
@[go_sem] theorem Tryz.GJ:El prog 223=true:=kR
theorem cB {P:Program} {f:FuncId} (h:xF P f=true:=by kernel_rfl):xF P f=true:=h
end Go.Proofs.YtplackkccmeioaaGreat
namespace Go.Proofs.YtplackkccmeioaaGreat
open Go Go.Vx Go.Proofs.Tryz
set_option maxRecDepth 100000
structure fg where
 name:ahP
 kind:Int
 null:Bool
 deriving DecidableEq
@[go_sem] def fg.row (x:fg):List V:= [.str x.name,.int .i64 x.kind,.bool x.null]
structure y9 where
 CD:ahS
 pW:ahS
 sE:ahS
 GK:Int
 CE:Int
 vG:Int
 deriving DecidableEq
structure bL where
 name:ahP
 ca:List fg
 key:Int
 place:Int
 region:Int
 lW:y9
 deriving DecidableEq
@[go_sem] def bL.row (x:bL):List V:= [.str x.name,.sl .ro (x.ca.map fg.row),.int .i64 x.key,.int .i64 x.place,.int .i64 x.region,.sl .ro (x.lW.CD.map (λn=> [V.int .i64 n])),.sl .ro (x.lW.pW.map (λn=> [V.int .i64 n])),.sl .ro (x.lW.sE.map (λn=> [V.int .i64 n])),.int .i64 x.lW.GK,.int .i64 x.lW.CE,.int .i64 x.lW.vG]
structure bK where
 kind:Int
 n:Int
 s:ahP
 deriving DecidableEq
@[go_sem] def bK.row (x:bK):List V:= [.int .i64 x.kind,.int .i64 x.n,.str x.s]
structure bK.ok (x:bK):Prop where
 kind: -9223372036854775808<=x.kind/\x.kind<=9223372036854775807
 n: -9223372036854775808<=x.n/\x.n<=9223372036854775807
 s:x.s.length<=maxLen
inductive bJ where
 |mk (kind:Int) (s:ahP) (v:bK) (args:List bJ)
def bJ.kind:bJ->Int
 | .mk x _ _ _=>x
def bJ.s:bJ->ahP
 | .mk _ x _ _=>x
def bJ.v:bJ->bK
 | .mk _ _ x _=>x
def bJ.args:bJ->List bJ
 | .mk _ _ _ x=>x
mutual
def bJ.row:bJ->List V
 | .mk a0 a1 a2 a3=> [.int .i64 a0,.str a1,.int .i64 a2.kind,.int .i64 a2.n,.str a2.s,.sl .ro (bJ.rows a3)]
def bJ.rows:List bJ->List (List V)
 | []=> []
 |e::l=>bJ.row e::bJ.rows l
end
theorem bJ.mW: ∀l:List bJ,bJ.rows l=l.map bJ.row
 | []=>rfl
 |e::l=>by rw[bJ.rows,bJ.mW l];rfl
@[go_sem] theorem bJ.bS (x:bJ):x.row= [.int .i64 x.kind,.str x.s,.int .i64 x.v.kind,.int .i64 x.v.n,.str x.v.s,.sl .ro (x.args.map bJ.row)]:=by
 cases x
 rw[bJ.row,bJ.mW]
 rfl
structure cM where
 kind:Int
 e:bJ
@[go_sem] def cM.row (x:cM):List V:= [.int .i64 x.kind,.int .i64 x.e.kind,.str x.e.s,.int .i64 x.e.v.kind,.int .i64 x.e.v.n,.str x.e.v.s,.sl .ro (x.e.args.map bJ.row)]
structure cm where
 name:ahP
 e:bJ
@[go_sem] def cm.row (x:cm):List V:= [.str x.name,.int .i64 x.e.kind,.str x.e.s,.int .i64 x.e.v.kind,.int .i64 x.e.v.n,.str x.e.v.s,.sl .ro (x.e.args.map bJ.row)]
structure bW where
 kind:Int
 table:ahP
 items:List cM
 rows:List (List bJ)
 cD:List cm
 dM:Bool
 cE:bJ
 order:ahP
 down:Bool
 bQ:Int
@[go_sem] def bW.row (x:bW):List V:= [.int .i64 x.kind,.str x.table,.sl .ro (x.items.map cM.row),.sl .ro (x.rows.map (λ(l:List bJ)=> [V.sl .ro (l.map bJ.row)])),.sl .ro (x.cD.map cm.row),.bool x.dM,.int .i64 x.cE.kind,.str x.cE.s,.int .i64 x.cE.v.kind,.int .i64 x.cE.v.n,.str x.cE.v.s,.sl .ro (x.cE.args.map bJ.row),.str x.order,.bool x.down,.int .i64 x.bQ]
structure dR where
 mode:Int
 n:Int
 stmts:List bW
@[go_sem] def dR.row (x:dR):List V:= [.int .i64 x.mode,.int .i64 x.n,.sl .ro (x.stmts.map bW.row)]
structure cp where
 lo:ahP
 hi:ahP
 deriving DecidableEq
@[go_sem] def cp.row (x:cp):List V:= [.str x.lo,.str x.hi]
structure gz where
 kY:Int
 a:Int
 b:Int
 c:Int
 deriving DecidableEq
@[go_sem] def gz.row (x:gz):List V:= [.int .i64 x.kY,.int .i64 x.a,.int .i64 x.b,.int .i64 x.c]
structure gz.ok (x:gz):Prop where
 kY: -9223372036854775808<=x.kY/\x.kY<=9223372036854775807
 a: -9223372036854775808<=x.a/\x.a<=9223372036854775807
 b: -9223372036854775808<=x.b/\x.b<=9223372036854775807
 c: -9223372036854775808<=x.c/\x.c<=9223372036854775807
theorem gz.CF {vs:List V} (h:lD prog 88 vs): ∃x:gz,vs=x.row/\x.ok:=by
 have h:jT prog [3,3,3,3] vs:=h.ov underlying88
 obtain⟨_,_,rfl,h0,h⟩:=h.cons_inv
 obtain⟨_,_,rfl,h1,h⟩:=h.cons_inv
 obtain⟨_,_,rfl,h2,h⟩:=h.cons_inv
 obtain⟨_,_,rfl,h3,h⟩:=h.cons_inv
 obtain rfl:=h.lS
 obtain⟨x0,rfl,w0⟩:=h0.iw underlying3
 have w0:=E9 w0
 obtain⟨x1,rfl,w1⟩:=h1.iw underlying3
 have w1:=E9 w1
 obtain⟨x2,rfl,w2⟩:=h2.iw underlying3
 have w2:=E9 w2
 obtain⟨x3,rfl,w3⟩:=h3.iw underlying3
 have w3:=E9 w3
 exact⟨⟨x0,x1,x2,x3⟩,rfl,⟨w0,w1,w2,w3⟩⟩
structure ig where
 key:ahP
 data:ahP
 deriving DecidableEq
@[go_sem] def ig.row (x:ig):List V:= [.str x.key,.str x.data]
structure eC where
 key:ahP
 drop:Bool
 data:ahP
 deriving DecidableEq
@[go_sem] def eC.row (x:eC):List V:= [.str x.key,.bool x.drop,.str x.data]
structure gF where
 node:Int
 gM:Int
 seq:Int
 attempt:Int
 deriving DecidableEq
@[go_sem] def gF.row (x:gF):List V:= [.int .i64 x.node,.int .i64 x.gM,.int .i64 x.seq,.int .i64 x.attempt]
structure cu where
 range:Int
 state:Int
 home:Int
 eL:List cp
 writes:List eC
 dy:List ig
 gB:gF
 yes:Bool
 deriving DecidableEq
@[go_sem] def cu.row (x:cu):List V:= [.int .i64 x.range,.int .i64 x.state,.int .i64 x.home,.sl .ro (x.eL.map cp.row),.sl .ro (x.writes.map eC.row),.sl .ro (x.dy.map ig.row),.int .i64 x.gB.node,.int .i64 x.gB.gM,.int .i64 x.gB.seq,.int .i64 x.gB.attempt,.bool x.yes]
structure fh where
 wall:Int
 tie:Int
 deriving DecidableEq
structure ow where
 kind:Int
 pn:Int
 node:Int
 home:Int
 gB:gF
 at_:fh
 wall:Int
 yes:Bool
 eL:List cp
 writes:List eC
 deriving DecidableEq
@[go_sem] def ow.row (x:ow):List V:= [.int .i64 x.kind,.int .i64 x.pn,.int .i64 x.node,.int .i64 x.home,.int .i64 x.gB.node,.int .i64 x.gB.gM,.int .i64 x.gB.seq,.int .i64 x.gB.attempt,.int .i64 x.at_.wall,.int .i64 x.at_.tie,.int .i64 x.wall,.bool x.yes,.sl .ro (x.eL.map cp.row),.sl .ro (x.writes.map eC.row)]
structure cV where
 range:Int
 cmd:ow
 deriving DecidableEq
@[go_sem] def cV.row (x:cV):List V:= [.int .i64 x.range,.int .i64 x.cmd.kind,.int .i64 x.cmd.pn,.int .i64 x.cmd.node,.int .i64 x.cmd.home,.int .i64 x.cmd.gB.node,.int .i64 x.cmd.gB.gM,.int .i64 x.cmd.gB.seq,.int .i64 x.cmd.gB.attempt,.int .i64 x.cmd.at_.wall,.int .i64 x.cmd.at_.tie,.int .i64 x.cmd.wall,.bool x.cmd.yes,.sl .ro (x.cmd.eL.map cp.row),.sl .ro (x.cmd.writes.map eC.row)]
structure dN where
 err:Int
 dy:List ig
 gB:gF
 home:Int
 at_:fh
 wall:Int
 yes:Bool
 deriving DecidableEq
@[go_sem] def dN.row (x:dN):List V:= [.int .i64 x.err,.sl .ro (x.dy.map ig.row),.int .i64 x.gB.node,.int .i64 x.gB.gM,.int .i64 x.gB.seq,.int .i64 x.gB.attempt,.int .i64 x.home,.int .i64 x.at_.wall,.int .i64 x.at_.tie,.int .i64 x.wall,.bool x.yes]
end Go.Proofs.YtplackkccmeioaaGreat
namespace Go.Vx
open Go
section
variable {P:Program} {c:Ctx} {nt:Nat} {n0:Kp}
variable {ops:List Oper}{q:List (Nat×Nat)}{I:St}{e:Env}{e0:Env}{tr:List (V×St)}{bM:Array Bool}{i:Nat}{o:Oper}{z:List V}
theorem Yr {Q:Exit->Act->World->Prop} {cv:St} (hn:n0.n<=cv.length) (ht:ot P c nt n0 ops q 0 ops e0 cv tr)
  (B:Nat->Nat->Prop) (sp: ∀{i j:Nat} {x y:Oper},i<j->ops[i]? =some x->ops[j]? =some y->ue ops q i j x y=false\/B i j)
  {a:Act} {w:World} {L:Nat->Nat} {J:ahR} (aa:ops[i]? =some o) (av:bM.getD i false=false) (a7:i<bM.size)
  (ahead: ∀{k:Nat},k≠i->B k i->bM.getD k false) (mU: ∀{k:Nat},B i k->bM.getD k false=false) (a8: ∀{k j:Nat},B k j->bM.getD j false=true->bM.getD k false)
  (hs:dP c nt (fE (λi=>bM.getD i false) 0 ops tr e0) (fS (λi=>bM.getD i false) q 0 ops tr cv) a w L J) {next:Act->World->Prop}
  (aA: ∀a' w' L' J',dP c nt (fE (λk=>(bM.setIfInBounds i true).getD k false) 0 ops tr e0) (fS (λk=>(bM.setIfInBounds i true).getD k false) q 0 ops tr cv) a' w' L' J'->next a' w'):
  if Region.wanted o (yielded ops.toArray a.tmps)then o.wp P a w next Q\/(o.asks P a w/\LetsOut Q)else next (a.put o.dst undef) w:=by
 have ak: ∀k,k≠i->(bM.setIfInBounds i true).getD k false=bM.getD k false:=λk hk=>getD_set_ne false (λq=>hk q.symm)
 have aw:(bM.setIfInBounds i true).getD i false:=by simp[Array.getD,a7]
 obtain⟨an,aB⟩:=EV ops q ops tr 0 e0 cv ht
 obtain⟨v,I',ax,ah⟩:=aB i o aa
 rw[Ad]at ah
 have ay: ∀t∈oq ops o,fE (λi=>bM.getD i false) 0 ops tr e0 t=fE (λj=>decide (j<i)) 0 ops tr e0 t:=by
  intro t an
  refine pU _ _ t ops tr 0 e0 e0 rfl λk o' hk ad=> ?_
  rw[Ad]
  rcases Ba k i with ab|ab|ab
  .rw[ahi ab]
   rcases sp ab hk aa with hc|hb
   .exact absurd an ((yV hc).2.1 t ad).1
   .exact ahead om hb
  .subst ab;rw[av];simp
  .rw[ahh om]
   rcases sp ab aa hk with hc|hb
   .exact absurd an ((yV hc).2.2 t ad)
   .exact mU hb
 have al:2<=zZ q i o->fS (λi=>bM.getD i false) q 0 ops tr cv=fS (λj=>decide (j<i)) q 0 ops tr cv:=by
  intro af
  refine sv _ _ q ops tr 0 cv λk o' hk ad=> ?_
  rw[Ad]at ad⊢
  rcases Ba k i with ab|ab|ab
  .rw[ahi ab]
   rcases sp ab hk aa with hc|hb
   .have:=(yV hc).1
    rw[yu ad (wD _ _ _) af (wD _ _ _)]at this
    cases this
   .exact ahead om hb
  .subst ab;rw[av];simp
  .rw[ahh om]
   rcases sp ab aa hk with hc|hb
   .have:=(yV hc).1
    rw[I6,yu ad (wD _ _ _) af (wD _ _ _)]at this
    cases this
   .exact mU hb
 have az:zZ q i o=1->n0.of (fS (λi=>bM.getD i false) q 0 ops tr cv)=n0.of (fS (λj=>decide (j<i)) q 0 ops tr cv):=by
  intro a1
  have pre: ∀N,N<=ops.length-> ∃m,m<=N/\ ∀k o',k<N->ops[k]? =some o'->3<=zZ q k o'->bM.getD k false=decide (k<m):=by
   intro N
   induction N with
   |zero=>exact λ_=>⟨0,A7 _,λk o' h=>om⟩
   |succ N aC=>
    intro hN
    obtain⟨m,hm,ae⟩:=aC om
    have a6:=A0 (show N<ops.length by omega)
    by_cases hw:3<=zZ q N (ops[N]'om)/\bM.getD N false=true
    .refine⟨N+1,A7 _,λk o' hk ai h3=> ?_⟩
     rw[ahi hk]
     by_cases ao:k=N
     .subst ao;exact hw.2
     .rcases sp (show k<N by omega) ai a6 with hc|hb
      .have:=(yV hc).1
       rw[yu h3 (wD _ _ _) om (wD _ _ _)]at this
       cases this
      .exact a8 hb hw.2
    .refine⟨m,om,λk o' hk ai h3=> ?_⟩
     by_cases ao:k=N
     .subst ao
      rw[a6]at ai;cases ai
      rw[ahh om]
      cases hl:bM.getD k false with
      |false=>rfl
      |true=>exact absurd ⟨h3,hl⟩ hw
     .exact ae k o' om ai h3
  obtain⟨m,hm,ae⟩:=pre ops.length (A7 _)
  have e1:fS (λi=>bM.getD i false) q 0 ops tr cv=fS (λx=>decide (x<m)) q 0 ops tr cv:=
   sv _ _ q ops tr 0 cv λk o' hk h3=>by
    rw[Ad]at h3⊢
    exact ae k o' (A3.1 hk).1 hk h3
  rw[e1]
  have aE:i<ops.length:=(A3.1 aa).1
  rcases Nat.le_total m i with aD|aD
  .have:=(I8 ht hn (i - m) m om (λk o' h5 h6 hk h4=>by
    have h7:=ae k o' (A3.1 hk).1 hk om
    rw[ahh om]at h7
    rcases sp (show k<i by omega) hk aa with hc|hb
    .have:=(yV hc).1
     rw[h4,a1,I7 dC]at this
     cases this
    .rw[ahead om hb]at h7;cases h7)).2
   rw[show m+(i - m)=i by omega]at this
   grind
  .have:=(I8 ht hn (m - i) i om (λk o' h5 h6 hk h4=>by
    have h7:=ae k o' (A3.1 hk).1 hk om
    rw[ahi om]at h7
    have ab:k≠i:=λqq=>by
     subst qq
     rw[hk]at aa;cases aa
     omega
    rcases sp (show i<k by omega) aa hk with hc|hb
    .have:=(yV hc).1
     rw[I6,h4,a1,I7 dC]at this
     cases this
    grind)).2
   rw[show i+(m - i)=m by omega]at this
   omega
 refine I5 (ops:=ops) (Q:=Q) (next:=next) o hs (ah.step ay al az) ?_
 rintro e' s' a' w' L' J' aF ⟨rfl,rfl⟩
 have e1:fQ (fE (λi=>bM.getD i false) 0 ops tr e0) o.dst v=fE (λk=>(bM.setIfInBounds i true).getD k false) 0 ops tr e0:=by
  funext t
  by_cases aj:o.dst=some t
  .rw[yp _ _ _ _ aj]
   refine(BT _ t ops tr 0 i e0 o v I' aa ax aj (by rw[Ad];exact aw) λk' o' aq ar au=> ?_).symm
   rw[Ad,ak k' om]
   rcases sp aq aa ar with hc|hb
   .exact absurd au ((yV hc).2.1 t aj).2
   .exact mU hb
  .rw[yq _ _ _ _ aj]
   refine pU _ _ t ops tr 0 e0 e0 rfl λk o' hk ad=> ?_
   rw[Ad]
   refine(ak k λq=> ?_).symm
   subst q
   rw[aa]at hk;cases hk
   exact aj ad
 have e2:(if 3<=zZ q i o then I' else fS (λi=>bM.getD i false) q 0 ops tr cv)=fS (λk=>(bM.setIfInBounds i true).getD k false) q 0 ops tr cv:=by
  split
  .rename_i af
   refine(EU _ q ops tr 0 i cv o v I' aa ax (by rw[Ad];exact af) (by rw[Ad];exact aw) λk' o' aq ar au=> ?_).symm
   rw[Ad]at au⊢
   rw[ak k' om]
   rcases sp aq aa ar with hc|hb
   .have:=(yV hc).1
    rw[yu af (wD _ _ _) om (wD _ _ _)]at this
    cases this
   grind
  .rename_i af
   refine sv _ _ q ops tr 0 cv λk o' hk ad=> ?_
   rw[Ad]at ad⊢
   refine(ak k λq=> ?_).symm
   subst q
   rw[aa]at hk;cases hk
   exact af ad
 grind
theorem Ys (B:Nat->Nat->Prop) (sp: ∀{i j:Nat} {x y:Oper},i<j->ops[i]? =some x->ops[j]? =some y->ue ops q i j x y=false\/B i j)
  (ab:ops[i]? =some o) (af:bM.getD i false=false)
  (ahead: ∀{k:Nat},k≠i->B k i->bM.getD k false) (mU: ∀{k:Nat},B i k->bM.getD k false=false):
  ∀t∈oq ops o,fE (λi=>bM.getD i false) 0 ops tr e0 t=fE (λj=>decide (j<i)) 0 ops tr e0 t:=by
 intro t ad
 refine pU _ _ t ops tr 0 e0 e0 rfl λk o' hk ae=> ?_
 rw[Ad]
 rcases Ba k i with aa|aa|aa
 .rw[ahi aa]
  rcases sp aa hk ab with hc|hb
  .exact absurd ad ((yV hc).2.1 t ae).1
  grind
 .grind
 .rw[ahh om]
  rcases sp aa ab hk with hc|hb
  .exact absurd ad ((yV hc).2.2 t ae)
  grind
theorem Yt (B:Nat->Nat->Prop) (sp: ∀{i j:Nat} {x y:Oper},i<j->ops[i]? =some x->ops[j]? =some y->ue ops q i j x y=false\/B i j)
  {v:V} {I':St} (ab:ops[i]? =some o) (ad:tr[i]? =some (v,I')) (aj:i<bM.size) (mU: ∀{k:Nat},B i k->bM.getD k false=false):
  fQ (fE (λi=>bM.getD i false) 0 ops tr e0) o.dst v=fE (λk=>(bM.setIfInBounds i true).getD k false) 0 ops tr e0:=by
 have ae: ∀k,k≠i->(bM.setIfInBounds i true).getD k false=bM.getD k false:=λk hk=>getD_set_ne false om
 have ak:(bM.setIfInBounds i true).getD i false:=by simp_all
 funext t
 by_cases aa:o.dst=some t
 .rw[yp _ _ _ _ aa]
  refine(BT _ t ops tr 0 i e0 o v I' ab ad aa (by grind) λk' o' af ah ai=> ?_).symm
  rw[Ad,ae k' om]
  rcases sp af ab ah with hc|hb
  .exact absurd ai ((yV hc).2.1 t aa).2
  grind
 .rw[yq _ _ _ _ aa]
  refine pU _ _ t ops tr 0 e0 e0 rfl λk o' hk al=> ?_
  grind
theorem Qw {n:Nat} (D:Nat->Bool): ∀(os:List Oper) (tr:List (V×St)) (i:Nat) (e:Env),(∀t,iL n (e t)=true)->(∀(k:Nat) v s,tr[k]? =some (v,s)->D (i+k)=true->iL n v=true)-> ∀t,iL n (fE D i os tr e t)=true
 | [],_,_,_,h,_=>by simpa
 |o::os,[],_,_,h,_=>by simpa
 |o::os,(v,s)::tr,i,e,h,hv=>by
  rw[fE]
  refine Qw D os tr (i+1) _ (λt=> ?_) (λk v' s' hk hD=>hv (k+1) v' s' (by grind) (by grind))
  split
  .rename_i ab
   by_cases aa:o.dst=some t
   .rw[yp _ _ _ _ aa];exact hv 0 v s rfl om
   grind[yq]
  grind
theorem dP.pick {e e':Env} {I s:St} {a:Act} {w:World} {L:Nat->Nat} {J:ahR} {pick:ahQ} (h:dP c nt e I a w L J) (hp:gu c.cv.length pick I s) (hc:c.β0.length=c.cv.length) (he: ∀t,cP (cH pick I.length) (e' t) (e t)):
  ∃J',dP c nt e' s a w L J':=
 ⟨_,h.mem.pick hp hc,h.size,h.defs,λt=>xx (hp.je h.mem.len) (he t) (h.env t)⟩
theorem Yu {n0:Nat} (hn:n0<=I.length) (aa:I.all (bT I.length)) (hz:z.all oo):
  gu n0 (List.range I.length++ [I.length+1,I.length]) (I++ [.box z,.box z]) (I++ [.box z,.box z]):=by
 have hb: ∀ρ,yE ρ (.box z)= .box z:=(by grind[yE,wE,BR])
 have hr: ∀i,i<I.length->cH (List.range I.length++ [I.length+1,I.length]) (I++ [Ob.box z,Ob.box z]).length i=i:=(by grind[wQ])
 refine⟨sm, ?_,λi j o hi ho=> ?_,λi hi=> ?_⟩
 .grind
 .by_cases h1:i<I.length
  .rw[Au (by grind),De h1]at hi
   cases hi
   rw[Au h1]at ho
   have h2:bT I.length o:=(by grind)
   grind[yW]
  .rw[Ar (by grind)]at hi
   grind
 grind
theorem Qx {Q:Exit->Act->World->Prop} {next:Act->World->Prop} {a:Act} {w:World} {L:Nat->Nat} {J:ahR} {d:Tmp} {t ty:TypeId} {pos:String} {dX:Array Edge}
  (hz:xY P t=some z) (hd:d<nt) (h:dP c nt e I a w L J) (hn: ∀a' w' L' J',dP c nt (fm e d (.ptr I.length 0)) (I++ [.box z]) a' w' L' J'->next a' w'):
  if Region.wanted (⟨some d,.alloc t,ty,pos,dX,none⟩:Oper) (yielded ops.toArray a.tmps)then(⟨some d,.alloc t,ty,pos,dX,none⟩:Oper).wp P a w next Q\/((⟨some d,.alloc t,ty,pos,dX,none⟩:Oper).asks P a w/\LetsOut Q)else next (a.put (some d) undef) w:=by
 refine I5 (ops:=ops) (Q:=Q) (next:=next) ⟨some d,.alloc t,ty,pos,dX,none⟩ (K:=λe' s'=>e'=fm e d (.ptr I.length 0)/\s'=I++ [.box z]) h ?_ ?_
 .have aa:xU P (some d) e I (.alloc t)= .st (.ptr I.length 0) (I++ [.box z]):=by
   have h1:ct P e I (.alloc t)= .st (.ptr I.length 0) (I++ [.box z]):=by grind[ct,qW]
   have h2:hZ P e I (.alloc t)=ct P e I (.alloc t):=rfl
   grind[xU]
  show lM nt (some d) (xU P (some d) e I (.alloc t)) _ e I
  rw[aa]
  trivial
 grind
theorem Yv {Q:Exit->Env->St->Prop} {cv:St} {p dA dB:Nat} {t tA tB:TypeId} {aD aE:String} {aA aB:Array Edge}
  (hn:n0.n<=cv.length) (bc:c.cv.length<=cv.length) (bd:c.β0.length=c.cv.length)
  (hA:ops[p]? =some ⟨some dA,.alloc t,tA,aD,aA,none⟩) (hB:ops[p+1]? =some ⟨some dB,.alloc t,tB,aE,aB,none⟩) (bf:dA≠dB)
  (b5:zZ q p ⟨some dA,.alloc t,tA,aD,aA,none⟩=3) (b6:zZ q (p+1) ⟨some dB,.alloc t,tB,aE,aB,none⟩=3) (hz:xY P t=some z) (bg:z.all oo)
  (az: ∀(k:Nat) o,k<p->ops[k]? =some o->zZ q k o<2/\dA∉oq ops o/\dB∉oq ops o/\o.dst≠some dA/\o.dst≠some dB)
  (aR: ∀(k:Nat) o,p+1<k->ops[k]? =some o->p∈(ga ops []).getD k []/\(p+1)∈(ga ops []).getD k [])
  (hd: ∀{i j:Nat} {x y:Oper},i<j->ops[i]? =some x->ops[j]? =some y->ue ops q i j x y=false\/(i∈(ga ops []).getD j []\/(i=p/\j=p+1))) (aI:rb ops)
  (bh:cv.all (bT cv.length)) (h0: ∀s,iL cv.length (e0 s)) (hv: ∀(k:Nat) v s,k<p->tr[k]? =some (v,s)->iL cv.length v)
  (ht:ot P c nt n0 ops q 0 ops e0 cv tr) (hQ:Q .normal (fE (λ_=>true) 0 ops tr e0) (fS (λ_=>true) q 0 ops tr cv)):
  ∀(fuel:Nat) (bM:Array Bool) (a:Act) (w:World) (L:Nat->Nat) (J:ahR),bM.size=ops.length->bM.toList.count false=fuel->
   (∀(j:Nat) o,ops[j]? =some o->bM.getD j false=true-> ∀e∈o.after.toList,Region.binds .any e=true->bM.getD e.on false=true)->
   ((bM.getD (p+1) false=true->bM.getD p false=true)/\dP c nt (fE (λi=>bM.getD i false) 0 ops tr e0) (fS (λi=>bM.getD i false) q 0 ops tr cv) a w L J\/
    (bM.getD (p+1) false=true/\bM.getD p false=false)/\dP c nt (fm (fE (λi=>bM.getD i false) 0 ops tr e0) dB (.ptr cv.length 0)) (cv++ [.box z]) a w L J)->
   wpAny P .any ops.toArray (fo c nt Q) fuel bM a w:=by
 obtain⟨b7,aJ⟩:=EV ops q ops tr 0 e0 cv ht
 have b8:p+1<ops.length:=(A3.1 hB).1
 have bj:fS (λj=>decide (j<p)) q 0 ops tr cv=cv:=yr _ q ops tr 0 cv λk o hk h3=>by
  rw[Ad]at h3⊢
  by_cases an:k<p
  .have:=(az k o an hk).1;omega
  .simp;omega
 have aS: ∀(e:Env) (I:St) (d:Tmp),xU P (some d) e I (.alloc t)= .st (.ptr I.length 0) (I++ [.box z]):=λe I d=>by
  have h1:ct P e I (.alloc t)= .st (.ptr I.length 0) (I++ [.box z]):=by simp only[ct,qW,hz]
  have h2:hZ P e I (.alloc t)=ct P e I (.alloc t):=rfl
  unfold xU
  rw[h2,h1];simp
 have fact: ∀{k d tt ps af E S v s'},Fact P c nt n0 ops q k ⟨some d,.alloc t,tt,ps,af,none⟩ E S v s'->v= .ptr S.length 0/\s'=S++ [.box z]/\d<nt:=by
  intro k d tt ps af E S v s' hf
  obtain⟨bk,_,_,_,g,hg,hb⟩:=hf
  simp only at hg
  subst hg
  simp only[aho]at hb
  obtain⟨_,_,_,hb⟩:=hb
  rw[aS]at hb
  rcases hb with ⟨hr,_⟩|⟨_,hr,_⟩|⟨_,hr|⟨_,hr,_⟩⟩
  .cases hr
  .cases hr
  .cases hr;exact⟨rfl,rfl,bk d rfl⟩
  .cases hr
 obtain⟨vA,sA,aF,aT⟩:=aJ p _ hA
 rw[Ad,bj]at aT
 obtain⟨rfl,rfl,bm⟩:=fact aT
 have bn:fS (λj=>decide (j<p+1)) q 0 ops tr cv=cv++ [.box z]:=
  EU _ q ops tr 0 p cv _ _ _ hA aF (by rw[Ad];omega) sm λk' o' aq _ _=>by simp;omega
 obtain⟨vB,sB,ar,aU⟩:=aJ (p+1) _ hB
 rw[Ad,bn]at aU
 obtain⟨rfl,rfl,bo⟩:=fact aU
 simp only[Ap,Br,Ce,List.singleton_append]at ar
 have fin: ∀(bM:Array Bool) (a:Act) (w:World) (L:Nat->Nat) (J:ahR),dP c nt (fE (λi=>bM.getD i false) 0 ops tr e0) (fS (λi=>bM.getD i false) q 0 ops tr cv) a w L J->
   (∀i,i<ops.length->bM.getD i false=true)->fo c nt Q .normal a w:=by
  intro bM a w L J hs ak
  have e1:fE (λi=>bM.getD i false) 0 ops tr e0=fE (λ_=>true) 0 ops tr e0:=by
   funext t
   exact pU _ _ t ops tr 0 e0 e0 rfl λk o hk _=>by rw[Ad];exact ak k (A3.1 hk).1
  have e2:fS (λi=>bM.getD i false) q 0 ops tr cv=fS (λ_=>true) q 0 ops tr cv:=
   sv _ _ q ops tr 0 cv λk o hk _=>by rw[Ad];exact ak k (A3.1 hk).1
  rw[e1,e2]at hs
  exact⟨_,_,L,J,hs,hQ⟩
 have au: ∀(bM:Array Bool),bM.size=ops.length->Region.ready .any ops.toArray bM= []-> ∀i,i<ops.length->bM.getD i false=true:=by
  intro bM ao hr i
  induction i using Nat.strongRecOn with
  |ind i ih=>
   intro hi
   cases a1:bM.getD i false with
   |true=>rfl
   |false=>
    exfalso
    have hm:i∈Region.ready .any ops.toArray bM:=by
     refine mem_ready.2 ⟨?_,ops[i],by simp[hi],λe he hb=> ?_⟩
     .have aa:i<bM.size:=om
      simpa[Array.getD,aa]using a1
     .unfold rb at aI
      simp only[Am,Co]at aI
      have:=aI i hi
      rw[A0 hi]at this
      simp only[Ci]at this
      have:=this e he
      simp only[hb,Bool.not_true,C6,ahl]at this
      exact ih e.on this om
    rw[hr]at hm
    cases hm
 intro fuel
 induction fuel with
 |zero=>
  intro bM a w L J ao aV av hs
  have ak: ∀i,i<ops.length->bM.getD i false:=by
   intro i hi
   have aa:i<bM.size:=om
   cases a1:bM[i]with
   |true=>simp[Array.getD,aa,a1]
   |false=>
    exfalso
    have:false∈bM.toList:=by
     rw[<-a1];simp
    have:=List.count_pos_iff.2 this
    omega
  rcases hs with ⟨_,hs⟩|⟨⟨_,hp⟩,_⟩
  .refine⟨?_,fin bM a w L J hs ak⟩
   cases hr:Region.ready .any ops.toArray bM with
   |nil=>rfl
   |cons i l=>
    exfalso
    have hm:i∈Region.ready .any ops.toArray bM:=by rw[hr];simp
    obtain⟨h1,o,ho,_⟩:=mem_ready.1 hm
    have hi:i<ops.length:=(A3.1 (sU ho)).1
    have:=ak i hi
    have aa:i<bM.size:=om
    simp[Array.getD,aa]at this h1
    rw[this]at h1
    cases h1
  .rw[ak p om]at hp;cases hp
 |succ fuel ih=>
  intro bM a w L J ao aV av hs
  refine⟨λhr=> ?_,λi hi=> ?_⟩
  .rcases hs with ⟨_,hs⟩|⟨⟨_,hp⟩,_⟩
   .exact fin bM a w L J hs (au bM ao hr)
   .rw[au bM ao hr p om]at hp;cases hp
  obtain⟨h1,o,ho,aK⟩:=mem_ready.1 hi
  have ab:ops[i]? =some o:=sU ho
  have b9:i<ops.length:=(A3.1 ab).1
  have aa:i<bM.size:=om
  have ai:bM.getD i false=false:=by
   simp[Array.getD,aa]at h1⊢;exact h1
  have ad: ∀k,k≠i->(bM.setIfInBounds i true).getD k false=bM.getD k false:=λk hk=>getD_set_ne false (λq=>hk q.symm)
  have a6:(bM.setIfInBounds i true).getD i false:=by simp[Array.getD,aa]
  have aG: ∀(j:Nat) o,ops[j]? =some o->(bM.setIfInBounds i true).getD j false=true-> ∀e∈o.after.toList,Region.binds .any e=true->(bM.setIfInBounds i true).getD e.on false=true:=by
   intro j o' hj aW e he hb
   by_cases aX:j=i
   .subst aX
    rw[ab]at hj
    cases hj
    exact getD_set_true (aK e (sU he) hb)
   .rw[ad j aX]at aW
    exact getD_set_true (av j o' hj aW e he hb)
  have ahead: ∀{k:Nat},k≠i->k∈(ga ops []).getD i []->bM.getD k false=true:=fun{k} hk hb=>by
   have:=BU (D:=λj=>(bM.setIfInBounds i true).getD j false) aG hb a6
   rwa [ad k hk]at this
  have mU: ∀{k:Nat},i∈(ga ops []).getD k []->bM.getD k false=false:=fun{k} hb=>by
   cases hk:bM.getD k false with
   |false=>rfl
   |true=>
    have:=BU (D:=λj=>bM.getD j false) av hb hk
    rw[ai]at this;cases this
  have a7:(bM.setIfInBounds i true).toList.count false=fuel:=by
   have:=P9 (l:=bM) (i:=i) (by
    rw[B2 aa]
    have:=ai
    simp[Array.getD,aa]at this
    rw[this])
   omega
  have next:=λa' w' L' J' h=>ih (bM.setIfInBounds i true) a' w' L' J' (sU ao) a7 aG h
  unfold wpOp
  rw[ho]
  show if Region.wanted o (yielded ops.toArray a.tmps)then o.wp P a w (wpAny P .any ops.toArray (fo c nt Q) fuel (bM.setIfInBounds i true)) (fo c nt Q)\/_ else _
  have only:bM.getD p false=false-> ∀k,p+1<k->bM.getD k false=false:=λhp k hk=>by
   cases hl:bM.getD k false with
   |false=>rfl
   |true=>
    have bp:k<ops.length:=by
     rcases Bx k ops.length with h|h
     .exact h
     .exfalso;simp[Array.getD,ao,Nat.not_lt.2 h]at hl
    have:=BU (D:=λj=>bM.getD j false) av (aR k _ hk (A0 bp)).1 hl
    rw[hp]at this;cases this
  have bq:(i≠p+1\/bM.getD p false=true)->(bM.getD (p+1) false=true->bM.getD p false=true)->dP c nt (fE (λi=>bM.getD i false) 0 ops tr e0) (fS (λi=>bM.getD i false) q 0 ops tr cv) a w L J->
    if Region.wanted o (yielded ops.toArray a.tmps)then o.wp P a w (wpAny P .any ops.toArray (fo c nt Q) fuel (bM.setIfInBounds i true)) (fo c nt Q)\/(o.asks P a w/\LetsOut (fo c nt Q))else wpAny P .any ops.toArray (fo c nt Q) fuel (bM.setIfInBounds i true) (a.put o.dst undef) w:=by
   intro ae hinv hs
   refine Yr hn ht (λi j=>i∈(ga ops []).getD j []\/(i=p/\j=p+1)) (λh1 h2 h3=>hd h1 h2 h3) ab ai aa ?_ ?_ ?_ hs λa' w' L' J' aj=>next a' w' L' J' (.inl ⟨?_,aj⟩)
   .rintro k hk (hb|⟨rfl,rfl⟩)
    .exact ahead hk hb
    .rcases ae with h|h
     .exact absurd rfl h
     .exact h
   .rintro k (hb|⟨rfl,rfl⟩)
    .exact mU hb
    .cases hl:bM.getD (i+1) false with
     |false=>rfl
     |true=>rw[hinv hl]at ai;cases ai
   .rintro k j (hb|⟨rfl,rfl⟩) hj
    .exact BU (D:=λj=>bM.getD j false) av hb hj
    .exact hinv hj
   .intro h
    by_cases aw:i=p
    .subst aw;exact a6
    .rw[ad p (λq=>aw q.symm)]
     by_cases aH:i=p+1
     .rcases ae with h'|h'
      .exact absurd aH h'
      .exact h'
     .rw[ad (p+1) (λq=>aH q.symm)]at h
      exact hinv h
  rcases hs with ⟨hinv,hs⟩|⟨⟨a8,aC⟩,hs⟩
  .by_cases ae:i=p+1/\bM.getD p false=false
   ·
    obtain⟨rfl,hp⟩:=ae
    rw[hB]at ab;cases ab
    have aY:fS (λi=>bM.getD i false) q 0 ops tr cv=cv:=yr _ q ops tr 0 cv λk o hk h3=>by
     rw[Ad]at h3⊢
     rcases Ba k p with an|rfl|an
     .have:=(az k o an hk).1;omega
     .exact hp
     .by_cases ax:k=p+1
      .subst ax;exact ai
      .exact only hp k om
    rw[aY]at hs
    refine Qx (ops:=ops) (Q:=fo c nt Q) (next:=wpAny P .any ops.toArray (fo c nt Q) fuel (bM.setIfInBounds (p+1) true)) hz bo hs λa' w' L' J' aj=>next a' w' L' J' (.inr ⟨⟨a6,by rw[ad p om];exact hp⟩, ?_⟩)
    have:fm (fE (λi=>(bM.setIfInBounds (p+1) true).getD i false) 0 ops tr e0) dB (.ptr cv.length 0)=fm (fE (λi=>bM.getD i false) 0 ops tr e0) dB (.ptr cv.length 0):=by
     funext s
     simp only[fm]
     split
     .rfl
     .rename_i br
      refine pU _ _ s ops tr 0 e0 e0 rfl λk o hk ay=> ?_
      rw[Ad]
      refine ad k λe=> ?_
      subst e
      rw[hB]at hk;cases hk
      exact br (ahu ay).symm
    grind
   .exact bq (by
     by_cases h:i=p+1
     .right
      cases hl:bM.getD p false with
      |true=>rfl
      |false=>exact absurd ⟨h,hl⟩ ae
     .exact .inl h) hinv hs
  ·
   by_cases aw:i=p
   .subst aw
    rw[hA]at ab;cases ab
    refine Qx (ops:=ops) (Q:=fo c nt Q) (next:=wpAny P .any ops.toArray (fo c nt Q) fuel (bM.setIfInBounds i true)) hz bm hs λa' w' L' J' aj=> ?_
    have hlen:(cv++ [Ob.box z]).length=cv.length+1:=sm
    rw[hlen,Ce,List.singleton_append]at aj
    have aL: ∀k,i+1<k->(bM.setIfInBounds i true).getD k false=false:=λk hk=>by rw[ad k om];exact only aC k hk
    have bA:fS (λk=>(bM.setIfInBounds i true).getD k false) q 0 ops tr cv=cv++ [.box z,.box z]:=
     EU _ q ops tr 0 (i+1) cv _ _ _ hB ar (by rw[Ad];omega) (by rw[Ad,ad (i+1) om];exact a8) λk' o' aq _ _=>by rw[Ad];exact aL k' aq
    have bt:fE (λk=>(bM.setIfInBounds i true).getD k false) 0 ops tr e0 dA= .ptr cv.length 0:=
     BT _ dA ops tr 0 i e0 _ _ _ hA aF rfl (by rw[Ad];exact a6) λk' o' aq aP aZ=>by
      rw[Ad]
      by_cases ax:k'=i+1
      .subst ax
       rw[hB]at aP;cases aP
       exact absurd (ahu aZ).symm bf
      .exact aL k' om
    have bu:fE (λk=>(bM.setIfInBounds i true).getD k false) 0 ops tr e0 dB= .ptr (cv.length+1) 0:=
     BT _ dB ops tr 0 (i+1) e0 _ _ _ hB ar rfl (by rw[Ad,ad (i+1) om];exact a8) λk' o' aq aP aZ=>by
      rw[Ad];exact aL k' aq
    have bw: ∀s,s≠dA->s≠dB->fE (λk=>(bM.setIfInBounds i true).getD k false) 0 ops tr e0 s=fE (λk=>bM.getD k false) 0 ops tr e0 s/\iL cv.length (fE (λk=>bM.getD k false) 0 ops tr e0 s)=true:=by
     intro s bx bz
     refine⟨pU _ _ s ops tr 0 e0 e0 rfl λk o hk ay=> ?_, ?_⟩
     .rw[Ad]
      refine ad k λe=> ?_
      subst e
      rw[hA]at hk;cases hk
      exact bx (ahu ay).symm
     .have e1:fE (λk=>bM.getD k false) 0 ops tr e0 s=fE (λk=>decide (k<i)&&bM.getD k false) 0 ops tr e0 s:=by
       refine pU _ _ s ops tr 0 e0 e0 rfl λk o hk ay=> ?_
       rw[Ad]
       rcases Ba k i with h|rfl|h
       .simp[h]
       .rw[ai];simp
       .by_cases ax:k=i+1
        .subst ax
         rw[hB]at hk;cases hk
         exact absurd (ahu ay).symm bz
        .rw[only aC k om];simp
      rw[e1]
      refine Qw _ ops tr 0 e0 h0 (λk v s hk hD=> ?_) s
      rw[Ad]at hD
      simp only[Ab,ahl]at hD
      exact hv k v s hD.1 hk
    have aQ:=Yu (n0:=c.cv.length) bc bh bg
    have hr: ∀k,k<cv.length->cH (List.range cv.length++ [cv.length+1,cv.length]) (cv++ [Ob.box z,Ob.box z]).length k=k:=λk hk=>by
     rw[wQ (by simp;omega),List.getElem_append_left (sU hk)];simp
    obtain⟨J2,bB⟩:=aj.pick (e':=fE (λk=>(bM.setIfInBounds i true).getD k false) 0 ops tr e0) aQ bd λs=>by
     by_cases h1:s=dA
     .subst h1
      rw[bt]
      refine .inl ?_
      simp only[fm,aho,dF,dK,de,di]
      rw[wQ sm,List.getElem_append_right sm]
      simp
     .by_cases h2:s=dB
      .subst h2
       rw[bu]
       refine .inl ?_
       simp only[fm,ahf h1,aho,dF,dK,de,di]
       rw[wQ sm,List.getElem_append_right sm]
       simp
      .obtain⟨q1,q2⟩:=bw s h1 h2
       rw[q1]
       simp only[fm,ahf h1,ahf h2]
       exact .inl (LL hr q2).symm
    grind
   ·
    have bC:i≠p+1:=λe=>by subst e;rw[a8]at ai;cases ai
    have ba:i<p:=by
     rcases Ba i p with h|h|h
     .exact h
     .exact absurd h aw
     .exfalso
      have:=ahead (k:=p) om (aR i o om ab).1
      rw[aC]at this;cases this
    obtain⟨bD,bE,b0,bF,b1⟩:=az i o ba ab
    have sp: ∀{i j:Nat} {x y:Oper},i<j->ops[i]? =some x->ops[j]? =some y->ue ops q i j x y=false\/(i∈(ga ops []).getD j []\/(i=p/\j=p+1)):=λh1 h2 h3=>hd h1 h2 h3
    have ah: ∀{k:Nat},k≠i->(k∈(ga ops []).getD i []\/(k=p/\i=p+1))->bM.getD k false=true:=by
     rintro k hk (hb|⟨_,h⟩)
     .exact ahead hk hb
     .omega
    have be: ∀{k:Nat},(i∈(ga ops []).getD k []\/(i=p/\k=p+1))->bM.getD k false=false:=by
     rintro k (hb|⟨h,_⟩)
     .exact mU hb
     .omega
    have bb:=Ys (e0:=e0) (tr:=tr) (λi j=>i∈(ga ops []).getD j []\/(i=p/\j=p+1)) sp ab ai ah be
    obtain⟨v,I',b2,al⟩:=aJ i o ab
    rw[Ad]at al
    have b3:fS (λj=>decide (j<i)) q 0 ops tr cv=cv:=yr _ q ops tr 0 cv λk o hk h3=>by
     rw[Ad]at h3⊢
     by_cases an:k<p
     .have:=(az k o an hk).1;omega
     .simp;omega
    rw[b3]at al
    refine I5 (ops:=ops) (Q:=fo c nt Q) (next:=wpAny P .any ops.toArray (fo c nt Q) fuel (bM.setIfInBounds i true)) o hs (al.step (λs aj=> ?_) (λh=>om) λ_=> ?_) ?_
    .simp only[fm]
     split
     .rename_i h;subst h;exact absurd aj b0
     .exact bb s aj
    .rw[Kp.lC hn]
    .rintro e' s' a' w' L' J' aj ⟨rfl,rfl⟩
     rw[ahf om]at aj
     refine next a' w' L' J' (.inr ⟨⟨by rw[ad (p+1) om];exact a8,by rw[ad p om];exact aC⟩, ?_⟩)
     have b4:=Yt (e0:=e0) (λi j=>i∈(ga ops []).getD j []\/(i=p/\j=p+1)) sp ab b2 aa be
     have:fQ (fm (fE (λi=>bM.getD i false) 0 ops tr e0) dB (.ptr cv.length 0)) o.dst v=fm (fE (λk=>(bM.setIfInBounds i true).getD k false) 0 ops tr e0) dB (.ptr cv.length 0):=by
      rw[<-b4]
      funext s
      by_cases h2:s=dB
      .subst h2
       rw[yq _ _ _ _ b1]
       simp[fm]
      .by_cases h3:o.dst=some s
       .rw[yp _ _ _ _ h3]
        simp only[fm,ahf h2]
        rw[yp _ _ _ _ h3]
       .rw[yq _ _ _ _ h3]
        simp only[fm,ahf h2]
        rw[yq _ _ _ _ h3]
     grind
theorem Qy (D:Nat->Bool): ∀(ad aa:List Oper) (ae ab:List (V×St)) (i:Nat) (e:Env),ae.length=ad.length->fE D i (ad++aa) (ae++ab) e=fE D (i+ad.length) aa ab (fE D i ad ae e)
 | [],aa,[],ab,i,e,_=>by rfl
 | [],_,_::_,_,_,_,h=>by grind
 |_::_,_,[],_,_,_,h=>by grind
 |o::os,aa,(v,s)::tr,ab,i,e,h=>by
  simp only[Bm,fE,Ak]
  rw[Qy D os aa tr ab (i+1) _ (sU h),show i+1+os.length=i+(os.length+1) by omega]
theorem Qz (D:Nat->Bool) (q:List (Nat×Nat)): ∀(ad aa:List Oper) (ae ab:List (V×St)) (i:Nat) (I:St),ae.length=ad.length->fS D q i (ad++aa) (ae++ab) I=fS D q (i+ad.length) aa ab (fS D q i ad ae I)
 | [],aa,[],ab,i,e,_=>by rfl
 | [],_,_::_,_,_,_,h=>by grind
 |_::_,_,[],_,_,_,h=>by grind
 |o::os,aa,(v,s)::tr,ab,i,e,h=>by
  simp only[Bm,fS,Ak]
  rw[Qz D q os aa tr ab (i+1) _ (sU h),show i+1+os.length=i+(os.length+1) by omega]
theorem QA {ops:List Oper} {q:List (Nat×Nat)}: ∀(aa ab:List Oper) (ae ad:List (V×St)) (i:Nat) (e:Env) (I:St),ot P c nt n0 ops q i aa e I ae->
  ot P c nt n0 ops q (i+aa.length) ab (fE (λ_=>true) i aa ae e) (fS (λ_=>true) q i aa ae I) ad->ot P c nt n0 ops q i (aa++ab) e I (ae++ad)
 | [],ab,[],ad,i,e,I,_,h=>by simpa
 | [],_,_::_,_,_,_,_,h,_=>h.elim
 |_::_,_,[],_,_,_,_,h,_=>h.elim
 |o::os,ab,(v,s)::tr,ad,i,e,I,h1,h2=>by
  refine⟨h1.1,QA os ab tr ad (i+1) _ _ h1.2 ?_⟩
  rw[fE,fS,ahg rfl]at h2
  have:(if((λ_=>true) i&&decide (3<=zZ q i o))=true then s else I)=s:=by
   by_cases h3:3<=zZ q i o
   .grind
   .rw[ahf (by grind)];exact(h1.1.2.1 om).symm
  grind
def two (P:Program) (ops:List Oper) (q:List (Nat×Nat)) (p:Nat):Bool:=
 match ops[p]?,ops[p+1]? with
 |some ⟨some dA,.alloc t,tA,Mn,aA,none⟩,some ⟨some dB,.alloc t',tB,Mo,aB,none⟩=>
  Nat.beq t t'&& !Nat.beq dA dB&&Nat.beq (zZ q p ⟨some dA,.alloc t,tA,Mn,aA,none⟩) 3&&Nat.beq (zZ q (p+1) ⟨some dB,.alloc t',tB,Mo,aB,none⟩) 3&&
  (match xY P t with|some z=>z.all oo|none=>false)&&
  ((List.range ops.length).all λk=>match ops[k]? with
   |some o=>if k<p then decide (zZ q k o<2)&& !(oq ops o).contains dA&& !(oq ops o).contains dB&&(match o.dst with|some d=> !Nat.beq d dA&& !Nat.beq d dB|none=>false)
    else if p+1<k then((ga ops []).getD k []).contains p&&((ga ops []).getD k []).contains (p+1)else true
   |none=>true)&&
  ((List.range ops.length).all λj=>(List.range j).all λi=>match ops[i]?,ops[j]? with
   |some x,some y=>(!ue ops q i j x y||((ga ops []).getD j []).contains i||(Nat.beq i p&&Nat.beq j (p+1)))&&(!Nat.blt j p||(match x.dst,y.dst with|some d,some d'=> !Nat.beq d d'|_,_=>true))
   |_,_=>true)
 |_,_=>false
theorem VW.GL {id:Nat} {Q:Exit->Env->St->Prop} (p:Nat) (hm:P.follows .mixedOrders) (hn:n0.n<=I.length) (hc:c.cv.length<=I.length) (ao:c.β0.length=c.cv.length)
  (h2:two P ops q p) (aq:rb ops) (ar:I.all (bT I.length)) (h0: ∀s,iL I.length (e s))
  (h:rh P c nt n0 ops q 0 (ops.take p) (λe' I'=>(∀s,iL I.length (e' s)=true)/\rh P c nt n0 ops q p (ops.drop p) (Q .normal) e' I') e I):VW P c nt (.region id ops.toArray true) Q e I:=by
 obtain⟨aa,ai,aK,h⟩:=BV _ _ _ _ _ h
 obtain⟨ab,au,hK⟩:=BV _ _ _ _ _ h
 unfold two at h2
 split at h2
 case h_2=>cases h2
 rename_i dA t tA aH aA dB t' tB aI aB hA hB
 simp only[Ab,Nat.beq_eq,Dc,Am,Co]at h2
 obtain⟨⟨⟨⟨⟨⟨av,aw⟩,ax⟩,ay⟩,hz⟩,hk⟩,hd⟩:=h2
 subst av
 have aL:p+1<ops.length:=(A3.1 hB).1
 have ae:(ops.take p).length=p:=by simp;omega
 obtain⟨af,aJ⟩:=EV ops q _ _ _ _ _ ai
 have ht:=QA (ops.take p) (ops.drop p) aa ab 0 e I ai (by rw[ae,Ad];exact au)
 have hE:=Qy (λ_=>true) (ops.take p) (ops.drop p) aa ab 0 e af
 have hS:=Qz (λ_=>true) q (ops.take p) (ops.drop p) aa ab 0 I af
 rw[ae,Ad]at hE hS
 rw[B6]at ht hE hS
 rw[<-hE,<-hS]at hK
 obtain⟨z,az,a6⟩: ∃z,xY P t=some z/\z.all oo=true:=by
  split at hz
  .exact⟨_,by assumption,hz⟩
  .cases hz
 have aj:dA≠dB:=λq=>by subst q;simp at aw
 have ak: ∀(k:Nat) o,k<p->ops[k]? =some o->(zZ q k o<2/\dA∉oq ops o/\dB∉oq ops o/\o.dst≠some dA/\o.dst≠some dB)/\ ∃d,o.dst=some d:=by
  intro k o ad ho
  have:=hk k om
  rw[ho]at this
  simp only[ahg ad,Ab,ahl,Dc]at this
  obtain⟨⟨⟨a1,a2⟩,a3⟩,a4⟩:=this
  cases hd:o.dst with
  |none=>rw[hd]at a4;cases a4
  |some d=>
   rw[hd]at a4
   simp only[Ab,Dc]at a4
   refine⟨⟨a1,by simpa using a2,by simpa using a3,λq=> ?_,λq=> ?_⟩,d,rfl⟩
   all_goals simp_all
 refine λa w L J hs=> ?_
 refine wp_region_any hm ?_
 have hg: ∀j,(Array.replicate ops.toArray.size false).getD j false=false:=λj=>by
  simp[Array.getD]
 have e1:fE (λi=>(Array.replicate ops.toArray.size false).getD i false) 0 ops (aa++ab) e=e:=by
  funext t
  exact I4 _ t ops (aa++ab) 0 e λk o _ _=>hg _
 have e2:fS (λi=>(Array.replicate ops.toArray.size false).getD i false) q 0 ops (aa++ab) I=I:=yr _ q ops (aa++ab) 0 I λk o _ _=>hg _
 refine Yv hn hc ao hA hB aj ax ay az a6 (λk o a b=>(ak k o a b).1) (λk o a7 ho=> ?_) (fun{i j x y} a8 hx hy=> ?_) aq ar h0 (λk v s ad hv=> ?_) ht hK _ _ a w.drew L J sm sm (λj o _ hj=>by rw[hg]at hj;cases hj) (.inl ⟨λh=>(by rw[hg]at h;cases h), ?_⟩)
 .have:=hk k (A3.1 ho).1
  rw[ho]at this
  simp only[ahf (show ¬k<p by omega),ahg a7,Ab]at this
  exact⟨by simpa using this.1,by simpa using this.2⟩
 .have:=hd j (A3.1 hy).1 i a8
  rw[hx,hy]at this
  simp only[Ab,C9,Dc,Nat.beq_eq]at this
  grind
 .obtain⟨o,ho⟩: ∃o,ops[k]? =some o:=⟨ops[k],by simp[A0 (show k<ops.length by omega)]⟩
  obtain⟨_,d,al⟩:=ak k o ad ho
  have aC:aa[k]? =some (v,s):=by
   rw[Au (by rw[af,ae];exact ad)]at hv
   exact hv
  have aD:(ops.take p)[k]? =some o:=by rw[List.getElem?_take_of_lt ad];exact ho
  have:=BT (λ_=>true) d (ops.take p) aa 0 k e o v s aD aC al rfl λk' o' aE ah aF=>by
   exfalso
   have an:k'<p:=by rw[<-ae];exact(A3.1 ah).1
   rw[List.getElem?_take_of_lt an]at ah
   have:=hd k' om k aE
   rw[ho,ah]at this
   simp only[Ab]at this
   have:=this.2
   rw[al,aF]at this
   simp at this
   rw[<-Bool.not_eq_true,Nat.blt_eq]at this
   omega
  grind
 .rw[e1,e2]
  obtain⟨aG,hle⟩:=hs.mem.drew
  exact⟨aG,hs.size,hs.defs,λt=>(hs.env t).mono hle (Ext.refl _ _)⟩
def sF (n:Nat) (e:Env):Prop:= ∀s,iL n (e s)=true
theorem sF.fm {n:Nat} {d:Tmp} {v:V} (he:sF n e) (hv:iL n v):sF n (fm e d v):=λs=>by
 simp only[Vx.fm]
 split
 .exact hv
 .exact he s
theorem Yw {id:Nat} {Q:QT} {l1 l2:List Oper} (q:List (Nat×Nat)) (n0 p:Nat) (hn:n0<=I.length) (hm:P.follows .mixedOrders) (hc:c.cv.length<=I.length) (aa:c.β0.length=c.cv.length)
  (h2:(two P ops q p&&rb ops)) (ab:I.all (bT I.length)) (h0:sF I.length e)
  (h1:ops.take p=l1) (h3:ops.drop p=l2)
  (h:ri P c nt (Kp.pre n0) ops q 0 l1 (λe' I'=>sF I.length e'/\ri P c nt (Kp.pre n0) ops q p l2 (Q .normal) fx fx fx e' I') fx fx fx e I):gx P c nt (.region id ops.toArray true) Q fx fx e I:=by
 subst h1;subst h3
 simp only[Ab]at h2
 exact VW.GL (n0:=Kp.pre n0) p hm hn hc aa h2.1 h2.2 ab h0 h
theorem Kp.ox {k:Kp} {id:Nat} (h:k.out id):(id<k.x/\k.ob=none)\/k.n<=id:=by simp_all[Kp.out]
def QB (n0:Kp):V->Bool
 | .sl .full _=>true
 | .sl (.app id) _=>n0.out id
 | .cJ id _ _ _ _=>n0.out id
 |_=>false
attribute [go_sem] QB
@[go_sem] theorem vH {K:KT} {d:Option Tmp} {x y:Operand} {t1 t2:TypeId} (h:QB n0 (zG e x)):eJ P c nt n0 3 d (.call ⟨.builtin .append, #[x,y], #[t1,t2]⟩) K fx fx e I=eG P c nt d (.call ⟨.builtin .append, #[x,y], #[t1,t2]⟩) K fx fx e I:=by
 show fK P c nt n0 3 d (.call ⟨.builtin .append, #[x,y], #[t1,t2]⟩) K e I=jo P c nt d (.call ⟨.builtin .append, #[x,y], #[t1,t2]⟩) K e I
 have h1:yv (xU P d e I (.call ⟨.builtin .append, #[x,y], #[t1,t2]⟩))=false:=by
  unfold xU
  split
  all_goals simp[Qb,vC]
 have hA: ∀(el:Option (Nat×Nat)) (k2:Nat) (y:V),jy n0 3 I (rS el k2 I (zG e x) y):=λel k2 y=>by
  unfold rS
  split
  .split
   .exact⟨sm,λ_=> .inl ⟨_,rfl⟩⟩
   .rename_i hx
    rw[hx]at h
    have h:=Kp.ox (k:=n0) h
    split<;>first|trivial|exact⟨sm,λ_=> .inr (Kp.iN h)⟩
   .rename_i hx
    rw[hx]at h
    have h:=Kp.ox (k:=n0) h
    (repeat' split)<;>first|trivial|exact⟨sm,λ_=> .inr (Kp.iN h)⟩
   trivial
  trivial
 have hL: ∀(el:Option (Nat×Nat)) (k2:Nat) (y:V),jy n0 3 I (rT el k2 I (zG e x) y):=λel k2 y=>by
  unfold rT
  split
  .rename_i hx
   rw[hx]at h
   have h:=Kp.ox (k:=n0) h
   (repeat' split)<;>first|trivial|exact⟨sm,λ_=> .inr (Kp.iN h)⟩
  ·(repeat' split)<;>first|trivial|exact⟨sm,λ_=> .inl ⟨_,rfl⟩⟩
 have h2:jy n0 3 I (xU P d e I (.call ⟨.builtin .append, #[x,y], #[t1,t2]⟩)):=by
  unfold xU
  split
  .exact hL (eE P t1) (dI P t2) (zG e y)
  .exact hA (eE P t1) (dI P t2) (zG e y)
 grind[fK,jo]
theorem sF.n9 {n:Nat}:sF n n9:=λ_=>rfl
end
variable {n:Nat}{P:Program}{τ:St}{c:Ctx}{I:St}{o:Ob}{f:FuncId}{k:Nat}{I':St}{m:Nat}{ρ:Nat->Nat}{za:Nat->Nat}{bY:List V}{cc:List V}{KV:V->St->Prop}
theorem Yx (t s:Nat) (rows:List (List V)) {nt:Nat} {e:Env} {Q:QT} {y:Code} (h0:0<s) (hu:eI s rows) (ht:e t= .sl .full rows) (hy:gx P c nt y Q fx fx (fm e t (.sl (.app I.length) rows)) (I++ [.app rows.length s])):gx P c nt y Q fx fx e I:=by
 intro a w L J hs
 have hr:=hs.env t
 rw[ht]at hr
 have hr:cF w L (.sl .full rows) (a.tmps.getD t undef):=hr
 obtain⟨ad,hx,ab⟩: ∃ad,a.tmps.getD t undef= .slice ad rows.length rows.length/\cF w L (.sl .ro rows) (.slice ad rows.length rows.length):=by
  generalize a.tmps.getD t undef=x at hr
  cases hr with
  |jb g ad cap hg ha=>have:=hg rfl;subst this;exact⟨ad,rfl,.jb .ro ad 0 om sm⟩
  |sl g rows s b o cap c ha hs hlen fq dg hg hc hr=>have:=hg rfl;subst this;exact⟨_,rfl,.sl .ro rows s b o _ c sm hs hlen fq dg om hc hr⟩
 have aa:=Ext.push I J hs.mem.len (.app rows.length s) (.slice ad rows.length rows.length)
 refine hy a w L (J++ [.slice ad rows.length rows.length]) ⟨hs.mem.own h0,hs.size,hs.defs,λk=> ?_⟩
 simp only[fm]
 split
 .rename_i hk
  subst hk
  rw[hx]
  exact⟨ab,rows.length,s,sm,om,λ_=>by rw[<-hs.mem.len];simp,hu⟩
 .exact(hs.env k).mono (Le.refl _ _) aa
theorem Yy (i j:Nat) {p:Ob} {args:List V} {R:V->St->Prop} (hc:bN P f cc [o,p] R) (hb:xF P f) (ae:i≠j) (ho:I[i]? =some o) (hp:I[j]? =some p) (cN:bT 0 o) (ad:bT 0 p)
  (aa:bP (cP (cH [i,j] I.length)) cc (args++bY)) (hR: ∀r s,R r s-> ∃o2 p2,s= [o2,p2]/\bT 0 o2=true/\bT 0 p2) (hK: ∀r o2 p2,R r [o2,p2]->KV (dF (cH [i,j] I.length) r) ((I.set i o2).set j p2)):iZ P c (.fn f bY) args I KV fx:=by
 have ab: ∀q:Ob,bT 0 q=true->yE (cH [i,j] I.length) q=q:=λq h=>yW (n:=0) om h
 refine VC.of hc hb [i,j] (by grind) rfl (λk l q h1 h2=> ?_) aa λr s h _=> ?_
 .match k with
  |0=>simp at h1 h2;subst h1;subst h2;rw[ab _ cN];exact ho
  |1=>simp at h1 h2;subst h1;subst h2;rw[ab _ ad];exact hp
  |k+2=>simp at h1
 .obtain⟨o2,p2,rfl,h1,h2⟩:=hR r s h
  grind[xB,fO]
theorem Mq (pick:ahQ) {n0:Nat} {R:V->St->Prop} {s:St} {v r:V} (aa:pick.Nodup) (hn: ∀i,i<n0->pick[i]? =some i) (hlen:s.length=pick.length) (ab: ∀(i j:Nat) (o:Ob),pick[i]? =some j->s[i]? =some o->I[j]? =some (yE (cH pick I.length) o)) (hr:cP (cH pick I.length) r v) (hR:R r s):cw (some v) n0 R I:=
 ⟨v,rfl,v,I,pick,s,r,.refl _ _,⟨hlen,aa,ab,hn⟩,hr,hR⟩
theorem bN.Iy {args:List V} {v:V} {R:V->St->Prop} (h:bN P f args [] R) (hR: ∀r s,R r s-> ∃r' s',nG [r] s [r'] s'/\cP (cH [] s'.length) v r'):Pure P f args v:=by
 intro w L J aa hm ha
 refine(h w L J aa hm ha).mono ?_
 rintro e w' ⟨x,r,L',I',J',he,hr,hl,ad,ae⟩
 obtain⟨r',s',hf,hv⟩:=hR r I' hr
 obtain⟨L2,J2,ab,aj,af,ah⟩:=hf.ok ad (show bP (dt w' L' I' J') [r] [x] from⟨ae,tV⟩)
 have db:J.length=([]:St).length:=hm.len
 have hp:gu (entry w L [] J).cv.length [] s' []:=⟨rfl,C1,sm,λi q=>(by trivial)⟩
 have ai:=ab.pick hp db
 refine⟨x,v,L2,[],[],he,sm,om,ai, ?_⟩
 exact xx (hp.je ab.len) hv ah.1
structure kA (k:Nat) (τ s I':St) (pick:ahQ):Prop where
 po:gu 0 pick I' (s++τ)
 first: ∀i,i<k->pick[i]? =some i
 rest: ∀i,i<τ.length->pick[s.length+i]? =some (k+i)
theorem kA.GM {s:St} {pick:ahQ} (h:kA k τ s I' pick) {M i:Nat} (hi:i<k):cH pick M i=i:=by
 have h1:=h.first i hi
 obtain⟨hl,e⟩:=A3.1 h1
 simp_all[cH]
theorem kA.GN {s:St} {pick:ahQ} (h:kA k τ s I' pick) {M i:Nat} (hi:i<τ.length):cH pick M (s.length+i)=k+i:=by
 have h1:=h.rest i hi
 obtain⟨hl,e⟩:=A3.1 h1
 simp_all[cH]
theorem Yz (h:n<=m) {v:V} (hv:cL n v):cL m v=true:=by
 cases v with
 |sl g rows=>cases g<;>simp_all[cL]<;>omega
 |_=>simp_all[cL]<;>omega
theorem Mr (h:n<=m) {v:V} (hv:cQ n v):cQ m v=true:=by
 cases v<;>grind[cQ,Yz]
theorem QC (h:n<=m) {v:V} (hv:jq n v):jq m v=true:=by
 cases v<;>grind[jq,Mr]
theorem Jo (h:n<=m) (ho:bT n o):bT m o=true:=by
 cases o with
 |box cells=>grind[bT,Mr]
 |cj rows s=>grind[bT,Mr]
 |mp dJ fW cS=>grind[bT,QC]
 |it m' since seen last=>cases m' with
  |none=>rfl
  |some i=>simp_all[bT];omega
 |_=>rfl
theorem Ms {v:V} (h: ∀i,i<n->ρ i=za i) (hv:cL n v):di ρ v=di za v:=by
 cases v with
 |sl g rows=>cases g<;>simp_all[di,cL]
 |_=>simp_all[di,cL]
theorem Jp {v:V} (h: ∀i,i<n->ρ i=za i) (hv:cQ n v):de ρ v=de za v:=by
 cases v with
 |fn f bY=>
  simp only[cQ,Am]at hv
  simp only[de]
  congr 1
  grind[B8,Ms]
 |gJ t v=>
  simp only[cQ,Am]at hv
  simp only[de]
  congr 1
  grind[B8,Ms]
 |_=>simp only[de];exact(by grind[Ms,cQ])
theorem YA {v:V} (h: ∀i,i<n->ρ i=za i) (hv:jq n v):dK ρ v=dK za v:=by
 cases v with
 |agg cs=>
  simp only[jq,Am]at hv
  simp only[dK]
  congr 1
  grind[B8,Jp]
 |_=>simp only[dK];exact(by grind[Jp,jq])
theorem QD (h: ∀i,i<n->ρ i=za i) (ho:bT n o):yE ρ o=yE za o:=by
 cases o with
 |box cells=>
  simp only[bT,Am]at ho
  simp only[yE]
  congr 1
  grind[B8,Jp]
 |cj rows s=>
  simp only[bT,Am]at ho
  simp only[yE]
  congr 1
  grind[B8,Jp]
 |mp dJ fW cS=>
  simp only[bT,Am]at ho
  simp only[yE]
  congr 1
  grind[B8,YA]
 |it m since seen last=>
  cases m with
  |none=>rfl
  |some i=>simp_all[bT,yE]
 |_=>rfl
theorem Jq {args:List V} {fb:St} {R:V->St->Prop} (hc:bN P f cc fb R) (hb:xF P f) (aq:fb.all (bT fb.length)) (hτ:τ.all (bT 0))
  (aj:bP (cP (cH (List.range fb.length) (fb.length+τ.length))) cc (args++bY))
  (hR: ∀r s,R r s->gA r=true/\s.all (bT s.length))
  (hk: ∀r s,R r s->fb.length<=s.length-> ∀I' pick,kA fb.length τ s I' pick->KV r I'):iZ P c (.fn f bY) args (fb++τ) KV fx:=by
 have ar:(fb++τ).length=fb.length+τ.length:=Ap
 refine VC.of hc hb (List.range fb.length) Bc sm (λi j o h1 h2=> ?_) (by grind) λr s hr hl=> ?_
 .obtain⟨h3,h4⟩:=A3.1 h1
  simp at h3 h4
  subst h4
  rw[Au h3,h2]
  have ho:bT fb.length o:=by
   grind
  grind[yW,pS]
 .obtain⟨ak,hs⟩:=hR r s hr
  rw[yk ak]
  rw[List.length_range]at hl
  obtain⟨k,ah⟩:=eX fb.length
  rw[ah]at hl hk⊢
  obtain⟨I',ab⟩: ∃I',xB (List.range k) (fb++τ) s=I':=⟨_,rfl⟩
  rw[ab]
  have al:(fb++τ).length=k+τ.length:=om
  have ao:I'.length=s.length+τ.length:=by
   grind[E7]
  have hold: ∀i o,s[i]? =some o->I'[if i<k then i else i+τ.length]? =some (yE (cH (List.range k) (k+τ.length)) o):=λi o ho=>by
   have:=AR (cZ:=List.range k) (Ic:=fb++τ) (I':=s) Bc (λq hq=>by have:=Co.1 hq;omega) (sU hl) ho
   rw[ab,al]at this
   by_cases hi:i<k
   .simp_all[pS]
   .rw[ahf hi]
    grind[pM]
  have ad: ∀i,i<τ.length->I'[k+i]? =τ[i]? :=λi hi=>by
   rw[<-ab]
   unfold xB
   rw[Au (by grind[mQ]),rZ _ _ _ _ sm,Ar om,ah]
   simp
  refine hk r s hr hl I' (List.range k++(List.range (s.length - k)).map (k+τ.length+ ·)++(List.range τ.length).map (k+ ·)) ?_
  obtain⟨pick,hp⟩:=eX (List.range k++(List.range (s.length - k)).map (k+τ.length+ ·)++(List.range τ.length).map (k+ ·))
  rw[hp]
  have au:pick.length=s.length+τ.length:=by grind
  have an: ∀i,i<k->pick[i]? =some i:=(by grind)
  have av: ∀i,k<=i->i<s.length->pick[i]? =some (i+τ.length):=λi h1 h2=>by
   rw[<-hp,Au (by grind),Ar (by grind),List.length_range,B3,De om,Bf]
   congr 1;omega
  have ai: ∀i,i<τ.length->pick[s.length+i]? =some (k+i):=λi hi=>by
   rw[<-hp,Ar (by grind)]
   simp only[Ap,List.length_range,Ag]
   grind
  have iM: ∀i,i<s.length->cH pick I'.length i=cH (List.range k) (k+τ.length) i:=λi hi=>by
   have ae:i<pick.length:=om
   unfold cH
   grind
  refine⟨⟨by grind, ?_,λi j o aa ho=> ?_,om⟩,an,ai⟩
  .rw[<-hp]
   refine Cp.2 ⟨Cp.2 ⟨Bc, ?_,λa ha b hb=> ?_⟩, ?_,λa ha b hb=> ?_⟩
   .exact List.Pairwise.map _ om (Bc (n:=_))
   .grind
   .exact List.Pairwise.map _ om (Bc (n:=_))
   .simp only[Al,Co,Ac]at ha hb
    omega
  .by_cases hi:i<s.length
   .rw[Au hi]at ho
    have h1:=hold i o ho
    have h2:pick[i]? =some (if i<k then i else i+τ.length):=by
     grind
    rw[h2]at aa;cases aa
    rw[h1]
    congr 1
    have af:bT s.length o:=by
     grind
    exact(QD iM af).symm
   .rw[Ar om]at ho
    have ae:=(A3.1 ho).1
    have h2:=ai (i - s.length) ae
    rw[show s.length+(i - s.length)=i by omega]at h2
    rw[h2]at aa;cases aa
    rw[ad _ ae,ho]
    have af:bT 0 o:=by
     grind
    rw[yW (n:=0) om af]
theorem QE {e:Env} {s:St} {pick keep:ahQ} {vs:List V} (h:kA k τ s I' pick) (ha:bP (cP (cH pick I'.length)) vs (keep.map e)):At 0 keep vs (s++τ) e I':=⟨pick,h.po,ha⟩
theorem QF {n0:Nat} {s:St} {pick:ahQ} {R:V->St->Prop} {v:V} (h:kA k τ s I' pick) (hn:n0<=k) (hs:s.all (bT s.length)) (ad:k<=s.length) (hv:gA v) (hR:R v s):cw (some v) n0 R I':=by
 have ae:pick.length=s.length+τ.length:=by rw[<-h.po.len,Ap]
 refine Mq (pick.take s.length) ?_ (λi hi=> ?_) (by grind) (λi j o aa ho=> ?_) (zC hv) hR
 .exact h.po.nodup.sublist (by grind)
 .rw[An,ahg om];exact h.first i om
 .have hi:=(A3.1 ho).1
  rw[An,ahg hi]at aa
  rw[h.po.ob i j o aa (by grind)]
  congr 1
  have ab:bT s.length o:=by
   grind
  refine QD (λq hq=> ?_) ab
  unfold cH
  grind
theorem YB {args:List V} {o2:Ob} {v:V} (hc:bN P f cc [o] (λr s=>r=v/\s= [o2])) (hb:xF P f) (ho:I[0]? =some o) (ad:bT 0 o) (ab:bT 0 o2)
  (aa:bP (cP (cH [0] I.length)) cc (args++bY)) (hn:gA v) (hk:KV v (I.set 0 o2)):pf P c ⟨1,n,[],none⟩ 3 (.fn f bY) args I KV fx:=by
 have ae: ∀q:Ob,bT 0 q=true->yE (cH [0] I.length) q=q:=λq h=>yW (n:=0) om h
 have e:xB [0] I [o2]=I.set 0 o2:=by
  grind[xB,fO]
 refine LV hc hb [0] sm rfl (λi j q h1 h2=> ?_) aa (.inr ?_) ?_
 .grind
 .rw[e];exact Kp.iN sm
 grind[yk]
end Go.Vx
