/-
  Running code over trees: whole functions, their calls, loops, regions whose order is open.
  No condition: a library text; nothing of the program is named.
-/
import Derived.Test.YtefbicjgbaaieaaGreatMAD
import Derived.Carry
import Derived.ProofKit
import Derived.OpenShut
import Derived.IntWalk
import Derived.Test.YtefbicjgbaaieaaGreatRows
set_option maxHeartbeats 8000000
namespace Go.Vx
open Go
mutual
inductive lp (P:Program):TypeId->List V->Prop
 |bool {t:TypeId} (b:Bool):P.underlying t=some .bool->lp P t [.bool b]
 |int {t:TypeId} {k:IntKind} {n:Int}:P.underlying t=some (.int k)->(Lit.int k n).wf=true->lp P t [.int k n]
 |str {t:TypeId} {s:afE}:P.underlying t=some .string->s.length<=maxLen->lp P t [.str s]
 |sl {t e:TypeId} {rows:List (List V)}:P.underlying t=some (.slice e)->rows.length<=maxLen->jl P e rows->lp P t [.sl .ro rows]
 |struct {t:TypeId} {fs:Array Field} {cells:List V}:P.underlying t=some (.struct fs)->jI P (fs.toList.map (·.type)) cells->lp P t cells
inductive jl (P:Program):TypeId->List (List V)->Prop
 |nil {e:TypeId}:jl P e []
 |cons {e:TypeId} {r:List V} {rows:List (List V)}:lp P e r->jl P e rows->jl P e (r::rows)
inductive jI (P:Program):List TypeId->List V->Prop
 |nil:jI P [] []
 |cons {t:TypeId} {ts:List TypeId} {a b:List V}:lp P t a->jI P ts b->jI P (t::ts) (a++b)
end
def xu (P:Program):Nat->List Field->Nat->Bool
 |o,[],n=>o==n
 |o,f::fs,n=>f.offset==o&&xu P (o+P.cellsOf f.type) fs n
def AS (P:Program) (T:List TypeId):Bool:=T.all λt=>
 match P.underlying t with
 |some .bool|some (.int _)|some .string=>true
 |some (.slice e)=>T.contains e&&decide (0<P.cellsOf e)
 |some (.struct fs)=>fs.all (λf=>T.contains f.type)&&xu P 0 fs.toList (P.cellsOf t)
 |_=>false
def gK (w:World):Nat->Nat:=λb=>match w.heap[b]? with|some (.cells c _ _)=>c.size|_=>0
section
variable {H:Type} {enc:TypeId×Value->H} {P:Program} {w:World} {base:Nat} {spare:Nat->Bool} {held:Bool}
theorem PC {b o:Nat} {x:Value} (h:w.cell? ⟨b,o,none⟩=some x):o<gK w b:=by
 unfold World.cell? at h
 unfold gK
 grind
theorem PD {T:List TypeId} (hT:AS P T) {t:TypeId} (h:t∈T):(match P.underlying t with
  |some .bool|some (.int _)|some .string=>true
  |some (.slice e)=>T.contains e&&decide (0<P.cellsOf e)
  |some (.struct fs)=>fs.all (λf=>T.contains f.type)&&xu P 0 fs.toList (P.cellsOf t)
  |_=>false)=true:=by
 grind[AS]
inductive Sm (M:Nat):V->Prop
 |bool (b:Bool):Sm M (.bool b)
 |int (k:IntKind) (n:Int):Sm M (.int k n)
 |str {s:afE}:s.length<=M->Sm M (.str s)
 |sl {g:Tag} {rows:List (List V)}:rows.length<=M->(∀r∈rows,∀v∈r,Sm M v)->Sm M (.sl g rows)
 |agg {cs:List V}:(∀v∈cs,Sm M v)->Sm M (.agg cs)
structure nP {H:Type} (B:DataW H->Nat) (BA:List (DataW H)->Nat):Prop where
 str: ∀s:afE,s.length<=B (.lit (.string s))
 sl: ∀es sp,BA es<=B (.slice es sp)
 agg: ∀ps,BA ps<=B (.agg ps)
 mem: ∀d l,d∈l->B d<=BA l
 len: ∀l:List (DataW H),l.length<=BA l
def Iu {H:Type} (d:DataW H) (vs:List V):Prop:= ∀(B:DataW H->Nat) (BA:List (DataW H)->Nat),nP B BA-> ∀M,B d<=M-> ∀v∈vs,Sm M v
theorem Lb {T:List TypeId} (hT:AS P T): ∀(fuel:Nat) (t:TypeId) (cs:afG) (x:DataW H×List MemPlace),t∈T->DataW.trod enc P w base spare held fuel t cs=some x->
  ∃vs,lp P t vs/\bL (cq w (gK w)) vs cs/\Iu x.1 vs
 |0,t,cs,x,_,h=>by simp[DataW.trod]at h
 |fuel+1,t,cs,x,ht,h=>by
  have hk:=PD hT ht
  split at hk
  .rename_i hu
   obtain⟨b,rfl,_⟩:=DataW.trod_bool hu h
   exact⟨[.bool b],.bool b hu,⟨.bool b,tV⟩,λ_ _ _ _ _ v hv=>by simp at hv;subst hv;exact .bool b⟩
  .rename_i k hu
   obtain⟨n,rfl,_,hw⟩:=DataW.trod_int hu h
   exact⟨[.int k n],.int hu hw,⟨.int k n,tV⟩,λ_ _ _ _ _ v hv=>by simp at hv;subst hv;exact .int k n⟩
  .rename_i hu
   obtain⟨s,rfl,rfl,hs⟩:=DataW.trod_string hu h
   have hr:cq w (gK w) (.str s.data.toList) (.string ⟨s.data.toList.toArray⟩):= .str _
   exact⟨[.str s.data.toList],.str hu (sU hs),⟨hr,tV⟩,λB BA hB M hM v hv=>by simp at hv;subst hv;exact .str (by have:=hB.str s.data.toList;simp only at hM;simp at this hM⊢;omega)⟩
  .rename_i e hu
   simp only[A6,afe,List.contains_iff_mem]at hk
   obtain⟨he,ae⟩:=hk
   rcases DataW.trod_slice hu h with ⟨rfl,_⟩|⟨a,len,cap,elems,rest,n,a1,rfl,af,hb,hl,hm,hlen,a6,_,_⟩
   .exact⟨[.sl .ro []],.sl hu (A5 _) .nil,⟨.iF _ _ _ (λq=>by cases q) (λ_=>sm),tV⟩,λ_ _ _ _ _ v hv=>by simp at hv;subst hv;exact .sl (A5 _) sm⟩
   .obtain rfl:fuel=n:=om
    have each: ∀i,i<len-> ∃(vs:List V) (aa:afG),lp P e vs/\bL (cq w (gK w)) vs aa/\aa.length=P.cellsOf e/\(∀j,j<P.cellsOf e->w.cell? ((a.add (i*P.cellsOf e)).add j)=aa[j]?)/\ ∃d∈elems.map (·.1),Iu d vs:=by
     intro i hi
     have h1:=a6 i hi
     rw[A0 om]at h1
     cases hc:w.cells? base (a.add (i*P.cellsOf e)) (P.cellsOf e)with
     |none=>rw[hc]at h1;cases h1
     |some aa=>
      rw[hc]at h1
      obtain⟨_,ag,ab⟩:=World.cells?_some hc
      obtain⟨vs,hs,hr,aj⟩:=Lb hT fuel e aa _ he h1
      grind
    rcases Nat.eq_zero_or_pos len with rfl|a7
    .exact⟨[.sl .ro []],.sl hu (A5 _) .nil,⟨.iF _ _ _ (λq=>by cases q) (λ_=>sm),tV⟩,λ_ _ _ _ _ v hv=>by simp at hv;subst hv;exact .sl (A5 _) sm⟩
    .obtain⟨b,o,spot⟩:=a
     have ah:spot=none:=by
      obtain⟨vs,aa,_,_,ag,ab,_⟩:=each 0 a7
      have h0:=ab 0 ae
      rw[A0 om]at h0
      simp only[Cu,Addr.add,afj]at h0
      cases spot with
      |none=>rfl
      |some _=>
       grind[World.cell?]
     subst ah
     have aG: ∀i j,((⟨b,o,none⟩:Addr).add (i*P.cellsOf e)).add j=⟨b,o+i*P.cellsOf e+j,none⟩:=by
      intro i j;rw[wD,wD]
     have key: ∀m,m<=len-> ∃rows:List (List V),rows.length=m/\jl P e rows/\(∀r∈rows,r.length=P.cellsOf e)/\(∀r∈rows,∃d∈elems.map (·.1),Iu d r)/\
       ∀i j (hi:i<rows.length) (hj:j<rows[i].length),∃x,w.cell? ⟨b,o+(len - m+i)*P.cellsOf e+j,none⟩=some x/\cq w (gK w) (rows[i][j]) x:=by
      intro m
      induction m with
      |zero=>exact λ_=>⟨[],rfl,.nil,λ_ q=>by simp at q,λ_ q=>by simp at q,λi j hi=>by simp at hi⟩
      |succ m ih=>
       intro hm
       obtain⟨rows,h1,h2,h3,ai,h4⟩:=ih om
       obtain⟨vs,aa,hs,hr,ag,ab,aj⟩:=each (len - (m+1)) om
       refine⟨vs::rows,by simp[h1],.cons hs h2,λr ad=> ?_,λr ad=> ?_,λi j hi hj=> ?_⟩
       .rcases Ae.1 ad with rfl|ad
        .rw[hr.length,ag]
        grind
       .rcases Ae.1 ad with rfl|ad
        .exact aj
        .exact ai r ad
       .cases i with
        |zero=>
         simp only[List.getElem_cons_zero]at hj⊢
         obtain⟨x,hx,ak⟩:=hr.get j _ (A0 hj)
         grind
        |succ i=>
         simp only[List.getElem_cons_succ]at hj⊢
         obtain⟨x,hx,ak⟩:=h4 i j (sU hi) hj
         refine⟨x, ?_,ak⟩
         grind
     obtain⟨rows,h1,h2,h3,ai,h4⟩:=key len (A3 _)
     have al:len - len=0:=om
     rw[al]at h4
     simp only[A7]at h4
     subst h1
     refine⟨[.sl .ro rows],.sl hu om h2,⟨?_,tV⟩,λB BA hB M hM v hv=>by
      simp at hv;subst hv
      rw[af]at hM
      have q1:=hB.sl (elems.map (·.1)) (rest.map (·.1))
      have q2:=hB.len (elems.map (·.1))
      rw[Bb]at q2
      simp only at hM
      refine .sl om λr hr v hv=> ?_
      obtain⟨d,hd,a8⟩:=ai r hr
      have q3:=hB.mem _ _ hd
      exact a8 B BA hB M om v hv⟩
     let c:Nat->Nat->Value:=λi j=>(w.cell? ⟨b,o+i*P.cellsOf e+j,none⟩).getD undef
     refine .sl .ro rows (P.cellsOf e) b o cap c (λ_=>sm) ae h3 ?_ hl (λq=>by cases q) (λi j hi hj=> ?_) (λi j hi hj=> ?_)
     .obtain⟨x,hx,_⟩:=h4 (rows.length - 1) (P.cellsOf e - 1) om (by rw[h3 _ (Aa _)];omega)
      have aH:=PC hx
      have h5:(rows.length - 1)*P.cellsOf e+P.cellsOf e=rows.length*P.cellsOf e:=by
       rw[<-Nat.succ_mul];congr 1;omega
      omega
     all_goals grind
  .rename_i fs hu
   simp only[A6,Bd,List.contains_iff_mem]at hk
   obtain⟨an,ao⟩:=hk
   obtain⟨xs,n,a1,af,hlen,aA,aq⟩:=DataW.trod_struct hu h
   obtain rfl:fuel=n:=om
   have key: ∀(l:List Field) (pre:List Field) (off:Nat),fs.toList=pre++l->xu P off l (P.cellsOf t)=true->off<=cs.length->
     ∃vs,jI P (l.map (·.type)) vs/\bL (cq w (gK w)) vs (cs.drop off)/\Iu (.agg (xs.map (·.1))) vs:=by
    intro l
    induction l with
    |nil=>
     intro pre off _ hr _
     unfold xu at hr
     have:off=P.cellsOf t:=sU hr
     refine⟨[],.nil, ?_,λ_ _ _ _ _ v hv=>by simp at hv⟩
     rw[A8 om]
     trivial
    |cons f l ih=>
     intro pre off ar hr hle
     unfold xu at hr
     simp only[A6,afh]at hr
     obtain⟨au,hr⟩:=hr
     have hf:fs[pre.length]? =some f:=by
      have:fs.toList[pre.length]? =some f:=by rw[ar];simp
      simpa using this
     have hx:=aq pre.length f hf
     have av:pre.length<xs.length:=by
      rw[aA];exact(Cf.1 hf).1
     rw[A0 av,au]at hx
     obtain⟨aB,aw,ax,ay⟩:=Lb hT fuel f.type _ _ (an f (Array.mem_of_getElem? hf)) hx
     have az:off+P.cellsOf f.type<=cs.length:=by
      rw[hlen]
      clear ih hx aq aw ax ay
      revert hr
      generalize off+P.cellsOf f.type=o2
      intro hr
      have: ∀(l:List Field) (o:Nat),xu P o l (P.cellsOf t)=true->o<=P.cellsOf t:=by
       intro l
       induction l<;>grind[xu]
      grind
     obtain⟨aC,aD,aE,aF⟩:=ih (pre++ [f]) (off+P.cellsOf f.type) (by rw[ar];simp) hr az
     refine⟨aB++aC,.cons aw aD, ?_,λB BA hB M hM v hv=>by
      rcases Ar.1 hv with hv|hv
      .have q1:=hB.agg (xs.map (·.1))
       have q2:=hB.mem (xs[pre.length]'av).1 (xs.map (·.1)) (Ac.2 ⟨_,Aa _,rfl⟩)
       exact ay B BA hB M om v hv
      .exact aF B BA hB M hM v hv⟩
     have e:cs.drop off=(cs.drop off).take (P.cellsOf f.type)++cs.drop (off+P.cellsOf f.type):=by
      rw[<-Cn];exact(B9 _ _).symm
     rw[e]
     exact ax.append aE
   obtain⟨vs,h1,h2,h3⟩:=key fs.toList [] 0 rfl ao (A5 _)
   exact⟨vs,.struct hu h1,by simpa using h2,by rw[af];exact h3⟩
  grind
def td (P:Program) (t:TypeId) (vs:List V):V:=match P.underlying t with|some (.struct _)=> .agg vs|_=>vs.headD .u
inductive jJ (P:Program):List TypeId->List V->Prop
 |nil:jJ P [] []
 |cons {t:TypeId} {ts:List TypeId} {vs:List V} {xs:List V}:lp P t vs->jJ P ts xs->jJ P (t::ts) (td P t vs::xs)
theorem WN {W:World} {r:Reach} {b:Nat} {t:TypeId} {v:Value} {T:List TypeId} (hT:AS P T) (ht:t∈T) (h:Value.okWide P W r b t v):(∃fs cs,P.underlying t=some (.struct fs)/\v= .agg cs)\/((∀fs,P.underlying t≠some (.struct fs))/\v.oneCell'=true):=by
 have hk:=PD hT ht
 split at hk
 .rename_i hu
  refine .inr ⟨(by grind), ?_⟩
  cases v<;>simp[Value.okWide,hu,Cell.okWide,Cell.ok]at h<;>rfl
 .rename_i k hu
  refine .inr ⟨(by grind), ?_⟩
  cases v<;>simp[Value.okWide,hu,Cell.okWide,Cell.ok]at h<;>rfl
 .rename_i hu
  refine .inr ⟨(by grind), ?_⟩
  cases v<;>simp[Value.okWide,hu,Cell.okWide,Cell.ok]at h<;>rfl
 .rename_i e hu
  refine .inr ⟨(by grind), ?_⟩
  cases v<;>simp[Value.okWide,hu,Cell.okWide,Cell.ok]at h<;>rfl
 .rename_i fs hu
  refine .inl ⟨fs, ?_⟩
  simp only[Value.okWide,hu]at h
  grind
 grind
theorem PE {T:List TypeId} (hT:AS P T): ∀(ts:List TypeId) (aa:afG) (ds:List (DataW H)) (ps:List MemPlace),(∀t∈ts,t∈T)->(∀(j:Nat) t v,ts[j]? =some t->aa[j]? =some v->Value.okWide P w .any base t v)->
  DataW.TrodAll enc P w 0 spare held ts aa ds ps-> ∃xs,jJ P ts xs/\bL (cV w (gK w) [] []) xs aa/\ ∀(B:DataW H->Nat) (BA:List (DataW H)->Nat),nP B BA-> ∀M,(∀d∈ds,B d<=M)-> ∀v∈xs,Sm M v
 | [],[],_,_,_,_,_=>⟨[],.nil,tV,sm⟩
 |t::ts,v::aa,ds,ps,hm,cH,h=>by
  obtain⟨v',gp,d,ae,p,q,hv,rfl,rfl,h1,h2⟩:=ChangeShapes.trodAll_cons h
  cases hv
  obtain⟨xs,af,ag,ai⟩:=PE hT ts aa ae q (by grind) (λj t' v' h1 h2=>cH (j+1) t' v' (by grind) (by grind)) h2
  obtain⟨fuel,hf⟩:=h1
  obtain⟨vs,hs,hr,ah⟩:=Lb hT fuel t _ _ (by grind) hf
  suffices rJ:cV w (gK w) [] [] (td P t vs) v/\ ∀M,(∀v∈vs,Sm M v)->Sm M (td P t vs) from
   ⟨td P t vs::xs,.cons hs af,⟨rJ.1,ag⟩,λB BA hB M hM v' ab=>by
    rcases Ae.1 ab with rfl|ab
    .exact rJ.2 M λv hv=>ah B BA hB M (by grind) v hv
    grind⟩
  rcases WN hT (by grind) (cH 0 t v rfl rfl)with ⟨fs,cs,hu,rfl⟩|⟨aj,ad⟩
  .unfold td
   rw[hu]
   exact⟨⟨cs.toList,sm,hr.imp (by grind[cN.cS])⟩,λM hM=> .agg hM⟩
  .rw[Fj ad]at hr
   have:td P t vs=vs.headD .u:=by
    unfold td
    simp
   rw[this]
   cases vs with
   |nil=>trivial
   |cons x vs=>exact⟨cV.df (cN.cS hr.1),(by grind)⟩
 | [],_::_,_,_,_,_,h=>by trivial
 |_::_,[],ds,_,_,_,h=>by trivial
theorem Lc {w':World} {Ld:Nat->Bool} (hl:laidOutB P): ∀(ts:List TypeId) (aa:afG) (ds:List (DataW H)) (ps:List MemPlace),(∀t∈ts,P.readableRec t=true/\t<P.types.size)->
  DataW.TrodAll enc P w 0 (λ_=>true) true ts aa ds ps->(∀x∈ps,w.sameAt w' x)->(∀x∈ps,Ld x.block=true)->DataW.TrodAll enc P w' 0 Ld true ts aa ds ps
 | [],_,_,_,_,h,_,_=>by
  obtain⟨rfl,rfl,rfl⟩:=ChangeShapes.trodAll_nil h
  rfl
 |t::ts,aa,ds,ps,hr,h,hs,hp=>by
  obtain⟨v,gp,d,ab,p,q,rfl,rfl,rfl,h1,h2⟩:=ChangeShapes.trodAll_cons h
  exact⟨p,q,(by grind[WideElems.Trod_stays]),
   (by simp_all[Lc]),rfl⟩
theorem WO (w:World) (ht:gH w (gK w)):Mem (entry w (gK w) [] []) w (gK w) [] []:=
 ⟨rfl,sm,sm,sm,λb hb hx=>(by trivial),Le.refl _ _,A3 _,rfl,rfl,rfl,A3 _,
  (by grind[gK]),Ext.refl _ _,ht⟩
theorem WQ {f:FuncId} {fn:Func} {s:ChangeSpec} {apart fresh handsOn again:Bool} (T ts:List TypeId) (tb:TypeId) (au:fn.params=ts.toArray) (ag:fn.resultTypes= #[tb]) (hb:P.underlying tb=some .bool) (hT:AS P T) (av:ts.all (T.contains ·))
  (aw:ts.all (λt=>P.readableRec t&&decide (t<P.types.size))) (hl:laidOutB P) (aa:s.vars= [])
  (ax: ∀(H:Type) (ds:List (DataW H)),ds.length=ts.length->s.fn H ds={results:= [.lit (.bool true)],args:=ds})
  (al:List V->Prop) (hw: ∀xs,jJ P ts xs->al xs->bK P f xs [] λr _=>r= .bool true) (H:Type) (enc:TypeId×Value->H) (W:World) (base:Nat) (args:afI) (ds gs:List (DataW H)) (before:List MemPlace)
  (az: ∀(j:Nat) t v,fn.params[j]? =some t->args[j]? =some v->Value.okWide P W .any base t v)
  (hW:DataW.Whole enc P fn.params.toList s.vars apart W args.toList ds gs before) (ah:gH W (gK W))
  (e9: ∀xs,(∀(B:DataW H->Nat) (BA:List (DataW H)->Nat),nP B BA-> ∀M,(∀d∈ds++gs,B d<=M)-> ∀v∈xs,Sm M v)->al xs):
  Calls P f args W λe W'=> ∃v,e= .returned v/\s.post enc P fn apart fresh handsOn again W args v W':=by
 have ai:=hW
 obtain⟨p,q,hA,hV,rfl,an,ao⟩:=hW
 rw[aa]at hV
 obtain⟨rfl,rfl⟩:=ChangeShapes.trodVars_none hV
 have aj:fn.params.toList=ts:=by rw[au]
 rw[aj]at hA
 rw[Ad]at av aw
 obtain⟨xs,hx,hr,a1⟩:=PE (base:=base) hT ts args.toList ds p (by grind) (by grind) hA
 have hlen:ds.length=ts.length:=by
  have: ∀(ts:List TypeId) (ad:afG) (ds:List (DataW H)) (p:List MemPlace),DataW.TrodAll enc P W 0 (λ_=>true) true ts ad ds p->ds.length=ts.length:=by
   intro ts
   induction ts with
   |nil=>intro ad ds p h;obtain⟨_,rfl,_⟩:=ChangeShapes.trodAll_nil h;rfl
   |cons t ts ih=>intro ad ds p h;obtain⟨_,_,_,a6,_,_,_,rfl,_,_,h2⟩:=ChangeShapes.trodAll_cons h;grind
  grind
 have ae:=hw xs hx (by grind) W (gK W) [] args.toList (WO W ah) hr
 have aq:args.toList.toArray=args:=sm
 rw[aq]at ae
 refine ae.mono ?_
 rintro e W' ⟨v,r,L',U',I',rfl,rfl,_,hm,ar⟩
 have ay:v= .bool true:=oH ar
 subst ay
 have ab:RowKit.Below W.heap.size W W':=⟨hm.os,hm.tape,hm.output,hm.size,λk hk=>(hm.same k hk (by simp[entry,sT])).1⟩
 have af:=ai.lt
 simp only[B6]at af ai an ao
 have ak:s.fn H ds={results:= [.lit (.bool true)],args:=ds}:=(by grind)
 refine⟨_,rfl,ds,[],p,[],p,[],ai, ?_, ?_, ?_, ?_,λ_=>⟨?_, ?_⟩⟩
 .rw[B6,ak,ag]
  exact ChangeShapes.trodAll_mk1 (RowKit.shut_bool hb _)
 .rw[B6,ak,aj]
  exact Lc hl ts _ _ _ (by grind) hA (λx hx=>ab.same (af x hx)) (by grind)
 .rw[B6,ak,aa]
  rfl
 .exact ab.frame _
 .exact RowKit.ok_one ag rfl (RowKit.okWide_bool_mk hb _)
 .rw[aj,ag]
  refine⟨[.lit (.bool true)]++ds,[],p,⟨[]++p,[],ChangeShapes.trodAll_append (Lc (Ld:=λ_=>true) hl ts _ _ _ (by grind) hA (λx hx=>ab.same (af x hx)) sm) ?_,by rw[aa];rfl,sm, ?_,ao⟩,(by grind)⟩
  .exact ChangeShapes.trodAll_mk1 (RowKit.shut_bool hb _)
  .intro b off hp
   rw[ab.frozen (p:=⟨b,off,none⟩) (af _ hp)]
   exact an b off hp
theorem WR {f:FuncId} {fn:Func} {s:ChangeSpec} {apart fresh handsOn again:Bool} (T ts:List TypeId) (tb:TypeId) (af:fn.params=ts.toArray) (ag:fn.resultTypes= #[tb]) (hb:P.underlying tb=some .bool) (hT:AS P T) (ah:ts.all (T.contains ·))
  (ai:ts.all (λt=>P.readableRec t&&decide (t<P.types.size))) (hl:laidOutB P) (aa:s.vars= [])
  (ab: ∀(H:Type) (ds:List (DataW H)),ds.length=ts.length->s.fn H ds={results:= [.lit (.bool true)],args:=ds})
  (hw: ∀xs,jJ P ts xs->bK P f xs [] λr _=>r= .bool true) (H:Type) (enc:TypeId×Value->H) (W:World) (base:Nat) (args:afI) (ds gs:List (DataW H)) (before:List MemPlace)
  (ae: ∀(j:Nat) t v,fn.params[j]? =some t->args[j]? =some v->Value.okWide P W .any base t v)
  (hW:DataW.Whole enc P fn.params.toList s.vars apart W args.toList ds gs before) (ad:gH W (gK W)):
  Calls P f args W λe W'=> ∃v,e= .returned v/\s.post enc P fn apart fresh handsOn again W args v W':=
 WQ T ts tb af ag hb hT ah ai hl aa ab (λ_=>True) (by grind) H enc W base args ds gs before ae hW ad sm
variable {t:TypeId} {vs:List V}
theorem jJ.cons_inv {ts:List TypeId} {xs:List V} (h:jJ P (t::ts) xs): ∃vs aa,xs=td P t vs::aa/\lp P t vs/\jJ P ts aa:=by
 cases h<;>grind
theorem jJ.lD {xs:List V} (h:jJ P [] xs):xs= []:=by cases h;rfl
theorem lp.jR {k:IntKind} (hu:P.underlying t=some (.int k)) (h:lp P t vs): ∃n,vs= [.int k n]/\(Lit.int k n).wf=true:=by
 cases h<;>grind
theorem lp.lE {e:TypeId} (hu:P.underlying t=some (.slice e)) (h:lp P t vs): ∃rows,vs= [.sl .ro rows]/\rows.length<=maxLen/\jl P e rows:=by
 cases h<;>grind
theorem lp.nQ {fs:Array Field} (hu:P.underlying t=some (.struct fs)) (h:lp P t vs):jI P (fs.toList.map (·.type)) vs:=by
 cases h<;>grind
theorem jI.cons_inv {ts:List TypeId} (h:jI P (t::ts) vs): ∃a b,vs=a++b/\lp P t a/\jI P ts b:=by
 cases h<;>grind
theorem jI.lD (h:jI P [] vs):vs= []:=by cases h;rfl
theorem jl.iK {J:Type} {f:J->List V} {ok:J->Prop} (h: ∀r,lp P t r-> ∃x,r=f x/\ok x): ∀{rows:List (List V)},jl P t rows-> ∃xs:List J,rows=xs.map f/\ ∀x∈xs,ok x
 | [],_=>sm
 |r::rows,hr=>by
  cases hr with
  |cons h1 h2=>
   obtain⟨x,rfl,hx⟩:=h r h1
   obtain⟨xs,rfl,aa⟩:=jl.iK h h2
   exact⟨x::xs,rfl,(by grind)⟩
theorem Lf {v:V} (h:(match P.underlying t with|some (.struct _)=>false|_=>true)):td P t [v]=v:=by
 unfold td
 grind
theorem Iv {n:Int} (h:(Lit.int .i64 n).wf): -9223372036854775808<=n/\n<=9223372036854775807:=by
 grind[Lit.wf,IntKind.min,IntKind.max,IntKind.signed,IntKind.bits]
end
variable {ρ:Nat->Nat}{U:St}{f:FuncId}{P:Program}{c:Ctx}{bU:List V}{bZ:List V}{KV:V->St->Prop}
theorem WS {j:Nat} (h:j<=9223372036854775807):IntKind.i64.wrap (j:Int)=j:=(by grind[IntWalk.i64_in])
theorem bR {n:Int} (h: -9223372036854775808<=n) (h2:n<=9223372036854775807):IntKind.i64.wrap n=n:=(by grind[IntWalk.i64_in])
theorem dt {n:Int} (h:0<=n) (h2:n<=18446744073709551615):IntKind.u64.wrap n=n:=by
 grind[IntKind.wrap,IntKind.bits,IntKind.signed]
@[go_sem] theorem Iw (n:Nat) (h:n<=9223372036854775807):IntKind.i64.wrap (no_index (OfNat.ofNat n))=OfNat.ofNat n:=by
 rw[show(OfNat.ofNat n:Int)=((n:Nat):Int) from rfl]
 grind[WS]
@[go_sem] theorem FY:IntKind.i64.wrap 0=0:=by rfl
@[go_sem] theorem FZ:IntKind.i64.wrap 1=1:=by rfl
theorem zR {i n:Nat} (h:i<n) (hn:n<=9223372036854775807):IntKind.i64.wrap ((i:Int)+1)=((i+1:Nat):Int):=by
 rw[IntWalk.i64_in _ om];rfl
theorem AT {J:Type} {f:J->List V} {s:Nat} {l:List J} (h: ∀x,(f x).length=s):eS s (l.map f):=λr hr=>by
 grind
theorem zX {s:Nat} {r:List V} (h:r.length=s):eS s [r]:=λx hx=>by grind
theorem xM (k:Nat) {n0:Nat} {R:V->St->Prop} {s:St} {v r:V} (hs:U.take k=s) (hl:s.length=k) (cH:s.all (bP k)) (hn:n0<=k) (hr:cF (cz (List.range k) U.length) r v) (hR:R r s):cj (some v) n0 R U:=by
 grind[rC]
def db (n:Int):Prop:= -9223372036854775808<=n/\n<=9223372036854775807
instance (n:Int):Decidable (db n):=inferInstanceAs (Decidable (_/\_))
@[go_sem] def yQ (n:Int):List V:= [.int .i64 n]
theorem wK {gp vs:List V} (h:bL (ph ρ) gp vs):cF ρ (.cm gp) (.cm vs):= .inr (by grind)
theorem xw {g:Tag} {rows:List (List V)}:ph ρ (.sl .ro rows) (.sl g rows):= .inr sm
theorem mf {v:V} (h:uy v):ph ρ v v:= .inl (KZ h).symm
theorem yX {g:Tag} {rows:List (List V)}:nG ρ (.sl .ro rows) (.sl g rows):= .inr sm
theorem zU {v:V} (h:j5 v):nG ρ v v:= .inl (xf h).symm
theorem xx {aa cs:List V} (h:bL (nG ρ) aa cs):cF ρ (.agg aa) (.agg cs):= .inr (by grind)
theorem oK {aa cs:List V} (h:bL (nG ρ) aa cs):ph ρ (.agg aa) (.agg cs):= .inr (by grind)
theorem WT {args:List V} {R:V->Prop} (hc:bK P f bZ [] λr s=>R r/\s= []) (hb:wE P f) (aa:bL (cF (cz [] U.length)) bZ (args++bU))
  (hn: ∀r,R r->gR r) (hk: ∀r,R r->KV r U):iZ P c (.fn f bU) args U KV fx:=by
 refine VC.of hc hb [] Ca rfl sm aa ?_
 rintro r U' ⟨hR,rfl⟩ _
 grind[xg,xQ,fQ]
theorem PF {k:Nat} {s:St} (hk:k<=U.length) (hs:s.length=k) (cH:s.all (bP k)):xQ (List.range k) U s=s++U.drop k:=by
 have e1:(s.take (List.range k).length).map (yF (cz (List.range k) U.length))=s:=by
  grind[xU,xH,wZ]
 have e2:(s.drop (List.range k).length).map (yF (cz (List.range k) U.length))= []:=by
  grind
 unfold xQ
 rw[e1,e2,B6]
 apply Bn
 intro i
 by_cases hi:i<k
 .rw[HN (List.range k) U s i i Bm (by grind) (by grind) (by grind),Ak om]
 simp_all[sV,Ay]
theorem rK (k:Nat) {args:List V} {gi:St} {R:V->St->Prop} (hc:bK P f bZ gi R) (hb:wE P f) (hk:U.take k=gi) (hl:gi.length=k) (cH:gi.all (bP k))
  (aa:bL (cF (cz (List.range k) U.length)) bZ (args++bU)) (hR: ∀r s,R r s->s.length=k/\s.all (bP k)=true/\fW k r) (hK: ∀r s,R r s->KV r (s++U.drop k)):iZ P c (.fn f bU) args U KV fx:=by
 have ab:k<=U.length:=by grind
 refine VC.of hc hb (List.range k) Bm (by grind) (λi j o h1 h2=> ?_) aa λr s h _=> ?_
 .obtain⟨h3,h4⟩:=A1.1 h1
  simp at h3 h4
  subst h4
  have ho:bP k o:=by
   grind
  rw[xH (n:=k) (by grind[wZ]) ho]
  grind
 grind[Ih,wZ,PF]
theorem lF (i:Nat) {o:Ob} {args:List V} {R:V->St->Prop} (hc:bK P f bZ [o] R) (hb:wE P f) (ho:U[i]? =some o) (cH:bP 0 o)
  (aa:bL (cF (cz [i] U.length)) bZ (args++bU)) (hR: ∀r s,R r s-> ∃o2,s= [o2]/\bP 0 o2) (hK: ∀r o2,R r [o2]->KV (dy (cz [i] U.length) r) (U.set i o2)):iZ P c (.fn f bU) args U KV fx:=by
 refine WA hc hb ho cH aa λr s h _=> ?_
 obtain⟨o2,rfl,h2⟩:=hR r s h
 have e:xQ [i] U [o2]=U.set i o2:=by
  simp only[xQ,Bf,Bl,Cy,Br,Az,Ai,Bk,fQ,B6]
  rw[xH (n:=0) om h2]
 grind
theorem WU {i N:Nat}:cz [i] N 0=i:=rfl
attribute [go_sem] dy dL dv du WU
section
variable {ρ:Nat->Nat} (iJ: ∀i,ρ i=i)
include iJ
theorem WV (v:V):du ρ v=v:=by
 cases v with
 |sl g rows=>cases g<;>simp[du,iJ]
 |_=>simp[du,iJ]
theorem PG (v:V):dv ρ v=v:=by
 have h:du ρ=λv=>v:=funext (by grind[WV])
 cases v<;>grind[dv,Dx]
theorem PH (v:V):dL ρ v=v:=by
 have h:dv ρ=λv=>v:=funext (by grind[PG])
 cases v<;>grind[dL,Dx]
theorem xy (v:V):dy ρ v=v:=by
 have h:dL ρ=λv=>v:=funext (by grind[PH])
 cases v<;>grind[dy,Dx]
theorem xz (o:Ob):yF ρ o=o:=by
 have h:dv ρ=λv=>v:=funext (by grind[PG])
 cases o with
 |box cells=>grind[yF,Dx]
 |cc rows s=>simp_all[yF]
 |mp di fN cD=>
  have h:dL ρ=λv=>v:=funext (by grind[PH])
  grind[yF,Dx]
 |it m since seen last=>cases m<;>simp[yF,iJ]
 |_=>rfl
end
variable {U:St}{P:Program}{c:Ctx}{nt:Nat}{Q:QT}{e:Env}{y:Code}
theorem Ix {f:FuncId} {bU args bZ:List V} {KV:V->St->Prop} {R:V->St->Prop} (hc:bK P f bZ [] R) (hb:wE P f)
  (aa:bL (cF (cz [] 0)) bZ (args++bU)) (hK: ∀r s,R r s->KV r s):iZ P c (.fn f bU) args [] KV fx:=by
 have hid: ∀i,cz [] 0 i=i:=(by grind[cz])
 refine VC.of hc hb [] Ca rfl sm aa λr s h _=> ?_
 have e:xQ [] [] s=s:=by
  have h2:yF (cz [] 0)=λo=>o:=funext (by grind[xz])
  simp_all[xQ,fQ]
 show KV (dy (cz [] 0) r) (xQ [] [] s)
 grind[xy]
theorem nR {id:Nat} {ops:List Oper} (q:List (Nat×Nat)) (n0:Nat) (hn:n0<=U.length) (hm:P.follows .mixedOrders) (hd:(ta ops q&&xT ops)) (h:nk P c nt (Kp.pre n0) ops q 0 ops (Q .normal) fx fx fx e U):fw P c nt (.region id ops.toArray true) Q fx fx e U:=by
 simp only[A6]at hd
 obtain⟨tr,ht,hK⟩:=rG ops 0 (Q .normal) e U h
 exact VW.draw (n0:=Kp.pre n0) hm hn hd.1 hd.2 ht hK
theorem oL {id:Nat} {ops:List Oper} (q:List (Nat×Nat)) (x n0:Nat) (hn:n0<=U.length) (hm:P.follows .mixedOrders) (hd:(ta ops q&&xT ops)) (h:nk P c nt (Kp.mk x n0 [] none) ops q 0 ops (Q .normal) fx fx fx e U):fw P c nt (.region id ops.toArray true) Q fx fx e U:=by
 simp only[A6]at hd
 obtain⟨tr,ht,hK⟩:=rG ops 0 (Q .normal) e U h
 exact VW.draw (n0:=Kp.mk x n0 [] none) hm hn hd.1 hd.2 ht hK
theorem rL (t s:Nat) (h0:0<s) (ht:e t= .sl .full []) (hy:fw P c nt y Q fx fx (dK e t (.sl (.app U.length) [])) (U++ [.app 0 s])):fw P c nt y Q fx fx e U:=by
 intro a w L I hs
 have hr:=hs.env t
 rw[ht]at hr
 obtain⟨ad,hx⟩: ∃ad,a.tmps.getD t undef= .slice ad 0 0:=by
  have hr:cq w L (.sl .full []) (a.tmps.getD t undef):=hr
  generalize a.tmps.getD t undef=x at hr
  cases hr<;>simp_all
 have aa:=Ext.push U I hs.mem.len (.app 0 s) (.slice ad 0 0)
 refine hy a w L (I++ [.slice ad 0 0]) ⟨hs.mem.own h0,hs.size,hs.defs,λk=> ?_⟩
 simp only[dK]
 split
 .rename_i hk
  subst hk
  rw[hx]
  exact⟨.iF .ro ad 0 om sm,0,s,sm,sm,λ_=>by rw[<-hs.mem.len];simp,sm⟩
 .exact(hs.env k).mono (Le.refl _ _) aa
theorem F0 (id off s:Nat) (cells:List V) (h0:0<s) (cv:U[id]? =some (.box cells)) (hc:cells[off]? =some (.sl .full []))
  (hy:fw P c nt y Q fx fx e (U.set id (.box (cells.set off (.sl (.app U.length) [])))++ [.app 0 s])):fw P c nt y Q fx fx e U:=by
 intro a w L I hs
 obtain⟨x,h1,h2⟩:=Wm hs.mem h0 cv hc
 exact hy a w L (I++ [x]) ⟨h1,hs.size,hs.defs,λk=>(hs.env k).mono (Le.refl _ _) h2⟩
theorem Er (t s:Nat) (h0:0<s) (ht:e t= .sl .full []) (hy:fw P c nt y Q fx fx (dK e t (.cJ U.length s 0 0 0)) (U++ [.cc [] s])):fw P c nt y Q fx fx e U:=by
 intro a w L I hs
 have hr:=hs.env t
 rw[ht]at hr
 obtain⟨ad,hx⟩: ∃ad,a.tmps.getD t undef= .slice ad 0 0:=by
  have hr:cq w L (.sl .full []) (a.tmps.getD t undef):=hr
  generalize a.tmps.getD t undef=x at hr
  cases hr<;>simp_all
 have aa:=Ext.push U I hs.mem.len (.cc [] s) (.slice ad 0 0)
 refine hy a w L (I++ [.slice ad 0 0]) ⟨hs.mem.lu h0,hs.size,hs.defs,λk=> ?_⟩
 simp only[dK]
 split
 .rename_i hk
  subst hk
  rw[hx]
  exact Fw (w':=w) (L':=L) (s:=s) (rows:= []) (cap:=0) (a0:=ad) hs.mem.len sm om
 .exact(hs.env k).mono (Le.refl _ _) aa
theorem WW {s:St} (h:U.length<=s.length):xQ (List.range U.length) U s=s:=by
 have ra: ∀i,cz (List.range U.length) U.length i=i:=(by grind[wZ,qf])
 have hid:yF (cz (List.range U.length) U.length)=λo=>o:=funext (by grind[xz])
 apply Bn
 intro i
 by_cases hi:i<s.length
 .have:=DA (cT:=List.range U.length) (Uc:=U) (U':=s) Bm (λq hq=>Bz.1 hq) (sU h) (A0 hi)
  grind
 grind[Ir]
theorem F1 {f:FuncId} {bU args:List V} {KV:V->St->Prop} {R:V->St->Prop} (hc:bK P f (args++bU) U R) (hb:wE P f)
  (hk: ∀r s,R r s->U.length<=s.length->KV r s):iZ P c (.fn f bU) args U KV fx:=by
 have ra: ∀i,cz (List.range U.length) U.length i=i:=(by grind[wZ,qf])
 refine VC.of hc hb (List.range U.length) Bm sm (λi j o hi ho=> ?_) ?_ ?_
 .grind[xz]
 .have: ∀l:List V,bL (cF (cz (List.range U.length) U.length)) l l:=by
   intro l
   induction l with
   |nil=>trivial
   |cons a l ih=>exact⟨.inl (xy ra a).symm,ih⟩
  grind
 grind[xy,WW]
theorem Lg {n0:Nat} {R:V->St->Prop} {r:V} (hn:n0<=U.length) (hR:R r U):cj (some r) n0 R U:=by
 have ra: ∀i,cz (List.range U.length) U.length i=i:=(by grind[wZ,qf])
 refine⟨r,rfl,r,U,List.range U.length,U,r,.refl _ _,⟨sm,Bm,λi j o hi ho=> ?_,(by grind)⟩,.inl (xy ra r).symm,hR⟩
 grind[xz]
end Go.Vx
namespace Go.Proofs.YtefbicjgbaaieaaGreat
open Go Go.Vx Go.Proofs.Tryz
@[go_sem] theorem PL:ez prog 2=some 1/\ez prog 3=some 1/\ez prog 4=some 1/\ez prog 5=some 1/\ez prog 9=some 1/\ez prog 25=some 1/\ez prog 29=some 1/\ez prog 30=some 1/\ez prog 32=some 3/\ez prog 36=some 1/\ez prog 38=some 3/\ez prog 41=some 1/\ez prog 50=some 2/\ez prog 52=some 2/\ez prog 53=some 1/\ez prog 57=some 3:=by
 and_intros<;>kernel_rfl
@[go_sem] theorem PM:ez prog 58=some 1/\ez prog 60=some 2/\ez prog 61=some 1/\ez prog 63=some 3/\ez prog 65=some 1/\ez prog 66=some 1/\ez prog 68=some 2/\ez prog 74=some 1/\ez prog 75=some 1/\ez prog 76=some 1/\ez prog 77=some 1/\ez prog 79=some 6/\ez prog 81=some 15/\ez prog 97=some 1/\ez prog 117=some 4/\ez prog 120=some 7:=by
 and_intros<;>kernel_rfl
@[go_sem] theorem PN:ez prog 122=some 7/\ez prog 124=some 1/\ez prog 125=some 1/\ez prog 137=some 1/\ez prog 141=some 11/\ez prog 169=some 1/\ez prog 180=some 4/\ez prog 188=some 3/\ez prog 191=some 2/\ez prog 195=some 1/\ez prog 200=some 3/\ez prog 310=some 2:=by
 and_intros<;>kernel_rfl
@[go_sem] theorem Lh:cL prog 2=some false/\cL prog 3=some false/\cL prog 4=some false/\cL prog 5=some false/\cL prog 9=some false/\cL prog 25=some false/\cL prog 29=some false/\cL prog 30=some false/\cL prog 32=some true/\cL prog 36=some false/\cL prog 38=some true/\cL prog 41=some false/\cL prog 50=some true/\cL prog 52=some true/\cL prog 53=some false/\cL prog 57=some true:=by
 and_intros<;>kernel_rfl
@[go_sem] theorem Li:cL prog 58=some false/\cL prog 60=some true/\cL prog 61=some false/\cL prog 63=some true/\cL prog 65=some false/\cL prog 66=some false/\cL prog 68=some true/\cL prog 74=some false/\cL prog 75=some false/\cL prog 76=some false/\cL prog 77=some false/\cL prog 79=some true/\cL prog 81=some true/\cL prog 97=some false/\cL prog 117=some true/\cL prog 120=some true:=by
 and_intros<;>kernel_rfl
@[go_sem] theorem Lj:cL prog 122=some true/\cL prog 124=some false/\cL prog 125=some false/\cL prog 137=some false/\cL prog 141=some true/\cL prog 169=some false/\cL prog 180=some true/\cL prog 188=some true/\cL prog 191=some true/\cL prog 195=some false/\cL prog 200=some true/\cL prog 310=some true:=by
 and_intros<;>kernel_rfl
@[go_sem] theorem PO:jD prog 2=0/\jD prog 3=0/\jD prog 4=1/\jD prog 5=0/\jD prog 9=0/\jD prog 29=0/\jD prog 52=0/\jD prog 61=3/\jD prog 63=0/\jD prog 134=0/\jD prog 261=0:=by
 and_intros<;>kernel_rfl
@[go_sem] theorem PQ:mu prog 2=none/\mu prog 3=none/\mu prog 4=none/\mu prog 5=none/\mu prog 9=none/\mu prog 29=none/\mu prog 52=some [.s,.s]/\mu prog 61=none/\mu prog 63=some [.i .i64,.i .i64,.s]/\mu prog 134=none/\mu prog 261=none:=by
 and_intros<;>kernel_rfl
@[go_sem] theorem PS:jd prog 2=some (.int .i64)/\jd prog 3=some (.int .i64)/\jd prog 5=some (.int .u8)/\jd prog 9=some .str/\jd prog 133=some .bytes/\jd prog 134=some (.int .u64)/\jd prog 261=some (.int .u64):=by
 and_intros<;>kernel_rfl
@[go_sem] theorem Iy:wW prog 3=some [.int .i64 0]/\wW prog 28=some [.sl .full [],.sl .full [],.sl .full [],.sl .full [],.sl .full [],.sl .full [],.sl .full [],.sl .full []]/\wW prog 32=some [.int .i64 0,.int .i64 0,.sl .full []]/\wW prog 38=some [.int .i64 0,.int .i64 0,.sl .full []]/\wW prog 50=some [.int .i64 0,.sl .full []]/\wW prog 52=some [.str [],.str []]/\wW prog 55=some [.int .i64 0,.sl .full []]/\wW prog 57=some [.str [],.bool false,.str []]/\wW prog 60=some [.sl .full [],.int .i64 0]/\wW prog 63=some [.int .i64 0,.int .i64 0,.str []]/\wW prog 68=some [.sl .full [],.sl .full []]/\wW prog 79=some [.int .i64 0,.str [],.int .i64 0,.int .i64 0,.str [],.sl .full []]/\wW prog 81=some [.int .i64 0,.str [],.sl .full [],.sl .full [],.sl .full [],.bool false,.int .i64 0,.str [],.int .i64 0,.int .i64 0,.str [],.sl .full [],.str [],.bool false,.int .i64 0]/\wW prog 120=some [.int .i64 0,.int .i64 0,.str [],.int .i64 0,.int .i64 0,.str [],.sl .full []]/\wW prog 122=some [.str [],.int .i64 0,.str [],.int .i64 0,.int .i64 0,.str [],.sl .full []]/\wW prog 127=some [.sl .full [],.sl .full [],.raw (.map none),.raw (.map none),.raw (.map none)]:=by
 and_intros<;>kernel_rfl
@[go_sem] theorem Iz:wW prog 141=some [.str [],.sl .full [],.int .i64 0,.int .i64 0,.int .i64 0,.sl .full [],.sl .full [],.sl .full [],.int .i64 0,.int .i64 0,.int .i64 0]/\wW prog 174=some [.sl .full [],.int .i64 0,.int .i64 0,.int .i64 0,.int .i64 0]/\wW prog 180=some [.int .i64 0,.int .i64 0,.str [],.int .i64 0]/\wW prog 191=some [.int .i64 0,.str []]/\wW prog 200=some [.int .i64 0,.str [],.sl .full []]/\wW prog 310=some [.raw .nilFunc,.raw .nilFunc]:=by
 and_intros<;>kernel_rfl
@[go_sem] theorem Lk:de prog 9=1/\de prog 22=2/\de prog 25=2/\de prog 30=2/\de prog 33=2/\de prog 36=2/\de prog 41=2/\de prog 42=2/\de prog 53=2/\de prog 58=2/\de prog 61=2/\de prog 65=2/\de prog 66=2/\de prog 74=2/\de prog 75=2/\de prog 76=2:=by
 and_intros<;>kernel_rfl
@[go_sem] theorem Ll:de prog 77=2/\de prog 97=2/\de prog 133=2/\de prog 137=2/\de prog 169=2/\de prog 195=2/\de prog 201=2:=by
 and_intros<;>kernel_rfl
@[go_sem] theorem Lm:pb prog 9=true:=kR
@[go_sem] theorem Lo:eL prog 22=some 1/\eL prog 25=some 2/\eL prog 30=some 2/\eL prog 33=some 2/\eL prog 36=some 15/\eL prog 41=some 4/\eL prog 42=some 2/\eL prog 53=some 3/\eL prog 58=some 1/\eL prog 61=some 3/\eL prog 65=some 1/\eL prog 66=some 11/\eL prog 74=some 7/\eL prog 75=some 1/\eL prog 76=some 7/\eL prog 77=some 6:=by
 and_intros<;>kernel_rfl
@[go_sem] theorem Lp:eL prog 97=some 1/\eL prog 133=some 1/\eL prog 137=some 3/\eL prog 169=some 4/\eL prog 195=some 3/\eL prog 201=some 2/\eL prog 378=some 1:=by
 and_intros<;>kernel_rfl
@[go_sem] theorem PT:dQ prog 25=some (2,32)/\dQ prog 30=some (2,32)/\dQ prog 33=some (2,32)/\dQ prog 36=some (15,216)/\dQ prog 42=some (2,32)/\dQ prog 53=some (3,40)/\dQ prog 58=some (1,24)/\dQ prog 61=some (3,32)/\dQ prog 65=some (1,8)/\dQ prog 66=some (11,160)/\dQ prog 74=some (7,88)/\dQ prog 75=some (1,24)/\dQ prog 76=some (7,96)/\dQ prog 77=some (6,80)/\dQ prog 97=some (1,16)/\dQ prog 133=some (1,1):=by
 and_intros<;>kernel_rfl
@[go_sem] theorem PU:dQ prog 169=some (4,40)/\dQ prog 195=some (3,48)/\dQ prog 201=some (2,24)/\dQ prog 378=some (1,24):=by
 and_intros<;>kernel_rfl
@[go_sem] theorem Lq:gT prog 26=some (8,1,false):=kR
@[go_sem] theorem Lr:fr prog 28=some [(0,8)]/\fr prog 32=some [(0,1),(1,1),(2,1)]/\fr prog 38=some [(0,1),(1,1),(2,1)]/\fr prog 50=some [(0,1),(1,1)]/\fr prog 52=some [(0,1),(1,1)]/\fr prog 55=some [(0,1),(1,1)]/\fr prog 57=some [(0,1),(1,1),(2,1)]/\fr prog 60=some [(0,1),(1,1)]/\fr prog 63=some [(0,1),(1,1),(2,1)]/\fr prog 68=some [(0,1),(1,1)]/\fr prog 79=some [(0,1),(1,1),(2,3),(5,1)]/\fr prog 81=some [(0,1),(1,1),(2,1),(3,1),(4,1),(5,1),(6,6),(12,1),(13,1),(14,1)]/\fr prog 120=some [(0,1),(1,6)]/\fr prog 122=some [(0,1),(1,6)]/\fr prog 127=some [(0,2),(2,1),(3,1),(4,1)]/\fr prog 141=some [(0,1),(1,1),(2,1),(3,1),(4,1),(5,6)]:=by
 and_intros<;>kernel_rfl
@[go_sem] theorem Ls:fr prog 174=some [(0,1),(1,1),(2,1),(3,1),(4,1)]/\fr prog 180=some [(0,1),(1,1),(2,1),(3,1)]/\fr prog 191=some [(0,1),(1,1)]/\fr prog 200=some [(0,2),(2,1)]/\fr prog 310=some [(0,1),(1,1)]:=by
 and_intros<;>kernel_rfl
@[go_sem] theorem Lt:cA prog 28 0=some (0,8,true)/\cA prog 32 0=some (0,1,false)/\cA prog 32 1=some (1,1,false)/\cA prog 32 2=some (2,1,false)/\cA prog 38 0=some (0,1,false)/\cA prog 38 1=some (1,1,false)/\cA prog 38 2=some (2,1,false)/\cA prog 50 0=some (0,1,false)/\cA prog 50 1=some (1,1,false)/\cA prog 52 0=some (0,1,false)/\cA prog 52 1=some (1,1,false)/\cA prog 55 0=some (0,1,false)/\cA prog 55 1=some (1,1,false)/\cA prog 57 0=some (0,1,false)/\cA prog 57 1=some (1,1,false)/\cA prog 57 2=some (2,1,false):=by
 and_intros<;>kernel_rfl
@[go_sem] theorem Lu:cA prog 60 0=some (0,1,false)/\cA prog 60 1=some (1,1,false)/\cA prog 63 0=some (0,1,false)/\cA prog 63 1=some (1,1,false)/\cA prog 63 2=some (2,1,false)/\cA prog 68 0=some (0,1,false)/\cA prog 68 1=some (1,1,false)/\cA prog 79 0=some (0,1,false)/\cA prog 79 1=some (1,1,false)/\cA prog 79 2=some (2,3,true)/\cA prog 79 3=some (5,1,false)/\cA prog 81 0=some (0,1,false)/\cA prog 81 1=some (1,1,false)/\cA prog 81 2=some (2,1,false)/\cA prog 81 3=some (3,1,false)/\cA prog 81 4=some (4,1,false):=by
 and_intros<;>kernel_rfl
@[go_sem] theorem Lv:cA prog 81 5=some (5,1,false)/\cA prog 81 6=some (6,6,true)/\cA prog 81 7=some (12,1,false)/\cA prog 81 8=some (13,1,false)/\cA prog 81 9=some (14,1,false)/\cA prog 117 0=some (0,1,false)/\cA prog 117 1=some (1,1,false)/\cA prog 117 2=some (2,1,false)/\cA prog 117 3=some (3,1,false)/\cA prog 120 0=some (0,1,false)/\cA prog 120 1=some (1,6,true)/\cA prog 122 0=some (0,1,false)/\cA prog 122 1=some (1,6,true)/\cA prog 127 0=some (0,2,true)/\cA prog 127 1=some (2,1,false)/\cA prog 127 2=some (3,1,false):=by
 and_intros<;>kernel_rfl
@[go_sem] theorem Lw:cA prog 127 3=some (4,1,false)/\cA prog 141 0=some (0,1,false)/\cA prog 141 1=some (1,1,false)/\cA prog 141 2=some (2,1,false)/\cA prog 141 3=some (3,1,false)/\cA prog 141 4=some (4,1,false)/\cA prog 174 0=some (0,1,false)/\cA prog 174 1=some (1,1,false)/\cA prog 174 2=some (2,1,false)/\cA prog 174 3=some (3,1,false)/\cA prog 174 4=some (4,1,false)/\cA prog 180 0=some (0,1,false)/\cA prog 180 1=some (1,1,false)/\cA prog 180 2=some (2,1,false)/\cA prog 180 3=some (3,1,false)/\cA prog 188 0=some (0,1,false):=by
 and_intros<;>kernel_rfl
@[go_sem] theorem Lx:cA prog 188 1=some (1,1,false)/\cA prog 188 2=some (2,1,false)/\cA prog 191 0=some (0,1,false)/\cA prog 191 1=some (1,1,false)/\cA prog 200 0=some (0,2,true)/\cA prog 200 1=some (2,1,false)/\cA prog 310 0=some (0,1,false)/\cA prog 310 1=some (1,1,false):=by
 and_intros<;>kernel_rfl
@[go_sem] theorem Ly:iG prog 65=some [.int .i64 0]/\iG prog 133=some [.int .u8 0]:=by
 and_intros<;>kernel_rfl
@[go_sem] theorem Tryz.Es:mA prog 124=true:=kR
@[go_sem] theorem Tryz.IA:fP prog 124=some (.st [.i .i64,.s],.str []):=kR
@[go_sem] theorem Tryz.Et:mA prog 125=true:=kR
@[go_sem] theorem Tryz.oM:fP prog 125=some (.st [.i .i64,.s],.int .i64 0):=kR
@[go_sem] theorem Tryz.F2:CY prog 195=true:=kR
theorem cB {P:Program} {f:FuncId} (h:wE P f=true:=by kernel_rfl):wE P f=true:=h
end Go.Proofs.YtefbicjgbaaieaaGreat
namespace Go.Proofs.YtefbicjgbaaieaaGreat
open Go Go.Vx Go.Proofs.Tryz
set_option maxRecDepth 100000
structure eT where
 name:afE
 kind:Int
 null:Bool
 deriving DecidableEq
@[go_sem] def eT.row (x:eT):List V:= [.str x.name,.int .i64 x.kind,.bool x.null]
structure x5 where
 AU:afH
 pA:afH
 rM:afH
 F3:Int
 AV:Int
 uF:Int
 deriving DecidableEq
structure bI where
 name:afE
 bW:List eT
 key:Int
 place:Int
 region:Int
 lG:x5
 deriving DecidableEq
@[go_sem] def bI.row (x:bI):List V:= [.str x.name,.sl .ro (x.bW.map eT.row),.int .i64 x.key,.int .i64 x.place,.int .i64 x.region,.sl .ro (x.lG.AU.map (λn=> [V.int .i64 n])),.sl .ro (x.lG.pA.map (λn=> [V.int .i64 n])),.sl .ro (x.lG.rM.map (λn=> [V.int .i64 n])),.int .i64 x.lG.F3,.int .i64 x.lG.AV,.int .i64 x.lG.uF]
structure bG where
 kind:Int
 n:Int
 s:afE
 deriving DecidableEq
@[go_sem] def bG.row (x:bG):List V:= [.int .i64 x.kind,.int .i64 x.n,.str x.s]
structure bG.ok (x:bG):Prop where
 kind: -9223372036854775808<=x.kind/\x.kind<=9223372036854775807
 n: -9223372036854775808<=x.n/\x.n<=9223372036854775807
 s:x.s.length<=maxLen
inductive bH where
 |mk (kind:Int) (s:afE) (v:bG) (args:List bH)
def bH.kind:bH->Int
 | .mk x _ _ _=>x
def bH.s:bH->afE
 | .mk _ x _ _=>x
def bH.v:bH->bG
 | .mk _ _ x _=>x
def bH.args:bH->List bH
 | .mk _ _ _ x=>x
mutual
def bH.row:bH->List V
 | .mk a0 a1 a2 a3=> [.int .i64 a0,.str a1,.int .i64 a2.kind,.int .i64 a2.n,.str a2.s,.sl .ro (bH.rows a3)]
def bH.rows:List bH->List (List V)
 | []=> []
 |e::l=>bH.row e::bH.rows l
end
theorem bH.mE: ∀l:List bH,bH.rows l=l.map bH.row
 | []=>rfl
 |e::l=>by rw[bH.rows,bH.mE l];rfl
@[go_sem] theorem bH.bN (x:bH):x.row= [.int .i64 x.kind,.str x.s,.int .i64 x.v.kind,.int .i64 x.v.n,.str x.v.s,.sl .ro (x.args.map bH.row)]:=by
 cases x
 rw[bH.row,bH.mE]
 rfl
structure cx where
 kind:Int
 e:bH
@[go_sem] def cx.row (x:cx):List V:= [.int .i64 x.kind,.int .i64 x.e.kind,.str x.e.s,.int .i64 x.e.v.kind,.int .i64 x.e.v.n,.str x.e.v.s,.sl .ro (x.e.args.map bH.row)]
structure bY where
 name:afE
 e:bH
@[go_sem] def bY.row (x:bY):List V:= [.str x.name,.int .i64 x.e.kind,.str x.e.s,.int .i64 x.e.v.kind,.int .i64 x.e.v.n,.str x.e.v.s,.sl .ro (x.e.args.map bH.row)]
structure bQ where
 kind:Int
 table:afE
 items:List cx
 rows:List (List bH)
 cu:List bY
 dq:Bool
 ct:bH
 order:afE
 down:Bool
 dg:Int
@[go_sem] def bQ.row (x:bQ):List V:= [.int .i64 x.kind,.str x.table,.sl .ro (x.items.map cx.row),.sl .ro (x.rows.map (λ(l:List bH)=> [V.sl .ro (l.map bH.row)])),.sl .ro (x.cu.map bY.row),.bool x.dq,.int .i64 x.ct.kind,.str x.ct.s,.int .i64 x.ct.v.kind,.int .i64 x.ct.v.n,.str x.ct.v.s,.sl .ro (x.ct.args.map bH.row),.str x.order,.bool x.down,.int .i64 x.dg]
structure fj where
 mode:Int
 n:Int
 stmts:List bQ
@[go_sem] def fj.row (x:fj):List V:= [.int .i64 x.mode,.int .i64 x.n,.sl .ro (x.stmts.map bQ.row)]
structure dR where
 kO:Int
 a:Int
 b:Int
 c:Int
 deriving DecidableEq
@[go_sem] def dR.row (x:dR):List V:= [.int .i64 x.kO,.int .i64 x.a,.int .i64 x.b,.int .i64 x.c]
structure dR.ok (x:dR):Prop where
 kO: -9223372036854775808<=x.kO/\x.kO<=9223372036854775807
 a: -9223372036854775808<=x.a/\x.a<=9223372036854775807
 b: -9223372036854775808<=x.b/\x.b<=9223372036854775807
 c: -9223372036854775808<=x.c/\x.c<=9223372036854775807
theorem dR.nS {vs:List V} (h:lp prog 117 vs): ∃x:dR,vs=x.row/\x.ok:=by
 have h:jI prog [3,3,3,3] vs:=h.nQ underlying117
 obtain⟨_,_,rfl,h0,h⟩:=h.cons_inv
 obtain⟨_,_,rfl,h1,h⟩:=h.cons_inv
 obtain⟨_,_,rfl,h2,h⟩:=h.cons_inv
 obtain⟨_,_,rfl,h3,h⟩:=h.cons_inv
 obtain rfl:=h.lD
 obtain⟨x0,rfl,w0⟩:=h0.jR underlying3
 have w0:=Iv w0
 obtain⟨x1,rfl,w1⟩:=h1.jR underlying3
 have w1:=Iv w1
 obtain⟨x2,rfl,w2⟩:=h2.jR underlying3
 have w2:=Iv w2
 obtain⟨x3,rfl,w3⟩:=h3.jR underlying3
 have w3:=Iv w3
 exact⟨⟨x0,x1,x2,x3⟩,rfl,⟨w0,w1,w2,w3⟩⟩
end Go.Proofs.YtefbicjgbaaieaaGreat
namespace Go.Vx
open Go
section
variable {P:Program} {c:Ctx} {nt:Nat} {n0:Kp}
variable {ops:List Oper}{q:List (Nat×Nat)}{U:St}{e:Env}{e0:Env}{tr:List (V×St)}{bF:Array Bool}{i:Nat}{o:Oper}{z:List V}
theorem PV {Q:Exit->Act->World->Prop} {bT:St} (hn:n0.n<=bT.length) (ht:mc P c nt n0 ops q 0 ops e0 bT tr)
  (B:Nat->Nat->Prop) (sp: ∀{i j:Nat} {x y:Oper},i<j->ops[i]? =some x->ops[j]? =some y->nK ops q i j x y=false\/B i j)
  {a:Act} {w:World} {L:Nat->Nat} {I:afG} (aa:ops[i]? =some o) (au:bF.getD i false=false) (a6:i<bF.size)
  (ahead: ∀{k:Nat},k≠i->B k i->bF.getD k false) (wX: ∀{k:Nat},B i k->bF.getD k false=false) (a7: ∀{k j:Nat},B k j->bF.getD j false=true->bF.getD k false)
  (hs:dp c nt (fE (λi=>bF.getD i false) 0 ops tr e0) (fS (λi=>bF.getD i false) q 0 ops tr bT) a w L I) {next:Act->World->Prop}
  (a8: ∀a' w' L' I',dp c nt (fE (λk=>(bF.setIfInBounds i true).getD k false) 0 ops tr e0) (fS (λk=>(bF.setIfInBounds i true).getD k false) q 0 ops tr bT) a' w' L' I'->next a' w'):
  if Region.wanted o (yielded ops.toArray a.tmps)then o.wp P a w next Q\/(o.asks P a w/\LetsOut Q)else next (a.put o.dst undef) w:=by
 have aj: ∀k,k≠i->(bF.setIfInBounds i true).getD k false=bF.getD k false:=λk hk=>getD_set_ne false (λq=>hk q.symm)
 have av:(bF.setIfInBounds i true).getD i false:=by simp[Array.getD,a6]
 obtain⟨al,aA⟩:=rF ops q ops tr 0 e0 bT ht
 obtain⟨v,U',aw,ag⟩:=aA i o aa
 rw[A7]at ag
 have ax: ∀t∈kN ops o,fE (λi=>bF.getD i false) 0 ops tr e0 t=fE (λj=>decide (j<i)) 0 ops tr e0 t:=by
  intro t al
  refine wT _ _ t ops tr 0 e0 e0 rfl λk o' hk ad=> ?_
  rw[A7]
  rcases Aw k i with ab|ab|ab
  .rw[afd ab]
   rcases sp ab hk aa with hc|hb
   .exact absurd al ((zY hc).2.1 t ad).1
   .exact ahead om hb
  .subst ab;rw[au];simp
  .rw[afc om]
   rcases sp ab aa hk with hc|hb
   .exact absurd al ((zY hc).2.2 t ad)
   .exact wX hb
 have ak:2<=zQ q i o->fS (λi=>bF.getD i false) q 0 ops tr bT=fS (λj=>decide (j<i)) q 0 ops tr bT:=by
  intro af
  refine mD _ _ q ops tr 0 bT λk o' hk ad=> ?_
  rw[A7]at ad⊢
  rcases Aw k i with ab|ab|ab
  .rw[afd ab]
   rcases sp ab hk aa with hc|hb
   .have:=(zY hc).1
    rw[qm ad (yR _ _ _) af (yR _ _ _)]at this
    cases this
   .exact ahead om hb
  .subst ab;rw[au];simp
  .rw[afc om]
   rcases sp ab aa hk with hc|hb
   .have:=(zY hc).1
    rw[Eh,qm ad (yR _ _ _) af (yR _ _ _)]at this
    cases this
   .exact wX hb
 have ay:zQ q i o=1->n0.of (fS (λi=>bF.getD i false) q 0 ops tr bT)=n0.of (fS (λj=>decide (j<i)) q 0 ops tr bT):=by
  intro az
  have pre: ∀N,N<=ops.length-> ∃m,m<=N/\ ∀k o',k<N->ops[k]? =some o'->3<=zQ q k o'->bF.getD k false=decide (k<m):=by
   intro N
   induction N with
   |zero=>exact λ_=>⟨0,A3 _,λk o' h=>om⟩
   |succ N aB=>
    intro hN
    obtain⟨m,hm,ae⟩:=aB om
    have a1:=A0 (show N<ops.length by omega)
    by_cases hw:3<=zQ q N (ops[N]'om)/\bF.getD N false=true
    .refine⟨N+1,A3 _,λk o' hk ah h3=> ?_⟩
     rw[afd hk]
     by_cases an:k=N
     .subst an;exact hw.2
     .rcases sp (show k<N by omega) ah a1 with hc|hb
      .have:=(zY hc).1
       rw[qm h3 (yR _ _ _) om (yR _ _ _)]at this
       cases this
      .exact a7 hb hw.2
    .refine⟨m,om,λk o' hk ah h3=> ?_⟩
     by_cases an:k=N
     .subst an
      rw[a1]at ah;cases ah
      rw[afc om]
      cases hl:bF.getD k false with
      |false=>rfl
      |true=>exact absurd ⟨h3,hl⟩ hw
     .exact ae k o' om ah h3
  obtain⟨m,hm,ae⟩:=pre ops.length (A3 _)
  have e1:fS (λi=>bF.getD i false) q 0 ops tr bT=fS (λx=>decide (x<m)) q 0 ops tr bT:=
   mD _ _ q ops tr 0 bT λk o' hk h3=>by
    rw[A7]at h3⊢
    exact ae k o' (A1.1 hk).1 hk h3
  rw[e1]
  have aD:i<ops.length:=(A1.1 aa).1
  rcases Nat.le_total m i with aC|aC
  .have:=(Ej ht hn (i - m) m om (λk o' h5 h6 hk h4=>by
    have h7:=ae k o' (A1.1 hk).1 hk om
    rw[afc om]at h7
    rcases sp (show k<i by omega) hk aa with hc|hb
    .have:=(zY hc).1
     rw[h4,az,Ei dc]at this
     cases this
    .rw[ahead om hb]at h7;cases h7)).2
   rw[show m+(i - m)=i by omega]at this
   grind
  .have:=(Ej ht hn (m - i) i om (λk o' h5 h6 hk h4=>by
    have h7:=ae k o' (A1.1 hk).1 hk om
    rw[afd om]at h7
    have ab:k≠i:=λqq=>by
     subst qq
     rw[hk]at aa;cases aa
     omega
    rcases sp (show i<k by omega) aa hk with hc|hb
    .have:=(zY hc).1
     rw[Eh,h4,az,Ei dc]at this
     cases this
    grind)).2
   rw[show i+(m - i)=m by omega]at this
   omega
 refine Eg (ops:=ops) (Q:=Q) (next:=next) o hs (ag.step ax ak ay) ?_
 rintro e' s' a' w' L' I' aE ⟨rfl,rfl⟩
 have e1:eN (fE (λi=>bF.getD i false) 0 ops tr e0) o.dst v=fE (λk=>(bF.setIfInBounds i true).getD k false) 0 ops tr e0:=by
  funext t
  by_cases ai:o.dst=some t
  .rw[pw _ _ _ _ ai]
   refine(rD _ t ops tr 0 i e0 o v U' aa aw ai (by rw[A7];exact av) λk' o' ao aq ar=> ?_).symm
   rw[A7,aj k' om]
   rcases sp ao aa aq with hc|hb
   .exact absurd ar ((zY hc).2.1 t ai).2
   .exact wX hb
  .rw[wC _ _ _ _ ai]
   refine wT _ _ t ops tr 0 e0 e0 rfl λk o' hk ad=> ?_
   rw[A7]
   refine(aj k λq=> ?_).symm
   subst q
   rw[aa]at hk;cases hk
   exact ai ad
 have e2:(if 3<=zQ q i o then U' else fS (λi=>bF.getD i false) q 0 ops tr bT)=fS (λk=>(bF.setIfInBounds i true).getD k false) q 0 ops tr bT:=by
  split
  .rename_i af
   refine(uz _ q ops tr 0 i bT o v U' aa aw (by rw[A7];exact af) (by rw[A7];exact av) λk' o' ao aq ar=> ?_).symm
   rw[A7]at ar⊢
   rw[aj k' om]
   rcases sp ao aa aq with hc|hb
   .have:=(zY hc).1
    rw[qm af (yR _ _ _) om (yR _ _ _)]at this
    cases this
   grind
  .rename_i af
   refine mD _ _ q ops tr 0 bT λk o' hk ad=> ?_
   rw[A7]at ad⊢
   refine(aj k λq=> ?_).symm
   subst q
   rw[aa]at hk;cases hk
   exact af ad
 grind
theorem WX (B:Nat->Nat->Prop) (sp: ∀{i j:Nat} {x y:Oper},i<j->ops[i]? =some x->ops[j]? =some y->nK ops q i j x y=false\/B i j)
  (ab:ops[i]? =some o) (af:bF.getD i false=false)
  (ahead: ∀{k:Nat},k≠i->B k i->bF.getD k false) (wX: ∀{k:Nat},B i k->bF.getD k false=false):
  ∀t∈kN ops o,fE (λi=>bF.getD i false) 0 ops tr e0 t=fE (λj=>decide (j<i)) 0 ops tr e0 t:=by
 intro t ad
 refine wT _ _ t ops tr 0 e0 e0 rfl λk o' hk ae=> ?_
 rw[A7]
 rcases Aw k i with aa|aa|aa
 .rw[afd aa]
  rcases sp aa hk ab with hc|hb
  .exact absurd ad ((zY hc).2.1 t ae).1
  grind
 .grind
 .rw[afc om]
  rcases sp aa ab hk with hc|hb
  .exact absurd ad ((zY hc).2.2 t ae)
  grind
theorem WY (B:Nat->Nat->Prop) (sp: ∀{i j:Nat} {x y:Oper},i<j->ops[i]? =some x->ops[j]? =some y->nK ops q i j x y=false\/B i j)
  {v:V} {U':St} (ab:ops[i]? =some o) (ad:tr[i]? =some (v,U')) (ai:i<bF.size) (wX: ∀{k:Nat},B i k->bF.getD k false=false):
  eN (fE (λi=>bF.getD i false) 0 ops tr e0) o.dst v=fE (λk=>(bF.setIfInBounds i true).getD k false) 0 ops tr e0:=by
 have ae: ∀k,k≠i->(bF.setIfInBounds i true).getD k false=bF.getD k false:=λk hk=>getD_set_ne false om
 have aj:(bF.setIfInBounds i true).getD i false:=by simp_all
 funext t
 by_cases aa:o.dst=some t
 .rw[pw _ _ _ _ aa]
  refine(rD _ t ops tr 0 i e0 o v U' ab ad aa (by grind) λk' o' af ag ah=> ?_).symm
  rw[A7,ae k' om]
  rcases sp af ab ag with hc|hb
  .exact absurd ah ((zY hc).2.1 t aa).2
  grind
 .rw[wC _ _ _ _ aa]
  refine wT _ _ t ops tr 0 e0 e0 rfl λk o' hk ak=> ?_
  grind
theorem Lz {n:Nat} (D:Nat->Bool): ∀(os:List Oper) (tr:List (V×St)) (i:Nat) (e:Env),(∀t,fW n (e t)=true)->(∀(k:Nat) v s,tr[k]? =some (v,s)->D (i+k)=true->fW n v=true)-> ∀t,fW n (fE D i os tr e t)=true
 | [],_,_,_,h,_=>by simpa
 |o::os,[],_,_,h,_=>by simpa
 |o::os,(v,s)::tr,i,e,h,hv=>by
  rw[fE]
  refine Lz D os tr (i+1) _ (λt=> ?_) (λk v' s' hk hD=>hv (k+1) v' s' (by grind) (by grind))
  split
  .rename_i ab
   by_cases aa:o.dst=some t
   .rw[pw _ _ _ _ aa];exact hv 0 v s rfl om
   grind[wC]
  grind
theorem dp.pick {e e':Env} {U s:St} {a:Act} {w:World} {L:Nat->Nat} {I:afG} {pick:afF} (h:dp c nt e U a w L I) (hp:eM c.bT.length pick U s) (hc:c.β0.length=c.bT.length) (he: ∀t,cF (cz pick U.length) (e' t) (e t)):
  ∃I',dp c nt e' s a w L I':=
 ⟨_,h.mem.pick hp hc,h.size,h.defs,λt=>vY (hp.iH h.mem.len) (he t) (h.env t)⟩
theorem WZ {n0:Nat} (hn:n0<=U.length) (aa:U.all (bP U.length)) (hz:z.all j5):
  eM n0 (List.range U.length++ [U.length+1,U.length]) (U++ [.box z,.box z]) (U++ [.box z,.box z]):=by
 have hb: ∀ρ,yF ρ (.box z)= .box z:=(by grind[yF,xU,xf])
 have hr: ∀i,i<U.length->cz (List.range U.length++ [U.length+1,U.length]) (U++ [Ob.box z,Ob.box z]).length i=i:=(by grind[xX])
 refine⟨sm, ?_,λi j o hi ho=> ?_,λi hi=> ?_⟩
 .grind
 .by_cases h1:i<U.length
  .rw[Ak (by grind),Cs h1]at hi
   cases hi
   rw[Ak h1]at ho
   have h2:bP U.length o:=(by grind)
   grind[xH]
  .rw[Ay (by grind)]at hi
   grind
 grind
theorem LA {Q:Exit->Act->World->Prop} {next:Act->World->Prop} {a:Act} {w:World} {L:Nat->Nat} {I:afG} {d:Tmp} {t ty:TypeId} {pos:String} {dG:Array Edge}
  (hz:wW P t=some z) (hd:d<nt) (h:dp c nt e U a w L I) (hn: ∀a' w' L' I',dp c nt (dK e d (.ptr U.length 0)) (U++ [.box z]) a' w' L' I'->next a' w'):
  if Region.wanted (⟨some d,.alloc t,ty,pos,dG,none⟩:Oper) (yielded ops.toArray a.tmps)then(⟨some d,.alloc t,ty,pos,dG,none⟩:Oper).wp P a w next Q\/((⟨some d,.alloc t,ty,pos,dG,none⟩:Oper).asks P a w/\LetsOut Q)else next (a.put (some d) undef) w:=by
 refine Eg (ops:=ops) (Q:=Q) (next:=next) ⟨some d,.alloc t,ty,pos,dG,none⟩ (K:=λe' s'=>e'=dK e d (.ptr U.length 0)/\s'=U++ [.box z]) h ?_ ?_
 .have aa:xB P (some d) e U (.alloc t)= .st (.ptr U.length 0) (U++ [.box z]):=by
   have h1:bX P e U (.alloc t)= .st (.ptr U.length 0) (U++ [.box z]):=by grind[bX,pa]
   have h2:gE P e U (.alloc t)=bX P e U (.alloc t):=rfl
   grind[xB]
  show ly nt (some d) (xB P (some d) e U (.alloc t)) _ e U
  rw[aa]
  trivial
 grind
theorem W0 {Q:Exit->Env->St->Prop} {bT:St} {p dA dB:Nat} {t tA tB:TypeId} {aC aD:String} {aA aB:Array Edge}
  (hn:n0.n<=bT.length) (bb:c.bT.length<=bT.length) (bc:c.β0.length=c.bT.length)
  (hA:ops[p]? =some ⟨some dA,.alloc t,tA,aC,aA,none⟩) (hB:ops[p+1]? =some ⟨some dB,.alloc t,tB,aD,aB,none⟩) (bd:dA≠dB)
  (b4:zQ q p ⟨some dA,.alloc t,tA,aC,aA,none⟩=3) (b5:zQ q (p+1) ⟨some dB,.alloc t,tB,aD,aB,none⟩=3) (hz:wW P t=some z) (bf:z.all j5)
  (ay: ∀(k:Nat) o,k<p->ops[k]? =some o->zQ q k o<2/\dA∉kN ops o/\dB∉kN ops o/\o.dst≠some dA/\o.dst≠some dB)
  (aQ: ∀(k:Nat) o,p+1<k->ops[k]? =some o->p∈(dM ops []).getD k []/\(p+1)∈(dM ops []).getD k [])
  (hd: ∀{i j:Nat} {x y:Oper},i<j->ops[i]? =some x->ops[j]? =some y->nK ops q i j x y=false\/(i∈(dM ops []).getD j []\/(i=p/\j=p+1))) (aH:xT ops)
  (bg:bT.all (bP bT.length)) (h0: ∀s,fW bT.length (e0 s)) (hv: ∀(k:Nat) v s,k<p->tr[k]? =some (v,s)->fW bT.length v)
  (ht:mc P c nt n0 ops q 0 ops e0 bT tr) (hQ:Q .normal (fE (λ_=>true) 0 ops tr e0) (fS (λ_=>true) q 0 ops tr bT)):
  ∀(fuel:Nat) (bF:Array Bool) (a:Act) (w:World) (L:Nat->Nat) (I:afG),bF.size=ops.length->bF.toList.count false=fuel->
   (∀(j:Nat) o,ops[j]? =some o->bF.getD j false=true-> ∀e∈o.after.toList,Region.binds .any e=true->bF.getD e.on false=true)->
   ((bF.getD (p+1) false=true->bF.getD p false=true)/\dp c nt (fE (λi=>bF.getD i false) 0 ops tr e0) (fS (λi=>bF.getD i false) q 0 ops tr bT) a w L I\/
    (bF.getD (p+1) false=true/\bF.getD p false=false)/\dp c nt (dK (fE (λi=>bF.getD i false) 0 ops tr e0) dB (.ptr bT.length 0)) (bT++ [.box z]) a w L I)->
   wpAny P .any ops.toArray (dH c nt Q) fuel bF a w:=by
 obtain⟨b6,aI⟩:=rF ops q ops tr 0 e0 bT ht
 have b7:p+1<ops.length:=(A1.1 hB).1
 have bh:fS (λj=>decide (j<p)) q 0 ops tr bT=bT:=rE _ q ops tr 0 bT λk o hk h3=>by
  rw[A7]at h3⊢
  by_cases al:k<p
  .have:=(ay k o al hk).1;omega
  .simp;omega
 have aR: ∀(e:Env) (U:St) (d:Tmp),xB P (some d) e U (.alloc t)= .st (.ptr U.length 0) (U++ [.box z]):=λe U d=>by
  have h1:bX P e U (.alloc t)= .st (.ptr U.length 0) (U++ [.box z]):=by simp only[bX,pa,hz]
  have h2:gE P e U (.alloc t)=bX P e U (.alloc t):=rfl
  unfold xB
  rw[h2,h1];simp
 have fact: ∀{k d tt ps af E S v s'},Fact P c nt n0 ops q k ⟨some d,.alloc t,tt,ps,af,none⟩ E S v s'->v= .ptr S.length 0/\s'=S++ [.box z]/\d<nt:=by
  intro k d tt ps af E S v s' hf
  obtain⟨bj,_,_,_,g,hg,hb⟩:=hf
  simp only at hg
  subst hg
  simp only[afj]at hb
  obtain⟨_,_,_,hb⟩:=hb
  rw[aR]at hb
  rcases hb with ⟨hr,_⟩|⟨_,hr,_⟩|⟨_,hr|⟨_,hr,_⟩⟩
  .cases hr
  .cases hr
  .cases hr;exact⟨rfl,rfl,bj d rfl⟩
  .cases hr
 obtain⟨vA,sA,aE,aS⟩:=aI p _ hA
 rw[A7,bh]at aS
 obtain⟨rfl,rfl,bk⟩:=fact aS
 have bm:fS (λj=>decide (j<p+1)) q 0 ops tr bT=bT++ [.box z]:=
  uz _ q ops tr 0 p bT _ _ _ hA aE (by rw[A7];omega) sm λk' o' ao _ _=>by simp;omega
 obtain⟨vB,sB,aq,aT⟩:=aI (p+1) _ hB
 rw[A7,bm]at aT
 obtain⟨rfl,rfl,bn⟩:=fact aT
 simp only[Ah,Bf,Bu,List.singleton_append]at aq
 have fin: ∀(bF:Array Bool) (a:Act) (w:World) (L:Nat->Nat) (I:afG),dp c nt (fE (λi=>bF.getD i false) 0 ops tr e0) (fS (λi=>bF.getD i false) q 0 ops tr bT) a w L I->
   (∀i,i<ops.length->bF.getD i false=true)->dH c nt Q .normal a w:=by
  intro bF a w L I hs aj
  have e1:fE (λi=>bF.getD i false) 0 ops tr e0=fE (λ_=>true) 0 ops tr e0:=by
   funext t
   exact wT _ _ t ops tr 0 e0 e0 rfl λk o hk _=>by rw[A7];exact aj k (A1.1 hk).1
  have e2:fS (λi=>bF.getD i false) q 0 ops tr bT=fS (λ_=>true) q 0 ops tr bT:=
   mD _ _ q ops tr 0 bT λk o hk _=>by rw[A7];exact aj k (A1.1 hk).1
  rw[e1,e2]at hs
  exact⟨_,_,L,I,hs,hQ⟩
 have ar: ∀(bF:Array Bool),bF.size=ops.length->Region.ready .any ops.toArray bF= []-> ∀i,i<ops.length->bF.getD i false=true:=by
  intro bF an hr i
  induction i using Nat.strongRecOn with
  |ind i ih=>
   intro hi
   cases az:bF.getD i false with
   |true=>rfl
   |false=>
    exfalso
    have hm:i∈Region.ready .any ops.toArray bF:=by
     refine mem_ready.2 ⟨?_,ops[i],by simp[hi],λe he hb=> ?_⟩
     .have aa:i<bF.size:=om
      simpa[Array.getD,aa]using az
     .unfold xT at aH
      simp only[Ad,Bz]at aH
      have:=aH i hi
      rw[A0 hi]at this
      simp only[Bd]at this
      have:=this e he
      simp only[hb,E0,Bj,afe]at this
      exact ih e.on this om
    rw[hr]at hm
    cases hm
 intro fuel
 induction fuel with
 |zero=>
  intro bF a w L I an aU au hs
  have aj: ∀i,i<ops.length->bF.getD i false:=by
   intro i hi
   have aa:i<bF.size:=om
   cases az:bF[i]with
   |true=>simp[Array.getD,aa,az]
   |false=>
    exfalso
    have:false∈bF.toList:=by
     rw[<-az];simp
    have:=List.count_pos_iff.2 this
    omega
  rcases hs with ⟨_,hs⟩|⟨⟨_,hp⟩,_⟩
  .refine⟨?_,fin bF a w L I hs aj⟩
   cases hr:Region.ready .any ops.toArray bF with
   |nil=>rfl
   |cons i l=>
    exfalso
    have hm:i∈Region.ready .any ops.toArray bF:=by rw[hr];simp
    obtain⟨h1,o,ho,_⟩:=mem_ready.1 hm
    have hi:i<ops.length:=(A1.1 (sU ho)).1
    have:=aj i hi
    have aa:i<bF.size:=om
    simp[Array.getD,aa]at this h1
    rw[this]at h1
    cases h1
  .rw[aj p om]at hp;cases hp
 |succ fuel ih=>
  intro bF a w L I an aU au hs
  refine⟨λhr=> ?_,λi hi=> ?_⟩
  .rcases hs with ⟨_,hs⟩|⟨⟨_,hp⟩,_⟩
   .exact fin bF a w L I hs (ar bF an hr)
   .rw[ar bF an hr p om]at hp;cases hp
  obtain⟨h1,o,ho,aJ⟩:=mem_ready.1 hi
  have ab:ops[i]? =some o:=sU ho
  have b8:i<ops.length:=(A1.1 ab).1
  have aa:i<bF.size:=om
  have ag:bF.getD i false=false:=by
   simp[Array.getD,aa]at h1⊢;exact h1
  have ad: ∀k,k≠i->(bF.setIfInBounds i true).getD k false=bF.getD k false:=λk hk=>getD_set_ne false (λq=>hk q.symm)
  have a1:(bF.setIfInBounds i true).getD i false:=by simp[Array.getD,aa]
  have aF: ∀(j:Nat) o,ops[j]? =some o->(bF.setIfInBounds i true).getD j false=true-> ∀e∈o.after.toList,Region.binds .any e=true->(bF.setIfInBounds i true).getD e.on false=true:=by
   intro j o' hj aV e he hb
   by_cases aW:j=i
   .subst aW
    rw[ab]at hj
    cases hj
    exact getD_set_true (aJ e (sU he) hb)
   .rw[ad j aW]at aV
    exact getD_set_true (au j o' hj aV e he hb)
  have ahead: ∀{k:Nat},k≠i->k∈(dM ops []).getD i []->bF.getD k false=true:=fun{k} hk hb=>by
   have:=xO (D:=λj=>(bF.setIfInBounds i true).getD j false) aF hb a1
   rwa [ad k hk]at this
  have wX: ∀{k:Nat},i∈(dM ops []).getD k []->bF.getD k false=false:=fun{k} hb=>by
   cases hk:bF.getD k false with
   |false=>rfl
   |true=>
    have:=xO (D:=λj=>bF.getD j false) au hb hk
    rw[ag]at this;cases this
  have a6:(bF.setIfInBounds i true).toList.count false=fuel:=by
   have:=K3 (l:=bF) (i:=i) (by
    rw[As aa]
    have:=ag
    simp[Array.getD,aa]at this
    rw[this])
   omega
  have next:=λa' w' L' I' h=>ih (bF.setIfInBounds i true) a' w' L' I' (sU an) a6 aF h
  unfold wpOp
  rw[ho]
  show if Region.wanted o (yielded ops.toArray a.tmps)then o.wp P a w (wpAny P .any ops.toArray (dH c nt Q) fuel (bF.setIfInBounds i true)) (dH c nt Q)\/_ else _
  have only:bF.getD p false=false-> ∀k,p+1<k->bF.getD k false=false:=λhp k hk=>by
   cases hl:bF.getD k false with
   |false=>rfl
   |true=>
    have bo:k<ops.length:=by
     rcases Bo k ops.length with h|h
     .exact h
     .exfalso;simp[Array.getD,an,Nat.not_lt.2 h]at hl
    have:=xO (D:=λj=>bF.getD j false) au (aQ k _ hk (A0 bo)).1 hl
    rw[hp]at this;cases this
  have bp:(i≠p+1\/bF.getD p false=true)->(bF.getD (p+1) false=true->bF.getD p false=true)->dp c nt (fE (λi=>bF.getD i false) 0 ops tr e0) (fS (λi=>bF.getD i false) q 0 ops tr bT) a w L I->
    if Region.wanted o (yielded ops.toArray a.tmps)then o.wp P a w (wpAny P .any ops.toArray (dH c nt Q) fuel (bF.setIfInBounds i true)) (dH c nt Q)\/(o.asks P a w/\LetsOut (dH c nt Q))else wpAny P .any ops.toArray (dH c nt Q) fuel (bF.setIfInBounds i true) (a.put o.dst undef) w:=by
   intro ae hinv hs
   refine PV hn ht (λi j=>i∈(dM ops []).getD j []\/(i=p/\j=p+1)) (λh1 h2 h3=>hd h1 h2 h3) ab ag aa ?_ ?_ ?_ hs λa' w' L' I' ai=>next a' w' L' I' (.inl ⟨?_,ai⟩)
   .rintro k hk (hb|⟨rfl,rfl⟩)
    .exact ahead hk hb
    .rcases ae with h|h
     .exact absurd rfl h
     .exact h
   .rintro k (hb|⟨rfl,rfl⟩)
    .exact wX hb
    .cases hl:bF.getD (i+1) false with
     |false=>rfl
     |true=>rw[hinv hl]at ag;cases ag
   .rintro k j (hb|⟨rfl,rfl⟩) hj
    .exact xO (D:=λj=>bF.getD j false) au hb hj
    .exact hinv hj
   .intro h
    by_cases av:i=p
    .subst av;exact a1
    .rw[ad p (λq=>av q.symm)]
     by_cases aG:i=p+1
     .rcases ae with h'|h'
      .exact absurd aG h'
      .exact h'
     .rw[ad (p+1) (λq=>aG q.symm)]at h
      exact hinv h
  rcases hs with ⟨hinv,hs⟩|⟨⟨a7,a8⟩,hs⟩
  .by_cases ae:i=p+1/\bF.getD p false=false
   ·
    obtain⟨rfl,hp⟩:=ae
    rw[hB]at ab;cases ab
    have aX:fS (λi=>bF.getD i false) q 0 ops tr bT=bT:=rE _ q ops tr 0 bT λk o hk h3=>by
     rw[A7]at h3⊢
     rcases Aw k p with al|rfl|al
     .have:=(ay k o al hk).1;omega
     .exact hp
     .by_cases aw:k=p+1
      .subst aw;exact ag
      .exact only hp k om
    rw[aX]at hs
    refine LA (ops:=ops) (Q:=dH c nt Q) (next:=wpAny P .any ops.toArray (dH c nt Q) fuel (bF.setIfInBounds (p+1) true)) hz bn hs λa' w' L' I' ai=>next a' w' L' I' (.inr ⟨⟨a1,by rw[ad p om];exact hp⟩, ?_⟩)
    have:dK (fE (λi=>(bF.setIfInBounds (p+1) true).getD i false) 0 ops tr e0) dB (.ptr bT.length 0)=dK (fE (λi=>bF.getD i false) 0 ops tr e0) dB (.ptr bT.length 0):=by
     funext s
     simp only[dK]
     split
     .rfl
     .rename_i bq
      refine wT _ _ s ops tr 0 e0 e0 rfl λk o hk ax=> ?_
      rw[A7]
      refine ad k λe=> ?_
      subst e
      rw[hB]at hk;cases hk
      exact bq (afp ax).symm
    grind
   .exact bp (by
     by_cases h:i=p+1
     .right
      cases hl:bF.getD p false with
      |true=>rfl
      |false=>exact absurd ⟨h,hl⟩ ae
     .exact .inl h) hinv hs
  ·
   by_cases av:i=p
   .subst av
    rw[hA]at ab;cases ab
    refine LA (ops:=ops) (Q:=dH c nt Q) (next:=wpAny P .any ops.toArray (dH c nt Q) fuel (bF.setIfInBounds i true)) hz bk hs λa' w' L' I' ai=> ?_
    have hlen:(bT++ [Ob.box z]).length=bT.length+1:=sm
    rw[hlen,Bu,List.singleton_append]at ai
    have aK: ∀k,i+1<k->(bF.setIfInBounds i true).getD k false=false:=λk hk=>by rw[ad k om];exact only a8 k hk
    have b9:fS (λk=>(bF.setIfInBounds i true).getD k false) q 0 ops tr bT=bT++ [.box z,.box z]:=
     uz _ q ops tr 0 (i+1) bT _ _ _ hB aq (by rw[A7];omega) (by rw[A7,ad (i+1) om];exact a7) λk' o' ao _ _=>by rw[A7];exact aK k' ao
    have br:fE (λk=>(bF.setIfInBounds i true).getD k false) 0 ops tr e0 dA= .ptr bT.length 0:=
     rD _ dA ops tr 0 i e0 _ _ _ hA aE rfl (by rw[A7];exact a1) λk' o' ao aL aY=>by
      rw[A7]
      by_cases aw:k'=i+1
      .subst aw
       rw[hB]at aL;cases aL
       exact absurd (afp aY).symm bd
      .exact aK k' om
    have bt:fE (λk=>(bF.setIfInBounds i true).getD k false) 0 ops tr e0 dB= .ptr (bT.length+1) 0:=
     rD _ dB ops tr 0 (i+1) e0 _ _ _ hB aq rfl (by rw[A7,ad (i+1) om];exact a7) λk' o' ao aL aY=>by
      rw[A7];exact aK k' ao
    have bu: ∀s,s≠dA->s≠dB->fE (λk=>(bF.setIfInBounds i true).getD k false) 0 ops tr e0 s=fE (λk=>bF.getD k false) 0 ops tr e0 s/\fW bT.length (fE (λk=>bF.getD k false) 0 ops tr e0 s)=true:=by
     intro s bw bx
     refine⟨wT _ _ s ops tr 0 e0 e0 rfl λk o hk ax=> ?_, ?_⟩
     .rw[A7]
      refine ad k λe=> ?_
      subst e
      rw[hA]at hk;cases hk
      exact bw (afp ax).symm
     .have e1:fE (λk=>bF.getD k false) 0 ops tr e0 s=fE (λk=>decide (k<i)&&bF.getD k false) 0 ops tr e0 s:=by
       refine wT _ _ s ops tr 0 e0 e0 rfl λk o hk ax=> ?_
       rw[A7]
       rcases Aw k i with h|rfl|h
       .simp[h]
       .rw[ag];simp
       .by_cases aw:k=i+1
        .subst aw
         rw[hB]at hk;cases hk
         exact absurd (afp ax).symm bx
        .rw[only a8 k om];simp
      rw[e1]
      refine Lz _ ops tr 0 e0 h0 (λk v s hk hD=> ?_) s
      rw[A7]at hD
      simp only[A6,afe]at hD
      exact hv k v s hD.1 hk
    have aP:=WZ (n0:=c.bT.length) bb bg bf
    have hr: ∀k,k<bT.length->cz (List.range bT.length++ [bT.length+1,bT.length]) (bT++ [Ob.box z,Ob.box z]).length k=k:=λk hk=>by
     rw[xX (by simp;omega),List.getElem_append_left (sU hk)];simp
    obtain⟨I2,bA⟩:=ai.pick (e':=fE (λk=>(bF.setIfInBounds i true).getD k false) 0 ops tr e0) aP bc λs=>by
     by_cases h1:s=dA
     .subst h1
      rw[br]
      refine .inl ?_
      simp only[dK,afj,dy,dL,dv,du]
      rw[xX sm,List.getElem_append_right sm]
      simp
     .by_cases h2:s=dB
      .subst h2
       rw[bt]
       refine .inl ?_
       simp only[dK,afa h1,afj,dy,dL,dv,du]
       rw[xX sm,List.getElem_append_right sm]
       simp
      .obtain⟨q1,q2⟩:=bu s h1 h2
       rw[q1]
       simp only[dK,afa h1,afa h2]
       exact .inl (Ih hr q2).symm
    grind
   ·
    have bB:i≠p+1:=λe=>by subst e;rw[a7]at ag;cases ag
    have aZ:i<p:=by
     rcases Aw i p with h|h|h
     .exact h
     .exact absurd h av
     .exfalso
      have:=ahead (k:=p) om (aQ i o om ab).1
      rw[a8]at this;cases this
    obtain⟨bC,bD,bz,bE,b0⟩:=ay i o aZ ab
    have sp: ∀{i j:Nat} {x y:Oper},i<j->ops[i]? =some x->ops[j]? =some y->nK ops q i j x y=false\/(i∈(dM ops []).getD j []\/(i=p/\j=p+1)):=λh1 h2 h3=>hd h1 h2 h3
    have ah: ∀{k:Nat},k≠i->(k∈(dM ops []).getD i []\/(k=p/\i=p+1))->bF.getD k false=true:=by
     rintro k hk (hb|⟨_,h⟩)
     .exact ahead hk hb
     .omega
    have be: ∀{k:Nat},(i∈(dM ops []).getD k []\/(i=p/\k=p+1))->bF.getD k false=false:=by
     rintro k (hb|⟨h,_⟩)
     .exact wX hb
     .omega
    have ba:=WX (e0:=e0) (tr:=tr) (λi j=>i∈(dM ops []).getD j []\/(i=p/\j=p+1)) sp ab ag ah be
    obtain⟨v,U',b1,ak⟩:=aI i o ab
    rw[A7]at ak
    have b2:fS (λj=>decide (j<i)) q 0 ops tr bT=bT:=rE _ q ops tr 0 bT λk o hk h3=>by
     rw[A7]at h3⊢
     by_cases al:k<p
     .have:=(ay k o al hk).1;omega
     .simp;omega
    rw[b2]at ak
    refine Eg (ops:=ops) (Q:=dH c nt Q) (next:=wpAny P .any ops.toArray (dH c nt Q) fuel (bF.setIfInBounds i true)) o hs (ak.step (λs ai=> ?_) (λh=>om) λ_=> ?_) ?_
    .simp only[dK]
     split
     .rename_i h;subst h;exact absurd ai bz
     .exact ba s ai
    .rw[Kp.ji hn]
    .rintro e' s' a' w' L' I' ai ⟨rfl,rfl⟩
     rw[afa om]at ai
     refine next a' w' L' I' (.inr ⟨⟨by rw[ad (p+1) om];exact a7,by rw[ad p om];exact a8⟩, ?_⟩)
     have b3:=WY (e0:=e0) (λi j=>i∈(dM ops []).getD j []\/(i=p/\j=p+1)) sp ab b1 aa be
     have:eN (dK (fE (λi=>bF.getD i false) 0 ops tr e0) dB (.ptr bT.length 0)) o.dst v=dK (fE (λk=>(bF.setIfInBounds i true).getD k false) 0 ops tr e0) dB (.ptr bT.length 0):=by
      rw[<-b3]
      funext s
      by_cases h2:s=dB
      .subst h2
       rw[wC _ _ _ _ b0]
       simp[dK]
      .by_cases h3:o.dst=some s
       .rw[pw _ _ _ _ h3]
        simp only[dK,afa h2]
        rw[pw _ _ _ _ h3]
       .rw[wC _ _ _ _ h3]
        simp only[dK,afa h2]
        rw[wC _ _ _ _ h3]
     grind
theorem x6 (D:Nat->Bool): ∀(ab aa:List Oper) (fk fG:List (V×St)) (i:Nat) (e:Env),fk.length=ab.length->fE D i (ab++aa) (fk++fG) e=fE D (i+ab.length) aa fG (fE D i ab fk e)
 | [],aa,[],fG,i,e,_=>by rfl
 | [],_,_::_,_,_,_,h=>by grind
 |_::_,_,[],_,_,_,h=>by grind
 |o::os,aa,(v,s)::tr,fG,i,e,h=>by
  simp only[Ap,fE,Ab]
  rw[x6 D os aa tr fG (i+1) _ (sU h),show i+1+os.length=i+(os.length+1) by omega]
theorem AW (D:Nat->Bool) (q:List (Nat×Nat)): ∀(ab aa:List Oper) (fk fG:List (V×St)) (i:Nat) (U:St),fk.length=ab.length->fS D q i (ab++aa) (fk++fG) U=fS D q (i+ab.length) aa fG (fS D q i ab fk U)
 | [],aa,[],fG,i,e,_=>by rfl
 | [],_,_::_,_,_,_,h=>by grind
 |_::_,_,[],_,_,_,h=>by grind
 |o::os,aa,(v,s)::tr,fG,i,e,h=>by
  simp only[Ap,fS,Ab]
  rw[AW D q os aa tr fG (i+1) _ (sU h),show i+1+os.length=i+(os.length+1) by omega]
theorem F4 {ops:List Oper} {q:List (Nat×Nat)}: ∀(aa ab:List Oper) (fk fG:List (V×St)) (i:Nat) (e:Env) (U:St),mc P c nt n0 ops q i aa e U fk->
  mc P c nt n0 ops q (i+aa.length) ab (fE (λ_=>true) i aa fk e) (fS (λ_=>true) q i aa fk U) fG->mc P c nt n0 ops q i (aa++ab) e U (fk++fG)
 | [],ab,[],fG,i,e,U,_,h=>by simpa
 | [],_,_::_,_,_,_,_,h,_=>h.elim
 |_::_,_,[],_,_,_,_,h,_=>h.elim
 |o::os,ab,(v,s)::tr,fG,i,e,U,h1,h2=>by
  refine⟨h1.1,F4 os ab tr fG (i+1) _ _ h1.2 ?_⟩
  rw[fE,fS,afb rfl]at h2
  have:(if((λ_=>true) i&&decide (3<=zQ q i o))=true then s else U)=s:=by
   by_cases h3:3<=zQ q i o
   .grind
   .rw[afa (by grind)];exact(h1.1.2.1 om).symm
  grind
def two (P:Program) (ops:List Oper) (q:List (Nat×Nat)) (p:Nat):Bool:=
 match ops[p]?,ops[p+1]? with
 |some ⟨some dA,.alloc t,tA,LB,aA,none⟩,some ⟨some dB,.alloc t',tB,LC,aB,none⟩=>
  Nat.beq t t'&& !Nat.beq dA dB&&Nat.beq (zQ q p ⟨some dA,.alloc t,tA,LB,aA,none⟩) 3&&Nat.beq (zQ q (p+1) ⟨some dB,.alloc t',tB,LC,aB,none⟩) 3&&
  (match wW P t with|some z=>z.all j5|none=>false)&&
  ((List.range ops.length).all λk=>match ops[k]? with
   |some o=>if k<p then decide (zQ q k o<2)&& !(kN ops o).contains dA&& !(kN ops o).contains dB&&(match o.dst with|some d=> !Nat.beq d dA&& !Nat.beq d dB|none=>false)
    else if p+1<k then((dM ops []).getD k []).contains p&&((dM ops []).getD k []).contains (p+1)else true
   |none=>true)&&
  ((List.range ops.length).all λj=>(List.range j).all λi=>match ops[i]?,ops[j]? with
   |some x,some y=>(!nK ops q i j x y||((dM ops []).getD j []).contains i||(Nat.beq i p&&Nat.beq j (p+1)))&&(!Nat.blt j p||(match x.dst,y.dst with|some d,some d'=> !Nat.beq d d'|_,_=>true))
   |_,_=>true)
 |_,_=>false
theorem VW.F5 {id:Nat} {Q:Exit->Env->St->Prop} (p:Nat) (hm:P.follows .mixedOrders) (hn:n0.n<=U.length) (hc:c.bT.length<=U.length) (ak:c.β0.length=c.bT.length)
  (h2:two P ops q p) (al:xT ops) (an:U.all (bP U.length)) (h0: ∀s,fW U.length (e s))
  (h:nj P c nt n0 ops q 0 (ops.take p) (λe' U'=>(∀s,fW U.length (e' s)=true)/\nj P c nt n0 ops q p (ops.drop p) (Q .normal) e' U') e U):VW P c nt (.region id ops.toArray true) Q e U:=by
 obtain⟨fk,af,aH,h⟩:=rG _ _ _ _ _ h
 obtain⟨fG,ao,hK⟩:=rG _ _ _ _ _ h
 unfold two at h2
 split at h2
 case h_2=>cases h2
 rename_i dA t tA aE aA dB t' tB aF aB hA hB
 simp only[A6,Nat.beq_eq,Bt,Ad,Bz]at h2
 obtain⟨⟨⟨⟨⟨⟨aq,ar⟩,au⟩,av⟩,hz⟩,hk⟩,hd⟩:=h2
 subst aq
 have aI:p+1<ops.length:=(A1.1 hB).1
 have ab:(ops.take p).length=p:=by simp;omega
 obtain⟨ad,aG⟩:=rF ops q _ _ _ _ _ af
 have ht:=F4 (ops.take p) (ops.drop p) fk fG 0 e U af (by rw[ab,A7];exact ao)
 have hE:=x6 (λ_=>true) (ops.take p) (ops.drop p) fk fG 0 e ad
 have hS:=AW (λ_=>true) q (ops.take p) (ops.drop p) fk fG 0 U ad
 rw[ab,A7]at hE hS
 rw[B9]at ht hE hS
 rw[<-hE,<-hS]at hK
 obtain⟨z,aw,ax⟩: ∃z,wW P t=some z/\z.all j5=true:=by
  split at hz
  .exact⟨_,by assumption,hz⟩
  .cases hz
 have ag:dA≠dB:=λq=>by subst q;simp at ar
 have ah: ∀(k:Nat) o,k<p->ops[k]? =some o->(zQ q k o<2/\dA∉kN ops o/\dB∉kN ops o/\o.dst≠some dA/\o.dst≠some dB)/\ ∃d,o.dst=some d:=by
  intro k o aa ho
  have:=hk k om
  rw[ho]at this
  simp only[afb aa,A6,afe,Bt]at this
  obtain⟨⟨⟨a1,a2⟩,a3⟩,a4⟩:=this
  cases hd:o.dst with
  |none=>rw[hd]at a4;cases a4
  |some d=>
   rw[hd]at a4
   simp only[A6,Bt]at a4
   refine⟨⟨a1,by simpa using a2,by simpa using a3,λq=> ?_,λq=> ?_⟩,d,rfl⟩
   all_goals simp_all
 refine λa w L I hs=> ?_
 refine wp_region_any hm ?_
 have hg: ∀j,(Array.replicate ops.toArray.size false).getD j false=false:=λj=>by
  simp[Array.getD]
 have e1:fE (λi=>(Array.replicate ops.toArray.size false).getD i false) 0 ops (fk++fG) e=e:=by
  funext t
  exact Ef _ t ops (fk++fG) 0 e λk o _ _=>hg _
 have e2:fS (λi=>(Array.replicate ops.toArray.size false).getD i false) q 0 ops (fk++fG) U=U:=rE _ q ops (fk++fG) 0 U λk o _ _=>hg _
 refine W0 hn hc ak hA hB ag au av aw ax (λk o a b=>(ah k o a b).1) (λk o ay ho=> ?_) (fun{i j x y} az hx hy=> ?_) al an h0 (λk v s aa hv=> ?_) ht hK _ _ a w.drew L I sm sm (λj o _ hj=>by rw[hg]at hj;cases hj) (.inl ⟨λh=>(by rw[hg]at h;cases h), ?_⟩)
 .have:=hk k (A1.1 ho).1
  rw[ho]at this
  simp only[afa (show ¬k<p by omega),afb ay,A6]at this
  exact⟨by simpa using this.1,by simpa using this.2⟩
 .have:=hd j (A1.1 hy).1 i az
  rw[hx,hy]at this
  simp only[A6,Bg,Bt,Nat.beq_eq]at this
  grind
 .obtain⟨o,ho⟩: ∃o,ops[k]? =some o:=⟨ops[k],by simp[A0 (show k<ops.length by omega)]⟩
  obtain⟨_,d,ai⟩:=ah k o aa ho
  have a6:fk[k]? =some (v,s):=by
   rw[Ak (by rw[ad,ab];exact aa)]at hv
   exact hv
  have a7:(ops.take p)[k]? =some o:=by rw[List.getElem?_take_of_lt aa];exact ho
  have:=rD (λ_=>true) d (ops.take p) fk 0 k e o v s a7 a6 ai rfl λk' o' a8 ae aC=>by
   exfalso
   have aj:k'<p:=by rw[<-ab];exact(A1.1 ae).1
   rw[List.getElem?_take_of_lt aj]at ae
   have:=hd k' om k a8
   rw[ho,ae]at this
   simp only[A6]at this
   have:=this.2
   rw[ai,aC]at this
   simp at this
   rw[<-Bool.not_eq_true,Nat.blt_eq]at this
   omega
  grind
 .rw[e1,e2]
  obtain⟨aD,hle⟩:=hs.mem.drew
  exact⟨aD,hs.size,hs.defs,λt=>(hs.env t).mono hle (Ext.refl _ _)⟩
def jS (n:Nat) (e:Env):Prop:= ∀s,fW n (e s)=true
theorem jS.dK {n:Nat} {d:Tmp} {v:V} (he:jS n e) (hv:fW n v):jS n (dK e d v):=λs=>by
 simp only[Vx.dK]
 split
 .exact hv
 .exact he s
theorem PX {id:Nat} {Q:QT} {l1 l2:List Oper} (q:List (Nat×Nat)) (n0 p:Nat) (hn:n0<=U.length) (hm:P.follows .mixedOrders) (hc:c.bT.length<=U.length) (aa:c.β0.length=c.bT.length)
  (h2:(two P ops q p&&xT ops)) (ab:U.all (bP U.length)) (h0:jS U.length e)
  (h1:ops.take p=l1) (h3:ops.drop p=l2)
  (h:nk P c nt (Kp.pre n0) ops q 0 l1 (λe' U'=>jS U.length e'/\nk P c nt (Kp.pre n0) ops q p l2 (Q .normal) fx fx fx e' U') fx fx fx e U):fw P c nt (.region id ops.toArray true) Q fx fx e U:=by
 subst h1;subst h3
 simp only[A6]at h2
 exact VW.F5 (n0:=Kp.pre n0) p hm hn hc aa h2.1 h2.2 ab h0 h
theorem Kp.nT {k:Kp} {id:Nat} (h:k.out id):(id<k.x/\k.ob=none)\/k.n<=id:=by simp_all[Kp.out]
def PY (n0:Kp):V->Bool
 | .sl .full _=>true
 | .sl (.app id) _=>n0.out id
 | .cJ id _ _ _ _=>n0.out id
 |_=>false
attribute [go_sem] PY
@[go_sem] theorem uG {K:KT} {d:Option Tmp} {x y:Operand} {t1 t2:TypeId} (h:PY n0 (zF e x)):dX P c nt n0 3 d (.call ⟨.builtin .append, #[x,y], #[t1,t2]⟩) K fx fx e U=dU P c nt d (.call ⟨.builtin .append, #[x,y], #[t1,t2]⟩) K fx fx e U:=by
 show ft P c nt n0 3 d (.call ⟨.builtin .append, #[x,y], #[t1,t2]⟩) K e U=ik P c nt d (.call ⟨.builtin .append, #[x,y], #[t1,t2]⟩) K e U
 have h1:xn (xB P d e U (.call ⟨.builtin .append, #[x,y], #[t1,t2]⟩))=false:=by
  unfold xB
  split
  all_goals simp[Py,uC]
 have hA: ∀(el:Option (Nat×Nat)) (k2:Nat) (y:V),jj n0 3 U (yS el k2 U (zF e x) y):=λel k2 y=>by
  unfold yS
  split
  .split
   .exact⟨sm,λ_=> .inl ⟨_,rfl⟩⟩
   .rename_i hx
    rw[hx]at h
    have h:=Kp.nT (k:=n0) h
    split<;>first|trivial|exact⟨sm,λ_=> .inr (Kp.im h)⟩
   .rename_i hx
    rw[hx]at h
    have h:=Kp.nT (k:=n0) h
    (repeat' split)<;>first|trivial|exact⟨sm,λ_=> .inr (Kp.im h)⟩
   trivial
  trivial
 have hL: ∀(el:Option (Nat×Nat)) (k2:Nat) (y:V),jj n0 3 U (qT el k2 U (zF e x) y):=λel k2 y=>by
  unfold qT
  split
  .rename_i hx
   rw[hx]at h
   have h:=Kp.nT (k:=n0) h
   (repeat' split)<;>first|trivial|exact⟨sm,λ_=> .inr (Kp.im h)⟩
  ·(repeat' split)<;>first|trivial|exact⟨sm,λ_=> .inl ⟨_,rfl⟩⟩
 have h2:jj n0 3 U (xB P d e U (.call ⟨.builtin .append, #[x,y], #[t1,t2]⟩)):=by
  unfold xB
  split
  .exact hL (dQ P t1) (de P t2) (zF e y)
  .exact hA (dQ P t1) (de P t2) (zF e y)
 grind[ft,ik]
theorem jS.jC {n:Nat}:jS n jC:=λ_=>rfl
end
variable {U:St}{P:Program}{e:Env}{c:Ctx}{nt:Nat}{n:Nat}{U':St}{d:Option Tmp}{m:Nat}{K:KT}{op:Op}{o:Ob}{f:FuncId}{ms:afF}{l:List V}
theorem W1 (t s:Nat) (rows:List (List V)) {Q:QT} {y:Code} (h0:0<s) (hu:eS s rows) (ht:e t= .sl .full rows) (hy:fw P c nt y Q fx fx (dK e t (.sl (.app U.length) rows)) (U++ [.app rows.length s])):fw P c nt y Q fx fx e U:=by
 intro a w L I hs
 have hr:=hs.env t
 rw[ht]at hr
 have hr:cq w L (.sl .full rows) (a.tmps.getD t undef):=hr
 obtain⟨ad,hx,ab⟩: ∃ad,a.tmps.getD t undef= .slice ad rows.length rows.length/\cq w L (.sl .ro rows) (.slice ad rows.length rows.length):=by
  generalize a.tmps.getD t undef=x at hr
  cases hr with
  |iF g ad cap hg ha=>have:=hg rfl;subst this;exact⟨ad,rfl,.iF .ro ad 0 om sm⟩
  |sl g rows s b o cap c ha hs hlen e9 cQ hg hc hr=>have:=hg rfl;subst this;exact⟨_,rfl,.sl .ro rows s b o _ c sm hs hlen e9 cQ om hc hr⟩
 have aa:=Ext.push U I hs.mem.len (.app rows.length s) (.slice ad rows.length rows.length)
 refine hy a w L (I++ [.slice ad rows.length rows.length]) ⟨hs.mem.own h0,hs.size,hs.defs,λk=> ?_⟩
 simp only[dK]
 split
 .rename_i hk
  subst hk
  rw[hx]
  exact⟨ab,rows.length,s,sm,om,λ_=>by rw[<-hs.mem.len];simp,hu⟩
 .exact(hs.env k).mono (Le.refl _ _) aa
theorem W2 (i j:Nat) {p:Ob} {bU args bZ:List V} {KV:V->St->Prop} {R:V->St->Prop} (hc:bK P f bZ [o,p] R) (hb:wE P f) (ae:i≠j) (ho:U[i]? =some o) (hp:U[j]? =some p) (cH:bP 0 o) (ad:bP 0 p)
  (aa:bL (cF (cz [i,j] U.length)) bZ (args++bU)) (hR: ∀r s,R r s-> ∃o2 p2,s= [o2,p2]/\bP 0 o2=true/\bP 0 p2) (hK: ∀r o2 p2,R r [o2,p2]->KV (dy (cz [i,j] U.length) r) ((U.set i o2).set j p2)):iZ P c (.fn f bU) args U KV fx:=by
 have ab: ∀q:Ob,bP 0 q=true->yF (cz [i,j] U.length) q=q:=λq h=>xH (n:=0) om h
 refine VC.of hc hb [i,j] (by grind) rfl (λk l q h1 h2=> ?_) aa λr s h _=> ?_
 .match k with
  |0=>simp at h1 h2;subst h1;subst h2;rw[ab _ cH];exact ho
  |1=>simp at h1 h2;subst h1;subst h2;rw[ab _ ad];exact hp
  |k+2=>simp at h1
 .obtain⟨o2,p2,rfl,h1,h2⟩:=hR r s h
  grind[xQ,fQ]
theorem W3 (pick:afF) {n0:Nat} {R:V->St->Prop} {s:St} {v r:V} (aa:pick.Nodup) (hn: ∀i,i<n0->pick[i]? =some i) (hlen:s.length=pick.length) (ab: ∀(i j:Nat) (o:Ob),pick[i]? =some j->s[i]? =some o->U[j]? =some (yF (cz pick U.length) o)) (hr:cF (cz pick U.length) r v) (hR:R r s):cj (some v) n0 R U:=
 ⟨v,rfl,v,U,pick,s,r,.refl _ _,⟨hlen,aa,ab,hn⟩,hr,hR⟩
theorem bK.HO {args:List V} {v:V} {R:V->St->Prop} (h:bK P f args [] R) (hR: ∀r s,R r s-> ∃r' s',nh [r] s [r'] s'/\cF (cz [] s'.length) v r'):Pure P f args v:=by
 intro w L I aa hm ha
 refine(h w L I aa hm ha).mono ?_
 rintro e w' ⟨x,r,L',U',I',he,hr,hl,ad,ae⟩
 obtain⟨r',s',hf,hv⟩:=hR r U' hr
 obtain⟨L2,I2,ab,ai,af,ag⟩:=hf.ok ad (show bL (cV w' L' U' I') [r] [x] from⟨ae,tV⟩)
 have cR:I.length=([]:St).length:=hm.len
 have hp:eM (entry w L [] I).bT.length [] s' []:=⟨rfl,Ca,sm,λi q=>(by trivial)⟩
 have ah:=ab.pick hp cR
 refine⟨x,v,L2,[],[],he,sm,om,ah, ?_⟩
 exact vY (hp.iH ab.len) hv ag.1
theorem W4 (h:n<=m) {v:V} (hv:cG n v):cG m v=true:=by
 cases v with
 |sl g rows=>cases g<;>simp_all[cG]<;>omega
 |_=>simp_all[cG]<;>omega
theorem LD (h:n<=m) {v:V} (hv:cK n v):cK m v=true:=by
 cases v<;>grind[cK,W4]
theorem IB (h:n<=m) {v:V} (hv:j6 n v):j6 m v=true:=by
 cases v<;>grind[j6,LD]
theorem IC (h:n<=m) (ho:bP n o):bP m o=true:=by
 cases o with
 |box cells=>grind[bP,LD]
 |cc rows s=>grind[bP,LD]
 |mp di fN cD=>grind[bP,IB]
 |it m' since seen last=>cases m' with
  |none=>rfl
  |some i=>simp_all[bP];omega
 |_=>rfl
theorem W5 {bU args bZ:List V} {o2:Ob} {v:V} {KV:V->St->Prop} (hc:bK P f bZ [o] (λr s=>r=v/\s= [o2])) (hb:wE P f) (ho:U[0]? =some o) (ad:bP 0 o) (ab:bP 0 o2)
  (aa:bL (cF (cz [0] U.length)) bZ (args++bU)) (hn:gR v) (hk:KV v (U.set 0 o2)):pz P c ⟨1,n,[],none⟩ 3 (.fn f bU) args U KV fx:=by
 have ae: ∀q:Ob,bP 0 q=true->yF (cz [0] U.length) q=q:=λq h=>xH (n:=0) om h
 have e:xQ [0] U [o2]=U.set 0 o2:=by
  grind[xQ,fQ]
 refine PA hc hb [0] sm rfl (λi j q h1 h2=> ?_) aa (.inr ?_) ?_
 .grind
 .rw[e];exact Kp.im sm
 grind[xg]
def yO (b:Bool):R->Prop
 | .dW p _=>b=true->p
 | .cE p _ _=>b=true->p
 |_=>True
def kP (s:Nat) (rows:List (List V)):Bool:=rows.all λr=>r.length==s
theorem uH {s:Nat} {rows:List (List V)} (h:kP s rows):eS s rows:=λr hr=>by
 have:=Ad.1 h r hr
 grind
def LF:List V->Bool
 | [.int .u8 _]=>true
 |_=>false
theorem W6 {rows:List (List V)} (h:rows.all LF):Ft rows:=λr hr=>by
 have:=Ad.1 h r hr
 unfold LF at this
 grind
def ID (op:BinOp) (y:Int):Bool:=
 match op with
 | .quo| .rem=>decide (y≠0)
 | .shl| .shr=>decide (0<=y)
 |_=>true
def LG (op:BinOp) (x y:afE):Bool:=
 match op with
 | .add=>decide (x.length+y.length<=9223372036854775807)
 |_=>true
def AX (op:BinOp) (x y:V):Bool:=
 match x,y with
 | .int _ _,.int _ b=>ID op b
 | .str a,.str b=>LG op a b
 |_,_=>true
theorem W7 (op:BinOp) (k:IntKind) (x y:Int):yO (ID op y) (zd op k x y):=by
 cases op<;>simp[zd,ID,yO]
theorem W8 (op:BinOp) (x y:afE):yO (LG op x y) (ze op x y):=by
 cases op<;>simp[ze,LG,yO]
theorem W9 (op:BinOp) (ek:Nat) (es:Option (List Pk)) (x y:V):yO (AX op x y) (na op ek es x y):=by
 unfold na
 split
 .grind[AX,W7,ID,yO]
 .exact W8 ..
 all_goals (repeat' split)<;>trivial
theorem Xa (op:BinOp) (ek:Nat) (x:V) (b:Bool):yO b (tU op ek x):=by
 unfold tU Fl
 (repeat' split)<;>trivial
def LH (sl:afK) (ar:Option (Nat×Nat×Bool)) (x i:V):Bool:=
 match x,i with
 | .sl _ rows,.int _ k=>(match sl with|some s=>decide (0<=k/\k<rows.length/\(rows.getD k.toNat []).length=s)|none=>true)
 | .ptr _ _,.int _ k=>(match ar with|some (n,_,_)=>decide (0<=k/\k<n)|none=>true)
 | .nC _ _,.int _ k=>(match ar with|some (n,_,_)=>decide (0<=k/\k<n)|none=>true)
 | .cJ _ _ _ _ m,.int _ k=>decide (0<=k/\k<m)
 | .jB _ _ _ n,.int _ k=>decide (0<=k/\k<n)
 |_,_=>true
theorem Xb (sl:afK) (ar:Option (Nat×Nat×Bool)) (x i:V):yO (LH sl ar x i) (tY sl ar x i):=by
 unfold tY
 split
 all_goals first|trivial|simp only[LH]
 all_goals split<;>first|trivial|simp only[yO,afe,imp_self]
def uK (x i:V) (ar:Option (Nat×Nat×Bool)):Bool:=
 match x,i with
 | .str b,.int _ k=>decide (0<=k/\k<b.length)
 | .agg cs,.int _ k=>(match ar with|some (n,s,false)=>decide (0<=k/\k<n/\(k.toNat*s)<cs.length)|_=>true)
 |_,_=>true
theorem Xc (x i:V) (str:Bool) (ar:Option (Nat×Nat×Bool)):yO (uK x i ar) (tZ x i str ar):=by
 unfold tZ
 split
 .simp only[uK]
  split<;>first|trivial|simp only[yO,afe,imp_self]
 .split
  all_goals simp[uK,yO]
 trivial
def F6 (es:afK) (x:V) (lo hi:Option V):Bool:=
 match x with
 | .cJ _ s n l0 m=>(match nb lo 0,nb hi m,es with|some l,some h,some z=>decide (0<=l/\l<=h/\(h<=m\/(l0:Int)+h<=n)/\z=s)|_,_,_=>true)
 | .str s=>(match nb lo 0,nb hi s.length with|some l,some h=>decide (0<=l/\l<=h/\h<=s.length)|_,_=>true)
 | .sl _ rows=>(match nb lo 0,nb hi rows.length,es with|some l,some h,some z=>decide (0<=l/\l<=h/\h<=rows.length)&&kP z rows|_,_,_=>true)
 |_=>true
theorem Xd (ar:Option (Nat×Nat×Bool)) (k:Nat) (es:afK) (x:V) (lo hi:Option V):yO (F6 es x lo hi) (qV ar k es x lo hi):=by
 unfold qV
 split
 .split
  .rename_i h1 h2
   split
   all_goals simp_all[F6,yO]
  trivial
 .split<;>trivial
 .split
  .rename_i h1 h2
   split
   all_goals simp_all[F6,yO]
  trivial
 .split
  .rename_i h1 h2
   split
   all_goals simp_all[F6,yO,uH]
  trivial
 trivial
def LI (es:afK) (x lo hi mx:V):Bool:=
 match x,lo,hi,mx,es with
 | .sl _ rows,.int _ l,.int _ h,.int _ m,some z=>decide (0<=l/\l<=h/\h<=rows.length/\m=h)&&kP z rows
 | .cJ _ s _ _ n,.int _ l,.int _ h,.int _ m,some z=>decide (0<=l/\l<=h/\h<=m/\m<=n/\z=s)
 |_,_,_,_,_=>true
theorem Xe (es:afK) (x lo hi mx:V):yO (LI es x lo hi mx) (vK es x lo hi mx):=by
 unfold vK
 split
 all_goals simp_all[LI,yO,uH]
def PZ (x:V):Bool:=
 match x with
 | .sl _ rows=>rows.all LF
 |_=>true
theorem Xf (ks kd:Option Kd) (x:V):yO (PZ x) (uc ks kd x):=by
 unfold uc
 split
 .split<;>trivial
 .split<;>trivial
 .split<;>trivial
 .split
  .exact W6
  trivial
 trivial
def F7 (el:Option (Nat×Nat)) (l m:V):Bool:=
 match el,l,m with
 |some (_,kK),.int .i64 n,.int .i64 k=>decide (0<=n/\n<=k/\k.toNat*kK<=140737488355328)
 |_,_,_=>false
theorem Xg (el:Option (Nat×Nat)) (zs:Option (List V)) (U:St) (l m:V):yO (F7 el l m) (ud el zs U l m):=by
 unfold ud
 split
 all_goals simp[F7,yO]
theorem Xh (el:Option (Nat×Nat)) (zs:Option (List V)) (U:St) (l m:V):yO (F7 el l m) (ue el zs U l m):=by
 unfold ue
 split
 all_goals simp[F7,yO]
def LJ (sl:afK) (U:St) (x:V):Bool:=
 match x with
 | .cJ id s n lo m=>(match U[id]? with|some (.cc rows s')=>decide (sl=some s/\s'=s/\rows.length=n/\lo+m<=n)|_=>true)
 |_=>true
theorem Xi (sl:afK) (zs:Option (List V)) (U:St) (x:V):yO (LJ sl U x) (uf sl zs U x):=by
 unfold uf
 split
 .split
  all_goals simp_all[LJ,yO]
 trivial
def pB (U:St):V->Bool
 | .cJ id s n lo m=>(match U[id]? with|some (.cc rows s')=>decide (s'=s/\rows.length=n/\lo+m<=n)&&wF ((rows.drop lo).take m)|_=>false)
 |_=>true
theorem F8 {y:V} (h:pB U y):pe U y:=by
 unfold pe
 split
 .simp only[pB]at h
  split at h
  .rename_i h1
   rw[h1]
   simp only[A6,afe]at h
   exact⟨h.1.1,h.1.2.1,h.1.2.2,h.2⟩
  grind
 simp
def Eu (el:Option (Nat×Nat)) (k2:Nat) (U:St) (x y:V):Bool:=
 match el,ua k2 U y with
 |some (s,kK),some r2=>
  (match x with
  | .sl .full r1=>pB U y&&decide ((r1.length+r2.length)*kK<=140737488355328)&&kP s r1&&kP s r2
  | .sl (.app id) r1=>(match U[id]? with
   |some (.app n s')=>pB U y&&decide (r1.length=n/\s'=s/\(r1.length+r2.length)*kK<=140737488355328)&&kP s r2
   |_=>true)
  | .cJ id s1 n lo m=>(match U[id]? with
   |some (.cc rows s')=>pB U y&&decide (s1=s/\s'=s/\rows.length=n)&&kP s r2&&(decide (lo+m+r2.length<=n)||decide (lo=0/\m=n/\(n+r2.length)*kK<=140737488355328))
   |_=>true)
  |_=>true)
 |_,_=>true
theorem Xj (el:Option (Nat×Nat)) (k2:Nat) (U:St) (x y:V):yO (Eu el k2 U x y) (yS el k2 U x y):=by
 unfold yS
 split
 .rename_i h2
  split
  .simp_all[Eu,yO,F8,uH]
  .split
   all_goals simp_all[Eu,yO,F8,uH]
  .split
   .rename_i h3
    split
    .simp_all[Eu,yO,F8,uH]
    simp_all[Eu,yO,F8,uH];omega
   trivial
  trivial
 trivial
def LK (U:St):V->Bool
 | .cJ id s n lo m=>(match U[id]? with|some (.cc rows s')=>decide (s'=s/\rows.length=n/\lo+m<=n)|_=>false)
 |_=>true
theorem P3 {y:V} (h:LK U y):zg U y:=by
 unfold zg
 split
 .simp only[LK]at h
  grind
 simp
def F9 (el:Option (Nat×Nat)) (k2:Nat) (U:St) (x y:V):Bool:=
 match x with
 | .cJ id s1 n lo m=>(match el,Fo k2 U y with
  |some (s,kK),some r2=>(match U[id]? with
   |some (.cc rows s')=>LK U y&&decide (s1=s/\s'=s/\rows.length=n)&&kP s r2&&(decide (lo+m+r2.length<=n)||decide (lo=0/\m=n/\(n+r2.length)*kK<=140737488355328))
   |_=>true)
  |_,_=>true)
 |x=>match el,ua k2 U y with
 |some (s,kK),some r2=>
  (match x with
  | .sl .full r1=>pB U y&&decide ((r1.length+r2.length)*kK<=140737488355328)&&kP s r1&&kP s r2&&(!r2.isEmpty||r1.isEmpty)
  |_=>true)
 |_,_=>true
theorem Xk (el:Option (Nat×Nat)) (k2:Nat) (U:St) (x y:V):yO (F9 el k2 U x y) (qT el k2 U x y):=by
 unfold qT
 split
 .split
  .rename_i h2
   split
   .rename_i h3
    split
    .simp_all[F9,yO,P3,uH]
    simp_all[F9,yO,P3,uH];omega
   trivial
  trivial
 .split
  .rename_i h2
   split
   .simp only[F9,h2,yO,A6,afe]
    grind[F8,uH]
   trivial
  trivial
def Ga (L:Bool) (es:afK) (len:Nat) (parts:List (Nat×V)):Bool:=
 match es with
 |some s=>(parts.all λp=>(L||sQ p.2)&&(xG p.2).length==s)&&decide (len*s<=16777216/\0<s)
 |none=>true
theorem Xl (es:afK) (len:Nat) (parts:List (Nat×V)):yO (Ga false es len parts) (ub es len parts):=by
 unfold ub
 split
 .split
  all_goals simp[Ga,yO]
 trivial
theorem Xm (es:afK) (len:Nat) (U:St) (parts:List (Nat×V)):yO (Ga true es len parts) (ug es len U parts):=by
 unfold ug
 split
 .split
  all_goals simp[Ga,yO]
 trivial
def AY (P:Program) (L:Bool) (e:Env) (U:St):Op->Bool
 | .buildSlice t n ps=>Ga L ((dQ P t).map (·.1)) n (ps.toList.map λp=>(p.1,zF e p.2))
 | .binOp op _ x y _=>AX op (zF e x) (zF e y)
 | .convert _ _ x=>PZ (zF e x)
 | .slice t x lo hi none=>if L then false else F6 ((dQ P t).map (·.1)) (zF e x) (lo.map (zF e)) (hi.map (zF e))
 | .slice t x (some lo) (some hi) (some mx)=>LI ((dQ P t).map (·.1)) (zF e x) (zF e lo) (zF e hi) (zF e mx)
 | .indexAddr t x i=>LH (eL P t) (gT P t) (zF e x) (zF e i)
 | .index t x i=>uK (zF e x) (zF e i) (gT P t)
 | .makeSlice t l m=>F7 (dQ P t) (zF e l) (zF e m)
 | .call ⟨.builtin .append,⟨[x,y]⟩,⟨[t,t']⟩⟩=>if L then F9 (dQ P t) (de P t') U (zF e x) (zF e y)else Eu (dQ P t) (de P t') U (zF e x) (zF e y)
 | .call ⟨.builtin .clear,⟨[x]⟩,⟨[t]⟩⟩=>LJ ((dQ P t).map (·.1)) U (zF e x)
 |_=>true
def Xn:R->Bool
 | .dW _ _| .cE _ _ _=>false
 |_=>true
theorem yT {b:Bool} {r:R} (h:Xn r):yO b r:=by
 cases r<;>first|trivial|cases h
theorem LL (op:Op):yO (AY P false e U op) (bX P e U op):=by
 unfold bX
 split
 .trivial
 .trivial
 .refine yT ?_;unfold vC;(repeat' split)<;>rfl
 .refine yT ?_;unfold pa;(repeat' split)<;>rfl
 .refine yT ?_;unfold tX;(repeat' split)<;>rfl
 .refine yT ?_;unfold vI;(repeat' split)<;>rfl
 .exact Xl ..
 .refine yT ?_;unfold my;(repeat' split)<;>first|rfl|(unfold p7;(repeat' split)<;>rfl)
 .refine yT ?_;unfold tW;(repeat' split)<;>rfl
 .refine yT ?_;unfold vD;(repeat' split)<;>rfl
 .split
  .grind[Xa]
  .split
   .refine yT ?_;unfold vU;(repeat' split)<;>rfl
   .exact W9 ..
 .refine yT ?_;unfold mw;(repeat' split)<;>rfl
 .exact Xf ..
 .exact Xd ..
 .exact Xe ..
 .refine yT ?_;unfold vF;(repeat' split)<;>rfl
 .refine yT ?_;unfold vL;(repeat' split)<;>rfl
 .exact Xb ..
 .exact Xc ..
 .refine yT ?_;unfold vE;(repeat' split)<;>rfl
 .refine yT ?_;unfold vM;(repeat' split)<;>rfl
 .exact Xg ..
 .refine yT ?_;unfold vH;(repeat' split)<;>rfl
 .exact Xj ..
 .exact Xi ..
 .refine yT ?_;unfold pc;(repeat' split)<;>rfl
 .refine yT ?_;unfold pc;(repeat' split)<;>rfl
 .refine yT ?_;unfold vT;(repeat' split)<;>rfl
 .refine yT ?_;unfold vR;(repeat' split)<;>rfl
 .refine yT ?_;unfold xV;(repeat' split)<;>rfl
 .refine yT ?_;unfold xP;(repeat' split)<;>rfl
 .refine yT ?_;unfold xP;(repeat' split)<;>rfl
 .refine yT ?_;unfold wA;(repeat' split)<;>rfl
 .refine yT ?_;unfold xL;(repeat' split)<;>rfl
 .refine yT ?_;unfold vV;(repeat' split)<;>rfl
 .refine yT ?_;unfold pg;(repeat' split)<;>rfl
 .refine yT ?_;unfold vX;(repeat' split)<;>rfl
 .refine yT ?_;unfold mB;(repeat' split)<;>rfl
 .trivial
theorem Xo (op:Op):yO (AY P false e U op&&AY P true e U op) (gE P e U op):=by
 have kH: ∀{b c:Bool} {r:R},yO b r->yO (c&&b) r:=by
  intro b c r h
  cases r with
  |dW p v=>exact λq=>h (by grind)
  |cE p v s=>exact λq=>h (by grind)
  |_=>trivial
 have aa: ∀{b c:Bool} {r:R},yO b r->yO (b&&c) r:=by
  simp_all
 unfold gE
 split
 .exact kH (Xm ..)
 .exact kH (Xh ..)
 .refine yT ?_;unfold vN;(repeat' split)<;>rfl
 .refine kH (b:=false) ?_;unfold vJ;(repeat' split)<;>first|trivial|exact λq=>by cases q
 .exact kH (Xk ..)
 .refine yT ?_;unfold mB;(repeat' split)<;>rfl
 grind[LL]
def pE (b:Bool) (U:St):R->Option (V×St)
 | .ok v=>some (v,U)
 | .dW _ v=>if b then some (v,U)else none
 | .st v U'=>some (v,U')
 | .cE _ v U'=>if b then some (v,U')else none
 |_=>none
def LM (P:Program) (d:Option Tmp) (e:Env) (U:St) (op:Op):Option (V×St):=
 if wP e d then pE (AY P false e U op&&AY P true e U op) U (gE P e U op)else pE (AY P false e U op) U (bX P e U op)
theorem LN {b:Bool} {r:R} {v:V} (hn:yO b r) (h:pE b U r=some (v,U')) (hk:eC nt d v K e U'):ly nt d r K e U:=by
 cases r with
 |fail=>cases h
 |ok v'=>cases h;exact hk
 |dW p v'=>
  simp only[pE]at h
  split at h
  .rename_i hb
   cases h;exact⟨hn hb,hk⟩
  grind
 |st v' s=>cases h;exact hk
 |cE p v' s=>
  simp only[pE]at h
  split at h
  .rename_i hb
   cases h;exact⟨hn hb,hk⟩
  grind
 |all f=>cases h
 |any l=>cases h
theorem Xp {v:V} (h:LM P d e U op=some (v,U')) (hk:eC nt d v K e U'):ly nt d (xB P d e U op) K e U:=by
 unfold LM at h
 unfold xB
 split at h
 .rename_i hh
  rw[afb hh]
  grind[LN,Xo]
 .rename_i hh
  rw[afa hh]
  grind[LN,LL]
def dZ (ms:afF) (l:List V):Env:=λt=>if t<100000 then l.getD t .u else if ms.contains (t - 100000)then .cm []else .u
theorem Xq {t:Nat} {v:V} (h:t<l.length) (hl:l.length<=100000):dK (dZ ms l) t v=dZ ms (l.set t v):=by
 funext k
 simp only[dK,dZ]
 grind
def pG (d:Option Tmp) (v:V) (l:List V):Option (List V):=
 match d with
 |some t=>if t<l.length then some (l.set t v)else none
 |none=>some l
theorem IE {v:V} {l':List V} (h:pG d v l=some l') (hl:l.length<=100000):l'.length=l.length/\ ∀(K:KT) (U:St),K (dZ ms l') U->eC l.length d v K (dZ ms l) U:=by
 unfold pG at h
 unfold eC
 split at h
 .grind[Xq]
 grind
def IF (g:Option (Nat×Bool)) (ops:List Oper) (e:Env):Option Bool:=
 match g with
 |none=>some true
 |some (j,want)=>(match jF ops j with|some t=>(match e t with| .bool b=>some (b==want)| .cm []=>some false|_=>none)|none=>none)
theorem IG {g:Option (Nat×Bool)} {ops:List Oper} {A B:Prop} {r:Bool} (h:IF g ops e=some r) (ha:r=true->A) (hb:r=false->B):rb g ops e A B:=by
 unfold IF at h
 unfold rb
 split at h
 .grind
 .split at h
  .rename_i t ht
   simp only[ht]
   unfold jZ
   grind
  grind
abbrev kA:=V->List V->St->Option (V×St)
def qu (P:Program) (call:kA):Prop:= ∀fv az U v U',call fv az U=some (v,U')-> ∀c,VC P c fv az U (λr s=>r=v/\s=U')
def AZ (P:Program) (call:kA) (d:Option Tmp) (e:Env) (U:St) (op:Op):Option (V×St):=
 match op with
 | .call ⟨.value f,args,_⟩=>call (zF e f) (args.toList.map (zF e)) U
 |op=>LM P d e U op
theorem Xr {call:kA} (hc:qu P call) {v:V} (h:AZ P call d e U op=some (v,U')) (hk:eC nt d v K e U'):ik P c nt d op K e U:=by
 unfold AZ at h
 unfold ik
 split at h
 .refine(hc _ _ _ _ _ h c).mono ?_
  grind
 .rename_i aa
  split
  .grind
  grind[Xp]
def Gb (P:Program) (call:kA) (ms:afF) (ops:List Oper):List Oper->List V->St->Option (List V×St)
 | [],l,U=>some (l,U)
 |o::rest,l,U=>
  match IF o.guard ops (dZ ms l)with
  |none=>none
  |some true=>(match AZ P call o.dst (dZ ms l) U o.op with
   |some (v,U')=>(match pG o.dst v l with|some l'=>Gb P call ms ops rest l' U'|none=>none)
   |none=>none)
  |some false=>(match pG o.dst (.cm []) l with|some l'=>Gb P call ms ops rest l' U|none=>none)
theorem IH {P:Program} {call:kA} (hc:qu P call) {ms:afF} {ops:List Oper} {c:Ctx}: ∀(rest:List Oper) (l:List V) (U:St) (l':List V) (U':St),Gb P call ms ops rest l U=some (l',U')->l.length<=100000->
  l'.length=l.length/\ ∀K:KT,K (dZ ms l') U'->jG P c l.length ops rest K (dZ ms l) U
 | [],l,U,l',U',h,hl=>by cases h;exact⟨rfl,λK hk=>hk⟩
 |o::rest,l,U,l',U',h,hl=>by
  unfold Gb at h
  split at h
  .cases h
  .rename_i hg
   split at h
   .rename_i v s1 ho
    split at h
    .rename_i l1 hp
     obtain⟨e1,e2⟩:=IE (ms:=ms) hp hl
     obtain⟨e3,e4⟩:=IH hc (c:=c) rest l1 s1 l' U' h om
     refine⟨om,λK hk=> ?_⟩
     refine IG hg (λ_=> ?_) sm
     grind[Xr]
    grind
   grind
  .rename_i hg
   split at h
   .rename_i l1 hp
    obtain⟨e1,e2⟩:=IE (ms:=ms) hp hl
    obtain⟨e3,e4⟩:=IH hc (c:=c) rest l1 U l' U' h om
    refine⟨om,λK hk=> ?_⟩
    refine IG hg sm (λ_=> ?_)
    grind
   grind
def Gc:Op->Bool
 | .buildSlice .. | .makeSlice .. | .convert .. | .call _| .next .. | .slice .. =>false
 |_=>true
theorem Xs (h:Gc op): ∀e U,gE P e U op=bX P e U op:=by
 intro e U
 cases op<;>first|rfl|cases h
def P4 (n0:Kp) (e:Env):Op->Bool
 | .load _ x=>AL n0 (zF e x)
 |_=>false
def Xt:Op->Bool
 | .alloc _| .box .. =>true
 |_=>false
def P5 (P:Program) (n0:Kp) (k:Nat) (d:Option Tmp) (e:Env) (U:St) (op:Op):Bool:=
 (!wP e d||Gc op)&&(k !=0||lk op==0)&&(k !=1||P4 n0 e op)&&(!px (bX P e U op)||decide (3<=k))&&(k==4||(k==3&&Xt op)|| !px (bX P e U op))
def BB (P:Program) (call:kA) (n0:Kp) (k:Nat) (d:Option Tmp) (e:Env) (U:St) (op:Op):Option (V×St):=
 match op with
 | .call ⟨.value f,args,_⟩=>if k=0 then(match call (zF e f) (args.toList.map (zF e)) []with|some (v,_)=>if gR v&&gR (zF e f)&&(args.toList.map (zF e)).all gR then some (v,U)else none|none=>none)
   else if k=4 then(match call (zF e f) (args.toList.map (zF e)) U with|some (v,U')=>if U.length<=U'.length then some (v,U')else none|none=>none)
   else none
 |op=>if P5 P n0 k d e U op then pE (AY P false e U op) U (bX P e U op)else none
def BC (P:Program) (call:kA):Prop:= ∀fv az v U',call fv az []=some (v,U')->gR v=true->gR fv=true->az.all gR=true-> ∀c s,VC P c fv az s (λr s'=>r=v/\s'=s)
theorem Xu {call:kA} (hc:qu P call) (hp:BC P call) {n0:Kp} {k:Nat} {v:V} (h:BB P call n0 k d e U op=some (v,U')) (hk:eC nt d v K e U'):ft P c nt n0 k d op K e U:=by
 unfold BB at h
 unfold ft
 split at h
 .split at h
  .rename_i ab
   split at h
   .rename_i v' s' aa
    split at h
    .rename_i hn
     cases h
     simp only[A6]at hn
     subst ab
     refine⟨v,U, ?_,λ_=>rfl,om,om,hk⟩
     rw[afb rfl]
     exact λs=>hp _ _ _ _ aa hn.1.1 hn.1.2 hn.2 c s
    grind
   grind
  .split at h
   .rename_i ab ad
    split at h
    .rename_i v' s' aa
     split at h
     .rename_i hle
      cases h
      subst ad
      refine⟨v,U', ?_,om,om,hle,hk⟩
      rw[afa dc,afa dc]
      exact hc _ _ _ _ _ aa c
     grind
    grind
   grind
 .rename_i ae
  split
  .grind
  .split at h
   .rename_i ht
    simp only[P5,A6,Bg,Bt,bne_iff_ne,afh,afe]at ht
    obtain⟨⟨⟨⟨t1,t2⟩,t3⟩,t4⟩,t5⟩:=ht
    have hh:cH P d e op:=by
     rcases t1 with t1|t1
     .exact .inl t1
     .exact .inr (Xs t1)
    rw[pv hh]
    refine⟨λ_=>hh, ?_,om,λq=> ?_,(by grind), ?_,LN (LL op) h hk⟩
    .cases hr:bX P e U op with
     |all f=>rw[hr]at h;cases h
     |any l=>rw[hr]at h;cases h
     |_=>rfl
    .have:=t3.resolve_left (λw=>w q)
     unfold P4 at this
     grind
    .rcases t5 with (t5|t5)|t5
     .grind[K8]
     .obtain⟨t5,t6⟩:=t5
      subst t5
      cases op with
      |alloc t=>simp only[bX];unfold pa;split<;>first|trivial|exact⟨sm,λ_=> .inl ⟨_,rfl⟩⟩
      |box t x=>simp only[bX];unfold tX;split<;>first|trivial|exact⟨sm,λ_=> .inl ⟨_,rfl⟩⟩
      |_=>cases t6
     grind[xo]
   grind
def Ev (P:Program) (call:kA) (n0:Kp) (ms:afF) (ops:List Oper) (q:List (Nat×Nat)):Nat->List Oper->List V->St->Option (List V×St)
 |_,[],l,U=>some (l,U)
 |i,o::rest,l,U=>
  match IF o.guard ops (dZ ms l)with
  |none=>none
  |some true=>(match BB P call n0 (zQ q i o) o.dst (dZ ms l) U o.op with
   |some (v,U')=>(match pG o.dst v l with|some l'=>Ev P call n0 ms ops q (i+1) rest l' U'|none=>none)
   |none=>none)
  |some false=>(match pG o.dst (.cm []) l with|some l'=>Ev P call n0 ms ops q (i+1) rest l' U|none=>none)
theorem LO {P:Program} {call:kA} (hc:qu P call) (aa:BC P call) {n0:Kp} {ms:afF} {ops:List Oper} {q:List (Nat×Nat)} {c:Ctx}: ∀(rest:List Oper) (i:Nat) (l:List V) (U:St) (l':List V) (U':St),Ev P call n0 ms ops q i rest l U=some (l',U')->l.length<=100000->
  l'.length=l.length/\ ∀K:KT,K (dZ ms l') U'->nj P c l.length n0 ops q i rest K (dZ ms l) U
 | [],i,l,U,l',U',h,hl=>by cases h;exact⟨rfl,λK hk=>hk⟩
 |o::rest,i,l,U,l',U',h,hl=>by
  unfold Ev at h
  split at h
  .cases h
  .rename_i hg
   split at h
   .rename_i v s1 ho
    split at h
    .rename_i l1 hp
     obtain⟨e1,e2⟩:=IE (ms:=ms) hp hl
     obtain⟨e3,e4⟩:=LO hc aa (c:=c) rest (i+1) l1 s1 l' U' h om
     refine⟨om,λK hk=> ?_⟩
     refine IG hg (λ_=> ?_) sm
     grind[Xu]
    grind
   grind
  .rename_i hg
   split at h
   .rename_i l1 hp
    obtain⟨e1,e2⟩:=IE (ms:=ms) hp hl
    obtain⟨e3,e4⟩:=LO hc aa (c:=c) rest (i+1) l1 U l' U' h om
    refine⟨om,λK hk=> ?_⟩
    refine IG hg sm (λ_=> ?_)
    grind
   grind
def LP:Nat->List Oper->List (Nat×Nat)
 |_,[]=> []
 |i,o::os=>(match o.op with| .call ⟨.value _,_,_⟩=> [(i,0)]|_=> [])++LP (i+1) os
def LQ:Nat->List Oper->List (Nat×Nat)
 |_,[]=> []
 |i,o::os=>(match o.op with| .store .. => [(i,4)]| .call ⟨.builtin .append,_,_⟩=> [(i,4)]|_=> [])++LQ (i+1) os
def P6:Nat->List Oper->List (Nat×Nat)
 |_,[]=> []
 |i,o::os=>(match o.op with| .store .. => [(i,4)]| .call ⟨.builtin .append,_,_⟩=> [(i,4)]| .call ⟨.value _,_,_⟩=> [(i,4)]|_=> [])++P6 (i+1) os
def P7:Nat->List Oper->List (Nat×Nat)
 |_,[]=> []
 |i,o::os=>(match o.op with| .store .. => [(i,4)]| .load .. => [(i,4)]| .alloc _=> [(i,4)]| .call ⟨.builtin .append,_,_⟩=> [(i,4)]| .call ⟨.value _,_,_⟩=> [(i,4)]|_=> [])++P7 (i+1) os
def P8 (ops:List Oper):List (List (Nat×Nat)):= [[],LP 0 ops,LQ 0 ops,LP 0 ops++LQ 0 ops,P6 0 ops,P7 0 ops]
def II (P:Program) (call:kA) (ms:afF) (ops:List Oper) (l:List V) (U:St):List (List (Nat×Nat))->Option (List V×St)
 | []=>none
 |q::qs=>if ta ops q then(match Ev P call (Kp.pre U.length) ms ops q 0 ops l U with|some r=>some r|none=>II P call ms ops l U qs)else II P call ms ops l U qs
def LR (P:Program) (call:kA) (ms:afF) (ops:List Oper) (l:List V) (U:St):Option (List V×St):=
 if xT ops then II P call ms ops l U (P8 ops)else none
theorem P9 {call:kA} (hc:qu P call) (aa:BC P call) (hm:P.follows .mixedOrders) {ops:List Oper} {id:Nat} {l':List V} (h:LR P call ms ops l U=some (l',U')) (hl:l.length<=100000):
  l'.length=l.length/\ ∀Q:QT,Q .normal (dZ ms l') U'->VW P c l.length (.region id ops.toArray true) Q (dZ ms l) U:=by
 unfold LR at h
 split at h
 .rename_i he
  have go: ∀q,ta ops q=true->Ev P call (Kp.pre U.length) ms ops q 0 ops l U=some (l',U')->l'.length=l.length/\ ∀Q:QT,Q .normal (dZ ms l') U'->VW P c l.length (.region id ops.toArray true) Q (dZ ms l) U:=by
   intro q hd hx
   obtain⟨e1,e2⟩:=LO hc aa (c:=c) ops 0 l U l' U' hx hl
   exact⟨e1,λQ hq=>yV q U.length rfl hm (by grind) (e2 (Q .normal) hq)⟩
  generalize P8 ops=qs at h
  induction qs<;>grind[II]
 grind
end Go.Vx
