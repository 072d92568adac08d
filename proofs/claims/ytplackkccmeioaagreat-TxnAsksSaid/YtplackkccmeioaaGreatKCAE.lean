/-
  A call that is handed the first of the caller's objects, and may make more of them.
  No condition: a library text; nothing of the program is named.
-/
import Derived.Test.YtplackkccmeioaaGreatKCAD
import Derived.Carry
import Derived.ProofKit
import Derived.OpenShut
import Derived.IntWalk
import Derived.Test.YtplackkccmeioaaGreatRows
set_option maxHeartbeats 8000000
namespace Go.Vx
open Go
mutual
inductive ju (P:Program):TypeId->List V->Prop
 |bool {t:TypeId} (b:Bool):P.underlying t=some .bool->ju P t [.bool b]
 |int {t:TypeId} {k:IntKind} {n:Int}:P.underlying t=some (.int k)->(Lit.int k n).wf=true->ju P t [.int k n]
 |str {t:TypeId} {s:aiZ}:P.underlying t=some .string->s.length<=maxLen->ju P t [.str s]
 |sl {t e:TypeId} {rows:List (List V)}:P.underlying t=some (.slice e)->rows.length<=maxLen->kb P e rows->ju P t [.sl .ro rows]
 |struct {t:TypeId} {fs:Array Field} {cells:List V}:P.underlying t=some (.struct fs)->iw P (fs.toList.map (·.type)) cells->ju P t cells
inductive kb (P:Program):TypeId->List (List V)->Prop
 |nil {e:TypeId}:kb P e []
 |cons {e:TypeId} {r:List V} {rows:List (List V)}:ju P e r->kb P e rows->kb P e (r::rows)
inductive iw (P:Program):List TypeId->List V->Prop
 |nil:iw P [] []
 |cons {t:TypeId} {ts:List TypeId} {a b:List V}:ju P t a->iw P ts b->iw P (t::ts) (a++b)
end
def AE (P:Program):Nat->List Field->Nat->Bool
 |o,[],n=>o==n
 |o,f::fs,n=>f.offset==o&&AE P (o+P.cellsOf f.type) fs n
def DG (P:Program) (T:List TypeId):Bool:=T.all λt=>
 match P.underlying t with
 |some .bool|some (.int _)|some .string=>true
 |some (.slice e)=>T.contains e&&decide (0<P.cellsOf e)
 |some (.struct fs)=>fs.all (λf=>T.contains f.type)&&AE P 0 fs.toList (P.cellsOf t)
 |_=>false
def iy (w:World):Nat->Nat:=λb=>match w.heap[b]? with|some (.cells c _ _)=>c.size|_=>0
section
variable {H:Type} {enc:TypeId×Value->H} {P:Program} {w:World} {base:Nat} {spare:Nat->Bool} {held:Bool}
theorem Q6 {b o:Nat} {x:Value} (h:w.cell? ⟨b,o,none⟩=some x):o<iy w b:=by
 unfold World.cell? at h
 unfold iy
 grind
theorem Q7 {T:List TypeId} (hT:DG P T) {t:TypeId} (h:t∈T):(match P.underlying t with
  |some .bool|some (.int _)|some .string=>true
  |some (.slice e)=>T.contains e&&decide (0<P.cellsOf e)
  |some (.struct fs)=>fs.all (λf=>T.contains f.type)&&AE P 0 fs.toList (P.cellsOf t)
  |_=>false)=true:=by
 grind[DG]
inductive Sm (M:Nat):V->Prop
 |bool (b:Bool):Sm M (.bool b)
 |int (k:IntKind) (n:Int):Sm M (.int k n)
 |str {s:aiZ}:s.length<=M->Sm M (.str s)
 |sl {g:Tag} {rows:List (List V)}:rows.length<=M->(∀r∈rows,∀v∈r,Sm M v)->Sm M (.sl g rows)
 |agg {cs:List V}:(∀v∈cs,Sm M v)->Sm M (.agg cs)
structure oT {H:Type} (B:DataW H->Nat) (BA:List (DataW H)->Nat):Prop where
 str: ∀s:aiZ,s.length<=B (.lit (.string s))
 sl: ∀es sp,BA es<=B (.slice es sp)
 agg: ∀ps,BA ps<=B (.agg ps)
 mem: ∀d l,d∈l->B d<=BA l
 len: ∀l:List (DataW H),l.length<=BA l
def JX {H:Type} (d:DataW H) (vs:List V):Prop:= ∀(B:DataW H->Nat) (BA:List (DataW H)->Nat),oT B BA-> ∀M,B d<=M-> ∀v∈vs,Sm M v
theorem MM {T:List TypeId} (hT:DG P T): ∀(fuel:Nat) (t:TypeId) (cs:aj1) (x:DataW H×List MemPlace),t∈T->DataW.trod enc P w base spare held fuel t cs=some x->
  ∃vs,ju P t vs/\bP (cF w (iy w)) vs cs/\JX x.1 vs
 |0,t,cs,x,_,h=>by simp[DataW.trod]at h
 |fuel+1,t,cs,x,ht,h=>by
  have hk:=Q7 hT ht
  split at hk
  .rename_i hu
   obtain⟨b,rfl,_⟩:=DataW.trod_bool hu h
   exact⟨[.bool b],.bool b hu,⟨.bool b,tV⟩,λ_ _ _ _ _ v hv=>by simp at hv;subst hv;exact .bool b⟩
  .rename_i k hu
   obtain⟨n,rfl,_,hw⟩:=DataW.trod_int hu h
   exact⟨[.int k n],.int hu hw,⟨.int k n,tV⟩,λ_ _ _ _ _ v hv=>by simp at hv;subst hv;exact .int k n⟩
  .rename_i hu
   obtain⟨s,rfl,rfl,hs⟩:=DataW.trod_string hu h
   have hr:cF w (iy w) (.str s.data.toList) (.string ⟨s.data.toList.toArray⟩):= .str _
   exact⟨[.str s.data.toList],.str hu (sU hs),⟨hr,tV⟩,λB BA hB M hM v hv=>by simp at hv;subst hv;exact .str (by have:=hB.str s.data.toList;simp only at hM;simp at this hM⊢;omega)⟩
  .rename_i e hu
   simp only[Ab,aiA,aiO]at hk
   obtain⟨he,ae⟩:=hk
   rcases DataW.trod_slice hu h with ⟨rfl,_⟩|⟨a,len,cap,elems,rest,n,a6,rfl,af,hb,hl,hm,hlen,a7,_,_⟩
   .exact⟨[.sl .ro []],.sl hu (A3 _) .nil,⟨.jq _ _ _ (λq=>by cases q) (λ_=>sm),tV⟩,λ_ _ _ _ _ v hv=>by simp at hv;subst hv;exact .sl (A3 _) sm⟩
   .obtain rfl:fuel=n:=om
    have each: ∀i,i<len-> ∃(vs:List V) (aa:aj1),ju P e vs/\bP (cF w (iy w)) vs aa/\aa.length=P.cellsOf e/\(∀j,j<P.cellsOf e->w.cell? ((a.add (i*P.cellsOf e)).add j)=aa[j]?)/\ ∃d∈elems.map (·.1),JX d vs:=by
     intro i hi
     have h1:=a7 i hi
     rw[A0 om]at h1
     cases hc:w.cells? base (a.add (i*P.cellsOf e)) (P.cellsOf e)with
     |none=>rw[hc]at h1;cases h1
     |some aa=>
      rw[hc]at h1
      obtain⟨_,ah,ab⟩:=World.cells?_some hc
      obtain⟨vs,hs,hr,ak⟩:=MM hT fuel e aa _ he h1
      grind
    rcases Nat.eq_zero_or_pos len with rfl|a8
    .exact⟨[.sl .ro []],.sl hu (A3 _) .nil,⟨.jq _ _ _ (λq=>by cases q) (λ_=>sm),tV⟩,λ_ _ _ _ _ v hv=>by simp at hv;subst hv;exact .sl (A3 _) sm⟩
    .obtain⟨b,o,spot⟩:=a
     have ai:spot=none:=by
      obtain⟨vs,aa,_,_,ah,ab,_⟩:=each 0 a8
      have h0:=ab 0 ae
      rw[A0 om]at h0
      simp only[Cv,Addr.add,aiE]at h0
      cases spot with
      |none=>rfl
      |some _=>
       grind[World.cell?]
     subst ai
     have aH: ∀i j,((⟨b,o,none⟩:Addr).add (i*P.cellsOf e)).add j=⟨b,o+i*P.cellsOf e+j,none⟩:=by
      intro i j;rw[wE,wE]
     have key: ∀m,m<=len-> ∃rows:List (List V),rows.length=m/\kb P e rows/\(∀r∈rows,r.length=P.cellsOf e)/\(∀r∈rows,∃d∈elems.map (·.1),JX d r)/\
       ∀i j (hi:i<rows.length) (hj:j<rows[i].length),∃x,w.cell? ⟨b,o+(len - m+i)*P.cellsOf e+j,none⟩=some x/\cF w (iy w) (rows[i][j]) x:=by
      intro m
      induction m with
      |zero=>exact λ_=>⟨[],rfl,.nil,λ_ q=>by simp at q,λ_ q=>by simp at q,λi j hi=>by simp at hi⟩
      |succ m ih=>
       intro hm
       obtain⟨rows,h1,h2,h3,aj,h4⟩:=ih om
       obtain⟨vs,aa,hs,hr,ah,ab,ak⟩:=each (len - (m+1)) om
       refine⟨vs::rows,by simp[h1],.cons hs h2,λr ad=> ?_,λr ad=> ?_,λi j hi hj=> ?_⟩
       .rcases Ae.1 ad with rfl|ad
        .rw[hr.length,ah]
        grind
       .rcases Ae.1 ad with rfl|ad
        .exact ak
        .exact aj r ad
       .cases i with
        |zero=>
         simp only[List.getElem_cons_zero]at hj⊢
         obtain⟨x,hx,al⟩:=hr.get j _ (A0 hj)
         grind
        |succ i=>
         simp only[List.getElem_cons_succ]at hj⊢
         obtain⟨x,hx,al⟩:=h4 i j (sU hi) hj
         refine⟨x, ?_,al⟩
         grind
     obtain⟨rows,h1,h2,h3,aj,h4⟩:=key len (A7 _)
     have an:len - len=0:=om
     rw[an]at h4
     simp only[Ad]at h4
     subst h1
     refine⟨[.sl .ro rows],.sl hu om h2,⟨?_,tV⟩,λB BA hB M hM v hv=>by
      simp at hv;subst hv
      rw[af]at hM
      have q1:=hB.sl (elems.map (·.1)) (rest.map (·.1))
      have q2:=hB.len (elems.map (·.1))
      rw[Ag]at q2
      simp only at hM
      refine .sl om λr hr v hv=> ?_
      obtain⟨d,hd,aA⟩:=aj r hr
      have q3:=hB.mem _ _ hd
      exact aA B BA hB M om v hv⟩
     let c:Nat->Nat->Value:=λi j=>(w.cell? ⟨b,o+i*P.cellsOf e+j,none⟩).getD undef
     refine .sl .ro rows (P.cellsOf e) b o cap c (λ_=>sm) ae h3 ?_ hl (λq=>by cases q) (λi j hi hj=> ?_) (λi j hi hj=> ?_)
     .obtain⟨x,hx,_⟩:=h4 (rows.length - 1) (P.cellsOf e - 1) om (by rw[h3 _ (A8 _)];omega)
      have aI:=Q6 hx
      have h5:(rows.length - 1)*P.cellsOf e+P.cellsOf e=rows.length*P.cellsOf e:=by
       rw[<-Nat.succ_mul];congr 1;omega
      omega
     all_goals grind
  .rename_i fs hu
   simp only[Ab,Ch,aiO]at hk
   obtain⟨ao,aq⟩:=hk
   obtain⟨xs,n,a6,af,hlen,aB,ar⟩:=DataW.trod_struct hu h
   obtain rfl:fuel=n:=om
   have key: ∀(l:List Field) (pre:List Field) (off:Nat),fs.toList=pre++l->AE P off l (P.cellsOf t)=true->off<=cs.length->
     ∃vs,iw P (l.map (·.type)) vs/\bP (cF w (iy w)) vs (cs.drop off)/\JX (.agg (xs.map (·.1))) vs:=by
    intro l
    induction l with
    |nil=>
     intro pre off _ hr _
     unfold AE at hr
     have:off=P.cellsOf t:=sU hr
     refine⟨[],.nil, ?_,λ_ _ _ _ _ v hv=>by simp at hv⟩
     rw[A9 om]
     trivial
    |cons f l ih=>
     intro pre off au hr hle
     unfold AE at hr
     simp only[Ab,aiB]at hr
     obtain⟨av,hr⟩:=hr
     have hf:fs[pre.length]? =some f:=by
      have:fs.toList[pre.length]? =some f:=by rw[au];simp
      simpa using this
     have hx:=ar pre.length f hf
     have aw:pre.length<xs.length:=by
      rw[aB];exact(Br.1 hf).1
     rw[A0 aw,av]at hx
     obtain⟨aC,ax,ay,az⟩:=MM hT fuel f.type _ _ (ao f (Array.mem_of_getElem? hf)) hx
     have a1:off+P.cellsOf f.type<=cs.length:=by
      rw[hlen]
      clear ih hx ar ax ay az
      revert hr
      generalize off+P.cellsOf f.type=o2
      intro hr
      have: ∀(l:List Field) (o:Nat),AE P o l (P.cellsOf t)=true->o<=P.cellsOf t:=by
       intro l
       induction l<;>grind[AE]
      grind
     obtain⟨aD,aE,aF,aG⟩:=ih (pre++ [f]) (off+P.cellsOf f.type) (by rw[au];simp) hr a1
     refine⟨aC++aD,.cons ax aE, ?_,λB BA hB M hM v hv=>by
      rcases Af.1 hv with hv|hv
      .have q1:=hB.agg (xs.map (·.1))
       have q2:=hB.mem (xs[pre.length]'aw).1 (xs.map (·.1)) (Ac.2 ⟨_,A8 _,rfl⟩)
       exact az B BA hB M om v hv
      .exact aG B BA hB M hM v hv⟩
     have e:cs.drop off=(cs.drop off).take (P.cellsOf f.type)++cs.drop (off+P.cellsOf f.type):=by
      rw[<-aiT];exact(B8 _ _).symm
     rw[e]
     exact ay.append aF
   obtain⟨vs,h1,h2,h3⟩:=key fs.toList [] 0 rfl aq (A3 _)
   exact⟨vs,.struct hu h1,by simpa using h2,by rw[af];exact h3⟩
  grind
def uK (P:Program) (t:TypeId) (vs:List V):V:=match P.underlying t with|some (.struct _)=> .agg vs|_=>vs.headD .u
inductive kf (P:Program):List TypeId->List V->Prop
 |nil:kf P [] []
 |cons {t:TypeId} {ts:List TypeId} {vs:List V} {xs:List V}:ju P t vs->kf P ts xs->kf P (t::ts) (uK P t vs::xs)
theorem Zh {W:World} {r:Reach} {b:Nat} {t:TypeId} {v:Value} {T:List TypeId} (hT:DG P T) (ht:t∈T) (h:Value.okWide P W r b t v):(∃fs cs,P.underlying t=some (.struct fs)/\v= .agg cs)\/((∀fs,P.underlying t≠some (.struct fs))/\v.oneCell'=true):=by
 have hk:=Q7 hT ht
 split at hk
 .rename_i hu
  refine .inr ⟨(by grind), ?_⟩
  cases v<;>simp[Value.okWide,hu,Cell.okWide,Cell.ok]at h<;>rfl
 .rename_i k hu
  refine .inr ⟨(by grind), ?_⟩
  cases v<;>simp[Value.okWide,hu,Cell.okWide,Cell.ok]at h<;>rfl
 .rename_i hu
  refine .inr ⟨(by grind), ?_⟩
  cases v<;>simp[Value.okWide,hu,Cell.okWide,Cell.ok]at h<;>rfl
 .rename_i e hu
  refine .inr ⟨(by grind), ?_⟩
  cases v<;>simp[Value.okWide,hu,Cell.okWide,Cell.ok]at h<;>rfl
 .rename_i fs hu
  refine .inl ⟨fs, ?_⟩
  simp only[Value.okWide,hu]at h
  grind
 grind
theorem Q8 {T:List TypeId} (hT:DG P T): ∀(ts:List TypeId) (aa:aj1) (ds:List (DataW H)) (ps:List MemPlace),(∀t∈ts,t∈T)->(∀(j:Nat) t v,ts[j]? =some t->aa[j]? =some v->Value.okWide P w .any base t v)->
  DataW.TrodAll enc P w 0 spare held ts aa ds ps-> ∃xs,kf P ts xs/\bP (dD w (iy w) [] []) xs aa/\ ∀(B:DataW H->Nat) (BA:List (DataW H)->Nat),oT B BA-> ∀M,(∀d∈ds,B d<=M)-> ∀v∈xs,Sm M v
 | [],[],_,_,_,_,_=>⟨[],.nil,tV,sm⟩
 |t::ts,v::aa,ds,ps,hm,cQ,h=>by
  obtain⟨v',gY,d,ae,p,q,hv,rfl,rfl,h1,h2⟩:=ChangeShapes.trodAll_cons h
  cases hv
  obtain⟨xs,af,ah,aj⟩:=Q8 hT ts aa ae q (by grind) (λj t' v' h1 h2=>cQ (j+1) t' v' (by grind) (by grind)) h2
  obtain⟨fuel,hf⟩:=h1
  obtain⟨vs,hs,hr,ai⟩:=MM hT fuel t _ _ (by grind) hf
  suffices ta:dD w (iy w) [] [] (uK P t vs) v/\ ∀M,(∀v∈vs,Sm M v)->Sm M (uK P t vs) from
   ⟨uK P t vs::xs,.cons hs af,⟨ta.1,ah⟩,λB BA hB M hM v' ab=>by
    rcases Ae.1 ab with rfl|ab
    .exact ta.2 M λv hv=>ai B BA hB M (by grind) v hv
    grind⟩
  rcases Zh hT (by grind) (cQ 0 t v rfl rfl)with ⟨fs,cs,hu,rfl⟩|⟨ak,ad⟩
  .unfold uK
   rw[hu]
   exact⟨⟨cs.toList,sm,hr.imp (by grind[df.dw])⟩,λM hM=> .agg hM⟩
  .rw[GL ad]at hr
   have:uK P t vs=vs.headD .u:=by
    unfold uK
    simp
   rw[this]
   cases vs with
   |nil=>trivial
   |cons x vs=>exact⟨dD.dK (df.dw hr.1),(by grind)⟩
 | [],_::_,_,_,_,_,h=>by trivial
 |_::_,[],ds,_,_,_,h=>by trivial
theorem MN {w':World} {MO:Nat->Bool} (hl:laidOutB P): ∀(ts:List TypeId) (aa:aj1) (ds:List (DataW H)) (ps:List MemPlace),(∀t∈ts,P.readableRec t=true/\t<P.types.size)->
  DataW.TrodAll enc P w 0 (λ_=>true) true ts aa ds ps->(∀x∈ps,w.sameAt w' x)->(∀x∈ps,MO x.block=true)->DataW.TrodAll enc P w' 0 MO true ts aa ds ps
 | [],_,_,_,_,h,_,_=>by
  obtain⟨rfl,rfl,rfl⟩:=ChangeShapes.trodAll_nil h
  rfl
 |t::ts,aa,ds,ps,hr,h,hs,hp=>by
  obtain⟨v,gY,d,ab,p,q,rfl,rfl,rfl,h1,h2⟩:=ChangeShapes.trodAll_cons h
  exact⟨p,q,(by grind[WideElems.Trod_stays]),
   (by simp_all[MN]),rfl⟩
theorem Zi (w:World) (ht:im w (iy w)):Mem (entry w (iy w) [] []) w (iy w) [] []:=
 ⟨rfl,sm,sm,sm,λb hb hx=>(by trivial),Le.refl _ _,A7 _,rfl,rfl,rfl,A7 _,
  (by grind[iy]),Ext.refl _ _,ht⟩
theorem Zj {f:FuncId} {fn:Func} {s:ChangeSpec} {apart fresh handsOn again:Bool} (T ts:List TypeId) (tb:TypeId) (av:fn.params=ts.toArray) (ah:fn.resultTypes= #[tb]) (hb:P.underlying tb=some .bool) (hT:DG P T) (aw:ts.all (T.contains ·))
  (ax:ts.all (λt=>P.readableRec t&&decide (t<P.types.size))) (hl:laidOutB P) (aa:s.vars= [])
  (ay: ∀(H:Type) (ds:List (DataW H)),ds.length=ts.length->s.fn H ds={results:= [.lit (.bool true)],args:=ds})
  (an:List V->Prop) (hw: ∀xs,kf P ts xs->an xs->bN P f xs [] λr _=>r= .bool true) (H:Type) (enc:TypeId×Value->H) (W:World) (base:Nat) (args:aj3) (ds gs:List (DataW H)) (before:List MemPlace)
  (a1: ∀(j:Nat) t v,fn.params[j]? =some t->args[j]? =some v->Value.okWide P W .any base t v)
  (hW:DataW.Whole enc P fn.params.toList s.vars apart W args.toList ds gs before) (ai:im W (iy W))
  (ff: ∀xs,(∀(B:DataW H->Nat) (BA:List (DataW H)->Nat),oT B BA-> ∀M,(∀d∈ds++gs,B d<=M)-> ∀v∈xs,Sm M v)->an xs):
  Calls P f args W λe W'=> ∃v,e= .returned v/\s.post enc P fn apart fresh handsOn again W args v W':=by
 have aj:=hW
 obtain⟨p,q,hA,hV,rfl,ao,aq⟩:=hW
 rw[aa]at hV
 obtain⟨rfl,rfl⟩:=ChangeShapes.trodVars_none hV
 have ak:fn.params.toList=ts:=by rw[av]
 rw[ak]at hA
 rw[Am]at aw ax
 obtain⟨xs,hx,hr,a6⟩:=Q8 (base:=base) hT ts args.toList ds p (by grind) (by grind) hA
 have hlen:ds.length=ts.length:=by
  have: ∀(ts:List TypeId) (ad:aj1) (ds:List (DataW H)) (p:List MemPlace),DataW.TrodAll enc P W 0 (λ_=>true) true ts ad ds p->ds.length=ts.length:=by
   intro ts
   induction ts with
   |nil=>intro ad ds p h;obtain⟨_,rfl,_⟩:=ChangeShapes.trodAll_nil h;rfl
   |cons t ts ih=>intro ad ds p h;obtain⟨_,_,_,a7,_,_,_,rfl,_,_,h2⟩:=ChangeShapes.trodAll_cons h;grind
  grind
 have ae:=hw xs hx (by grind) W (iy W) [] args.toList (Zi W ai) hr
 have ar:args.toList.toArray=args:=sm
 rw[ar]at ae
 refine ae.mono ?_
 rintro e W' ⟨v,r,L',I',J',rfl,rfl,_,hm,au⟩
 have az:v= .bool true:=pO au
 subst az
 have ab:RowKit.Below W.heap.size W W':=⟨hm.os,hm.tape,hm.output,hm.size,λk hk=>(hm.same k hk (by simp[entry,uz])).1⟩
 have af:=aj.lt
 simp only[Ay]at af aj ao aq
 have al:s.fn H ds={results:= [.lit (.bool true)],args:=ds}:=(by grind)
 refine⟨_,rfl,ds,[],p,[],p,[],aj, ?_, ?_, ?_, ?_,λ_=>⟨?_, ?_⟩⟩
 .rw[Ay,al,ah]
  exact ChangeShapes.trodAll_mk1 (RowKit.shut_bool hb _)
 .rw[Ay,al,ak]
  exact MN hl ts _ _ _ (by grind) hA (λx hx=>ab.same (af x hx)) (by grind)
 .rw[Ay,al,aa]
  rfl
 .exact ab.frame _
 .exact RowKit.ok_one ah rfl (RowKit.okWide_bool_mk hb _)
 .rw[ak,ah]
  refine⟨[.lit (.bool true)]++ds,[],p,⟨[]++p,[],ChangeShapes.trodAll_append (MN (MO:=λ_=>true) hl ts _ _ _ (by grind) hA (λx hx=>ab.same (af x hx)) sm) ?_,by rw[aa];rfl,sm, ?_,aq⟩,(by grind)⟩
  .exact ChangeShapes.trodAll_mk1 (RowKit.shut_bool hb _)
  .intro b off hp
   rw[ab.frozen (p:=⟨b,off,none⟩) (af _ hp)]
   exact ao b off hp
theorem Zk {f:FuncId} {fn:Func} {s:ChangeSpec} {apart fresh handsOn again:Bool} (T ts:List TypeId) (tb:TypeId) (af:fn.params=ts.toArray) (ah:fn.resultTypes= #[tb]) (hb:P.underlying tb=some .bool) (hT:DG P T) (ai:ts.all (T.contains ·))
  (aj:ts.all (λt=>P.readableRec t&&decide (t<P.types.size))) (hl:laidOutB P) (aa:s.vars= [])
  (ab: ∀(H:Type) (ds:List (DataW H)),ds.length=ts.length->s.fn H ds={results:= [.lit (.bool true)],args:=ds})
  (hw: ∀xs,kf P ts xs->bN P f xs [] λr _=>r= .bool true) (H:Type) (enc:TypeId×Value->H) (W:World) (base:Nat) (args:aj3) (ds gs:List (DataW H)) (before:List MemPlace)
  (ae: ∀(j:Nat) t v,fn.params[j]? =some t->args[j]? =some v->Value.okWide P W .any base t v)
  (hW:DataW.Whole enc P fn.params.toList s.vars apart W args.toList ds gs before) (ad:im W (iy W)):
  Calls P f args W λe W'=> ∃v,e= .returned v/\s.post enc P fn apart fresh handsOn again W args v W':=
 Zj T ts tb af ah hb hT ai aj hl aa ab (λ_=>True) (by grind) H enc W base args ds gs before ae hW ad sm
variable {t:TypeId} {vs:List V}
theorem kf.cons_inv {ts:List TypeId} {xs:List V} (h:kf P (t::ts) xs): ∃vs aa,xs=uK P t vs::aa/\ju P t vs/\kf P ts aa:=by
 cases h<;>grind
theorem kf.gC {xs:List V} (h:kf P [] xs):xs= []:=by cases h;rfl
theorem ju.ef {k:IntKind} (hu:P.underlying t=some (.int k)) (h:ju P t vs): ∃n,vs= [.int k n]/\(Lit.int k n).wf=true:=by
 cases h<;>grind
theorem ju.nx (hu:P.underlying t=some .bool) (h:ju P t vs): ∃b,vs= [.bool b]:=by
 cases h<;>grind
theorem ju.pS (hu:P.underlying t=some .string) (h:ju P t vs): ∃s,vs= [.str s]/\s.length<=maxLen:=by
 cases h<;>grind
theorem ju.oU {e:TypeId} (hu:P.underlying t=some (.slice e)) (h:ju P t vs): ∃rows,vs= [.sl .ro rows]/\rows.length<=maxLen/\kb P e rows:=by
 cases h<;>grind
theorem ju.fJ {fs:Array Field} (hu:P.underlying t=some (.struct fs)) (h:ju P t vs):iw P (fs.toList.map (·.type)) vs:=by
 cases h<;>grind
theorem iw.cons_inv {ts:List TypeId} (h:iw P (t::ts) vs): ∃a b,vs=a++b/\ju P t a/\iw P ts b:=by
 cases h<;>grind
theorem iw.gC (h:iw P [] vs):vs= []:=by cases h;rfl
theorem kb.kA {U:Type} {f:U->List V} {ok:U->Prop} (h: ∀r,ju P t r-> ∃x,r=f x/\ok x): ∀{rows:List (List V)},kb P t rows-> ∃xs:List U,rows=xs.map f/\ ∀x∈xs,ok x
 | [],_=>sm
 |r::rows,hr=>by
  cases hr with
  |cons h1 h2=>
   obtain⟨x,rfl,hx⟩:=h r h1
   obtain⟨xs,rfl,aa⟩:=kb.kA h h2
   exact⟨x::xs,rfl,(by grind)⟩
theorem MP {v:V} (h:(match P.underlying t with|some (.struct _)=>false|_=>true)):uK P t [v]=v:=by
 unfold uK
 grind
theorem ow {n:Int} (h:(Lit.int .i64 n).wf): -9223372036854775808<=n/\n<=9223372036854775807:=by
 grind[Lit.wf,IntKind.min,IntKind.max,IntKind.signed,IntKind.bits]
end
variable {ρ:Nat->Nat}{I:St}{f:FuncId}{P:Program}{c:Ctx}{bY:List V}{cd:List V}{KV:V->St->Prop}
theorem Zl {j:Nat} (h:j<=9223372036854775807):IntKind.i64.wrap (j:Int)=j:=(by grind[IntWalk.i64_in])
theorem bX {n:Int} (h: -9223372036854775808<=n) (h2:n<=9223372036854775807):IntKind.i64.wrap n=n:=(by grind[IntWalk.i64_in])
theorem db {n:Int} (h:0<=n) (h2:n<=18446744073709551615):IntKind.u64.wrap n=n:=by
 grind[IntKind.wrap,IntKind.bits,IntKind.signed]
@[go_sem] theorem JY (n:Nat) (h:n<=9223372036854775807):IntKind.i64.wrap (no_index (OfNat.ofNat n))=OfNat.ofNat n:=by
 rw[show(OfNat.ofNat n:Int)=((n:Nat):Int) from rfl]
 grind[Zl]
@[go_sem] theorem Hn:IntKind.i64.wrap 0=0:=by rfl
@[go_sem] theorem Ho:IntKind.i64.wrap 1=1:=by rfl
@[go_sem] theorem FP {k k':IntKind} {x y:Int} {ek:Nat} {es:Option (List Pk)} (h:k≠k'):mS .shl ek es (.int k x) (.int k' y)= .ee (0<=y) (.int k (k.wrap (x*2^(min y.toNat k.bits)))):=by grind[mS]
theorem zQ {i n:Nat} (h:i<n) (hn:n<=9223372036854775807):IntKind.i64.wrap ((i:Int)+1)=((i+1:Nat):Int):=by
 rw[IntWalk.i64_in _ om];rfl
theorem mu {U:Type} {f:U->List V} {s:Nat} {l:List U} (h: ∀x,(f x).length=s):eI s (l.map f):=λr hr=>by
 grind
theorem zY {s:Nat} {r:List V} (h:r.length=s):eI s [r]:=λx hx=>by grind
theorem yZ (k:Nat) {n0:Nat} {R:V->St->Prop} {s:St} {v r:V} (hs:I.take k=s) (hl:s.length=k) (cQ:s.all (bS k)) (hn:n0<=k) (hr:cT (cK (List.range k) I.length) r v) (hR:R r s):cx (some v) n0 R I:=by
 grind[mV]
def cI (n:Int):Prop:= -9223372036854775808<=n/\n<=9223372036854775807
instance (n:Int):Decidable (cI n):=inferInstanceAs (Decidable (_/\_))
@[go_sem] def yS (n:Int):List V:= [.int .i64 n]
theorem yW {gY vs:List V} (h:bP (nk ρ) gY vs):cT ρ (.cy gY) (.cy vs):= .inr (by grind)
theorem uL {g:Tag} {rows:List (List V)}:nk ρ (.sl .ro rows) (.sl g rows):= .inr sm
theorem xV {v:V} (h:vX v):nk ρ v v:= .inl (MC h).symm
theorem zX {g:Tag} {rows:List (List V)}:oN ρ (.sl .ro rows) (.sl g rows):= .inr sm
theorem zF {v:V} (h:oQ v):oN ρ v v:= .inl (CW h).symm
theorem wN {aa cs:List V} (h:bP (oN ρ) aa cs):cT ρ (.agg aa) (.agg cs):= .inr (by grind)
theorem wW {aa cs:List V} (h:bP (oN ρ) aa cs):nk ρ (.agg aa) (.agg cs):= .inr (by grind)
theorem Zm {args:List V} {R:V->Prop} (hc:bN P f cd [] λr s=>R r/\s= []) (hb:xE P f) (aa:bP (cT (cK [] I.length)) cd (args++bY))
  (hn: ∀r,R r->gK r) (hk: ∀r,R r->KV r I):jm P c (.fn f bY) args I KV fx:=by
 refine VC.of hc hb [] C0 rfl sm aa ?_
 rintro r I' ⟨hR,rfl⟩ _
 grind[zm,yX,fI]
theorem Q9 {k:Nat} {s:St} (hk:k<=I.length) (hs:s.length=k) (cQ:s.all (bS k)):yX (List.range k) I s=s++I.drop k:=by
 have e1:(s.take (List.range k).length).map (yA (cK (List.range k) I.length))=s:=by
  grind[wH,yY,qC]
 have e2:(s.drop (List.range k).length).map (yA (cK (List.range k) I.length))= []:=by
  grind
 unfold yX
 rw[e1,e2,Ay]
 apply Bi
 intro i
 by_cases hi:i<k
 .rw[Ji (List.range k) I s i i Be (by grind) (by grind) (by grind),Ao om]
 simp_all[sM,Au]
theorem uM (k:Nat) {args:List V} {fi:St} {R:V->St->Prop} (hc:bN P f cd fi R) (hb:xE P f) (hk:I.take k=fi) (hl:fi.length=k) (cQ:fi.all (bS k))
  (aa:bP (cT (cK (List.range k) I.length)) cd (args++bY)) (hR: ∀r s,R r s->s.length=k/\s.all (bS k)=true/\iJ k r) (hK: ∀r s,R r s->KV r (s++I.drop k)):jm P c (.fn f bY) args I KV fx:=by
 have ab:k<=I.length:=by grind
 refine VC.of hc hb (List.range k) Be (by grind) (λi j o h1 h2=> ?_) aa λr s h _=> ?_
 .obtain⟨h3,h4⟩:=A4.1 h1
  simp at h3 h4
  subst h4
  have ho:bS k o:=by
   grind
  rw[yY (n:=k) (by grind[qC]) ho]
  grind
 grind[MD,qC,Q9]
theorem mw (i:Nat) {o:Ob} {args:List V} {R:V->St->Prop} (hc:bN P f cd [o] R) (hb:xE P f) (ho:I[i]? =some o) (cQ:bS 0 o)
  (aa:bP (cT (cK [i] I.length)) cd (args++bY)) (hR: ∀r s,R r s-> ∃o2,s= [o2]/\bS 0 o2) (hK: ∀r o2,R r [o2]->KV (dI (cK [i] I.length) r) (I.set i o2)):jm P c (.fn f bY) args I KV fx:=by
 refine Y4 hc hb ho cQ aa λr s h _=> ?_
 obtain⟨o2,rfl,h2⟩:=hR r s h
 have e:yX [i] I [o2]=I.set i o2:=by
  simp only[yX,Bm,Cb,E2,Dd,Bh,Aj,Bq,fI,Ay]
  rw[yY (n:=0) om h2]
 grind
theorem Zn {i N:Nat}:cK [i] N 0=i:=rfl
attribute [go_sem] dI dN dj du Zn
section
variable {ρ:Nat->Nat} (iX: ∀i,ρ i=i)
include iX
theorem Zo (v:V):du ρ v=v:=by
 cases v with
 |sl g rows=>cases g<;>simp[du,iX]
 |_=>simp[du,iX]
theorem Ra (v:V):dj ρ v=v:=by
 have h:du ρ=λv=>v:=funext (by grind[Zo])
 cases v<;>grind[dj,E3]
theorem Rb (v:V):dN ρ v=v:=by
 have h:dj ρ=λv=>v:=funext (by grind[Ra])
 cases v<;>grind[dN,E3]
theorem AF (v:V):dI ρ v=v:=by
 have h:dN ρ=λv=>v:=funext (by grind[Rb])
 cases v<;>grind[dI,E3]
theorem AG (o:Ob):yA ρ o=o:=by
 have h:dj ρ=λv=>v:=funext (by grind[Ra])
 cases o with
 |box cells=>grind[yA,E3]
 |cj rows s=>simp_all[yA]
 |mp dM gh cZ=>
  have h:dN ρ=λv=>v:=funext (by grind[Rb])
  grind[yA,E3]
 |it m since seen last=>cases m<;>simp[yA,iX]
 |_=>rfl
end
variable {I:St}{P:Program}{c:Ctx}{nt:Nat}{Q:QT}{e:Env}{y:Code}
theorem AH {f:FuncId} {bY args cd:List V} {KV:V->St->Prop} {R:V->St->Prop} (hc:bN P f cd [] R) (hb:xE P f)
  (aa:bP (cT (cK [] 0)) cd (args++bY)) (hK: ∀r s,R r s->KV r s):jm P c (.fn f bY) args [] KV fx:=by
 have hid: ∀i,cK [] 0 i=i:=(by grind[cK])
 refine VC.of hc hb [] C0 rfl sm aa λr s h _=> ?_
 have e:yX [] [] s=s:=by
  have h2:yA (cK [] 0)=λo=>o:=funext (by grind[AG])
  simp_all[yX,fI]
 show KV (dI (cK [] 0) r) (yX [] [] s)
 grind[AF]
theorem ny {id:Nat} {ops:List Oper} (q:List (Nat×Nat)) (n0:Nat) (hn:n0<=I.length) (hm:P.follows .mixedOrders) (hd:(uG ops q&&rO ops)) (h:rQ P c nt (Kp.pre n0) ops q 0 ops (Q .normal) fx fx fx e I):gE P c nt (.region id ops.toArray true) Q fx fx e I:=by
 simp only[Ab]at hd
 obtain⟨tr,ht,hK⟩:=DA ops 0 (Q .normal) e I h
 exact VW.draw (n0:=Kp.pre n0) hm hn hd.1 hd.2 ht hK
theorem wJ {id:Nat} {ops:List Oper} (q:List (Nat×Nat)) (x n0:Nat) (hn:n0<=I.length) (hm:P.follows .mixedOrders) (hd:(uG ops q&&rO ops)) (h:rQ P c nt (Kp.mk x n0 [] none) ops q 0 ops (Q .normal) fx fx fx e I):gE P c nt (.region id ops.toArray true) Q fx fx e I:=by
 simp only[Ab]at hd
 obtain⟨tr,ht,hK⟩:=DA ops 0 (Q .normal) e I h
 exact VW.draw (n0:=Kp.mk x n0 [] none) hm hn hd.1 hd.2 ht hK
theorem lU (t s:Nat) (h0:0<s) (ht:e t= .sl .full []) (hy:gE P c nt y Q fx fx (fo e t (.sl (.app I.length) [])) (I++ [.app 0 s])):gE P c nt y Q fx fx e I:=by
 intro a w L J hs
 have hr:=hs.env t
 rw[ht]at hr
 obtain⟨ad,hx⟩: ∃ad,a.tmps.getD t undef= .slice ad 0 0:=by
  have hr:cF w L (.sl .full []) (a.tmps.getD t undef):=hr
  generalize a.tmps.getD t undef=x at hr
  cases hr<;>simp_all
 have aa:=Ext.push I J hs.mem.len (.app 0 s) (.slice ad 0 0)
 refine hy a w L (J++ [.slice ad 0 0]) ⟨hs.mem.own h0,hs.size,hs.defs,λk=> ?_⟩
 simp only[fo]
 split
 .rename_i hk
  subst hk
  rw[hx]
  exact⟨.jq .ro ad 0 om sm,0,s,sm,sm,λ_=>by rw[<-hs.mem.len];simp,sm⟩
 .exact(hs.env k).mono (Le.refl _ _) aa
theorem DH (id off s:Nat) (cells:List V) (h0:0<s) (cJ:I[id]? =some (.box cells)) (hc:cells[off]? =some (.sl .full []))
  (hy:gE P c nt y Q fx fx e (I.set id (.box (cells.set off (.sl (.app I.length) [])))++ [.app 0 s])):gE P c nt y Q fx fx e I:=by
 intro a w L J hs
 obtain⟨x,h1,h2⟩:=YR hs.mem h0 cJ hc
 exact hy a w L (J++ [x]) ⟨h1,hs.size,hs.defs,λk=>(hs.env k).mono (Le.refl _ _) h2⟩
theorem FQ (t s:Nat) (h0:0<s) (ht:e t= .sl .full []) (hy:gE P c nt y Q fx fx (fo e t (.cM I.length s 0 0 0)) (I++ [.cj [] s])):gE P c nt y Q fx fx e I:=by
 intro a w L J hs
 have hr:=hs.env t
 rw[ht]at hr
 obtain⟨ad,hx⟩: ∃ad,a.tmps.getD t undef= .slice ad 0 0:=by
  have hr:cF w L (.sl .full []) (a.tmps.getD t undef):=hr
  generalize a.tmps.getD t undef=x at hr
  cases hr<;>simp_all
 have aa:=Ext.push I J hs.mem.len (.cj [] s) (.slice ad 0 0)
 refine hy a w L (J++ [.slice ad 0 0]) ⟨hs.mem.mc h0,hs.size,hs.defs,λk=> ?_⟩
 simp only[fo]
 split
 .rename_i hk
  subst hk
  rw[hx]
  exact GW (w':=w) (L':=L) (s:=s) (rows:= []) (cap:=0) (a0:=ad) hs.mem.len sm om
 .exact(hs.env k).mono (Le.refl _ _) aa
theorem Zp {s:St} (h:I.length<=s.length):yX (List.range I.length) I s=s:=by
 have ra: ∀i,cK (List.range I.length) I.length i=i:=(by grind[qC,qp])
 have hid:yA (cK (List.range I.length) I.length)=λo=>o:=funext (by grind[AG])
 apply Bi
 intro i
 by_cases hi:i<s.length
 .have:=BX (dg:=List.range I.length) (Ic:=I) (I':=s) Be (λq hq=>Cn.1 hq) (sU h) (A0 hi)
  grind
 grind[FL]
theorem FR {f:FuncId} {bY args:List V} {KV:V->St->Prop} {R:V->St->Prop} (hc:bN P f (args++bY) I R) (hb:xE P f)
  (hk: ∀r s,R r s->I.length<=s.length->KV r s):jm P c (.fn f bY) args I KV fx:=by
 have ra: ∀i,cK (List.range I.length) I.length i=i:=(by grind[qC,qp])
 refine VC.of hc hb (List.range I.length) Be sm (λi j o hi ho=> ?_) ?_ ?_
 .grind[AG]
 .have: ∀l:List V,bP (cT (cK (List.range I.length) I.length)) l l:=by
   intro l
   induction l with
   |nil=>trivial
   |cons a l ih=>exact⟨.inl (AF ra a).symm,ih⟩
  grind
 grind[AF,Zp]
theorem Hp {n0:Nat} {R:V->St->Prop} {r:V} (hn:n0<=I.length) (hR:R r I):cx (some r) n0 R I:=by
 have ra: ∀i,cK (List.range I.length) I.length i=i:=(by grind[qC,qp])
 refine⟨r,rfl,r,I,List.range I.length,I,r,.refl _ _,⟨sm,Be,λi j o hi ho=> ?_,(by grind)⟩,.inl (AF ra r).symm,hR⟩
 grind[AG]
end Go.Vx
namespace Go.Proofs.YtplackkccmeioaaGreat
open Go Go.Vx Go.Proofs.Tryz
@[go_sem] theorem Rc:eE prog 2=some 1/\eE prog 3=some 1/\eE prog 4=some 1/\eE prog 5=some 1/\eE prog 9=some 1/\eE prog 25=some 1/\eE prog 26=some 1/\eE prog 28=some 2/\eE prog 31=some 4/\eE prog 32=some 1/\eE prog 34=some 3/\eE prog 36=some 2/\eE prog 37=some 1/\eE prog 38=some 1/\eE prog 39=some 1/\eE prog 41=some 3:=by
 and_intros<;>kernel_rfl
@[go_sem] theorem Re:eE prog 43=some 16/\eE prog 50=some 1/\eE prog 52=some 11/\eE prog 55=some 1/\eE prog 56=some 1/\eE prog 58=some 14/\eE prog 60=some 15/\eE prog 88=some 4/\eE prog 91=some 11/\eE prog 96=some 2/\eE prog 117=some 3/\eE prog 118=some 1/\eE prog 120=some 11/\eE prog 122=some 1/\eE prog 123=some 1/\eE prog 124=some 1:=by
 and_intros<;>kernel_rfl
@[go_sem] theorem Rf:eE prog 126=some 3/\eE prog 127=some 1/\eE prog 129=some 6/\eE prog 131=some 15/\eE prog 134=some 7/\eE prog 142=some 7/\eE prog 149=some 1/\eE prog 150=some 1/\eE prog 154=some 2/\eE prog 156=some 1/\eE prog 158=some 2/\eE prog 164=some 1/\eE prog 167=some 2/\eE prog 168=some 1/\eE prog 179=some 4/\eE prog 187=some 2:=by
 and_intros<;>kernel_rfl
@[go_sem] theorem Rg:eE prog 190=some 3/\eE prog 197=some 2/\eE prog 208=some 1/\eE prog 215=some 2/\eE prog 223=some 1/\eE prog 228=some 3/\eE prog 247=some 1/\eE prog 341=some 2:=by
 and_intros<;>kernel_rfl
@[go_sem] theorem MQ:cS prog 2=some false/\cS prog 3=some false/\cS prog 4=some false/\cS prog 5=some false/\cS prog 9=some false/\cS prog 25=some false/\cS prog 26=some false/\cS prog 28=some true/\cS prog 31=some true/\cS prog 32=some false/\cS prog 34=some true/\cS prog 36=some true/\cS prog 37=some false/\cS prog 38=some false/\cS prog 39=some false/\cS prog 41=some true:=by
 and_intros<;>kernel_rfl
@[go_sem] theorem MR:cS prog 43=some true/\cS prog 50=some false/\cS prog 52=some true/\cS prog 55=some false/\cS prog 56=some false/\cS prog 58=some true/\cS prog 60=some true/\cS prog 88=some true/\cS prog 91=some true/\cS prog 96=some true/\cS prog 117=some true/\cS prog 118=some false/\cS prog 120=some true/\cS prog 122=some false/\cS prog 123=some false/\cS prog 124=some false:=by
 and_intros<;>kernel_rfl
@[go_sem] theorem MS:cS prog 126=some true/\cS prog 127=some false/\cS prog 129=some true/\cS prog 131=some true/\cS prog 134=some true/\cS prog 142=some true/\cS prog 149=some false/\cS prog 150=some false/\cS prog 154=some true/\cS prog 156=some false/\cS prog 158=some true/\cS prog 164=some false/\cS prog 167=some true/\cS prog 168=some false/\cS prog 179=some true/\cS prog 187=some true:=by
 and_intros<;>kernel_rfl
@[go_sem] theorem MT:cS prog 190=some true/\cS prog 197=some true/\cS prog 208=some false/\cS prog 215=some true/\cS prog 223=some false/\cS prog 228=some true/\cS prog 247=some false/\cS prog 341=some true:=by
 and_intros<;>kernel_rfl
@[go_sem] theorem Rh:iR prog 2=0/\iR prog 3=0/\iR prog 4=1/\iR prog 5=0/\iR prog 9=0/\iR prog 31=0/\iR prog 36=0/\iR prog 38=0/\iR prog 50=3/\iR prog 55=3/\iR prog 56=3/\iR prog 70=0/\iR prog 96=0/\iR prog 126=0/\iR prog 187=0/\iR prog 190=0:=by
 and_intros<;>kernel_rfl
@[go_sem] theorem Ri:iR prog 208=3/\iR prog 234=0:=by
 and_intros<;>kernel_rfl
@[go_sem] theorem Rj:kz prog 2=none/\kz prog 3=none/\kz prog 4=none/\kz prog 5=none/\kz prog 9=none/\kz prog 31=some [.i .i64,.i .i64,.i .i64,.i .i64]/\kz prog 36=some [.i .i64,.i .i64]/\kz prog 38=none/\kz prog 50=none/\kz prog 55=none/\kz prog 56=none/\kz prog 70=none/\kz prog 96=some [.s,.s]/\kz prog 126=some [.i .i64,.i .i64,.s]/\kz prog 187=some [.s,.s]/\kz prog 190=some [.s,.b,.s]:=by
 and_intros<;>kernel_rfl
@[go_sem] theorem Rk:kz prog 208=none/\kz prog 234=none:=by
 and_intros<;>kernel_rfl
@[go_sem] theorem Rl:jJ prog 2=some (.int .i64)/\jJ prog 3=some (.int .i64)/\jJ prog 5=some (.int .u8)/\jJ prog 9=some .str/\jJ prog 70=some (.int .u64)/\jJ prog 111=some .bytes/\jJ prog 234=some (.int .u64):=by
 and_intros<;>kernel_rfl
@[go_sem] theorem JZ:wB prog 3=some [.int .i64 0]/\wB prog 28=some [.sl .full [],.sl .full []]/\wB prog 31=some [.int .i64 0,.int .i64 0,.int .i64 0,.int .i64 0]/\wB prog 34=some [.int .i64 0,.int .i64 0,.sl .full []]/\wB prog 36=some [.int .i64 0,.int .i64 0]/\wB prog 41=some [.int .i64 0,.int .i64 0,.sl .full []]/\wB prog 43=some [.int .i64 0,.int .i64 0,.int .i64 0,.int .i64 0,.int .i64 0,.int .i64 0,.sl .full [],.int .i64 0,.int .i64 0,.int .i64 0,.int .i64 0,.int .i64 0,.sl .full [],.int .i64 0,.int .i64 0,.sl .full []]/\wB prog 52=some [.int .i64 0,.sl .full [],.int .i64 0,.int .i64 0,.int .i64 0,.int .i64 0,.int .i64 0,.int .i64 0,.int .i64 0,.int .i64 0,.bool false]/\wB prog 58=some [.int .i64 0,.int .i64 0,.int .i64 0,.int .i64 0,.int .i64 0,.int .i64 0,.int .i64 0,.int .i64 0,.int .i64 0,.int .i64 0,.int .i64 0,.bool false,.sl .full [],.sl .full []]/\wB prog 60=some [.int .i64 0,.int .i64 0,.int .i64 0,.int .i64 0,.int .i64 0,.int .i64 0,.int .i64 0,.int .i64 0,.int .i64 0,.int .i64 0,.int .i64 0,.int .i64 0,.bool false,.sl .full [],.sl .full []]/\wB prog 91=some [.int .i64 0,.int .i64 0,.int .i64 0,.sl .full [],.sl .full [],.sl .full [],.int .i64 0,.int .i64 0,.int .i64 0,.int .i64 0,.bool false]/\wB prog 96=some [.str [],.str []]/\wB prog 120=some [.str [],.sl .full [],.int .i64 0,.int .i64 0,.int .i64 0,.sl .full [],.sl .full [],.sl .full [],.int .i64 0,.int .i64 0,.int .i64 0]/\wB prog 126=some [.int .i64 0,.int .i64 0,.str []]/\wB prog 129=some [.int .i64 0,.str [],.int .i64 0,.int .i64 0,.str [],.sl .full []]/\wB prog 131=some [.int .i64 0,.str [],.sl .full [],.sl .full [],.sl .full [],.bool false,.int .i64 0,.str [],.int .i64 0,.int .i64 0,.str [],.sl .full [],.str [],.bool false,.int .i64 0]:=by
 and_intros<;>kernel_rfl
@[go_sem] theorem J0:wB prog 134=some [.int .i64 0,.int .i64 0,.str [],.int .i64 0,.int .i64 0,.str [],.sl .full []]/\wB prog 142=some [.str [],.int .i64 0,.str [],.int .i64 0,.int .i64 0,.str [],.sl .full []]/\wB prog 152=some [.sl .full [],.sl .full [],.raw (.map none),.raw (.map none),.raw (.map none)]/\wB prog 154=some [.int .i64 0,.sl .full []]/\wB prog 158=some [.sl .full [],.int .i64 0]/\wB prog 167=some [.int .i64 0,.sl .full []]/\wB prog 173=some [.sl .full [],.int .i64 0,.int .i64 0,.int .i64 0,.int .i64 0]/\wB prog 179=some [.int .i64 0,.int .i64 0,.str [],.int .i64 0]/\wB prog 187=some [.str [],.str []]/\wB prog 190=some [.str [],.bool false,.str []]/\wB prog 197=some [.int .i64 0,.sl .full []]/\wB prog 215=some [.int .i64 0,.str []]/\wB prog 228=some [.int .i64 0,.str [],.sl .full []]/\wB prog 237=some [.sl .full []]/\wB prog 341=some [.raw .nilFunc,.raw .nilFunc]:=by
 and_intros<;>kernel_rfl
@[go_sem] theorem MU:dL prog 9=1/\dL prog 22=2/\dL prog 23=2/\dL prog 25=2/\dL prog 26=2/\dL prog 32=2/\dL prog 37=2/\dL prog 39=2/\dL prog 47=2/\dL prog 50=2/\dL prog 55=2/\dL prog 56=2/\dL prog 80=2/\dL prog 111=2/\dL prog 118=2/\dL prog 122=2:=by
 and_intros<;>kernel_rfl
@[go_sem] theorem MV:dL prog 123=2/\dL prog 124=2/\dL prog 127=2/\dL prog 147=2/\dL prog 156=2/\dL prog 164=2/\dL prog 168=2/\dL prog 208=2/\dL prog 223=2/\dL prog 229=2/\dL prog 247=2:=by
 and_intros<;>kernel_rfl
@[go_sem] theorem MW:qf prog 9=true:=kR
@[go_sem] theorem MX:eT prog 22=some 4/\eT prog 23=some 14/\eT prog 25=some 1/\eT prog 26=some 11/\eT prog 32=some 15/\eT prog 37=some 11/\eT prog 39=some 2/\eT prog 47=some 15/\eT prog 50=some 2/\eT prog 55=some 2/\eT prog 56=some 3/\eT prog 62=some 1/\eT prog 80=some 2/\eT prog 111=some 1/\eT prog 118=some 3/\eT prog 122=some 7:=by
 and_intros<;>kernel_rfl
@[go_sem] theorem MY:eT prog 123=some 1/\eT prog 124=some 7/\eT prog 127=some 6/\eT prog 147=some 2/\eT prog 156=some 1/\eT prog 164=some 2/\eT prog 168=some 4/\eT prog 208=some 3/\eT prog 223=some 3/\eT prog 229=some 2/\eT prog 247=some 1/\eT prog 387=some 1:=by
 and_intros<;>kernel_rfl
@[go_sem] theorem Rm:eF prog 25=some (1,8)/\eF prog 26=some (11,160)/\eF prog 32=some (15,216)/\eF prog 37=some (11,136)/\eF prog 39=some (2,32)/\eF prog 47=some (15,152)/\eF prog 50=some (2,32)/\eF prog 55=some (2,32)/\eF prog 56=some (3,40)/\eF prog 62=some (1,8)/\eF prog 80=some (2,32)/\eF prog 111=some (1,1)/\eF prog 122=some (7,88)/\eF prog 123=some (1,24)/\eF prog 124=some (7,96)/\eF prog 127=some (6,80):=by
 and_intros<;>kernel_rfl
@[go_sem] theorem Rn:eF prog 147=some (2,32)/\eF prog 156=some (1,24)/\eF prog 164=some (2,32)/\eF prog 168=some (4,40)/\eF prog 208=some (3,32)/\eF prog 223=some (3,48)/\eF prog 229=some (2,24)/\eF prog 247=some (1,16)/\eF prog 387=some (1,24):=by
 and_intros<;>kernel_rfl
@[go_sem] theorem MZ:js prog 25=some [.int .i64 0]/\js prog 111=some [.int .u8 0]:=by
 and_intros<;>kernel_rfl
@[go_sem] theorem M0:eY prog 28=some [(0,1),(1,1)]/\eY prog 31=some [(0,1),(1,1),(2,1),(3,1)]/\eY prog 34=some [(0,1),(1,1),(2,1)]/\eY prog 36=some [(0,1),(1,1)]/\eY prog 41=some [(0,1),(1,1),(2,1)]/\eY prog 43=some [(0,4),(4,3),(7,1),(8,2),(10,1),(11,1),(12,1),(13,3)]/\eY prog 52=some [(0,1),(1,1),(2,4),(6,1),(7,2),(9,1),(10,1)]/\eY prog 58=some [(0,1),(1,1),(2,1),(3,1),(4,4),(8,2),(10,1),(11,1),(12,1),(13,1)]/\eY prog 60=some [(0,1),(1,14)]/\eY prog 91=some [(0,1),(1,1),(2,1),(3,1),(4,1),(5,1),(6,4),(10,1)]/\eY prog 120=some [(0,1),(1,1),(2,1),(3,1),(4,1),(5,6)]/\eY prog 126=some [(0,1),(1,1),(2,1)]/\eY prog 129=some [(0,1),(1,1),(2,3),(5,1)]/\eY prog 131=some [(0,1),(1,1),(2,1),(3,1),(4,1),(5,1),(6,6),(12,1),(13,1),(14,1)]/\eY prog 134=some [(0,1),(1,6)]/\eY prog 142=some [(0,1),(1,6)]:=by
 and_intros<;>kernel_rfl
@[go_sem] theorem M1:eY prog 152=some [(0,2),(2,1),(3,1),(4,1)]/\eY prog 154=some [(0,1),(1,1)]/\eY prog 158=some [(0,1),(1,1)]/\eY prog 167=some [(0,1),(1,1)]/\eY prog 173=some [(0,1),(1,1),(2,1),(3,1),(4,1)]/\eY prog 179=some [(0,1),(1,1),(2,1),(3,1)]/\eY prog 187=some [(0,1),(1,1)]/\eY prog 190=some [(0,1),(1,1),(2,1)]/\eY prog 197=some [(0,1),(1,1)]/\eY prog 215=some [(0,1),(1,1)]/\eY prog 228=some [(0,2),(2,1)]/\eY prog 237=some [(0,1)]/\eY prog 341=some [(0,1),(1,1)]:=by
 and_intros<;>kernel_rfl
@[go_sem] theorem M4:cw prog 28 0=some (0,1,false)/\cw prog 28 1=some (1,1,false)/\cw prog 31 0=some (0,1,false)/\cw prog 31 1=some (1,1,false)/\cw prog 31 2=some (2,1,false)/\cw prog 31 3=some (3,1,false)/\cw prog 34 0=some (0,1,false)/\cw prog 34 1=some (1,1,false)/\cw prog 34 2=some (2,1,false)/\cw prog 36 0=some (0,1,false)/\cw prog 36 1=some (1,1,false)/\cw prog 41 0=some (0,1,false)/\cw prog 41 1=some (1,1,false)/\cw prog 41 2=some (2,1,false)/\cw prog 43 0=some (0,4,true)/\cw prog 43 1=some (4,3,true):=by
 and_intros<;>kernel_rfl
@[go_sem] theorem M5:cw prog 43 2=some (7,1,false)/\cw prog 43 3=some (8,2,true)/\cw prog 43 4=some (10,1,false)/\cw prog 43 5=some (11,1,false)/\cw prog 43 6=some (12,1,false)/\cw prog 43 7=some (13,3,true)/\cw prog 52 0=some (0,1,false)/\cw prog 52 1=some (1,1,false)/\cw prog 52 2=some (2,4,true)/\cw prog 52 3=some (6,1,false)/\cw prog 52 4=some (7,2,true)/\cw prog 52 5=some (9,1,false)/\cw prog 52 6=some (10,1,false)/\cw prog 54 0=some (0,1,false)/\cw prog 54 1=some (1,11,true)/\cw prog 54 3=some (13,1,false):=by
 and_intros<;>kernel_rfl
@[go_sem] theorem M6:cw prog 58 0=some (0,1,false)/\cw prog 58 1=some (1,1,false)/\cw prog 58 2=some (2,1,false)/\cw prog 58 3=some (3,1,false)/\cw prog 58 4=some (4,4,true)/\cw prog 58 5=some (8,2,true)/\cw prog 58 6=some (10,1,false)/\cw prog 58 7=some (11,1,false)/\cw prog 58 8=some (12,1,false)/\cw prog 58 9=some (13,1,false)/\cw prog 60 0=some (0,1,false)/\cw prog 60 1=some (1,14,true)/\cw prog 88 0=some (0,1,false)/\cw prog 88 1=some (1,1,false)/\cw prog 88 2=some (2,1,false)/\cw prog 88 3=some (3,1,false):=by
 and_intros<;>kernel_rfl
@[go_sem] theorem M7:cw prog 91 0=some (0,1,false)/\cw prog 91 1=some (1,1,false)/\cw prog 91 2=some (2,1,false)/\cw prog 91 3=some (3,1,false)/\cw prog 91 4=some (4,1,false)/\cw prog 91 5=some (5,1,false)/\cw prog 91 6=some (6,4,true)/\cw prog 91 7=some (10,1,false)/\cw prog 96 0=some (0,1,false)/\cw prog 96 1=some (1,1,false)/\cw prog 117 0=some (0,1,false)/\cw prog 117 1=some (1,1,false)/\cw prog 117 2=some (2,1,false)/\cw prog 120 0=some (0,1,false)/\cw prog 120 1=some (1,1,false)/\cw prog 120 2=some (2,1,false):=by
 and_intros<;>kernel_rfl
@[go_sem] theorem M8:cw prog 120 3=some (3,1,false)/\cw prog 120 4=some (4,1,false)/\cw prog 126 0=some (0,1,false)/\cw prog 126 1=some (1,1,false)/\cw prog 126 2=some (2,1,false)/\cw prog 129 0=some (0,1,false)/\cw prog 129 1=some (1,1,false)/\cw prog 129 2=some (2,3,true)/\cw prog 129 3=some (5,1,false)/\cw prog 131 0=some (0,1,false)/\cw prog 131 1=some (1,1,false)/\cw prog 131 2=some (2,1,false)/\cw prog 131 3=some (3,1,false)/\cw prog 131 4=some (4,1,false)/\cw prog 131 5=some (5,1,false)/\cw prog 131 6=some (6,6,true):=by
 and_intros<;>kernel_rfl
@[go_sem] theorem M9:cw prog 131 7=some (12,1,false)/\cw prog 131 8=some (13,1,false)/\cw prog 131 9=some (14,1,false)/\cw prog 134 0=some (0,1,false)/\cw prog 134 1=some (1,6,true)/\cw prog 142 0=some (0,1,false)/\cw prog 142 1=some (1,6,true)/\cw prog 152 0=some (0,2,true)/\cw prog 152 1=some (2,1,false)/\cw prog 152 2=some (3,1,false)/\cw prog 152 3=some (4,1,false)/\cw prog 154 0=some (0,1,false)/\cw prog 154 1=some (1,1,false)/\cw prog 158 0=some (0,1,false)/\cw prog 158 1=some (1,1,false)/\cw prog 167 0=some (0,1,false):=by
 and_intros<;>kernel_rfl
@[go_sem] theorem Na:cw prog 167 1=some (1,1,false)/\cw prog 173 0=some (0,1,false)/\cw prog 173 1=some (1,1,false)/\cw prog 173 2=some (2,1,false)/\cw prog 173 3=some (3,1,false)/\cw prog 173 4=some (4,1,false)/\cw prog 179 0=some (0,1,false)/\cw prog 179 1=some (1,1,false)/\cw prog 179 2=some (2,1,false)/\cw prog 179 3=some (3,1,false)/\cw prog 187 0=some (0,1,false)/\cw prog 187 1=some (1,1,false)/\cw prog 190 0=some (0,1,false)/\cw prog 190 1=some (1,1,false)/\cw prog 190 2=some (2,1,false)/\cw prog 197 0=some (0,1,false):=by
 and_intros<;>kernel_rfl
@[go_sem] theorem Nb:cw prog 197 1=some (1,1,false)/\cw prog 215 0=some (0,1,false)/\cw prog 215 1=some (1,1,false)/\cw prog 228 0=some (0,2,true)/\cw prog 228 1=some (2,1,false)/\cw prog 237 0=some (0,1,false)/\cw prog 341 0=some (0,1,false)/\cw prog 341 1=some (1,1,false):=by
 and_intros<;>kernel_rfl
@[go_sem] theorem Tryz.FT:ni prog 149=true:=kR
@[go_sem] theorem Tryz.J4:gD prog 149=some (.st [.i .i64,.s],.str []):=kR
@[go_sem] theorem Tryz.FU:ni prog 150=true:=kR
@[go_sem] theorem Tryz.pT:gD prog 150=some (.st [.i .i64,.s],.int .i64 0):=kR
@[go_sem] theorem Tryz.Hq:EV prog 223=true:=kR
theorem cB {P:Program} {f:FuncId} (h:xE P f=true:=by kernel_rfl):xE P f=true:=h
end Go.Proofs.YtplackkccmeioaaGreat
namespace Go.Proofs.YtplackkccmeioaaGreat
open Go Go.Vx Go.Proofs.Tryz
set_option maxRecDepth 100000
structure fw where
 name:aiZ
 kind:Int
 null:Bool
 deriving DecidableEq
@[go_sem] def fw.row (x:fw):List V:= [.str x.name,.int .i64 x.kind,.bool x.null]
structure AI where
 DI:aj2
 qH:aj2
 tc:aj2
 Hr:Int
 DJ:Int
 wa:Int
 deriving DecidableEq
structure bL where
 name:aiZ
 cm:List fw
 key:Int
 place:Int
 region:Int
 my:AI
 deriving DecidableEq
@[go_sem] def bL.row (x:bL):List V:= [.str x.name,.sl .ro (x.cm.map fw.row),.int .i64 x.key,.int .i64 x.place,.int .i64 x.region,.sl .ro (x.my.DI.map (λn=> [V.int .i64 n])),.sl .ro (x.my.qH.map (λn=> [V.int .i64 n])),.sl .ro (x.my.tc.map (λn=> [V.int .i64 n])),.int .i64 x.my.Hr,.int .i64 x.my.DJ,.int .i64 x.my.wa]
structure bK where
 kind:Int
 n:Int
 s:aiZ
 deriving DecidableEq
@[go_sem] def bK.row (x:bK):List V:= [.int .i64 x.kind,.int .i64 x.n,.str x.s]
structure bK.ok (x:bK):Prop where
 kind: -9223372036854775808<=x.kind/\x.kind<=9223372036854775807
 n: -9223372036854775808<=x.n/\x.n<=9223372036854775807
 s:x.s.length<=maxLen
inductive bJ where
 |mk (kind:Int) (s:aiZ) (v:bK) (args:List bJ)
def bJ.kind:bJ->Int
 | .mk x _ _ _=>x
def bJ.s:bJ->aiZ
 | .mk _ x _ _=>x
def bJ.v:bJ->bK
 | .mk _ _ x _=>x
def bJ.args:bJ->List bJ
 | .mk _ _ _ x=>x
mutual
def bJ.row:bJ->List V
 | .mk a0 a1 a2 a3=> [.int .i64 a0,.str a1,.int .i64 a2.kind,.int .i64 a2.n,.str a2.s,.sl .ro (bJ.rows a3)]
def bJ.rows:List bJ->List (List V)
 | []=> []
 |e::l=>bJ.row e::bJ.rows l
end
variable {vs:List V}
theorem bJ.nz: ∀l:List bJ,bJ.rows l=l.map bJ.row
 | []=>rfl
 |e::l=>by rw[bJ.rows,bJ.nz l];rfl
@[go_sem] theorem bJ.bQ (x:bJ):x.row= [.int .i64 x.kind,.str x.s,.int .i64 x.v.kind,.int .i64 x.v.n,.str x.v.s,.sl .ro (x.args.map bJ.row)]:=by
 cases x
 rw[bJ.row,bJ.nz]
 rfl
structure cP where
 kind:Int
 e:bJ
@[go_sem] def cP.row (x:cP):List V:= [.int .i64 x.kind,.int .i64 x.e.kind,.str x.e.s,.int .i64 x.e.v.kind,.int .i64 x.e.v.n,.str x.e.v.s,.sl .ro (x.e.args.map bJ.row)]
structure cp where
 name:aiZ
 e:bJ
@[go_sem] def cp.row (x:cp):List V:= [.str x.name,.int .i64 x.e.kind,.str x.e.s,.int .i64 x.e.v.kind,.int .i64 x.e.v.n,.str x.e.v.s,.sl .ro (x.e.args.map bJ.row)]
structure bW where
 kind:Int
 table:aiZ
 items:List cP
 rows:List (List bJ)
 cD:List cp
 dO:Bool
 cA:bJ
 order:aiZ
 down:Bool
 bT:Int
@[go_sem] def bW.row (x:bW):List V:= [.int .i64 x.kind,.str x.table,.sl .ro (x.items.map cP.row),.sl .ro (x.rows.map (λ(l:List bJ)=> [V.sl .ro (l.map bJ.row)])),.sl .ro (x.cD.map cp.row),.bool x.dO,.int .i64 x.cA.kind,.str x.cA.s,.int .i64 x.cA.v.kind,.int .i64 x.cA.v.n,.str x.cA.v.s,.sl .ro (x.cA.args.map bJ.row),.str x.order,.bool x.down,.int .i64 x.bT]
structure dU where
 mode:Int
 n:Int
 stmts:List bW
@[go_sem] def dU.row (x:dU):List V:= [.int .i64 x.mode,.int .i64 x.n,.sl .ro (x.stmts.map bW.row)]
structure ca where
 lo:aiZ
 hi:aiZ
 deriving DecidableEq
@[go_sem] def ca.row (x:ca):List V:= [.str x.lo,.str x.hi]
structure ca.ok (x:ca):Prop where
 lo:x.lo.length<=maxLen
 hi:x.hi.length<=maxLen
structure gF where
 lq:Int
 a:Int
 b:Int
 c:Int
 deriving DecidableEq
@[go_sem] def gF.row (x:gF):List V:= [.int .i64 x.lq,.int .i64 x.a,.int .i64 x.b,.int .i64 x.c]
structure gF.ok (x:gF):Prop where
 lq: -9223372036854775808<=x.lq/\x.lq<=9223372036854775807
 a: -9223372036854775808<=x.a/\x.a<=9223372036854775807
 b: -9223372036854775808<=x.b/\x.b<=9223372036854775807
 c: -9223372036854775808<=x.c/\x.c<=9223372036854775807
theorem gF.gn (h:ju prog 88 vs): ∃x:gF,vs=x.row/\x.ok:=by
 have h:iw prog [3,3,3,3] vs:=h.fJ underlying88
 obtain⟨_,_,rfl,h0,h⟩:=h.cons_inv
 obtain⟨_,_,rfl,h1,h⟩:=h.cons_inv
 obtain⟨_,_,rfl,h2,h⟩:=h.cons_inv
 obtain⟨_,_,rfl,h3,h⟩:=h.cons_inv
 obtain rfl:=h.gC
 obtain⟨x0,rfl,w0⟩:=h0.ef underlying3
 have w0:=ow w0
 obtain⟨x1,rfl,w1⟩:=h1.ef underlying3
 have w1:=ow w1
 obtain⟨x2,rfl,w2⟩:=h2.ef underlying3
 have w2:=ow w2
 obtain⟨x3,rfl,w3⟩:=h3.ef underlying3
 have w3:=ow w3
 exact⟨⟨x0,x1,x2,x3⟩,rfl,⟨w0,w1,w2,w3⟩⟩
structure fp where
 key:aiZ
 data:aiZ
 deriving DecidableEq
@[go_sem] def fp.row (x:fp):List V:= [.str x.key,.str x.data]
structure fp.ok (x:fp):Prop where
 key:x.key.length<=maxLen
 data:x.data.length<=maxLen
theorem fp.gn (h:ju prog 96 vs): ∃x:fp,vs=x.row/\x.ok:=by
 have h:iw prog [9,9] vs:=h.fJ underlying96
 obtain⟨_,_,rfl,h0,h⟩:=h.cons_inv
 obtain⟨_,_,rfl,h1,h⟩:=h.cons_inv
 obtain rfl:=h.gC
 obtain⟨x0,rfl,w0⟩:=h0.pS underlying9
 obtain⟨x1,rfl,w1⟩:=h1.pS underlying9
 exact⟨⟨x0,x1⟩,rfl,⟨w0,w1⟩⟩
structure dE where
 key:aiZ
 drop:Bool
 data:aiZ
 deriving DecidableEq
@[go_sem] def dE.row (x:dE):List V:= [.str x.key,.bool x.drop,.str x.data]
structure dE.ok (x:dE):Prop where
 key:x.key.length<=maxLen
 drop:True
 data:x.data.length<=maxLen
structure fy where
 node:Int
 eU:Int
 seq:Int
 attempt:Int
 deriving DecidableEq
@[go_sem] def fy.row (x:fy):List V:= [.int .i64 x.node,.int .i64 x.eU,.int .i64 x.seq,.int .i64 x.attempt]
structure fy.ok (x:fy):Prop where
 node: -9223372036854775808<=x.node/\x.node<=9223372036854775807
 eU: -9223372036854775808<=x.eU/\x.eU<=9223372036854775807
 seq: -9223372036854775808<=x.seq/\x.seq<=9223372036854775807
 attempt: -9223372036854775808<=x.attempt/\x.attempt<=9223372036854775807
theorem fy.gn (h:ju prog 31 vs): ∃x:fy,vs=x.row/\x.ok:=by
 have h:iw prog [3,3,3,3] vs:=h.fJ underlying31
 obtain⟨_,_,rfl,h0,h⟩:=h.cons_inv
 obtain⟨_,_,rfl,h1,h⟩:=h.cons_inv
 obtain⟨_,_,rfl,h2,h⟩:=h.cons_inv
 obtain⟨_,_,rfl,h3,h⟩:=h.cons_inv
 obtain rfl:=h.gC
 obtain⟨x0,rfl,w0⟩:=h0.ef underlying3
 have w0:=ow w0
 obtain⟨x1,rfl,w1⟩:=h1.ef underlying3
 have w1:=ow w1
 obtain⟨x2,rfl,w2⟩:=h2.ef underlying3
 have w2:=ow w2
 obtain⟨x3,rfl,w3⟩:=h3.ef underlying3
 have w3:=ow w3
 exact⟨⟨x0,x1,x2,x3⟩,rfl,⟨w0,w1,w2,w3⟩⟩
structure ct where
 range:Int
 state:Int
 home:Int
 cH:List ca
 writes:List dE
 cW:List fp
 eO:fy
 yes:Bool
 deriving DecidableEq
@[go_sem] def ct.row (x:ct):List V:= [.int .i64 x.range,.int .i64 x.state,.int .i64 x.home,.sl .ro (x.cH.map ca.row),.sl .ro (x.writes.map dE.row),.sl .ro (x.cW.map fp.row),.int .i64 x.eO.node,.int .i64 x.eO.eU,.int .i64 x.eO.seq,.int .i64 x.eO.attempt,.bool x.yes]
structure eZ where
 wall:Int
 tie:Int
 deriving DecidableEq
@[go_sem] def eZ.row (x:eZ):List V:= [.int .i64 x.wall,.int .i64 x.tie]
structure eZ.ok (x:eZ):Prop where
 wall: -9223372036854775808<=x.wall/\x.wall<=9223372036854775807
 tie: -9223372036854775808<=x.tie/\x.tie<=9223372036854775807
theorem eZ.gn (h:ju prog 36 vs): ∃x:eZ,vs=x.row/\x.ok:=by
 have h:iw prog [2,2] vs:=h.fJ underlying36
 obtain⟨_,_,rfl,h0,h⟩:=h.cons_inv
 obtain⟨_,_,rfl,h1,h⟩:=h.cons_inv
 obtain rfl:=h.gC
 obtain⟨x0,rfl,w0⟩:=h0.ef underlying2
 have w0:=ow w0
 obtain⟨x1,rfl,w1⟩:=h1.ef underlying2
 have w1:=ow w1
 exact⟨⟨x0,x1⟩,rfl,⟨w0,w1⟩⟩
structure iK where
 kind:Int
 fq:Int
 node:Int
 home:Int
 eO:fy
 at_:eZ
 wall:Int
 yes:Bool
 cH:List ca
 writes:List dE
 deriving DecidableEq
@[go_sem] def iK.row (x:iK):List V:= [.int .i64 x.kind,.int .i64 x.fq,.int .i64 x.node,.int .i64 x.home,.int .i64 x.eO.node,.int .i64 x.eO.eU,.int .i64 x.eO.seq,.int .i64 x.eO.attempt,.int .i64 x.at_.wall,.int .i64 x.at_.tie,.int .i64 x.wall,.bool x.yes,.sl .ro (x.cH.map ca.row),.sl .ro (x.writes.map dE.row)]
structure iK.ok (x:iK):Prop where
 kind: -9223372036854775808<=x.kind/\x.kind<=9223372036854775807
 fq: -9223372036854775808<=x.fq/\x.fq<=9223372036854775807
 node: -9223372036854775808<=x.node/\x.node<=9223372036854775807
 home: -9223372036854775808<=x.home/\x.home<=9223372036854775807
 eO:x.eO.ok
 at_:x.at_.ok
 wall: -9223372036854775808<=x.wall/\x.wall<=9223372036854775807
 yes:True
 cH:x.cH.length<=maxLen/\ ∀y∈x.cH,y.ok
 writes:x.writes.length<=maxLen/\ ∀y∈x.writes,y.ok
structure cU where
 range:Int
 cmd:iK
 deriving DecidableEq
@[go_sem] def cU.row (x:cU):List V:= [.int .i64 x.range,.int .i64 x.cmd.kind,.int .i64 x.cmd.fq,.int .i64 x.cmd.node,.int .i64 x.cmd.home,.int .i64 x.cmd.eO.node,.int .i64 x.cmd.eO.eU,.int .i64 x.cmd.eO.seq,.int .i64 x.cmd.eO.attempt,.int .i64 x.cmd.at_.wall,.int .i64 x.cmd.at_.tie,.int .i64 x.cmd.wall,.bool x.cmd.yes,.sl .ro (x.cmd.cH.map ca.row),.sl .ro (x.cmd.writes.map dE.row)]
structure dm where
 err:Int
 cW:List fp
 eO:fy
 home:Int
 at_:eZ
 wall:Int
 yes:Bool
 deriving DecidableEq
@[go_sem] def dm.row (x:dm):List V:= [.int .i64 x.err,.sl .ro (x.cW.map fp.row),.int .i64 x.eO.node,.int .i64 x.eO.eU,.int .i64 x.eO.seq,.int .i64 x.eO.attempt,.int .i64 x.home,.int .i64 x.at_.wall,.int .i64 x.at_.tie,.int .i64 x.wall,.bool x.yes]
structure dm.ok (x:dm):Prop where
 err: -9223372036854775808<=x.err/\x.err<=9223372036854775807
 cW:x.cW.length<=maxLen/\ ∀y∈x.cW,y.ok
 eO:x.eO.ok
 home: -9223372036854775808<=x.home/\x.home<=9223372036854775807
 at_:x.at_.ok
 wall: -9223372036854775808<=x.wall/\x.wall<=9223372036854775807
 yes:True
theorem dm.gn (h:ju prog 52 vs): ∃x:dm,vs=x.row/\x.ok:=by
 have h:iw prog [38,50,31,3,36,2,4] vs:=h.fJ underlying52
 obtain⟨_,_,rfl,h0,h⟩:=h.cons_inv
 obtain⟨_,_,rfl,h1,h⟩:=h.cons_inv
 obtain⟨_,_,rfl,h2,h⟩:=h.cons_inv
 obtain⟨_,_,rfl,h3,h⟩:=h.cons_inv
 obtain⟨_,_,rfl,h4,h⟩:=h.cons_inv
 obtain⟨_,_,rfl,h5,h⟩:=h.cons_inv
 obtain⟨_,_,rfl,h6,h⟩:=h.cons_inv
 obtain rfl:=h.gC
 obtain⟨x0,rfl,w0⟩:=h0.ef underlying38
 have w0:=ow w0
 obtain⟨ae,rfl,aa,ab⟩:=h1.oU underlying50
 obtain⟨x1,rfl,ad⟩:=kb.kA (f:=fp.row) (ok:=λ(y:fp)=>y.ok) (λr hr=>by
  exact fp.gn hr) ab
 have w1:=And.intro (by simpa using aa:x1.length<=maxLen) ad
 obtain⟨x2,rfl,w2⟩:=fy.gn h2
 obtain⟨x3,rfl,w3⟩:=h3.ef underlying3
 have w3:=ow w3
 obtain⟨x4,rfl,w4⟩:=eZ.gn h4
 obtain⟨x5,rfl,w5⟩:=h5.ef underlying2
 have w5:=ow w5
 obtain⟨x6,rfl⟩:=h6.nx underlying4
 have w6:True:=trivial
 exact⟨⟨x0,x1,x2,x3,x4,x5,x6⟩,rfl,⟨w0,w1,w2,w3,w4,w5,w6⟩⟩
structure gM where
 iS:Int
 r:dm
 Ro:Bool
 bT:Int
 deriving DecidableEq
@[go_sem] def gM.row (x:gM):List V:= [.int .i64 x.iS,.int .i64 x.r.err,.sl .ro (x.r.cW.map fp.row),.int .i64 x.r.eO.node,.int .i64 x.r.eO.eU,.int .i64 x.r.eO.seq,.int .i64 x.r.eO.attempt,.int .i64 x.r.home,.int .i64 x.r.at_.wall,.int .i64 x.r.at_.tie,.int .i64 x.r.wall,.bool x.r.yes,.bool x.Ro,.int .i64 x.bT]
structure gM.ok (x:gM):Prop where
 iS: -9223372036854775808<=x.iS/\x.iS<=9223372036854775807
 r:x.r.ok
 Ro:True
 bT: -9223372036854775808<=x.bT/\x.bT<=9223372036854775807
theorem gM.gn (h:ju prog 54 vs): ∃x:gM,vs=x.row/\x.ok:=by
 have h:iw prog [3,52,4,2] vs:=h.fJ underlying54
 obtain⟨_,_,rfl,h0,h⟩:=h.cons_inv
 obtain⟨_,_,rfl,h1,h⟩:=h.cons_inv
 obtain⟨_,_,rfl,h2,h⟩:=h.cons_inv
 obtain⟨_,_,rfl,h3,h⟩:=h.cons_inv
 obtain rfl:=h.gC
 obtain⟨x0,rfl,w0⟩:=h0.ef underlying3
 have w0:=ow w0
 obtain⟨x1,rfl,w1⟩:=dm.gn h1
 obtain⟨x2,rfl⟩:=h2.nx underlying4
 have w2:True:=trivial
 obtain⟨x3,rfl,w3⟩:=h3.ef underlying2
 have w3:=ow w3
 exact⟨⟨x0,x1,x2,x3⟩,rfl,⟨w0,w1,w2,w3⟩⟩
end Go.Proofs.YtplackkccmeioaaGreat
namespace Go.Vx
open Go
section
variable {P:Program} {c:Ctx} {nt:Nat} {n0:Kp}
variable {ops:List Oper}{q:List (Nat×Nat)}{I:St}{e:Env}{e0:Env}{tr:List (V×St)}{bM:Array Bool}{i:Nat}{o:Oper}{z:List V}
theorem Zq {Q:Exit->Act->World->Prop} {cv:St} (hn:n0.n<=cv.length) (ht:oS P c nt n0 ops q 0 ops e0 cv tr)
  (B:Nat->Nat->Prop) (sp: ∀{i j:Nat} {x y:Oper},i<j->ops[i]? =some x->ops[j]? =some y->uF ops q i j x y=false\/B i j)
  {a:Act} {w:World} {L:Nat->Nat} {J:aj1} (aa:ops[i]? =some o) (av:bM.getD i false=false) (a7:i<bM.size)
  (ahead: ∀{k:Nat},k≠i->B k i->bM.getD k false) (nv: ∀{k:Nat},B i k->bM.getD k false=false) (a8: ∀{k j:Nat},B k j->bM.getD j false=true->bM.getD k false)
  (hs:dQ c nt (fE (λi=>bM.getD i false) 0 ops tr e0) (fS (λi=>bM.getD i false) q 0 ops tr cv) a w L J) {next:Act->World->Prop}
  (aA: ∀a' w' L' J',dQ c nt (fE (λk=>(bM.setIfInBounds i true).getD k false) 0 ops tr e0) (fS (λk=>(bM.setIfInBounds i true).getD k false) q 0 ops tr cv) a' w' L' J'->next a' w'):
  if Region.wanted o (yielded ops.toArray a.tmps)then o.wp P a w next Q\/(o.asks P a w/\LetsOut Q)else next (a.put o.dst undef) w:=by
 have ak: ∀k,k≠i->(bM.setIfInBounds i true).getD k false=bM.getD k false:=λk hk=>getD_set_ne false (λq=>hk q.symm)
 have aw:(bM.setIfInBounds i true).getD i false:=by simp[Array.getD,a7]
 obtain⟨an,aB⟩:=FE ops q ops tr 0 e0 cv ht
 obtain⟨v,I',ax,ah⟩:=aB i o aa
 rw[Ad]at ah
 have ay: ∀t∈oR ops o,fE (λi=>bM.getD i false) 0 ops tr e0 t=fE (λj=>decide (j<i)) 0 ops tr e0 t:=by
  intro t an
  refine qF _ _ t ops tr 0 e0 e0 rfl λk o' hk ad=> ?_
  rw[Ad]
  rcases Bc k i with ab|ab|ab
  .rw[aix ab]
   rcases sp ab hk aa with hc|hb
   .exact absurd an ((yV hc).2.1 t ad).1
   .exact ahead om hb
  .subst ab;rw[av];simp
  .rw[aiw om]
   rcases sp ab aa hk with hc|hb
   .exact absurd an ((yV hc).2.2 t ad)
   .exact nv hb
 have al:2<=zZ q i o->fS (λi=>bM.getD i false) q 0 ops tr cv=fS (λj=>decide (j<i)) q 0 ops tr cv:=by
  intro af
  refine sZ _ _ q ops tr 0 cv λk o' hk ad=> ?_
  rw[Ad]at ad⊢
  rcases Bc k i with ab|ab|ab
  .rw[aix ab]
   rcases sp ab hk aa with hc|hb
   .have:=(yV hc).1
    rw[zy ad (wF _ _ _) af (wF _ _ _)]at this
    cases this
   .exact ahead om hb
  .subst ab;rw[av];simp
  .rw[aiw om]
   rcases sp ab aa hk with hc|hb
   .have:=(yV hc).1
    rw[JM,zy ad (wF _ _ _) af (wF _ _ _)]at this
    cases this
   .exact nv hb
 have az:zZ q i o=1->n0.of (fS (λi=>bM.getD i false) q 0 ops tr cv)=n0.of (fS (λj=>decide (j<i)) q 0 ops tr cv):=by
  intro a1
  have pre: ∀N,N<=ops.length-> ∃m,m<=N/\ ∀k o',k<N->ops[k]? =some o'->3<=zZ q k o'->bM.getD k false=decide (k<m):=by
   intro N
   induction N with
   |zero=>exact λ_=>⟨0,A7 _,λk o' h=>om⟩
   |succ N aC=>
    intro hN
    obtain⟨m,hm,ae⟩:=aC om
    have a6:=A0 (show N<ops.length by omega)
    by_cases hw:3<=zZ q N (ops[N]'om)/\bM.getD N false=true
    .refine⟨N+1,A7 _,λk o' hk ai h3=> ?_⟩
     rw[aix hk]
     by_cases ao:k=N
     .subst ao;exact hw.2
     .rcases sp (show k<N by omega) ai a6 with hc|hb
      .have:=(yV hc).1
       rw[zy h3 (wF _ _ _) om (wF _ _ _)]at this
       cases this
      .exact a8 hb hw.2
    .refine⟨m,om,λk o' hk ai h3=> ?_⟩
     by_cases ao:k=N
     .subst ao
      rw[a6]at ai;cases ai
      rw[aiw om]
      cases hl:bM.getD k false with
      |false=>rfl
      |true=>exact absurd ⟨h3,hl⟩ hw
     .exact ae k o' om ai h3
  obtain⟨m,hm,ae⟩:=pre ops.length (A7 _)
  have e1:fS (λi=>bM.getD i false) q 0 ops tr cv=fS (λx=>decide (x<m)) q 0 ops tr cv:=
   sZ _ _ q ops tr 0 cv λk o' hk h3=>by
    rw[Ad]at h3⊢
    exact ae k o' (A4.1 hk).1 hk h3
  rw[e1]
  have aE:i<ops.length:=(A4.1 aa).1
  rcases Nat.le_total m i with aD|aD
  .have:=(JO ht hn (i - m) m om (λk o' h5 h6 hk h4=>by
    have h7:=ae k o' (A4.1 hk).1 hk om
    rw[aiw om]at h7
    rcases sp (show k<i by omega) hk aa with hc|hb
    .have:=(yV hc).1
     rw[h4,a1,JN dC]at this
     cases this
    .rw[ahead om hb]at h7;cases h7)).2
   rw[show m+(i - m)=i by omega]at this
   grind
  .have:=(JO ht hn (m - i) i om (λk o' h5 h6 hk h4=>by
    have h7:=ae k o' (A4.1 hk).1 hk om
    rw[aix om]at h7
    have ab:k≠i:=λqq=>by
     subst qq
     rw[hk]at aa;cases aa
     omega
    rcases sp (show i<k by omega) aa hk with hc|hb
    .have:=(yV hc).1
     rw[JM,h4,a1,JN dC]at this
     cases this
    grind)).2
   rw[show i+(m - i)=m by omega]at this
   omega
 refine JL (ops:=ops) (Q:=Q) (next:=next) o hs (ah.step ay al az) ?_
 rintro e' s' a' w' L' J' aF ⟨rfl,rfl⟩
 have e1:fY (fE (λi=>bM.getD i false) 0 ops tr e0) o.dst v=fE (λk=>(bM.setIfInBounds i true).getD k false) 0 ops tr e0:=by
  funext t
  by_cases aj:o.dst=some t
  .rw[zr _ _ _ _ aj]
   refine(CY _ t ops tr 0 i e0 o v I' aa ax aj (by rw[Ad];exact aw) λk' o' aq ar au=> ?_).symm
   rw[Ad,ak k' om]
   rcases sp aq aa ar with hc|hb
   .exact absurd au ((yV hc).2.1 t aj).2
   .exact nv hb
  .rw[zt _ _ _ _ aj]
   refine qF _ _ t ops tr 0 e0 e0 rfl λk o' hk ad=> ?_
   rw[Ad]
   refine(ak k λq=> ?_).symm
   subst q
   rw[aa]at hk;cases hk
   exact aj ad
 have e2:(if 3<=zZ q i o then I' else fS (λi=>bM.getD i false) q 0 ops tr cv)=fS (λk=>(bM.setIfInBounds i true).getD k false) q 0 ops tr cv:=by
  split
  .rename_i af
   refine(FD _ q ops tr 0 i cv o v I' aa ax (by rw[Ad];exact af) (by rw[Ad];exact aw) λk' o' aq ar au=> ?_).symm
   rw[Ad]at au⊢
   rw[ak k' om]
   rcases sp aq aa ar with hc|hb
   .have:=(yV hc).1
    rw[zy af (wF _ _ _) om (wF _ _ _)]at this
    cases this
   grind
  .rename_i af
   refine sZ _ _ q ops tr 0 cv λk o' hk ad=> ?_
   rw[Ad]at ad⊢
   refine(ak k λq=> ?_).symm
   subst q
   rw[aa]at hk;cases hk
   exact af ad
 grind
theorem Zr (B:Nat->Nat->Prop) (sp: ∀{i j:Nat} {x y:Oper},i<j->ops[i]? =some x->ops[j]? =some y->uF ops q i j x y=false\/B i j)
  (ab:ops[i]? =some o) (af:bM.getD i false=false)
  (ahead: ∀{k:Nat},k≠i->B k i->bM.getD k false) (nv: ∀{k:Nat},B i k->bM.getD k false=false):
  ∀t∈oR ops o,fE (λi=>bM.getD i false) 0 ops tr e0 t=fE (λj=>decide (j<i)) 0 ops tr e0 t:=by
 intro t ad
 refine qF _ _ t ops tr 0 e0 e0 rfl λk o' hk ae=> ?_
 rw[Ad]
 rcases Bc k i with aa|aa|aa
 .rw[aix aa]
  rcases sp aa hk ab with hc|hb
  .exact absurd ad ((yV hc).2.1 t ae).1
  grind
 .grind
 .rw[aiw om]
  rcases sp aa ab hk with hc|hb
  .exact absurd ad ((yV hc).2.2 t ae)
  grind
theorem Zs (B:Nat->Nat->Prop) (sp: ∀{i j:Nat} {x y:Oper},i<j->ops[i]? =some x->ops[j]? =some y->uF ops q i j x y=false\/B i j)
  {v:V} {I':St} (ab:ops[i]? =some o) (ad:tr[i]? =some (v,I')) (aj:i<bM.size) (nv: ∀{k:Nat},B i k->bM.getD k false=false):
  fY (fE (λi=>bM.getD i false) 0 ops tr e0) o.dst v=fE (λk=>(bM.setIfInBounds i true).getD k false) 0 ops tr e0:=by
 have ae: ∀k,k≠i->(bM.setIfInBounds i true).getD k false=bM.getD k false:=λk hk=>getD_set_ne false om
 have ak:(bM.setIfInBounds i true).getD i false:=by simp_all
 funext t
 by_cases aa:o.dst=some t
 .rw[zr _ _ _ _ aa]
  refine(CY _ t ops tr 0 i e0 o v I' ab ad aa (by grind) λk' o' af ah ai=> ?_).symm
  rw[Ad,ae k' om]
  rcases sp af ab ah with hc|hb
  .exact absurd ai ((yV hc).2.1 t aa).2
  grind
 .rw[zt _ _ _ _ aa]
  refine qF _ _ t ops tr 0 e0 e0 rfl λk o' hk al=> ?_
  grind
theorem Rp {n:Nat} (D:Nat->Bool): ∀(os:List Oper) (tr:List (V×St)) (i:Nat) (e:Env),(∀t,iJ n (e t)=true)->(∀(k:Nat) v s,tr[k]? =some (v,s)->D (i+k)=true->iJ n v=true)-> ∀t,iJ n (fE D i os tr e t)=true
 | [],_,_,_,h,_=>by simpa
 |o::os,[],_,_,h,_=>by simpa
 |o::os,(v,s)::tr,i,e,h,hv=>by
  rw[fE]
  refine Rp D os tr (i+1) _ (λt=> ?_) (λk v' s' hk hD=>hv (k+1) v' s' (by grind) (by grind))
  split
  .rename_i ab
   by_cases aa:o.dst=some t
   .rw[zr _ _ _ _ aa];exact hv 0 v s rfl om
   grind[zt]
  grind
theorem dQ.pick {e e':Env} {I s:St} {a:Act} {w:World} {L:Nat->Nat} {J:aj1} {pick:aj0} (h:dQ c nt e I a w L J) (hp:gB c.cv.length pick I s) (hc:c.β0.length=c.cv.length) (he: ∀t,cT (cK pick I.length) (e' t) (e t)):
  ∃J',dQ c nt e' s a w L J':=
 ⟨_,h.mem.pick hp hc,h.size,h.defs,λt=>y4 (hp.jt h.mem.len) (he t) (h.env t)⟩
theorem Zt {n0:Nat} (hn:n0<=I.length) (aa:I.all (bS I.length)) (hz:z.all oQ):
  gB n0 (List.range I.length++ [I.length+1,I.length]) (I++ [.box z,.box z]) (I++ [.box z,.box z]):=by
 have hb: ∀ρ,yA ρ (.box z)= .box z:=(by grind[yA,wH,CW])
 have hr: ∀i,i<I.length->cK (List.range I.length++ [I.length+1,I.length]) (I++ [Ob.box z,Ob.box z]).length i=i:=(by grind[wU])
 refine⟨sm, ?_,λi j o hi ho=> ?_,λi hi=> ?_⟩
 .grind
 .by_cases h1:i<I.length
  .rw[Ao (by grind),Dc h1]at hi
   cases hi
   rw[Ao h1]at ho
   have h2:bS I.length o:=(by grind)
   grind[yY]
  .rw[Au (by grind)]at hi
   grind
 grind
theorem Rq {Q:Exit->Act->World->Prop} {next:Act->World->Prop} {a:Act} {w:World} {L:Nat->Nat} {J:aj1} {d:Tmp} {t ty:TypeId} {pos:String} {dX:Array Edge}
  (hz:wB P t=some z) (hd:d<nt) (h:dQ c nt e I a w L J) (hn: ∀a' w' L' J',dQ c nt (fo e d (.ptr I.length 0)) (I++ [.box z]) a' w' L' J'->next a' w'):
  if Region.wanted (⟨some d,.alloc t,ty,pos,dX,none⟩:Oper) (yielded ops.toArray a.tmps)then(⟨some d,.alloc t,ty,pos,dX,none⟩:Oper).wp P a w next Q\/((⟨some d,.alloc t,ty,pos,dX,none⟩:Oper).asks P a w/\LetsOut Q)else next (a.put (some d) undef) w:=by
 refine JL (ops:=ops) (Q:=Q) (next:=next) ⟨some d,.alloc t,ty,pos,dX,none⟩ (K:=λe' s'=>e'=fo e d (.ptr I.length 0)/\s'=I++ [.box z]) h ?_ ?_
 .have aa:xX P (some d) e I (.alloc t)= .st (.ptr I.length 0) (I++ [.box z]):=by
   have h1:cu P e I (.alloc t)= .st (.ptr I.length 0) (I++ [.box z]):=by grind[cu,rJ]
   have h2:iu P e I (.alloc t)=cu P e I (.alloc t):=rfl
   grind[xX]
  show mh nt (some d) (xX P (some d) e I (.alloc t)) _ e I
  rw[aa]
  trivial
 grind
theorem Zu {Q:Exit->Env->St->Prop} {cv:St} {p dA dB:Nat} {t tA tB:TypeId} {aD aE:String} {aA aB:Array Edge}
  (hn:n0.n<=cv.length) (bc:c.cv.length<=cv.length) (bd:c.β0.length=c.cv.length)
  (hA:ops[p]? =some ⟨some dA,.alloc t,tA,aD,aA,none⟩) (hB:ops[p+1]? =some ⟨some dB,.alloc t,tB,aE,aB,none⟩) (bf:dA≠dB)
  (b5:zZ q p ⟨some dA,.alloc t,tA,aD,aA,none⟩=3) (b6:zZ q (p+1) ⟨some dB,.alloc t,tB,aE,aB,none⟩=3) (hz:wB P t=some z) (bg:z.all oQ)
  (az: ∀(k:Nat) o,k<p->ops[k]? =some o->zZ q k o<2/\dA∉oR ops o/\dB∉oR ops o/\o.dst≠some dA/\o.dst≠some dB)
  (aR: ∀(k:Nat) o,p+1<k->ops[k]? =some o->p∈(gm ops []).getD k []/\(p+1)∈(gm ops []).getD k [])
  (hd: ∀{i j:Nat} {x y:Oper},i<j->ops[i]? =some x->ops[j]? =some y->uF ops q i j x y=false\/(i∈(gm ops []).getD j []\/(i=p/\j=p+1))) (aI:rO ops)
  (bh:cv.all (bS cv.length)) (h0: ∀s,iJ cv.length (e0 s)) (hv: ∀(k:Nat) v s,k<p->tr[k]? =some (v,s)->iJ cv.length v)
  (ht:oS P c nt n0 ops q 0 ops e0 cv tr) (hQ:Q .normal (fE (λ_=>true) 0 ops tr e0) (fS (λ_=>true) q 0 ops tr cv)):
  ∀(fuel:Nat) (bM:Array Bool) (a:Act) (w:World) (L:Nat->Nat) (J:aj1),bM.size=ops.length->bM.toList.count false=fuel->
   (∀(j:Nat) o,ops[j]? =some o->bM.getD j false=true-> ∀e∈o.after.toList,Region.binds .any e=true->bM.getD e.on false=true)->
   ((bM.getD (p+1) false=true->bM.getD p false=true)/\dQ c nt (fE (λi=>bM.getD i false) 0 ops tr e0) (fS (λi=>bM.getD i false) q 0 ops tr cv) a w L J\/
    (bM.getD (p+1) false=true/\bM.getD p false=false)/\dQ c nt (fo (fE (λi=>bM.getD i false) 0 ops tr e0) dB (.ptr cv.length 0)) (cv++ [.box z]) a w L J)->
   wpAny P .any ops.toArray (fu c nt Q) fuel bM a w:=by
 obtain⟨b7,aJ⟩:=FE ops q ops tr 0 e0 cv ht
 have b8:p+1<ops.length:=(A4.1 hB).1
 have bj:fS (λj=>decide (j<p)) q 0 ops tr cv=cv:=zu _ q ops tr 0 cv λk o hk h3=>by
  rw[Ad]at h3⊢
  by_cases an:k<p
  .have:=(az k o an hk).1;omega
  .simp;omega
 have aS: ∀(e:Env) (I:St) (d:Tmp),xX P (some d) e I (.alloc t)= .st (.ptr I.length 0) (I++ [.box z]):=λe I d=>by
  have h1:cu P e I (.alloc t)= .st (.ptr I.length 0) (I++ [.box z]):=by simp only[cu,rJ,hz]
  have h2:iu P e I (.alloc t)=cu P e I (.alloc t):=rfl
  unfold xX
  rw[h2,h1];simp
 have fact: ∀{k d tt ps af E S v s'},Fact P c nt n0 ops q k ⟨some d,.alloc t,tt,ps,af,none⟩ E S v s'->v= .ptr S.length 0/\s'=S++ [.box z]/\d<nt:=by
  intro k d tt ps af E S v s' hf
  obtain⟨bk,_,_,_,g,hg,hb⟩:=hf
  simp only at hg
  subst hg
  simp only[aiE]at hb
  obtain⟨_,_,_,hb⟩:=hb
  rw[aS]at hb
  rcases hb with ⟨hr,_⟩|⟨_,hr,_⟩|⟨_,hr|⟨_,hr,_⟩⟩
  .cases hr
  .cases hr
  .cases hr;exact⟨rfl,rfl,bk d rfl⟩
  .cases hr
 obtain⟨vA,sA,aF,aT⟩:=aJ p _ hA
 rw[Ad,bj]at aT
 obtain⟨rfl,rfl,bm⟩:=fact aT
 have bn:fS (λj=>decide (j<p+1)) q 0 ops tr cv=cv++ [.box z]:=
  FD _ q ops tr 0 p cv _ _ _ hA aF (by rw[Ad];omega) sm λk' o' aq _ _=>by simp;omega
 obtain⟨vB,sB,ar,aU⟩:=aJ (p+1) _ hB
 rw[Ad,bn]at aU
 obtain⟨rfl,rfl,bo⟩:=fact aU
 simp only[An,Bm,D0,List.singleton_append]at ar
 have fin: ∀(bM:Array Bool) (a:Act) (w:World) (L:Nat->Nat) (J:aj1),dQ c nt (fE (λi=>bM.getD i false) 0 ops tr e0) (fS (λi=>bM.getD i false) q 0 ops tr cv) a w L J->
   (∀i,i<ops.length->bM.getD i false=true)->fu c nt Q .normal a w:=by
  intro bM a w L J hs ak
  have e1:fE (λi=>bM.getD i false) 0 ops tr e0=fE (λ_=>true) 0 ops tr e0:=by
   funext t
   exact qF _ _ t ops tr 0 e0 e0 rfl λk o hk _=>by rw[Ad];exact ak k (A4.1 hk).1
  have e2:fS (λi=>bM.getD i false) q 0 ops tr cv=fS (λ_=>true) q 0 ops tr cv:=
   sZ _ _ q ops tr 0 cv λk o hk _=>by rw[Ad];exact ak k (A4.1 hk).1
  rw[e1,e2]at hs
  exact⟨_,_,L,J,hs,hQ⟩
 have au: ∀(bM:Array Bool),bM.size=ops.length->Region.ready .any ops.toArray bM= []-> ∀i,i<ops.length->bM.getD i false=true:=by
  intro bM ao hr i
  induction i using Nat.strongRecOn with
  |ind i ih=>
   intro hi
   cases a1:bM.getD i false with
   |true=>rfl
   |false=>
    exfalso
    have hm:i∈Region.ready .any ops.toArray bM:=by
     refine mem_ready.2 ⟨?_,ops[i],by simp[hi],λe he hb=> ?_⟩
     .have aa:i<bM.size:=om
      simpa[Array.getD,aa]using a1
     .unfold rO at aI
      simp only[Am,Cn]at aI
      have:=aI i hi
      rw[A0 hi]at this
      simp only[Ch]at this
      have:=this e he
      simp only[hb,Bool.not_true,C5,aiA]at this
      exact ih e.on this om
    rw[hr]at hm
    cases hm
 intro fuel
 induction fuel with
 |zero=>
  intro bM a w L J ao aV av hs
  have ak: ∀i,i<ops.length->bM.getD i false:=by
   intro i hi
   have aa:i<bM.size:=om
   cases a1:bM[i]with
   |true=>simp[Array.getD,aa,a1]
   |false=>
    exfalso
    have:false∈bM.toList:=by
     rw[<-a1];simp
    have:=List.count_pos_iff.2 this
    omega
  rcases hs with ⟨_,hs⟩|⟨⟨_,hp⟩,_⟩
  .refine⟨?_,fin bM a w L J hs ak⟩
   cases hr:Region.ready .any ops.toArray bM with
   |nil=>rfl
   |cons i l=>
    exfalso
    have hm:i∈Region.ready .any ops.toArray bM:=by rw[hr];simp
    obtain⟨h1,o,ho,_⟩:=mem_ready.1 hm
    have hi:i<ops.length:=(A4.1 (sU ho)).1
    have:=ak i hi
    have aa:i<bM.size:=om
    simp[Array.getD,aa]at this h1
    rw[this]at h1
    cases h1
  .rw[ak p om]at hp;cases hp
 |succ fuel ih=>
  intro bM a w L J ao aV av hs
  refine⟨λhr=> ?_,λi hi=> ?_⟩
  .rcases hs with ⟨_,hs⟩|⟨⟨_,hp⟩,_⟩
   .exact fin bM a w L J hs (au bM ao hr)
   .rw[au bM ao hr p om]at hp;cases hp
  obtain⟨h1,o,ho,aK⟩:=mem_ready.1 hi
  have ab:ops[i]? =some o:=sU ho
  have b9:i<ops.length:=(A4.1 ab).1
  have aa:i<bM.size:=om
  have ai:bM.getD i false=false:=by
   simp[Array.getD,aa]at h1⊢;exact h1
  have ad: ∀k,k≠i->(bM.setIfInBounds i true).getD k false=bM.getD k false:=λk hk=>getD_set_ne false (λq=>hk q.symm)
  have a6:(bM.setIfInBounds i true).getD i false:=by simp[Array.getD,aa]
  have aG: ∀(j:Nat) o,ops[j]? =some o->(bM.setIfInBounds i true).getD j false=true-> ∀e∈o.after.toList,Region.binds .any e=true->(bM.setIfInBounds i true).getD e.on false=true:=by
   intro j o' hj aW e he hb
   by_cases aX:j=i
   .subst aX
    rw[ab]at hj
    cases hj
    exact getD_set_true (aK e (sU he) hb)
   .rw[ad j aX]at aW
    exact getD_set_true (av j o' hj aW e he hb)
  have ahead: ∀{k:Nat},k≠i->k∈(gm ops []).getD i []->bM.getD k false=true:=fun{k} hk hb=>by
   have:=CZ (D:=λj=>(bM.setIfInBounds i true).getD j false) aG hb a6
   rwa [ad k hk]at this
  have nv: ∀{k:Nat},i∈(gm ops []).getD k []->bM.getD k false=false:=fun{k} hb=>by
   cases hk:bM.getD k false with
   |false=>rfl
   |true=>
    have:=CZ (D:=λj=>bM.getD j false) av hb hk
    rw[ai]at this;cases this
  have a7:(bM.setIfInBounds i true).toList.count false=fuel:=by
   have:=Q0 (l:=bM) (i:=i) (by
    rw[B3 aa]
    have:=ai
    simp[Array.getD,aa]at this
    rw[this])
   omega
  have next:=λa' w' L' J' h=>ih (bM.setIfInBounds i true) a' w' L' J' (sU ao) a7 aG h
  unfold wpOp
  rw[ho]
  show if Region.wanted o (yielded ops.toArray a.tmps)then o.wp P a w (wpAny P .any ops.toArray (fu c nt Q) fuel (bM.setIfInBounds i true)) (fu c nt Q)\/_ else _
  have only:bM.getD p false=false-> ∀k,p+1<k->bM.getD k false=false:=λhp k hk=>by
   cases hl:bM.getD k false with
   |false=>rfl
   |true=>
    have bp:k<ops.length:=by
     rcases Bv k ops.length with h|h
     .exact h
     .exfalso;simp[Array.getD,ao,Nat.not_lt.2 h]at hl
    have:=CZ (D:=λj=>bM.getD j false) av (aR k _ hk (A0 bp)).1 hl
    rw[hp]at this;cases this
  have bq:(i≠p+1\/bM.getD p false=true)->(bM.getD (p+1) false=true->bM.getD p false=true)->dQ c nt (fE (λi=>bM.getD i false) 0 ops tr e0) (fS (λi=>bM.getD i false) q 0 ops tr cv) a w L J->
    if Region.wanted o (yielded ops.toArray a.tmps)then o.wp P a w (wpAny P .any ops.toArray (fu c nt Q) fuel (bM.setIfInBounds i true)) (fu c nt Q)\/(o.asks P a w/\LetsOut (fu c nt Q))else wpAny P .any ops.toArray (fu c nt Q) fuel (bM.setIfInBounds i true) (a.put o.dst undef) w:=by
   intro ae hinv hs
   refine Zq hn ht (λi j=>i∈(gm ops []).getD j []\/(i=p/\j=p+1)) (λh1 h2 h3=>hd h1 h2 h3) ab ai aa ?_ ?_ ?_ hs λa' w' L' J' aj=>next a' w' L' J' (.inl ⟨?_,aj⟩)
   .rintro k hk (hb|⟨rfl,rfl⟩)
    .exact ahead hk hb
    .rcases ae with h|h
     .exact absurd rfl h
     .exact h
   .rintro k (hb|⟨rfl,rfl⟩)
    .exact nv hb
    .cases hl:bM.getD (i+1) false with
     |false=>rfl
     |true=>rw[hinv hl]at ai;cases ai
   .rintro k j (hb|⟨rfl,rfl⟩) hj
    .exact CZ (D:=λj=>bM.getD j false) av hb hj
    .exact hinv hj
   .intro h
    by_cases aw:i=p
    .subst aw;exact a6
    .rw[ad p (λq=>aw q.symm)]
     by_cases aH:i=p+1
     .rcases ae with h'|h'
      .exact absurd aH h'
      .exact h'
     .rw[ad (p+1) (λq=>aH q.symm)]at h
      exact hinv h
  rcases hs with ⟨hinv,hs⟩|⟨⟨a8,aC⟩,hs⟩
  .by_cases ae:i=p+1/\bM.getD p false=false
   ·
    obtain⟨rfl,hp⟩:=ae
    rw[hB]at ab;cases ab
    have aY:fS (λi=>bM.getD i false) q 0 ops tr cv=cv:=zu _ q ops tr 0 cv λk o hk h3=>by
     rw[Ad]at h3⊢
     rcases Bc k p with an|rfl|an
     .have:=(az k o an hk).1;omega
     .exact hp
     .by_cases ax:k=p+1
      .subst ax;exact ai
      .exact only hp k om
    rw[aY]at hs
    refine Rq (ops:=ops) (Q:=fu c nt Q) (next:=wpAny P .any ops.toArray (fu c nt Q) fuel (bM.setIfInBounds (p+1) true)) hz bo hs λa' w' L' J' aj=>next a' w' L' J' (.inr ⟨⟨a6,by rw[ad p om];exact hp⟩, ?_⟩)
    have:fo (fE (λi=>(bM.setIfInBounds (p+1) true).getD i false) 0 ops tr e0) dB (.ptr cv.length 0)=fo (fE (λi=>bM.getD i false) 0 ops tr e0) dB (.ptr cv.length 0):=by
     funext s
     simp only[fo]
     split
     .rfl
     .rename_i br
      refine qF _ _ s ops tr 0 e0 e0 rfl λk o hk ay=> ?_
      rw[Ad]
      refine ad k λe=> ?_
      subst e
      rw[hB]at hk;cases hk
      exact br (aiM ay).symm
    grind
   .exact bq (by
     by_cases h:i=p+1
     .right
      cases hl:bM.getD p false with
      |true=>rfl
      |false=>exact absurd ⟨h,hl⟩ ae
     .exact .inl h) hinv hs
  ·
   by_cases aw:i=p
   .subst aw
    rw[hA]at ab;cases ab
    refine Rq (ops:=ops) (Q:=fu c nt Q) (next:=wpAny P .any ops.toArray (fu c nt Q) fuel (bM.setIfInBounds i true)) hz bm hs λa' w' L' J' aj=> ?_
    have hlen:(cv++ [Ob.box z]).length=cv.length+1:=sm
    rw[hlen,D0,List.singleton_append]at aj
    have aL: ∀k,i+1<k->(bM.setIfInBounds i true).getD k false=false:=λk hk=>by rw[ad k om];exact only aC k hk
    have bA:fS (λk=>(bM.setIfInBounds i true).getD k false) q 0 ops tr cv=cv++ [.box z,.box z]:=
     FD _ q ops tr 0 (i+1) cv _ _ _ hB ar (by rw[Ad];omega) (by rw[Ad,ad (i+1) om];exact a8) λk' o' aq _ _=>by rw[Ad];exact aL k' aq
    have bt:fE (λk=>(bM.setIfInBounds i true).getD k false) 0 ops tr e0 dA= .ptr cv.length 0:=
     CY _ dA ops tr 0 i e0 _ _ _ hA aF rfl (by rw[Ad];exact a6) λk' o' aq aP aZ=>by
      rw[Ad]
      by_cases ax:k'=i+1
      .subst ax
       rw[hB]at aP;cases aP
       exact absurd (aiM aZ).symm bf
      .exact aL k' om
    have bu:fE (λk=>(bM.setIfInBounds i true).getD k false) 0 ops tr e0 dB= .ptr (cv.length+1) 0:=
     CY _ dB ops tr 0 (i+1) e0 _ _ _ hB ar rfl (by rw[Ad,ad (i+1) om];exact a8) λk' o' aq aP aZ=>by
      rw[Ad];exact aL k' aq
    have bw: ∀s,s≠dA->s≠dB->fE (λk=>(bM.setIfInBounds i true).getD k false) 0 ops tr e0 s=fE (λk=>bM.getD k false) 0 ops tr e0 s/\iJ cv.length (fE (λk=>bM.getD k false) 0 ops tr e0 s)=true:=by
     intro s bx bz
     refine⟨qF _ _ s ops tr 0 e0 e0 rfl λk o hk ay=> ?_, ?_⟩
     .rw[Ad]
      refine ad k λe=> ?_
      subst e
      rw[hA]at hk;cases hk
      exact bx (aiM ay).symm
     .have e1:fE (λk=>bM.getD k false) 0 ops tr e0 s=fE (λk=>decide (k<i)&&bM.getD k false) 0 ops tr e0 s:=by
       refine qF _ _ s ops tr 0 e0 e0 rfl λk o hk ay=> ?_
       rw[Ad]
       rcases Bc k i with h|rfl|h
       .simp[h]
       .rw[ai];simp
       .by_cases ax:k=i+1
        .subst ax
         rw[hB]at hk;cases hk
         exact absurd (aiM ay).symm bz
        .rw[only aC k om];simp
      rw[e1]
      refine Rp _ ops tr 0 e0 h0 (λk v s hk hD=> ?_) s
      rw[Ad]at hD
      simp only[Ab,aiA]at hD
      exact hv k v s hD.1 hk
    have aQ:=Zt (n0:=c.cv.length) bc bh bg
    have hr: ∀k,k<cv.length->cK (List.range cv.length++ [cv.length+1,cv.length]) (cv++ [Ob.box z,Ob.box z]).length k=k:=λk hk=>by
     rw[wU (by simp;omega),List.getElem_append_left (sU hk)];simp
    obtain⟨J2,bB⟩:=aj.pick (e':=fE (λk=>(bM.setIfInBounds i true).getD k false) 0 ops tr e0) aQ bd λs=>by
     by_cases h1:s=dA
     .subst h1
      rw[bt]
      refine .inl ?_
      simp only[fo,aiE,dI,dN,dj,du]
      rw[wU sm,List.getElem_append_right sm]
      simp
     .by_cases h2:s=dB
      .subst h2
       rw[bu]
       refine .inl ?_
       simp only[fo,aiu h1,aiE,dI,dN,dj,du]
       rw[wU sm,List.getElem_append_right sm]
       simp
      .obtain⟨q1,q2⟩:=bw s h1 h2
       rw[q1]
       simp only[fo,aiu h1,aiu h2]
       exact .inl (MD hr q2).symm
    grind
   ·
    have bC:i≠p+1:=λe=>by subst e;rw[a8]at ai;cases ai
    have ba:i<p:=by
     rcases Bc i p with h|h|h
     .exact h
     .exact absurd h aw
     .exfalso
      have:=ahead (k:=p) om (aR i o om ab).1
      rw[aC]at this;cases this
    obtain⟨bD,bE,b0,bF,b1⟩:=az i o ba ab
    have sp: ∀{i j:Nat} {x y:Oper},i<j->ops[i]? =some x->ops[j]? =some y->uF ops q i j x y=false\/(i∈(gm ops []).getD j []\/(i=p/\j=p+1)):=λh1 h2 h3=>hd h1 h2 h3
    have ah: ∀{k:Nat},k≠i->(k∈(gm ops []).getD i []\/(k=p/\i=p+1))->bM.getD k false=true:=by
     rintro k hk (hb|⟨_,h⟩)
     .exact ahead hk hb
     .omega
    have be: ∀{k:Nat},(i∈(gm ops []).getD k []\/(i=p/\k=p+1))->bM.getD k false=false:=by
     rintro k (hb|⟨h,_⟩)
     .exact nv hb
     .omega
    have bb:=Zr (e0:=e0) (tr:=tr) (λi j=>i∈(gm ops []).getD j []\/(i=p/\j=p+1)) sp ab ai ah be
    obtain⟨v,I',b2,al⟩:=aJ i o ab
    rw[Ad]at al
    have b3:fS (λj=>decide (j<i)) q 0 ops tr cv=cv:=zu _ q ops tr 0 cv λk o hk h3=>by
     rw[Ad]at h3⊢
     by_cases an:k<p
     .have:=(az k o an hk).1;omega
     .simp;omega
    rw[b3]at al
    refine JL (ops:=ops) (Q:=fu c nt Q) (next:=wpAny P .any ops.toArray (fu c nt Q) fuel (bM.setIfInBounds i true)) o hs (al.step (λs aj=> ?_) (λh=>om) λ_=> ?_) ?_
    .simp only[fo]
     split
     .rename_i h;subst h;exact absurd aj b0
     .exact bb s aj
    .rw[Kp.lT hn]
    .rintro e' s' a' w' L' J' aj ⟨rfl,rfl⟩
     rw[aiu om]at aj
     refine next a' w' L' J' (.inr ⟨⟨by rw[ad (p+1) om];exact a8,by rw[ad p om];exact aC⟩, ?_⟩)
     have b4:=Zs (e0:=e0) (λi j=>i∈(gm ops []).getD j []\/(i=p/\j=p+1)) sp ab b2 aa be
     have:fY (fo (fE (λi=>bM.getD i false) 0 ops tr e0) dB (.ptr cv.length 0)) o.dst v=fo (fE (λk=>(bM.setIfInBounds i true).getD k false) 0 ops tr e0) dB (.ptr cv.length 0):=by
      rw[<-b4]
      funext s
      by_cases h2:s=dB
      .subst h2
       rw[zt _ _ _ _ b1]
       simp[fo]
      .by_cases h3:o.dst=some s
       .rw[zr _ _ _ _ h3]
        simp only[fo,aiu h2]
        rw[zr _ _ _ _ h3]
       .rw[zt _ _ _ _ h3]
        simp only[fo,aiu h2]
        rw[zt _ _ _ _ h3]
     grind
theorem Rr (D:Nat->Bool): ∀(ad aa:List Oper) (ae ab:List (V×St)) (i:Nat) (e:Env),ae.length=ad.length->fE D i (ad++aa) (ae++ab) e=fE D (i+ad.length) aa ab (fE D i ad ae e)
 | [],aa,[],ab,i,e,_=>by rfl
 | [],_,_::_,_,_,_,h=>by grind
 |_::_,_,[],_,_,_,h=>by grind
 |o::os,aa,(v,s)::tr,ab,i,e,h=>by
  simp only[Bt,fE,Ah]
  rw[Rr D os aa tr ab (i+1) _ (sU h),show i+1+os.length=i+(os.length+1) by omega]
theorem Rs (D:Nat->Bool) (q:List (Nat×Nat)): ∀(ad aa:List Oper) (ae ab:List (V×St)) (i:Nat) (I:St),ae.length=ad.length->fS D q i (ad++aa) (ae++ab) I=fS D q (i+ad.length) aa ab (fS D q i ad ae I)
 | [],aa,[],ab,i,e,_=>by rfl
 | [],_,_::_,_,_,_,h=>by grind
 |_::_,_,[],_,_,_,h=>by grind
 |o::os,aa,(v,s)::tr,ab,i,e,h=>by
  simp only[Bt,fS,Ah]
  rw[Rs D q os aa tr ab (i+1) _ (sU h),show i+1+os.length=i+(os.length+1) by omega]
theorem Rt {ops:List Oper} {q:List (Nat×Nat)}: ∀(aa ab:List Oper) (ae ad:List (V×St)) (i:Nat) (e:Env) (I:St),oS P c nt n0 ops q i aa e I ae->
  oS P c nt n0 ops q (i+aa.length) ab (fE (λ_=>true) i aa ae e) (fS (λ_=>true) q i aa ae I) ad->oS P c nt n0 ops q i (aa++ab) e I (ae++ad)
 | [],ab,[],ad,i,e,I,_,h=>by simpa
 | [],_,_::_,_,_,_,_,h,_=>h.elim
 |_::_,_,[],_,_,_,_,h,_=>h.elim
 |o::os,ab,(v,s)::tr,ad,i,e,I,h1,h2=>by
  refine⟨h1.1,Rt os ab tr ad (i+1) _ _ h1.2 ?_⟩
  rw[fE,fS,aiv rfl]at h2
  have:(if((λ_=>true) i&&decide (3<=zZ q i o))=true then s else I)=s:=by
   by_cases h3:3<=zZ q i o
   .grind
   .rw[aiu (by grind)];exact(h1.1.2.1 om).symm
  grind
def two (P:Program) (ops:List Oper) (q:List (Nat×Nat)) (p:Nat):Bool:=
 match ops[p]?,ops[p+1]? with
 |some ⟨some dA,.alloc t,tA,Nc,aA,none⟩,some ⟨some dB,.alloc t',tB,Nd,aB,none⟩=>
  Nat.beq t t'&& !Nat.beq dA dB&&Nat.beq (zZ q p ⟨some dA,.alloc t,tA,Nc,aA,none⟩) 3&&Nat.beq (zZ q (p+1) ⟨some dB,.alloc t',tB,Nd,aB,none⟩) 3&&
  (match wB P t with|some z=>z.all oQ|none=>false)&&
  ((List.range ops.length).all λk=>match ops[k]? with
   |some o=>if k<p then decide (zZ q k o<2)&& !(oR ops o).contains dA&& !(oR ops o).contains dB&&(match o.dst with|some d=> !Nat.beq d dA&& !Nat.beq d dB|none=>false)
    else if p+1<k then((gm ops []).getD k []).contains p&&((gm ops []).getD k []).contains (p+1)else true
   |none=>true)&&
  ((List.range ops.length).all λj=>(List.range j).all λi=>match ops[i]?,ops[j]? with
   |some x,some y=>(!uF ops q i j x y||((gm ops []).getD j []).contains i||(Nat.beq i p&&Nat.beq j (p+1)))&&(!Nat.blt j p||(match x.dst,y.dst with|some d,some d'=> !Nat.beq d d'|_,_=>true))
   |_,_=>true)
 |_,_=>false
theorem VW.Hs {id:Nat} {Q:Exit->Env->St->Prop} (p:Nat) (hm:P.follows .mixedOrders) (hn:n0.n<=I.length) (hc:c.cv.length<=I.length) (ao:c.β0.length=c.cv.length)
  (h2:two P ops q p) (aq:rO ops) (ar:I.all (bS I.length)) (h0: ∀s,iJ I.length (e s))
  (h:rP P c nt n0 ops q 0 (ops.take p) (λe' I'=>(∀s,iJ I.length (e' s)=true)/\rP P c nt n0 ops q p (ops.drop p) (Q .normal) e' I') e I):VW P c nt (.region id ops.toArray true) Q e I:=by
 obtain⟨aa,ai,aK,h⟩:=DA _ _ _ _ _ h
 obtain⟨ab,au,hK⟩:=DA _ _ _ _ _ h
 unfold two at h2
 split at h2
 case h_2=>cases h2
 rename_i dA t tA aH aA dB t' tB aI aB hA hB
 simp only[Ab,Nat.beq_eq,Dq,Am,Cn]at h2
 obtain⟨⟨⟨⟨⟨⟨av,aw⟩,ax⟩,ay⟩,hz⟩,hk⟩,hd⟩:=h2
 subst av
 have aL:p+1<ops.length:=(A4.1 hB).1
 have ae:(ops.take p).length=p:=by simp;omega
 obtain⟨af,aJ⟩:=FE ops q _ _ _ _ _ ai
 have ht:=Rt (ops.take p) (ops.drop p) aa ab 0 e I ai (by rw[ae,Ad];exact au)
 have hE:=Rr (λ_=>true) (ops.take p) (ops.drop p) aa ab 0 e af
 have hS:=Rs (λ_=>true) q (ops.take p) (ops.drop p) aa ab 0 I af
 rw[ae,Ad]at hE hS
 rw[B8]at ht hE hS
 rw[<-hE,<-hS]at hK
 obtain⟨z,az,a6⟩: ∃z,wB P t=some z/\z.all oQ=true:=by
  split at hz
  .exact⟨_,by assumption,hz⟩
  .cases hz
 have aj:dA≠dB:=λq=>by subst q;simp at aw
 have ak: ∀(k:Nat) o,k<p->ops[k]? =some o->(zZ q k o<2/\dA∉oR ops o/\dB∉oR ops o/\o.dst≠some dA/\o.dst≠some dB)/\ ∃d,o.dst=some d:=by
  intro k o ad ho
  have:=hk k om
  rw[ho]at this
  simp only[aiv ad,Ab,aiA,Dq]at this
  obtain⟨⟨⟨a1,a2⟩,a3⟩,a4⟩:=this
  cases hd:o.dst with
  |none=>rw[hd]at a4;cases a4
  |some d=>
   rw[hd]at a4
   simp only[Ab,Dq]at a4
   refine⟨⟨a1,by simpa using a2,by simpa using a3,λq=> ?_,λq=> ?_⟩,d,rfl⟩
   all_goals simp_all
 refine λa w L J hs=> ?_
 refine wp_region_any hm ?_
 have hg: ∀j,(Array.replicate ops.toArray.size false).getD j false=false:=λj=>by
  simp[Array.getD]
 have e1:fE (λi=>(Array.replicate ops.toArray.size false).getD i false) 0 ops (aa++ab) e=e:=by
  funext t
  exact JK _ t ops (aa++ab) 0 e λk o _ _=>hg _
 have e2:fS (λi=>(Array.replicate ops.toArray.size false).getD i false) q 0 ops (aa++ab) I=I:=zu _ q ops (aa++ab) 0 I λk o _ _=>hg _
 refine Zu hn hc ao hA hB aj ax ay az a6 (λk o a b=>(ak k o a b).1) (λk o a7 ho=> ?_) (fun{i j x y} a8 hx hy=> ?_) aq ar h0 (λk v s ad hv=> ?_) ht hK _ _ a w.drew L J sm sm (λj o _ hj=>by rw[hg]at hj;cases hj) (.inl ⟨λh=>(by rw[hg]at h;cases h), ?_⟩)
 .have:=hk k (A4.1 ho).1
  rw[ho]at this
  simp only[aiu (show ¬k<p by omega),aiv a7,Ab]at this
  exact⟨by simpa using this.1,by simpa using this.2⟩
 .have:=hd j (A4.1 hy).1 i a8
  rw[hx,hy]at this
  simp only[Ab,Ce,Dq,Nat.beq_eq]at this
  grind
 .obtain⟨o,ho⟩: ∃o,ops[k]? =some o:=⟨ops[k],by simp[A0 (show k<ops.length by omega)]⟩
  obtain⟨_,d,al⟩:=ak k o ad ho
  have aC:aa[k]? =some (v,s):=by
   rw[Ao (by rw[af,ae];exact ad)]at hv
   exact hv
  have aD:(ops.take p)[k]? =some o:=by rw[List.getElem?_take_of_lt ad];exact ho
  have:=CY (λ_=>true) d (ops.take p) aa 0 k e o v s aD aC al rfl λk' o' aE ah aF=>by
   exfalso
   have an:k'<p:=by rw[<-ae];exact(A4.1 ah).1
   rw[List.getElem?_take_of_lt an]at ah
   have:=hd k' om k aE
   rw[ho,ah]at this
   simp only[Ab]at this
   have:=this.2
   rw[al,aF]at this
   simp at this
   rw[<-Bool.not_eq_true,Nat.blt_eq]at this
   omega
  grind
 .rw[e1,e2]
  obtain⟨aG,hle⟩:=hs.mem.drew
  exact⟨aG,hs.size,hs.defs,λt=>(hs.env t).mono hle (Ext.refl _ _)⟩
def oV (n:Nat) (e:Env):Prop:= ∀s,iJ n (e s)=true
theorem oV.fo {n:Nat} {d:Tmp} {v:V} (he:oV n e) (hv:iJ n v):oV n (fo e d v):=λs=>by
 simp only[Vx.fo]
 split
 .exact hv
 .exact he s
theorem Ru {id:Nat} {Q:QT} {l1 l2:List Oper} (q:List (Nat×Nat)) (n0 p:Nat) (hn:n0<=I.length) (hm:P.follows .mixedOrders) (hc:c.cv.length<=I.length) (aa:c.β0.length=c.cv.length)
  (h2:(two P ops q p&&rO ops)) (ab:I.all (bS I.length)) (h0:oV I.length e)
  (h1:ops.take p=l1) (h3:ops.drop p=l2)
  (h:rQ P c nt (Kp.pre n0) ops q 0 l1 (λe' I'=>oV I.length e'/\rQ P c nt (Kp.pre n0) ops q p l2 (Q .normal) fx fx fx e' I') fx fx fx e I):gE P c nt (.region id ops.toArray true) Q fx fx e I:=by
 subst h1;subst h3
 simp only[Ab]at h2
 exact VW.Hs (n0:=Kp.pre n0) p hm hn hc aa h2.1 h2.2 ab h0 h
theorem Kp.oW {k:Kp} {id:Nat} (h:k.out id):(id<k.x/\k.ob=none)\/k.n<=id:=by simp_all[Kp.out]
def Rv (n0:Kp):V->Bool
 | .sl .full _=>true
 | .sl (.app id) _=>n0.out id
 | .cM id _ _ _ _=>n0.out id
 |_=>false
attribute [go_sem] Rv
@[go_sem] theorem wg {K:KT} {d:Option Tmp} {x y:Operand} {t1 t2:TypeId} (h:Rv n0 (zG e x)):eL P c nt n0 3 d (.call ⟨.builtin .append, #[x,y], #[t1,t2]⟩) K fx fx e I=eJ P c nt d (.call ⟨.builtin .append, #[x,y], #[t1,t2]⟩) K fx fx e I:=by
 show fU P c nt n0 3 d (.call ⟨.builtin .append, #[x,y], #[t1,t2]⟩) K e I=jE P c nt d (.call ⟨.builtin .append, #[x,y], #[t1,t2]⟩) K e I
 have h1:z6 (xX P d e I (.call ⟨.builtin .append, #[x,y], #[t1,t2]⟩))=false:=by
  unfold xX
  split
  all_goals simp[Q2,vZ]
 have hA: ∀(el:Option (Nat×Nat)) (k2:Nat) (y:V),jN n0 3 I (sE el k2 I (zG e x) y):=λel k2 y=>by
  unfold sE
  split
  .split
   .exact⟨sm,λ_=> .inl ⟨_,rfl⟩⟩
   .rename_i hx
    rw[hx]at h
    have h:=Kp.oW (k:=n0) h
    split<;>first|trivial|exact⟨sm,λ_=> .inr (Kp.iY h)⟩
   .rename_i hx
    rw[hx]at h
    have h:=Kp.oW (k:=n0) h
    (repeat' split)<;>first|trivial|exact⟨sm,λ_=> .inr (Kp.iY h)⟩
   trivial
  trivial
 have hL: ∀(el:Option (Nat×Nat)) (k2:Nat) (y:V),jN n0 3 I (sG el k2 I (zG e x) y):=λel k2 y=>by
  unfold sG
  split
  .rename_i hx
   rw[hx]at h
   have h:=Kp.oW (k:=n0) h
   (repeat' split)<;>first|trivial|exact⟨sm,λ_=> .inr (Kp.iY h)⟩
  ·(repeat' split)<;>first|trivial|exact⟨sm,λ_=> .inl ⟨_,rfl⟩⟩
 have h2:jN n0 3 I (xX P d e I (.call ⟨.builtin .append, #[x,y], #[t1,t2]⟩)):=by
  unfold xX
  split
  .exact hL (eF P t1) (dL P t2) (zG e y)
  .exact hA (eF P t1) (dL P t2) (zG e y)
 grind[fU,jE]
theorem oV.ma {n:Nat}:oV n ma:=λ_=>rfl
end
variable {n:Nat}{P:Program}{τ:St}{c:Ctx}{I:St}{o:Ob}{f:FuncId}{k:Nat}{I':St}{m:Nat}{ρ:Nat->Nat}{AJ:Nat->Nat}{bY:List V}{cd:List V}{KV:V->St->Prop}
theorem Zv (t s:Nat) (rows:List (List V)) {nt:Nat} {e:Env} {Q:QT} {y:Code} (h0:0<s) (hu:eI s rows) (ht:e t= .sl .full rows) (hy:gE P c nt y Q fx fx (fo e t (.sl (.app I.length) rows)) (I++ [.app rows.length s])):gE P c nt y Q fx fx e I:=by
 intro a w L J hs
 have hr:=hs.env t
 rw[ht]at hr
 have hr:cF w L (.sl .full rows) (a.tmps.getD t undef):=hr
 obtain⟨ad,hx,ab⟩: ∃ad,a.tmps.getD t undef= .slice ad rows.length rows.length/\cF w L (.sl .ro rows) (.slice ad rows.length rows.length):=by
  generalize a.tmps.getD t undef=x at hr
  cases hr with
  |jq g ad cap hg ha=>have:=hg rfl;subst this;exact⟨ad,rfl,.jq .ro ad 0 om sm⟩
  |sl g rows s b o cap c ha hs hlen ff dq hg hc hr=>have:=hg rfl;subst this;exact⟨_,rfl,.sl .ro rows s b o _ c sm hs hlen ff dq om hc hr⟩
 have aa:=Ext.push I J hs.mem.len (.app rows.length s) (.slice ad rows.length rows.length)
 refine hy a w L (J++ [.slice ad rows.length rows.length]) ⟨hs.mem.own h0,hs.size,hs.defs,λk=> ?_⟩
 simp only[fo]
 split
 .rename_i hk
  subst hk
  rw[hx]
  exact⟨ab,rows.length,s,sm,om,λ_=>by rw[<-hs.mem.len];simp,hu⟩
 .exact(hs.env k).mono (Le.refl _ _) aa
theorem Zw (i j:Nat) {p:Ob} {args:List V} {R:V->St->Prop} (hc:bN P f cd [o,p] R) (hb:xE P f) (ae:i≠j) (ho:I[i]? =some o) (hp:I[j]? =some p) (cQ:bS 0 o) (ad:bS 0 p)
  (aa:bP (cT (cK [i,j] I.length)) cd (args++bY)) (hR: ∀r s,R r s-> ∃o2 p2,s= [o2,p2]/\bS 0 o2=true/\bS 0 p2) (hK: ∀r o2 p2,R r [o2,p2]->KV (dI (cK [i,j] I.length) r) ((I.set i o2).set j p2)):jm P c (.fn f bY) args I KV fx:=by
 have ab: ∀q:Ob,bS 0 q=true->yA (cK [i,j] I.length) q=q:=λq h=>yY (n:=0) om h
 refine VC.of hc hb [i,j] (by grind) rfl (λk l q h1 h2=> ?_) aa λr s h _=> ?_
 .match k with
  |0=>simp at h1 h2;subst h1;subst h2;rw[ab _ cQ];exact ho
  |1=>simp at h1 h2;subst h1;subst h2;rw[ab _ ad];exact hp
  |k+2=>simp at h1
 .obtain⟨o2,p2,rfl,h1,h2⟩:=hR r s h
  grind[yX,fI]
theorem Nf (pick:aj0) {n0:Nat} {R:V->St->Prop} {s:St} {v r:V} (aa:pick.Nodup) (hn: ∀i,i<n0->pick[i]? =some i) (hlen:s.length=pick.length) (ab: ∀(i j:Nat) (o:Ob),pick[i]? =some j->s[i]? =some o->I[j]? =some (yA (cK pick I.length) o)) (hr:cT (cK pick I.length) r v) (hR:R r s):cx (some v) n0 R I:=
 ⟨v,rfl,v,I,pick,s,r,.refl _ _,⟨hlen,aa,ab,hn⟩,hr,hR⟩
theorem bN.Jj {args:List V} {v:V} {R:V->St->Prop} (h:bN P f args [] R) (hR: ∀r s,R r s-> ∃r' s',ot [r] s [r'] s'/\cT (cK [] s'.length) v r'):Pure P f args v:=by
 intro w L J aa hm ha
 refine(h w L J aa hm ha).mono ?_
 rintro e w' ⟨x,r,L',I',J',he,hr,hl,ad,ae⟩
 obtain⟨r',s',hf,hv⟩:=hR r I' hr
 obtain⟨L2,J2,ab,aj,af,ah⟩:=hf.ok ad (show bP (dD w' L' I' J') [r] [x] from⟨ae,tV⟩)
 have dh:J.length=([]:St).length:=hm.len
 have hp:gB (entry w L [] J).cv.length [] s' []:=⟨rfl,C0,sm,λi q=>(by trivial)⟩
 have ai:=ab.pick hp dh
 refine⟨x,v,L2,[],[],he,sm,om,ai, ?_⟩
 exact y4 (hp.jt ab.len) hv ah.1
structure kK (k:Nat) (τ s I':St) (pick:aj0):Prop where
 pU:gB 0 pick I' (s++τ)
 first: ∀i,i<k->pick[i]? =some i
 rest: ∀i,i<τ.length->pick[s.length+i]? =some (k+i)
theorem kK.Ht {s:St} {pick:aj0} (h:kK k τ s I' pick) {M i:Nat} (hi:i<k):cK pick M i=i:=by
 have h1:=h.first i hi
 obtain⟨hl,e⟩:=A4.1 h1
 simp_all[cK]
theorem kK.Hu {s:St} {pick:aj0} (h:kK k τ s I' pick) {M i:Nat} (hi:i<τ.length):cK pick M (s.length+i)=k+i:=by
 have h1:=h.rest i hi
 obtain⟨hl,e⟩:=A4.1 h1
 simp_all[cK]
theorem Zx (h:n<=m) {v:V} (hv:cL n v):cL m v=true:=by
 cases v with
 |sl g rows=>cases g<;>simp_all[cL]<;>omega
 |_=>simp_all[cL]<;>omega
theorem Ng (h:n<=m) {v:V} (hv:cN n v):cN m v=true:=by
 cases v<;>grind[cN,Zx]
theorem Rw (h:n<=m) {v:V} (hv:jn n v):jn m v=true:=by
 cases v<;>grind[jn,Ng]
theorem J5 (h:n<=m) (ho:bS n o):bS m o=true:=by
 cases o with
 |box cells=>grind[bS,Ng]
 |cj rows s=>grind[bS,Ng]
 |mp dM gh cZ=>grind[bS,Rw]
 |it m' since seen last=>cases m' with
  |none=>rfl
  |some i=>simp_all[bS];omega
 |_=>rfl
theorem Nh {v:V} (h: ∀i,i<n->ρ i=AJ i) (hv:cL n v):du ρ v=du AJ v:=by
 cases v with
 |sl g rows=>cases g<;>simp_all[du,cL]
 |_=>simp_all[du,cL]
theorem J6 {v:V} (h: ∀i,i<n->ρ i=AJ i) (hv:cN n v):dj ρ v=dj AJ v:=by
 cases v with
 |fn f bY=>
  simp only[cN,Am]at hv
  simp only[dj]
  congr 1
  grind[B9,Nh]
 |gV t v=>
  simp only[cN,Am]at hv
  simp only[dj]
  congr 1
  grind[B9,Nh]
 |_=>simp only[dj];exact(by grind[Nh,cN])
theorem Zy {v:V} (h: ∀i,i<n->ρ i=AJ i) (hv:jn n v):dN ρ v=dN AJ v:=by
 cases v with
 |agg cs=>
  simp only[jn,Am]at hv
  simp only[dN]
  congr 1
  grind[B9,J6]
 |_=>simp only[dN];exact(by grind[J6,jn])
theorem Rx (h: ∀i,i<n->ρ i=AJ i) (ho:bS n o):yA ρ o=yA AJ o:=by
 cases o with
 |box cells=>
  simp only[bS,Am]at ho
  simp only[yA]
  congr 1
  grind[B9,J6]
 |cj rows s=>
  simp only[bS,Am]at ho
  simp only[yA]
  congr 1
  grind[B9,J6]
 |mp dM gh cZ=>
  simp only[bS,Am]at ho
  simp only[yA]
  congr 1
  grind[B9,Zy]
 |it m since seen last=>
  cases m with
  |none=>rfl
  |some i=>simp_all[bS,yA]
 |_=>rfl
theorem J7 {args:List V} {fi:St} {R:V->St->Prop} (hc:bN P f cd fi R) (hb:xE P f) (aq:fi.all (bS fi.length)) (hτ:τ.all (bS 0))
  (aj:bP (cT (cK (List.range fi.length) (fi.length+τ.length))) cd (args++bY))
  (hR: ∀r s,R r s->gK r=true/\s.all (bS s.length))
  (hk: ∀r s,R r s->fi.length<=s.length-> ∀I' pick,kK fi.length τ s I' pick->KV r I'):jm P c (.fn f bY) args (fi++τ) KV fx:=by
 have ar:(fi++τ).length=fi.length+τ.length:=An
 refine VC.of hc hb (List.range fi.length) Be sm (λi j o h1 h2=> ?_) (by grind) λr s hr hl=> ?_
 .obtain⟨h3,h4⟩:=A4.1 h1
  simp at h3 h4
  subst h4
  rw[Ao h3,h2]
  have ho:bS fi.length o:=by
   grind
  grind[yY,qC]
 .obtain⟨ak,hs⟩:=hR r s hr
  rw[zm ak]
  rw[List.length_range]at hl
  obtain⟨k,ah⟩:=eX fi.length
  rw[ah]at hl hk⊢
  obtain⟨I',ab⟩: ∃I',yX (List.range k) (fi++τ) s=I':=⟨_,rfl⟩
  rw[ab]
  have al:(fi++τ).length=k+τ.length:=om
  have ao:I'.length=s.length+τ.length:=by
   grind[FL]
  have hold: ∀i o,s[i]? =some o->I'[if i<k then i else i+τ.length]? =some (yA (cK (List.range k) (k+τ.length)) o):=λi o ho=>by
   have:=BX (dg:=List.range k) (Ic:=fi++τ) (I':=s) Be (λq hq=>by have:=Cn.1 hq;omega) (sU hl) ho
   rw[ab,al]at this
   by_cases hi:i<k
   .simp_all[qC]
   .rw[aiu hi]
    grind[qp]
  have ad: ∀i,i<τ.length->I'[k+i]? =τ[i]? :=λi hi=>by
   rw[<-ab]
   unfold yX
   rw[Ao (by grind[np]),sM _ _ _ _ sm,Au om,ah]
   simp
  refine hk r s hr hl I' (List.range k++(List.range (s.length - k)).map (k+τ.length+ ·)++(List.range τ.length).map (k+ ·)) ?_
  obtain⟨pick,hp⟩:=eX (List.range k++(List.range (s.length - k)).map (k+τ.length+ ·)++(List.range τ.length).map (k+ ·))
  rw[hp]
  have au:pick.length=s.length+τ.length:=by grind
  have an: ∀i,i<k->pick[i]? =some i:=(by grind)
  have av: ∀i,k<=i->i<s.length->pick[i]? =some (i+τ.length):=λi h1 h2=>by
   rw[<-hp,Ao (by grind),Au (by grind),List.length_range,B6,Dc om,Bb]
   congr 1;omega
  have ai: ∀i,i<τ.length->pick[s.length+i]? =some (k+i):=λi hi=>by
   rw[<-hp,Au (by grind)]
   simp only[An,List.length_range,Ag]
   grind
  have iX: ∀i,i<s.length->cK pick I'.length i=cK (List.range k) (k+τ.length) i:=λi hi=>by
   have ae:i<pick.length:=om
   unfold cK
   grind
  refine⟨⟨by grind, ?_,λi j o aa ho=> ?_,om⟩,an,ai⟩
  .rw[<-hp]
   refine Co.2 ⟨Co.2 ⟨Be, ?_,λa ha b hb=> ?_⟩, ?_,λa ha b hb=> ?_⟩
   .exact List.Pairwise.map _ om (Be (n:=_))
   .grind
   .exact List.Pairwise.map _ om (Be (n:=_))
   .simp only[Af,Cn,Ac]at ha hb
    omega
  .by_cases hi:i<s.length
   .rw[Ao hi]at ho
    have h1:=hold i o ho
    have h2:pick[i]? =some (if i<k then i else i+τ.length):=by
     grind
    rw[h2]at aa;cases aa
    rw[h1]
    congr 1
    have af:bS s.length o:=by
     grind
    exact(Rx iX af).symm
   .rw[Au om]at ho
    have ae:=(A4.1 ho).1
    have h2:=ai (i - s.length) ae
    rw[show s.length+(i - s.length)=i by omega]at h2
    rw[h2]at aa;cases aa
    rw[ad _ ae,ho]
    have af:bS 0 o:=by
     grind
    rw[yY (n:=0) om af]
theorem Ry {e:Env} {s:St} {pick keep:aj0} {vs:List V} (h:kK k τ s I' pick) (ha:bP (cT (cK pick I'.length)) vs (keep.map e)):At 0 keep vs (s++τ) e I':=⟨pick,h.pU,ha⟩
theorem Rz {n0:Nat} {s:St} {pick:aj0} {R:V->St->Prop} {v:V} (h:kK k τ s I' pick) (hn:n0<=k) (hs:s.all (bS s.length)) (ad:k<=s.length) (hv:gK v) (hR:R v s):cx (some v) n0 R I':=by
 have ae:pick.length=s.length+τ.length:=by rw[<-h.pU.len,An]
 refine Nf (pick.take s.length) ?_ (λi hi=> ?_) (by grind) (λi j o aa ho=> ?_) (zC hv) hR
 .exact h.pU.nodup.sublist (by grind)
 .rw[Ap,aiv om];exact h.first i om
 .have hi:=(A4.1 ho).1
  rw[Ap,aiv hi]at aa
  rw[h.pU.ob i j o aa (by grind)]
  congr 1
  have ab:bS s.length o:=by
   grind
  refine Rx (λq hq=> ?_) ab
  unfold cK
  grind
theorem Zz {args:List V} {o2:Ob} {v:V} (hc:bN P f cd [o] (λr s=>r=v/\s= [o2])) (hb:xE P f) (ho:I[0]? =some o) (ad:bS 0 o) (ab:bS 0 o2)
  (aa:bP (cT (cK [0] I.length)) cd (args++bY)) (hn:gK v) (hk:KV v (I.set 0 o2)):pQ P c ⟨1,n,[],none⟩ 3 (.fn f bY) args I KV fx:=by
 have ae: ∀q:Ob,bS 0 q=true->yA (cK [0] I.length) q=q:=λq h=>yY (n:=0) om h
 have e:yX [0] I [o2]=I.set 0 o2:=by
  grind[yX,fI]
 refine FM hc hb [0] sm rfl (λi j q h1 h2=> ?_) aa (.inr ?_) ?_
 .grind
 .rw[e];exact Kp.iY sm
 grind[zm]
end Go.Vx
