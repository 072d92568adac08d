/-
  Running code over trees: whole functions, their calls, loops, regions whose order is open.
  No condition: a library text; nothing of the program is named.
-/
import Derived.Test.YtefbicjgbaaieaaGreatJAD
import Derived.Carry
import Derived.ProofKit
import Derived.OpenShut
import Derived.Test.YtefbicjgbaaieaaGreatRows
import Derived.IntWalk
set_option maxHeartbeats 8000000
namespace Go.Vx
open Go
mutual
inductive Shp (P:Program):TypeId->List V->Prop
 |bool {t:TypeId} (b:Bool):P.underlying t=some .bool->Shp P t [.bool b]
 |int {t:TypeId} {k:IntKind} {n:Int}:P.underlying t=some (.int k)->(Lit.int k n).wf=true->Shp P t [.int k n]
 |str {t:TypeId} {s:List UInt8}:P.underlying t=some .string->s.length<=maxLen->Shp P t [.str s]
 |sl {t e:TypeId} {rows:List (List V)}:P.underlying t=some (.slice e)->rows.length<=maxLen->ShpR P e rows->Shp P t [.sl .ro rows]
 |struct {t:TypeId} {fs:Array Field} {cells:List V}:P.underlying t=some (.struct fs)->ShpF P (fs.toList.map (·.type)) cells->Shp P t cells
inductive ShpR (P:Program):TypeId->List (List V)->Prop
 |nil {e:TypeId}:ShpR P e []
 |cons {e:TypeId} {r:List V} {rows:List (List V)}:Shp P e r->ShpR P e rows->ShpR P e (r::rows)
inductive ShpF (P:Program):List TypeId->List V->Prop
 |nil:ShpF P [] []
 |cons {t:TypeId} {ts:List TypeId} {a b:List V}:Shp P t a->ShpF P ts b->ShpF P (t::ts) (a++b)
end
def zI3 (P:Program):Nat->List Field->Nat->Bool
 |o,[],n=>o==n
 |o,f::fs,n=>f.offset==o&&zI3 P (o+P.cellsOf f.type) fs n
def okT (P:Program) (T:List TypeId):Bool:=T.all fun t=>
 match P.underlying t with
 |some .bool|some (.int _)|some .string=>true
 |some (.slice e)=>T.contains e&&decide (0<P.cellsOf e)
 |some (.struct fs)=>fs.all (fun f=>T.contains f.type)&&zI3 P 0 fs.toList (P.cellsOf t)
 |_=>false
def lims (w:World):Nat->Nat:=fun b=>match w.heap[b]? with|some (.cells c _ _)=>c.size|_=>0
section
variable {H:Type} {enc:TypeId×Value->H} {P:Program} {w:World} {base:Nat} {spare:Nat->Bool} {held:Bool}
theorem xd5 {b o:Nat} {x:Value} (h:w.cell? ⟨b,o,none⟩=some x):o<lims w b:=by
 unfold World.cell? at h
 unfold lims
 grind
theorem xf2 {T:List TypeId} (hT:okT P T=true) {t:TypeId} (h:t∈T):(match P.underlying t with
  |some .bool|some (.int _)|some .string=>true
  |some (.slice e)=>T.contains e&&decide (0<P.cellsOf e)
  |some (.struct fs)=>fs.all (fun f=>T.contains f.type)&&zI3 P 0 fs.toList (P.cellsOf t)
  |_=>false)=true:=by
 grind[okT]
inductive Sm (M:Nat):V->Prop
 |bool (b:Bool):Sm M (.bool b)
 |int (k:IntKind) (n:Int):Sm M (.int k n)
 |str {s:List UInt8}:s.length<=M->Sm M (.str s)
 |sl {g:Tag} {rows:List (List V)}:rows.length<=M->(∀r∈rows,∀v∈r,Sm M v)->Sm M (.sl g rows)
 |agg {cs:List V}:(∀v∈cs,Sm M v)->Sm M (.agg cs)
structure BulkOk {H:Type} (B:DataW H->Nat) (BA:List (DataW H)->Nat):Prop where
 str: ∀s:List UInt8,s.length<=B (.lit (.string s))
 sl: ∀es sp,BA es<=B (.slice es sp)
 agg: ∀ps,BA ps<=B (.agg ps)
 mem: ∀d l,d∈l->B d<=BA l
 len: ∀l:List (DataW H),l.length<=BA l
def SmD {H:Type} (d:DataW H) (vs:List V):Prop:= ∀(B:DataW H->Nat) (BA:List (DataW H)->Nat),BulkOk B BA-> ∀M,B d<=M-> ∀v∈vs,Sm M v
theorem zP3 {T:List TypeId} (hT:okT P T=true): ∀(fuel:Nat) (t:TypeId) (cs:List Value) (x:DataW H×List MemPlace),t∈T->DataW.trod enc P w base spare held fuel t cs=some x->
  ∃vs,Shp P t vs/\All2 (RdP w (lims w)) vs cs/\SmD x.1 vs
 |0,t,cs,x,_,h=>by simp[DataW.trod]at h
 |fuel+1,t,cs,x,ht,h=>by
  have hk:=xf2 hT ht
  split at hk
  .rename_i hu
   obtain⟨b,rfl,_⟩:=DataW.trod_bool hu h
   exact⟨[.bool b],.bool b hu,⟨.bool b,tV⟩,fun _ _ _ _ _ v hv=>by simp at hv;subst hv;exact .bool b⟩
  .rename_i k hu
   obtain⟨n,rfl,_,hw⟩:=DataW.trod_int hu h
   exact⟨[.int k n],.int hu hw,⟨.int k n,tV⟩,fun _ _ _ _ _ v hv=>by simp at hv;subst hv;exact .int k n⟩
  .rename_i hu
   obtain⟨s,rfl,rfl,hs⟩:=DataW.trod_string hu h
   have hr:RdP w (lims w) (.str s.data.toList) (.string ⟨s.data.toList.toArray⟩):= .str _
   exact⟨[.str s.data.toList],.str hu (sU hs),⟨hr,tV⟩,fun B BA hB M hM v hv=>by simp at hv;subst hv;exact .str (by have:=hB.str s.data.toList;simp only at hM;simp at this hM⊢;omega)⟩
  .rename_i e hu
   simp only[A1,decide_eq_true_eq,List.contains_iff_mem]at hk
   obtain⟨he,ae⟩:=hk
   rcases DataW.trod_slice hu h with ⟨rfl,_⟩|⟨a,len,cap,elems,rest,n,a1,rfl,af,hb,hl,hm,hlen,a6,_,_⟩
   .exact⟨[.sl .ro []],.sl hu (A3 _) .nil,⟨.sl0 _ _ _ (fun q=>by cases q) (fun _=>sM),tV⟩,fun _ _ _ _ _ v hv=>by simp at hv;subst hv;exact .sl (A3 _) sM⟩
   .obtain rfl:fuel=n:=om
    have each: ∀i,i<len-> ∃(vs:List V) (aa:List Value),Shp P e vs/\All2 (RdP w (lims w)) vs aa/\aa.length=P.cellsOf e/\(∀j,j<P.cellsOf e->w.cell? ((a.add (i*P.cellsOf e)).add j)=aa[j]?)/\ ∃d∈elems.map (·.1),SmD d vs:=by
     intro i hi
     have h1:=a6 i hi
     rw[A0 om]at h1
     cases hc:w.cells? base (a.add (i*P.cellsOf e)) (P.cellsOf e)with
     |none=>rw[hc]at h1;cases h1
     |some aa=>
      rw[hc]at h1
      obtain⟨_,ag,ab⟩:=World.cells?_some hc
      obtain⟨vs,hs,hr,aj⟩:=zP3 hT fuel e aa _ he h1
      grind
    rcases Nat.eq_zero_or_pos len with rfl|a7
    .exact⟨[.sl .ro []],.sl hu (A3 _) .nil,⟨.sl0 _ _ _ (fun q=>by cases q) (fun _=>sM),tV⟩,fun _ _ _ _ _ v hv=>by simp at hv;subst hv;exact .sl (A3 _) sM⟩
    .obtain⟨b,o,spot⟩:=a
     have ah:spot=none:=by
      obtain⟨vs,aa,_,_,ag,ab,_⟩:=each 0 a7
      have h0:=ab 0 ae
      rw[A0 om]at h0
      simp only[D2,Addr.add,if_true]at h0
      cases spot with
      |none=>rfl
      |some _=>
       grind[World.cell?]
     subst ah
     have aG: ∀i j,((⟨b,o,none⟩:Addr).add (i*P.cellsOf e)).add j=⟨b,o+i*P.cellsOf e+j,none⟩:=by
      intro i j;rw[wA,wA]
     have key: ∀m,m<=len-> ∃rows:List (List V),rows.length=m/\ShpR P e rows/\(∀r∈rows,r.length=P.cellsOf e)/\(∀r∈rows,∃d∈elems.map (·.1),SmD d r)/\
       ∀i j (hi:i<rows.length) (hj:j<rows[i].length),∃x,w.cell? ⟨b,o+(len - m+i)*P.cellsOf e+j,none⟩=some x/\RdP w (lims w) (rows[i][j]) x:=by
      intro m
      induction m with
      |zero=>exact fun _=>⟨[],rfl,.nil,fun _ q=>by simp at q,fun _ q=>by simp at q,fun i j hi=>by simp at hi⟩
      |succ m ih=>
       intro hm
       obtain⟨rows,h1,h2,h3,ai,h4⟩:=ih om
       obtain⟨vs,aa,hs,hr,ag,ab,aj⟩:=each (len - (m+1)) om
       refine⟨vs::rows,by simp[h1],.cons hs h2,fun r ad=> ?_,fun r ad=> ?_,fun i j hi hj=> ?_⟩
       .rcases Af.1 ad with rfl|ad
        .rw[hr.length,ag]
        grind
       .rcases Af.1 ad with rfl|ad
        .exact aj
        .exact ai r ad
       .cases i with
        |zero=>
         simp only[List.getElem_cons_zero]at hj⊢
         obtain⟨x,hx,ak⟩:=hr.get j _ (A0 hj)
         grind
        |succ i=>
         simp only[List.getElem_cons_succ]at hj⊢
         obtain⟨x,hx,ak⟩:=h4 i j (sU hi) hj
         refine⟨x, ?_,ak⟩
         grind
     obtain⟨rows,h1,h2,h3,ai,h4⟩:=key len (A4 _)
     have al:len - len=0:=om
     rw[al]at h4
     simp only[Ae]at h4
     subst h1
     refine⟨[.sl .ro rows],.sl hu om h2,⟨?_,tV⟩,fun B BA hB M hM v hv=>by
      simp at hv;subst hv
      rw[af]at hM
      have q1:=hB.sl (elems.map (·.1)) (rest.map (·.1))
      have q2:=hB.len (elems.map (·.1))
      rw[An]at q2
      simp only at hM
      refine .sl om fun r hr v hv=> ?_
      obtain⟨d,hd,a8⟩:=ai r hr
      have q3:=hB.mem _ _ hd
      exact a8 B BA hB M om v hv⟩
     let c:Nat->Nat->Value:=fun i j=>(w.cell? ⟨b,o+i*P.cellsOf e+j,none⟩).getD undef
     refine .sl .ro rows (P.cellsOf e) b o cap c (fun _=>sM) ae h3 ?_ hl (fun q=>by cases q) (fun i j hi hj=> ?_) (fun i j hi hj=> ?_)
     .obtain⟨x,hx,_⟩:=h4 (rows.length - 1) (P.cellsOf e - 1) om (by rw[h3 _ (Ab _)];omega)
      have aH:=xd5 hx
      have h5:(rows.length - 1)*P.cellsOf e+P.cellsOf e=rows.length*P.cellsOf e:=by
       rw[<-Nat.succ_mul];congr 1;omega
      omega
     all_goals grind
  .rename_i fs hu
   simp only[A1,Ce,List.contains_iff_mem]at hk
   obtain⟨an,ao⟩:=hk
   obtain⟨xs,n,a1,af,hlen,aA,aq⟩:=DataW.trod_struct hu h
   obtain rfl:fuel=n:=om
   have key: ∀(l:List Field) (pre:List Field) (off:Nat),fs.toList=pre++l->zI3 P off l (P.cellsOf t)=true->off<=cs.length->
     ∃vs,ShpF P (l.map (·.type)) vs/\All2 (RdP w (lims w)) vs (cs.drop off)/\SmD (.agg (xs.map (·.1))) vs:=by
    intro l
    induction l with
    |nil=>
     intro pre off _ hr _
     unfold zI3 at hr
     have:off=P.cellsOf t:=sU hr
     refine⟨[],.nil, ?_,fun _ _ _ _ _ v hv=>by simp at hv⟩
     rw[A9 om]
     trivial
    |cons f l ih=>
     intro pre off ar hr hle
     unfold zI3 at hr
     simp only[A1,beq_iff_eq]at hr
     obtain⟨au,hr⟩:=hr
     have hf:fs[pre.length]? =some f:=by
      have:fs.toList[pre.length]? =some f:=by rw[ar];simp
      simpa using this
     have hx:=aq pre.length f hf
     have av:pre.length<xs.length:=by
      rw[aA];exact(Cg.1 hf).1
     rw[A0 av,au]at hx
     obtain⟨aB,aw,ax,ay⟩:=zP3 hT fuel f.type _ _ (an f (Array.mem_of_getElem? hf)) hx
     have az:off+P.cellsOf f.type<=cs.length:=by
      rw[hlen]
      clear ih hx aq aw ax ay
      revert hr
      generalize off+P.cellsOf f.type=o2
      intro hr
      have: ∀(l:List Field) (o:Nat),zI3 P o l (P.cellsOf t)=true->o<=P.cellsOf t:=by
       intro l
       induction l<;>grind[zI3]
      grind
     obtain⟨aC,aD,aE,aF⟩:=ih (pre++ [f]) (off+P.cellsOf f.type) (by rw[ar];simp) hr az
     refine⟨aB++aC,.cons aw aD, ?_,fun B BA hB M hM v hv=>by
      rcases B5.1 hv with hv|hv
      .have q1:=hB.agg (xs.map (·.1))
       have q2:=hB.mem (xs[pre.length]'av).1 (xs.map (·.1)) (Ad.2 ⟨_,Ab _,rfl⟩)
       exact ay B BA hB M om v hv
      .exact aF B BA hB M hM v hv⟩
     have e:cs.drop off=(cs.drop off).take (P.cellsOf f.type)++cs.drop (off+P.cellsOf f.type):=by
      rw[<-Dg];exact(Bo _ _).symm
     rw[e]
     exact ax.append aE
   obtain⟨vs,h1,h2,h3⟩:=key fs.toList [] 0 rfl ao (A3 _)
   exact⟨vs,.struct hu h1,by simpa using h2,by rw[af];exact h3⟩
  grind
def zN6 (P:Program) (t:TypeId) (vs:List V):V:=match P.underlying t with|some (.struct _)=> .agg vs|_=>vs.headD .u
inductive ShpA (P:Program):List TypeId->List V->Prop
 |nil:ShpA P [] []
 |cons {t:TypeId} {ts:List TypeId} {vs:List V} {xs:List V}:Shp P t vs->ShpA P ts xs->ShpA P (t::ts) (zN6 P t vs::xs)
theorem yV5 {W:World} {r:Reach} {b:Nat} {t:TypeId} {v:Value} {T:List TypeId} (hT:okT P T=true) (ht:t∈T) (h:Value.okWide P W r b t v):(∃fs cs,P.underlying t=some (.struct fs)/\v= .agg cs)∨((∀fs,P.underlying t≠some (.struct fs))/\v.oneCell'=true):=by
 have hk:=xf2 hT ht
 split at hk
 .rename_i hu
  refine .inr ⟨(by grind), ?_⟩
  cases v<;>simp[Value.okWide,hu,Cell.okWide,Cell.ok]at h<;>rfl
 .rename_i k hu
  refine .inr ⟨(by grind), ?_⟩
  cases v<;>simp[Value.okWide,hu,Cell.okWide,Cell.ok]at h<;>rfl
 .rename_i hu
  refine .inr ⟨(by grind), ?_⟩
  cases v<;>simp[Value.okWide,hu,Cell.okWide,Cell.ok]at h<;>rfl
 .rename_i e hu
  refine .inr ⟨(by grind), ?_⟩
  cases v<;>simp[Value.okWide,hu,Cell.okWide,Cell.ok]at h<;>rfl
 .rename_i fs hu
  refine .inl ⟨fs, ?_⟩
  simp only[Value.okWide,hu]at h
  grind
 grind
theorem zN7 {T:List TypeId} (hT:okT P T=true): ∀(ts:List TypeId) (aa:List Value) (ds:List (DataW H)) (ps:List MemPlace),(∀t∈ts,t∈T)->(∀(j:Nat) t v,ts[j]? =some t->aa[j]? =some v->Value.okWide P w .any base t v)->
  DataW.TrodAll enc P w 0 spare held ts aa ds ps-> ∃xs,ShpA P ts xs/\All2 (RdS w (lims w) [] []) xs aa/\ ∀(B:DataW H->Nat) (BA:List (DataW H)->Nat),BulkOk B BA-> ∀M,(∀d∈ds,B d<=M)-> ∀v∈xs,Sm M v
 | [],[],_,_,_,_,_=>⟨[],.nil,tV,sM⟩
 |t::ts,v::aa,ds,ps,hm,hok,h=>by
  obtain⟨v',vs',d,ae,p,q,hv,rfl,rfl,h1,h2⟩:=ChangeShapes.trodAll_cons h
  cases hv
  obtain⟨xs,af,ag,ai⟩:=zN7 hT ts aa ae q (by grind) (fun j t' v' h1 h2=>hok (j+1) t' v' (by grind) (by grind)) h2
  obtain⟨fuel,hf⟩:=h1
  obtain⟨vs,hs,hr,ah⟩:=zP3 hT fuel t _ _ (by grind) hf
  suffices hall:RdS w (lims w) [] [] (zN6 P t vs) v/\ ∀M,(∀v∈vs,Sm M v)->Sm M (zN6 P t vs) from
   ⟨zN6 P t vs::xs,.cons hs af,⟨hall.1,ag⟩,fun B BA hB M hM v' ab=>by
    rcases Af.1 ab with rfl|ab
    .exact hall.2 M fun v hv=>ah B BA hB M (by grind) v hv
    grind⟩
  rcases yV5 hT (by grind) (hok 0 t v rfl rfl)with ⟨fs,cs,hu,rfl⟩|⟨aj,ad⟩
  .unfold zN6
   rw[hu]
   exact⟨⟨cs.toList,sM,hr.imp (by grind[RdC.of_pure])⟩,fun M hM=> .agg hM⟩
  .rw[zA8 ad]at hr
   have:zN6 P t vs=vs.headD .u:=by
    unfold zN6
    simp
   rw[this]
   cases vs with
   |nil=>trivial
   |cons x vs=>exact⟨RdS.of_cell (RdC.of_pure hr.1),(by grind)⟩
 | [],_::_,_,_,_,_,h=>by trivial
 |_::_,[],ds,_,_,_,h=>by trivial
theorem zA6 {w':World} {sp':Nat->Bool} (hl:laidOutB P=true): ∀(ts:List TypeId) (aa:List Value) (ds:List (DataW H)) (ps:List MemPlace),(∀t∈ts,P.readableRec t=true/\t<P.types.size)->
  DataW.TrodAll enc P w 0 (fun _=>true) true ts aa ds ps->(∀x∈ps,w.sameAt w' x)->(∀x∈ps,sp' x.block=true)->DataW.TrodAll enc P w' 0 sp' true ts aa ds ps
 | [],_,_,_,_,h,_,_=>by
  obtain⟨rfl,rfl,rfl⟩:=ChangeShapes.trodAll_nil h
  rfl
 |t::ts,aa,ds,ps,hr,h,hs,hp=>by
  obtain⟨v,vs',d,ab,p,q,rfl,rfl,rfl,h1,h2⟩:=ChangeShapes.trodAll_cons h
  exact⟨p,q,(by grind[WideElems.Trod_stays]),
   (by simp_all[zA6]),rfl⟩
theorem xn3 (w:World) (ht:GlobOk w (lims w)):Mem (entry w (lims w) [] []) w (lims w) [] []:=
 ⟨rfl,sM,sM,sM,fun b hb hx=>(by trivial),Le.refl _ _,A4 _,rfl,rfl,rfl,A4 _,
  (by grind[lims]),Ext.refl _ _,ht⟩
theorem xm3 {f:FuncId} {fn:Func} {s:ChangeSpec} {apart fresh handsOn again:Bool} (T ts:List TypeId) (tb:TypeId) (au:fn.params=ts.toArray) (ag:fn.resultTypes= #[tb]) (hb:P.underlying tb=some .bool) (hT:okT P T=true) (av:ts.all (T.contains ·)=true)
  (aw:ts.all (fun t=>P.readableRec t&&decide (t<P.types.size))=true) (hl:laidOutB P=true) (aa:s.vars= [])
  (ax: ∀(H:Type) (ds:List (DataW H)),ds.length=ts.length->s.fn H ds={results:= [.lit (.bool true)],args:=ds})
  (al:List V->Prop) (hw: ∀xs,ShpA P ts xs->al xs->VCalls P f xs [] fun r _=>r= .bool true) (H:Type) (enc:TypeId×Value->H) (W:World) (base:Nat) (args:Array Value) (ds gs:List (DataW H)) (before:List MemPlace)
  (az: ∀(j:Nat) t v,fn.params[j]? =some t->args[j]? =some v->Value.okWide P W .any base t v)
  (hW:DataW.Whole enc P fn.params.toList s.vars apart W args.toList ds gs before) (ah:GlobOk W (lims W))
  (hlim: ∀xs,(∀(B:DataW H->Nat) (BA:List (DataW H)->Nat),BulkOk B BA-> ∀M,(∀d∈ds++gs,B d<=M)-> ∀v∈xs,Sm M v)->al xs):
  Calls P f args W fun e W'=> ∃v,e= .returned v/\s.post enc P fn apart fresh handsOn again W args v W':=by
 have ai:=hW
 obtain⟨p,q,hA,hV,rfl,an,ao⟩:=hW
 rw[aa]at hV
 obtain⟨rfl,rfl⟩:=ChangeShapes.trodVars_none hV
 have aj:fn.params.toList=ts:=by rw[au]
 rw[aj]at hA
 rw[Aj]at av aw
 obtain⟨xs,hx,hr,a1⟩:=zN7 (base:=base) hT ts args.toList ds p (by grind) (by grind) hA
 have hlen:ds.length=ts.length:=by
  have: ∀(ts:List TypeId) (ad:List Value) (ds:List (DataW H)) (p:List MemPlace),DataW.TrodAll enc P W 0 (fun _=>true) true ts ad ds p->ds.length=ts.length:=by
   intro ts
   induction ts with
   |nil=>intro ad ds p h;obtain⟨_,rfl,_⟩:=ChangeShapes.trodAll_nil h;rfl
   |cons t ts ih=>intro ad ds p h;obtain⟨_,_,_,a6,_,_,_,rfl,_,_,h2⟩:=ChangeShapes.trodAll_cons h;grind
  grind
 have ae:=hw xs hx (by grind) W (lims W) [] args.toList (xn3 W ah) hr
 have aq:args.toList.toArray=args:=sM
 rw[aq]at ae
 refine ae.mono ?_
 rintro e W' ⟨v,r,L',σ',β',rfl,rfl,_,hm,ar⟩
 have ay:v= .bool true:=zd3 ar
 subst ay
 have ab:RowKit.Below W.heap.size W W':=⟨hm.os,hm.tape,hm.output,hm.size,fun k hk=>(hm.same k hk (by simp[entry,zk0])).1⟩
 have af:=ai.lt
 simp only[B9]at af ai an ao
 have ak:s.fn H ds={results:= [.lit (.bool true)],args:=ds}:=(by grind)
 refine⟨_,rfl,ds,[],p,[],p,[],ai, ?_, ?_, ?_, ?_,fun _=>⟨?_, ?_⟩⟩
 .rw[B9,ak,ag]
  exact ChangeShapes.trodAll_mk1 (RowKit.shut_bool hb _)
 .rw[B9,ak,aj]
  exact zA6 hl ts _ _ _ (by grind) hA (fun x hx=>ab.same (af x hx)) (by grind)
 .rw[B9,ak,aa]
  rfl
 .exact ab.frame _
 .exact RowKit.ok_one ag rfl (RowKit.okWide_bool_mk hb _)
 .rw[aj,ag]
  refine⟨[.lit (.bool true)]++ds,[],p,⟨[]++p,[],ChangeShapes.trodAll_append (zA6 (sp':=fun _=>true) hl ts _ _ _ (by grind) hA (fun x hx=>ab.same (af x hx)) sM) ?_,by rw[aa];rfl,sM, ?_,ao⟩,(by grind)⟩
  .exact ChangeShapes.trodAll_mk1 (RowKit.shut_bool hb _)
  .intro b off hp
   rw[ab.frozen (p:=⟨b,off,none⟩) (af _ hp)]
   exact an b off hp
theorem xA0 {f:FuncId} {fn:Func} {s:ChangeSpec} {apart fresh handsOn again:Bool} (T ts:List TypeId) (tb:TypeId) (af:fn.params=ts.toArray) (ag:fn.resultTypes= #[tb]) (hb:P.underlying tb=some .bool) (hT:okT P T=true) (ah:ts.all (T.contains ·)=true)
  (ai:ts.all (fun t=>P.readableRec t&&decide (t<P.types.size))=true) (hl:laidOutB P=true) (aa:s.vars= [])
  (ab: ∀(H:Type) (ds:List (DataW H)),ds.length=ts.length->s.fn H ds={results:= [.lit (.bool true)],args:=ds})
  (hw: ∀xs,ShpA P ts xs->VCalls P f xs [] fun r _=>r= .bool true) (H:Type) (enc:TypeId×Value->H) (W:World) (base:Nat) (args:Array Value) (ds gs:List (DataW H)) (before:List MemPlace)
  (ae: ∀(j:Nat) t v,fn.params[j]? =some t->args[j]? =some v->Value.okWide P W .any base t v)
  (hW:DataW.Whole enc P fn.params.toList s.vars apart W args.toList ds gs before) (ad:GlobOk W (lims W)):
  Calls P f args W fun e W'=> ∃v,e= .returned v/\s.post enc P fn apart fresh handsOn again W args v W':=
 xm3 T ts tb af ag hb hT ah ai hl aa ab (fun _=>True) (by grind) H enc W base args ds gs before ae hW ad sM
variable {t:TypeId} {vs:List V}
theorem ShpA.cons_inv {ts:List TypeId} {xs:List V} (h:ShpA P (t::ts) xs): ∃vs aa,xs=zN6 P t vs::aa/\Shp P t vs/\ShpA P ts aa:=by
 cases h<;>grind
theorem ShpA.nil_inv {xs:List V} (h:ShpA P [] xs):xs= []:=by cases h;rfl
theorem Shp.int_inv {k:IntKind} (hu:P.underlying t=some (.int k)) (h:Shp P t vs): ∃n,vs= [.int k n]/\(Lit.int k n).wf=true:=by
 cases h<;>grind
theorem Shp.bool_inv (hu:P.underlying t=some .bool) (h:Shp P t vs): ∃b,vs= [.bool b]:=by
 cases h<;>grind
theorem Shp.sl_inv {e:TypeId} (hu:P.underlying t=some (.slice e)) (h:Shp P t vs): ∃rows,vs= [.sl .ro rows]/\rows.length<=maxLen/\ShpR P e rows:=by
 cases h<;>grind
theorem Shp.struct_inv {fs:Array Field} (hu:P.underlying t=some (.struct fs)) (h:Shp P t vs):ShpF P (fs.toList.map (·.type)) vs:=by
 cases h<;>grind
theorem ShpF.cons_inv {ts:List TypeId} (h:ShpF P (t::ts) vs): ∃a b,vs=a++b/\Shp P t a/\ShpF P ts b:=by
 cases h<;>grind
theorem ShpF.nil_inv (h:ShpF P [] vs):vs= []:=by cases h;rfl
theorem ShpR.map_inv {α:Type} {f:α->List V} {ok:α->Prop} (h: ∀r,Shp P t r-> ∃x,r=f x/\ok x): ∀{rows:List (List V)},ShpR P t rows-> ∃xs:List α,rows=xs.map f/\ ∀x∈xs,ok x
 | [],_=>sM
 |r::rows,hr=>by
  cases hr with
  |cons h1 h2=>
   obtain⟨x,rfl,hx⟩:=h r h1
   obtain⟨xs,rfl,aa⟩:=ShpR.map_inv h h2
   exact⟨x::xs,rfl,(by grind)⟩
theorem zW7 {v:V} (h:(match P.underlying t with|some (.struct _)=>false|_=>true)=true):zN6 P t [v]=v:=by
 unfold zN6
 grind
theorem yE1 {n:Int} (h:(Lit.int .i64 n).wf=true): -9223372036854775808<=n/\n<=9223372036854775807:=by
 grind[Lit.wf,IntKind.min,IntKind.max,IntKind.signed,IntKind.bits]
theorem wh4 {n:Int} (h:(Lit.int .u8 n).wf=true):0<=n/\n<=255:=by
 grind[Lit.wf,IntKind.min,IntKind.max,IntKind.signed,IntKind.bits]
end
end Go.Vx
namespace Go.Proofs.YtefbicjgbaaieaaGreat
open Go Go.Vx Go.Proofs.Tryz
@[go_sem] theorem szT_0:szT prog 2=some 1/\szT prog 3=some 1/\szT prog 4=some 1/\szT prog 5=some 1/\szT prog 9=some 1/\szT prog 25=some 1/\szT prog 29=some 1/\szT prog 30=some 1/\szT prog 32=some 3/\szT prog 36=some 1/\szT prog 38=some 3/\szT prog 41=some 1/\szT prog 50=some 2/\szT prog 52=some 2/\szT prog 53=some 1/\szT prog 57=some 3:=by
 and_intros<;>kernel_rfl
@[go_sem] theorem szT_1:szT prog 58=some 1/\szT prog 60=some 2/\szT prog 61=some 1/\szT prog 63=some 3/\szT prog 65=some 1/\szT prog 66=some 1/\szT prog 68=some 2/\szT prog 74=some 1/\szT prog 75=some 1/\szT prog 76=some 1/\szT prog 77=some 1/\szT prog 79=some 6/\szT prog 81=some 15/\szT prog 97=some 1/\szT prog 117=some 4/\szT prog 120=some 7:=by
 and_intros<;>kernel_rfl
@[go_sem] theorem szT_2:szT prog 122=some 7/\szT prog 124=some 1/\szT prog 125=some 1/\szT prog 137=some 1/\szT prog 141=some 11/\szT prog 169=some 1/\szT prog 180=some 4/\szT prog 188=some 3/\szT prog 191=some 2/\szT prog 195=some 1/\szT prog 200=some 3/\szT prog 310=some 2:=by
 and_intros<;>kernel_rfl
@[go_sem] theorem aggT_0:aggT prog 2=some false/\aggT prog 3=some false/\aggT prog 4=some false/\aggT prog 5=some false/\aggT prog 9=some false/\aggT prog 25=some false/\aggT prog 29=some false/\aggT prog 30=some false/\aggT prog 32=some true/\aggT prog 36=some false/\aggT prog 38=some true/\aggT prog 41=some false/\aggT prog 50=some true/\aggT prog 52=some true/\aggT prog 53=some false/\aggT prog 57=some true:=by
 and_intros<;>kernel_rfl
@[go_sem] theorem aggT_1:aggT prog 58=some false/\aggT prog 60=some true/\aggT prog 61=some false/\aggT prog 63=some true/\aggT prog 65=some false/\aggT prog 66=some false/\aggT prog 68=some true/\aggT prog 74=some false/\aggT prog 75=some false/\aggT prog 76=some false/\aggT prog 77=some false/\aggT prog 79=some true/\aggT prog 81=some true/\aggT prog 97=some false/\aggT prog 117=some true/\aggT prog 120=some true:=by
 and_intros<;>kernel_rfl
@[go_sem] theorem aggT_2:aggT prog 122=some true/\aggT prog 124=some false/\aggT prog 125=some false/\aggT prog 137=some false/\aggT prog 141=some true/\aggT prog 169=some false/\aggT prog 180=some true/\aggT prog 188=some true/\aggT prog 191=some true/\aggT prog 195=some false/\aggT prog 200=some true/\aggT prog 310=some true:=by
 and_intros<;>kernel_rfl
@[go_sem] theorem eqK_0:eqK prog 2=0/\eqK prog 3=0/\eqK prog 4=1/\eqK prog 5=0/\eqK prog 9=0/\eqK prog 29=0/\eqK prog 61=3/\eqK prog 63=0/\eqK prog 134=0/\eqK prog 261=0:=by
 and_intros<;>kernel_rfl
@[go_sem] theorem eqS_0:eqS prog 2=none/\eqS prog 3=none/\eqS prog 4=none/\eqS prog 5=none/\eqS prog 9=none/\eqS prog 29=none/\eqS prog 61=none/\eqS prog 63=some [.i .i64,.i .i64,.s]/\eqS prog 134=none/\eqS prog 261=none:=by
 and_intros<;>kernel_rfl
@[go_sem] theorem kdT_0:kdT prog 2=some (.int .i64)/\kdT prog 3=some (.int .i64)/\kdT prog 5=some (.int .u8)/\kdT prog 9=some .str/\kdT prog 133=some .bytes/\kdT prog 134=some (.int .u64)/\kdT prog 261=some (.int .u64):=by
 and_intros<;>kernel_rfl
@[go_sem] theorem zeroT_0:zb0 prog 3=some [.int .i64 0]/\zb0 prog 28=some [.sl .full [],.sl .full [],.sl .full [],.sl .full [],.sl .full [],.sl .full [],.sl .full [],.sl .full []]/\zb0 prog 32=some [.int .i64 0,.int .i64 0,.sl .full []]/\zb0 prog 38=some [.int .i64 0,.int .i64 0,.sl .full []]/\zb0 prog 50=some [.int .i64 0,.sl .full []]/\zb0 prog 52=some [.str [],.str []]/\zb0 prog 55=some [.int .i64 0,.sl .full []]/\zb0 prog 57=some [.str [],.bool false,.str []]/\zb0 prog 60=some [.sl .full [],.int .i64 0]/\zb0 prog 63=some [.int .i64 0,.int .i64 0,.str []]/\zb0 prog 68=some [.sl .full [],.sl .full []]/\zb0 prog 79=some [.int .i64 0,.str [],.int .i64 0,.int .i64 0,.str [],.sl .full []]/\zb0 prog 81=some [.int .i64 0,.str [],.sl .full [],.sl .full [],.sl .full [],.bool false,.int .i64 0,.str [],.int .i64 0,.int .i64 0,.str [],.sl .full [],.str [],.bool false,.int .i64 0]/\zb0 prog 120=some [.int .i64 0,.int .i64 0,.str [],.int .i64 0,.int .i64 0,.str [],.sl .full []]/\zb0 prog 122=some [.str [],.int .i64 0,.str [],.int .i64 0,.int .i64 0,.str [],.sl .full []]/\zb0 prog 127=some [.sl .full [],.sl .full [],.raw (.map none),.raw (.map none),.raw (.map none)]:=by
 and_intros<;>kernel_rfl
@[go_sem] theorem zeroT_1:zb0 prog 141=some [.str [],.sl .full [],.int .i64 0,.int .i64 0,.int .i64 0,.sl .full [],.sl .full [],.sl .full [],.int .i64 0,.int .i64 0,.int .i64 0]/\zb0 prog 174=some [.sl .full [],.int .i64 0,.int .i64 0,.int .i64 0,.int .i64 0]/\zb0 prog 180=some [.int .i64 0,.int .i64 0,.str [],.int .i64 0]/\zb0 prog 191=some [.int .i64 0,.str []]/\zb0 prog 200=some [.int .i64 0,.str [],.sl .full []]/\zb0 prog 310=some [.raw .nilFunc,.raw .nilFunc]:=by
 and_intros<;>kernel_rfl
@[go_sem] theorem lenT_0:lenT prog 9=1/\lenT prog 22=2/\lenT prog 25=2/\lenT prog 30=2/\lenT prog 33=2/\lenT prog 36=2/\lenT prog 41=2/\lenT prog 42=2/\lenT prog 53=2/\lenT prog 58=2/\lenT prog 61=2/\lenT prog 65=2/\lenT prog 66=2/\lenT prog 74=2/\lenT prog 75=2/\lenT prog 76=2:=by
 and_intros<;>kernel_rfl
@[go_sem] theorem lenT_1:lenT prog 77=2/\lenT prog 97=2/\lenT prog 133=2/\lenT prog 137=2/\lenT prog 169=2/\lenT prog 195=2/\lenT prog 201=2:=by
 and_intros<;>kernel_rfl
@[go_sem] theorem strT_0:strT prog 9=true:=kR
@[go_sem] theorem slcT_0:slcT prog 22=some 1/\slcT prog 25=some 2/\slcT prog 30=some 2/\slcT prog 33=some 2/\slcT prog 36=some 15/\slcT prog 41=some 4/\slcT prog 42=some 2/\slcT prog 53=some 3/\slcT prog 58=some 1/\slcT prog 61=some 3/\slcT prog 65=some 1/\slcT prog 66=some 11/\slcT prog 74=some 7/\slcT prog 75=some 1/\slcT prog 76=some 7/\slcT prog 77=some 6:=by
 and_intros<;>kernel_rfl
@[go_sem] theorem slcT_1:slcT prog 97=some 1/\slcT prog 133=some 1/\slcT prog 137=some 3/\slcT prog 169=some 4/\slcT prog 195=some 3/\slcT prog 201=some 2/\slcT prog 378=some 1:=by
 and_intros<;>kernel_rfl
@[go_sem] theorem elT_0:elT prog 25=some (2,32)/\elT prog 30=some (2,32)/\elT prog 33=some (2,32)/\elT prog 36=some (15,216)/\elT prog 42=some (2,32)/\elT prog 53=some (3,40)/\elT prog 58=some (1,24)/\elT prog 61=some (3,32)/\elT prog 65=some (1,8)/\elT prog 66=some (11,160)/\elT prog 74=some (7,88)/\elT prog 75=some (1,24)/\elT prog 76=some (7,96)/\elT prog 77=some (6,80)/\elT prog 97=some (1,16)/\elT prog 133=some (1,1):=by
 and_intros<;>kernel_rfl
@[go_sem] theorem elT_1:elT prog 169=some (4,40)/\elT prog 195=some (3,48)/\elT prog 201=some (2,24)/\elT prog 378=some (1,24):=by
 and_intros<;>kernel_rfl
@[go_sem] theorem arrT_0:arrT prog 26=some (8,1,false):=kR
@[go_sem] theorem plcT_0:plcT prog 28=some [(0,8)]/\plcT prog 32=some [(0,1),(1,1),(2,1)]/\plcT prog 38=some [(0,1),(1,1),(2,1)]/\plcT prog 50=some [(0,1),(1,1)]/\plcT prog 52=some [(0,1),(1,1)]/\plcT prog 55=some [(0,1),(1,1)]/\plcT prog 57=some [(0,1),(1,1),(2,1)]/\plcT prog 60=some [(0,1),(1,1)]/\plcT prog 63=some [(0,1),(1,1),(2,1)]/\plcT prog 68=some [(0,1),(1,1)]/\plcT prog 79=some [(0,1),(1,1),(2,3),(5,1)]/\plcT prog 81=some [(0,1),(1,1),(2,1),(3,1),(4,1),(5,1),(6,6),(12,1),(13,1),(14,1)]/\plcT prog 120=some [(0,1),(1,6)]/\plcT prog 122=some [(0,1),(1,6)]/\plcT prog 127=some [(0,2),(2,1),(3,1),(4,1)]/\plcT prog 141=some [(0,1),(1,1),(2,1),(3,1),(4,1),(5,6)]:=by
 and_intros<;>kernel_rfl
@[go_sem] theorem plcT_1:plcT prog 174=some [(0,1),(1,1),(2,1),(3,1),(4,1)]/\plcT prog 180=some [(0,1),(1,1),(2,1),(3,1)]/\plcT prog 191=some [(0,1),(1,1)]/\plcT prog 200=some [(0,2),(2,1)]/\plcT prog 310=some [(0,1),(1,1)]:=by
 and_intros<;>kernel_rfl
@[go_sem] theorem fldT_0:fldT prog 28 0=some (0,8,true)/\fldT prog 32 0=some (0,1,false)/\fldT prog 32 2=some (2,1,false)/\fldT prog 38 0=some (0,1,false)/\fldT prog 38 1=some (1,1,false)/\fldT prog 38 2=some (2,1,false)/\fldT prog 50 0=some (0,1,false)/\fldT prog 50 1=some (1,1,false)/\fldT prog 52 0=some (0,1,false)/\fldT prog 52 1=some (1,1,false)/\fldT prog 55 0=some (0,1,false)/\fldT prog 55 1=some (1,1,false)/\fldT prog 57 0=some (0,1,false)/\fldT prog 57 1=some (1,1,false)/\fldT prog 57 2=some (2,1,false)/\fldT prog 60 0=some (0,1,false):=by
 and_intros<;>kernel_rfl
@[go_sem] theorem fldT_1:fldT prog 60 1=some (1,1,false)/\fldT prog 63 0=some (0,1,false)/\fldT prog 63 1=some (1,1,false)/\fldT prog 63 2=some (2,1,false)/\fldT prog 68 0=some (0,1,false)/\fldT prog 68 1=some (1,1,false)/\fldT prog 79 0=some (0,1,false)/\fldT prog 79 1=some (1,1,false)/\fldT prog 79 2=some (2,3,true)/\fldT prog 79 3=some (5,1,false)/\fldT prog 81 0=some (0,1,false)/\fldT prog 81 1=some (1,1,false)/\fldT prog 81 2=some (2,1,false)/\fldT prog 81 3=some (3,1,false)/\fldT prog 81 4=some (4,1,false)/\fldT prog 81 5=some (5,1,false):=by
 and_intros<;>kernel_rfl
@[go_sem] theorem fldT_2:fldT prog 81 6=some (6,6,true)/\fldT prog 81 7=some (12,1,false)/\fldT prog 81 8=some (13,1,false)/\fldT prog 81 9=some (14,1,false)/\fldT prog 117 0=some (0,1,false)/\fldT prog 117 1=some (1,1,false)/\fldT prog 117 2=some (2,1,false)/\fldT prog 117 3=some (3,1,false)/\fldT prog 120 0=some (0,1,false)/\fldT prog 120 1=some (1,6,true)/\fldT prog 122 0=some (0,1,false)/\fldT prog 122 1=some (1,6,true)/\fldT prog 127 0=some (0,2,true)/\fldT prog 127 1=some (2,1,false)/\fldT prog 127 2=some (3,1,false)/\fldT prog 127 3=some (4,1,false):=by
 and_intros<;>kernel_rfl
@[go_sem] theorem fldT_3:fldT prog 141 0=some (0,1,false)/\fldT prog 141 1=some (1,1,false)/\fldT prog 141 2=some (2,1,false)/\fldT prog 141 3=some (3,1,false)/\fldT prog 141 4=some (4,1,false)/\fldT prog 174 0=some (0,1,false)/\fldT prog 174 1=some (1,1,false)/\fldT prog 174 2=some (2,1,false)/\fldT prog 174 3=some (3,1,false)/\fldT prog 174 4=some (4,1,false)/\fldT prog 180 0=some (0,1,false)/\fldT prog 180 1=some (1,1,false)/\fldT prog 180 2=some (2,1,false)/\fldT prog 180 3=some (3,1,false)/\fldT prog 188 0=some (0,1,false)/\fldT prog 188 1=some (1,1,false):=by
 and_intros<;>kernel_rfl
@[go_sem] theorem fldT_4:fldT prog 188 2=some (2,1,false)/\fldT prog 191 0=some (0,1,false)/\fldT prog 191 1=some (1,1,false)/\fldT prog 200 0=some (0,2,true)/\fldT prog 200 1=some (2,1,false)/\fldT prog 310 0=some (0,1,false)/\fldT prog 310 1=some (1,1,false):=by
 and_intros<;>kernel_rfl
@[go_sem] theorem zelT_0:zelT prog 65=some [.int .i64 0]/\zelT prog 133=some [.int .u8 0]:=by
 and_intros<;>kernel_rfl
@[go_sem] theorem Tryz.isMapT124:zi3 prog 124=true:=kR
@[go_sem] theorem Tryz.mapT124:mapT prog 124=some (.st [.i .i64,.s],.str []):=kR
@[go_sem] theorem Tryz.isMapT125:zi3 prog 125=true:=kR
@[go_sem] theorem Tryz.mapT125:mapT prog 125=some (.st [.i .i64,.s],.int .i64 0):=kR
@[go_sem] theorem Tryz.isSlT195:yt2 prog 195=true:=kR
theorem cB {P:Program} {f:FuncId} (h:wL P f=true:=by kernel_rfl):wL P f=true:=h
end Go.Proofs.YtefbicjgbaaieaaGreat
namespace Go.Proofs.YtefbicjgbaaieaaGreat
open Go Go.Vx Go.Proofs.Tryz
set_option maxRecDepth 100000
structure GCol where
 name:List UInt8
 kind:Int
 null:Bool
 deriving DecidableEq
@[go_sem] def GCol.row (x:GCol):List V:= [.str x.name,.int .i64 x.kind,.bool x.null]
structure GZone where
 voters:List Int
 witnesses:List Int
 learners:List Int
 elect:Int
 commit:Int
 survive:Int
 deriving DecidableEq
structure GTable where
 name:List UInt8
 cols:List GCol
 key:Int
 place:Int
 region:Int
 zone:GZone
 deriving DecidableEq
@[go_sem] def GTable.row (x:GTable):List V:= [.str x.name,.sl .ro (x.cols.map GCol.row),.int .i64 x.key,.int .i64 x.place,.int .i64 x.region,.sl .ro (x.zone.voters.map (fun n=> [V.int .i64 n])),.sl .ro (x.zone.witnesses.map (fun n=> [V.int .i64 n])),.sl .ro (x.zone.learners.map (fun n=> [V.int .i64 n])),.int .i64 x.zone.elect,.int .i64 x.zone.commit,.int .i64 x.zone.survive]
structure GValue where
 kind:Int
 n:Int
 s:List UInt8
 deriving DecidableEq
@[go_sem] def GValue.row (x:GValue):List V:= [.int .i64 x.kind,.int .i64 x.n,.str x.s]
structure GValue.ok (x:GValue):Prop where
 kind: -9223372036854775808<=x.kind/\x.kind<=9223372036854775807
 n: -9223372036854775808<=x.n/\x.n<=9223372036854775807
 s:x.s.length<=maxLen
inductive GExpr where
 |mk (kind:Int) (s:List UInt8) (v:GValue) (args:List GExpr)
def GExpr.kind:GExpr->Int
 | .mk x _ _ _=>x
def GExpr.s:GExpr->List UInt8
 | .mk _ x _ _=>x
def GExpr.v:GExpr->GValue
 | .mk _ _ x _=>x
def GExpr.args:GExpr->List GExpr
 | .mk _ _ _ x=>x
mutual
def GExpr.row:GExpr->List V
 | .mk a0 a1 a2 a3=> [.int .i64 a0,.str a1,.int .i64 a2.kind,.int .i64 a2.n,.str a2.s,.sl .ro (GExpr.rows a3)]
def GExpr.rows:List GExpr->List (List V)
 | []=> []
 |e::l=>GExpr.row e::GExpr.rows l
end
theorem GExpr.rows_map: ∀l:List GExpr,GExpr.rows l=l.map GExpr.row
 | []=>rfl
 |e::l=>by rw[GExpr.rows,GExpr.rows_map l];rfl
@[go_sem] theorem GExpr.row_eq (x:GExpr):x.row= [.int .i64 x.kind,.str x.s,.int .i64 x.v.kind,.int .i64 x.v.n,.str x.v.s,.sl .ro (x.args.map GExpr.row)]:=by
 cases x
 rw[GExpr.row,GExpr.rows_map]
 rfl
structure GItem where
 kind:Int
 e:GExpr
@[go_sem] def GItem.row (x:GItem):List V:= [.int .i64 x.kind,.int .i64 x.e.kind,.str x.e.s,.int .i64 x.e.v.kind,.int .i64 x.e.v.n,.str x.e.v.s,.sl .ro (x.e.args.map GExpr.row)]
structure GAssign where
 name:List UInt8
 e:GExpr
@[go_sem] def GAssign.row (x:GAssign):List V:= [.str x.name,.int .i64 x.e.kind,.str x.e.s,.int .i64 x.e.v.kind,.int .i64 x.e.v.n,.str x.e.v.s,.sl .ro (x.e.args.map GExpr.row)]
structure GStmt where
 kind:Int
 table:List UInt8
 items:List GItem
 rows:List (List GExpr)
 sets:List GAssign
 filtered:Bool
 where_:GExpr
 order:List UInt8
 down:Bool
 limit:Int
@[go_sem] def GStmt.row (x:GStmt):List V:= [.int .i64 x.kind,.str x.table,.sl .ro (x.items.map GItem.row),.sl .ro (x.rows.map (fun(l:List GExpr)=> [V.sl .ro (l.map GExpr.row)])),.sl .ro (x.sets.map GAssign.row),.bool x.filtered,.int .i64 x.where_.kind,.str x.where_.s,.int .i64 x.where_.v.kind,.int .i64 x.where_.v.n,.str x.where_.v.s,.sl .ro (x.where_.args.map GExpr.row),.str x.order,.bool x.down,.int .i64 x.limit]
structure GLot where
 mode:Int
 n:Int
 stmts:List GStmt
@[go_sem] def GLot.row (x:GLot):List V:= [.int .i64 x.mode,.int .i64 x.n,.sl .ro (x.stmts.map GStmt.row)]
structure GAct where
 what:Int
 a:Int
 b:Int
 c:Int
 deriving DecidableEq
@[go_sem] def GAct.row (x:GAct):List V:= [.int .i64 x.what,.int .i64 x.a,.int .i64 x.b,.int .i64 x.c]
structure GAct.ok (x:GAct):Prop where
 what: -9223372036854775808<=x.what/\x.what<=9223372036854775807
 a: -9223372036854775808<=x.a/\x.a<=9223372036854775807
 b: -9223372036854775808<=x.b/\x.b<=9223372036854775807
 c: -9223372036854775808<=x.c/\x.c<=9223372036854775807
theorem GAct.of_shp {vs:List V} (h:Shp prog 117 vs): ∃x:GAct,vs=x.row/\x.ok:=by
 have h:ShpF prog [3,3,3,3] vs:=h.struct_inv underlying117
 obtain⟨_,_,rfl,h0,h⟩:=h.cons_inv
 obtain⟨_,_,rfl,h1,h⟩:=h.cons_inv
 obtain⟨_,_,rfl,h2,h⟩:=h.cons_inv
 obtain⟨_,_,rfl,h3,h⟩:=h.cons_inv
 obtain rfl:=h.nil_inv
 obtain⟨x0,rfl,w0⟩:=h0.int_inv underlying3
 have w0:=yE1 w0
 obtain⟨x1,rfl,w1⟩:=h1.int_inv underlying3
 have w1:=yE1 w1
 obtain⟨x2,rfl,w2⟩:=h2.int_inv underlying3
 have w2:=yE1 w2
 obtain⟨x3,rfl,w3⟩:=h3.int_inv underlying3
 have w3:=yE1 w3
 exact⟨⟨x0,x1,x2,x3⟩,rfl,⟨w0,w1,w2,w3⟩⟩
end Go.Proofs.YtefbicjgbaaieaaGreat
namespace Go.Vx
open Go
variable {ρ:Nat->Nat}{σ:St}{f:FuncId}{P:Program}{c:Ctx}{caps:List V}{args':List V}{KV:V->St->Prop}
theorem xM6 {j:Nat} (h:j<=9223372036854775807):IntKind.i64.wrap (j:Int)=j:=(by grind[IntWalk.i64_in])
theorem i64_id {n:Int} (h: -9223372036854775808<=n) (h2:n<=9223372036854775807):IntKind.i64.wrap n=n:=(by grind[IntWalk.i64_in])
theorem u64_id {n:Int} (h:0<=n) (h2:n<=18446744073709551615):IntKind.u64.wrap n=n:=by
 grind[IntKind.wrap,IntKind.bits,IntKind.signed]
@[go_sem] theorem i64_lit (n:Nat) (h:n<=9223372036854775807):IntKind.i64.wrap (no_index (OfNat.ofNat n))=OfNat.ofNat n:=by
 rw[show(OfNat.ofNat n:Int)=((n:Nat):Int) from rfl]
 grind[xM6]
@[go_sem] theorem i64_lit0:IntKind.i64.wrap 0=0:=by rfl
@[go_sem] theorem i64_lit1:IntKind.i64.wrap 1=1:=by rfl
theorem zS {i n:Nat} (h:i<n) (hn:n<=9223372036854775807):IntKind.i64.wrap ((i:Int)+1)=((i+1:Nat):Int):=by
 rw[IntWalk.i64_in _ om];rfl
theorem yd6 {α:Type} {f:α->List V} {s:Nat} {l:List α} (h: ∀x,(f x).length=s):uni s (l.map f):=fun r hr=>by
 grind
theorem zX {s:Nat} {r:List V} (h:r.length=s):uni s [r]:=fun x hx=>by grind
theorem xM (k:Nat) {n0:Nat} {R:V->St->Prop} {s:St} {v r:V} (hs:σ.take k=s) (hl:s.length=k) (hok:s.all (ltOb k)=true) (hn:n0<=k) (hr:argS (ren (List.range k) σ.length) r v) (hR:R r s):wret (some v) n0 R σ:=by
 grind[zp7]
def i64R (n:Int):Prop:= -9223372036854775808<=n/\n<=9223372036854775807
instance (n:Int):Decidable (i64R n):=inferInstanceAs (Decidable (_/\_))
@[go_sem] def yQ (n:Int):List V:= [.int .i64 n]
theorem xU {vs' vs:List V} (h:All2 (argA ρ) vs' vs):argS ρ (.tup vs') (.tup vs):= .inr (by grind)
theorem zt5 {g:Tag} {rows:List (List V)}:argA ρ (.sl .ro rows) (.sl g rows):= .inr sM
theorem za1 {v:V} (h:noA v=true):argA ρ v v:= .inl (yB8 h).symm
theorem yX {g:Tag} {rows:List (List V)}:argC ρ (.sl .ro rows) (.sl g rows):= .inr sM
theorem zU {v:V} (h:noC v=true):argC ρ v v:= .inl (zF3 h).symm
theorem zv2 {aa cs:List V} (h:All2 (argC ρ) aa cs):argS ρ (.agg aa) (.agg cs):= .inr (by grind)
theorem zd0 {aa cs:List V} (h:All2 (argC ρ) aa cs):argA ρ (.agg aa) (.agg cs):= .inr (by grind)
theorem xR9 {args:List V} {R:V->Prop} (hc:VCalls P f args' [] fun r s=>R r/\s= []) (hb:wL P f=true) (aa:All2 (argS (ren [] σ.length)) args' (args++caps))
  (hn: ∀r,R r->noS r=true) (hk: ∀r,R r->KV r σ):wVC P c (.fn f caps) args σ KV fx:=by
 refine VC.of hc hb [] Cj rfl sM aa ?_
 rintro r σ' ⟨hR,rfl⟩ _
 grind[zF4,xX,mset]
theorem ya0 {k:Nat} {s:St} (hk:k<=σ.length) (hs:s.length=k) (hok:s.all (ltOb k)=true):xX (List.range k) σ s=s++σ.drop k:=by
 have e1:(s.take (List.range k).length).map (yS (ren (List.range k) σ.length))=s:=by
  grind[wD,wO,ze8]
 have e2:(s.drop (List.range k).length).map (yS (ren (List.range k) σ.length))= []:=by
  grind
 unfold xX
 rw[e1,e2,B9]
 apply Bn
 intro i
 by_cases hi:i<k
 .rw[yd0 (List.range k) σ s i i Br (by grind) (by grind) (by grind),Az om]
 simp_all[zk7,B8]
theorem za4 (k:Nat) {args:List V} {σin:St} {R:V->St->Prop} (hc:VCalls P f args' σin R) (hb:wL P f=true) (hk:σ.take k=σin) (hl:σin.length=k) (hok:σin.all (ltOb k)=true)
  (aa:All2 (argS (ren (List.range k) σ.length)) args' (args++caps)) (hR: ∀r s,R r s->s.length=k/\s.all (ltOb k)=true/\ltS k r=true) (hK: ∀r s,R r s->KV r (s++σ.drop k)):wVC P c (.fn f caps) args σ KV fx:=by
 have ab:k<=σ.length:=by grind
 refine VC.of hc hb (List.range k) Br (by grind) (fun i j o h1 h2=> ?_) aa fun r s h _=> ?_
 .obtain⟨h3,h4⟩:=A6.1 h1
  simp at h3 h4
  subst h4
  have ho:ltOb k o=true:=by
   grind
  rw[wO (n:=k) (by grind[ze8]) ho]
  grind
 grind[yB9,ze8,ya0]
theorem zm2 (i:Nat) {o:Ob} {args:List V} {R:V->St->Prop} (hc:VCalls P f args' [o] R) (hb:wL P f=true) (ho:σ[i]? =some o) (hok:ltOb 0 o=true)
  (aa:All2 (argS (ren [i] σ.length)) args' (args++caps)) (hR: ∀r s,R r s-> ∃o2,s= [o2]/\ltOb 0 o2=true) (hK: ∀r o2,R r [o2]->KV (renS (ren [i] σ.length) r) (σ.set i o2)):wVC P c (.fn f caps) args σ KV fx:=by
 refine xR8 hc hb ho hok aa fun r s h _=> ?_
 obtain⟨o2,rfl,h2⟩:=hR r s h
 have e:xX [i] σ [o2]=σ.set i o2:=by
  simp only[xX,Bf,Cm,List.take_zero,D0,B1,Ai,Bm,mset,B9]
  rw[wO (n:=0) om h2]
 grind
theorem xP3 {i N:Nat}:ren [i] N 0=i:=rfl
attribute [go_sem] renS renA renC renK xP3
section
variable {ρ:Nat->Nat} (hρ: ∀i,ρ i=i)
include hρ
theorem xP2 (v:V):renK ρ v=v:=by
 cases v with
 |sl g rows=>cases g<;>simp[renK,hρ]
 |_=>simp[renK,hρ]
theorem xg5 (v:V):renC ρ v=v:=by
 have h:renK ρ=fun v=>v:=funext (by grind[xP2])
 cases v<;>grind[renC,E3]
theorem xg4 (v:V):renA ρ v=v:=by
 have h:renC ρ=fun v=>v:=funext (by grind[xg5])
 cases v<;>grind[renA,E3]
theorem zz5 (v:V):renS ρ v=v:=by
 have h:renA ρ=fun v=>v:=funext (by grind[xg4])
 cases v<;>grind[renS,E3]
theorem zr6 (o:Ob):yS ρ o=o:=by
 have h:renC ρ=fun v=>v:=funext (by grind[xg5])
 cases o with
 |box cells=>grind[yS,E3]
 |lst rows s=>simp_all[yS]
 |mp kvs borns clk=>
  have h:renA ρ=fun v=>v:=funext (by grind[xg4])
  grind[yS,E3]
 |it m since seen last=>cases m<;>simp[yS,hρ]
 |_=>rfl
end
variable {σ:St}{P:Program}{c:Ctx}{nt:Nat}{Q:QT}{e:Env}{y:Code}
theorem zJ7 {f:FuncId} {caps args args':List V} {KV:V->St->Prop} {R:V->St->Prop} (hc:VCalls P f args' [] R) (hb:wL P f=true)
  (aa:All2 (argS (ren [] 0)) args' (args++caps)) (hK: ∀r s,R r s->KV r s):wVC P c (.fn f caps) args [] KV fx:=by
 have hid: ∀i,ren [] 0 i=i:=(by grind[ren])
 refine VC.of hc hb [] Cj rfl sM aa fun r s h _=> ?_
 have e:xX [] [] s=s:=by
  have h2:yS (ren [] 0)=fun o=>o:=funext (by grind[zr6])
  simp_all[xX,mset]
 show KV (renS (ren [] 0) r) (xX [] [] s)
 grind[zz5]
theorem zc2 {id:Nat} {ops:List Oper} (q:List (Nat×Nat)) (n0:Nat) (hn:n0<=σ.length) (hm:P.follows .mixedOrders=true) (hd:(zA3 ops q&&zc8 ops)=true) (h:wtr P c nt (Kp.pre n0) ops q 0 ops (Q .normal) fx fx fx e σ):wVW P c nt (.region id ops.toArray true) Q fx fx e σ:=by
 simp only[A1]at hd
 obtain⟨tr,ht,hK⟩:=zp6 ops 0 (Q .normal) e σ h
 exact VW.draw (n0:=Kp.pre n0) hm hn hd.1 hd.2 ht hK
theorem za9 {id:Nat} {ops:List Oper} (q:List (Nat×Nat)) (x n0:Nat) (hn:n0<=σ.length) (hm:P.follows .mixedOrders=true) (hd:(zA3 ops q&&zc8 ops)=true) (h:wtr P c nt (Kp.mk x n0 [] none) ops q 0 ops (Q .normal) fx fx fx e σ):wVW P c nt (.region id ops.toArray true) Q fx fx e σ:=by
 simp only[A1]at hd
 obtain⟨tr,ht,hK⟩:=zp6 ops 0 (Q .normal) e σ h
 exact VW.draw (n0:=Kp.mk x n0 [] none) hm hn hd.1 hd.2 ht hK
theorem zo5 (t s:Nat) (h0:0<s) (ht:e t= .sl .full []) (hy:wVW P c nt y Q fx fx (upd e t (.sl (.app σ.length) [])) (σ++ [.app 0 s])):wVW P c nt y Q fx fx e σ:=by
 intro a w L β hs
 have hr:=hs.env t
 rw[ht]at hr
 obtain⟨ad,hx⟩: ∃ad,a.tmps.getD t undef= .slice ad 0 0:=by
  have hr:RdP w L (.sl .full []) (a.tmps.getD t undef):=hr
  generalize a.tmps.getD t undef=x at hr
  cases hr<;>simp_all
 have aa:=Ext.push σ β hs.mem.len (.app 0 s) (.slice ad 0 0)
 refine hy a w L (β++ [.slice ad 0 0]) ⟨hs.mem.own h0,hs.size,hs.defs,fun k=> ?_⟩
 simp only[upd]
 split
 .rename_i hk
  subst hk
  rw[hx]
  exact⟨.sl0 .ro ad 0 om sM,0,s,sM,sM,fun _=>by rw[<-hs.mem.len];simp,sM⟩
 .exact(hs.env k).mono (Le.refl _ _) aa
theorem zJ8 (id off s:Nat) (cells:List V) (h0:0<s) (hσ:σ[id]? =some (.box cells)) (hc:cells[off]? =some (.sl .full []))
  (hy:wVW P c nt y Q fx fx e (σ.set id (.box (cells.set off (.sl (.app σ.length) [])))++ [.app 0 s])):wVW P c nt y Q fx fx e σ:=by
 intro a w L β hs
 obtain⟨x,h1,h2⟩:=xJ9 hs.mem h0 hσ hc
 exact hy a w L (β++ [x]) ⟨h1,hs.size,hs.defs,fun k=>(hs.env k).mono (Le.refl _ _) h2⟩
theorem zM6 (t s:Nat) (h0:0<s) (ht:e t= .sl .full []) (hy:wVW P c nt y Q fx fx (upd e t (.lsv σ.length s 0 0 0)) (σ++ [.lst [] s])):wVW P c nt y Q fx fx e σ:=by
 intro a w L β hs
 have hr:=hs.env t
 rw[ht]at hr
 obtain⟨ad,hx⟩: ∃ad,a.tmps.getD t undef= .slice ad 0 0:=by
  have hr:RdP w L (.sl .full []) (a.tmps.getD t undef):=hr
  generalize a.tmps.getD t undef=x at hr
  cases hr<;>simp_all
 have aa:=Ext.push σ β hs.mem.len (.lst [] s) (.slice ad 0 0)
 refine hy a w L (β++ [.slice ad 0 0]) ⟨hs.mem.lstNil h0,hs.size,hs.defs,fun k=> ?_⟩
 simp only[upd]
 split
 .rename_i hk
  subst hk
  rw[hx]
  exact zR9 (w':=w) (L':=L) (s:=s) (rows:= []) (cap:=0) (a0:=ad) hs.mem.len sM om
 .exact(hs.env k).mono (Le.refl _ _) aa
theorem yL2 {s:St} (h:σ.length<=s.length):xX (List.range σ.length) σ s=s:=by
 have ra: ∀i,ren (List.range σ.length) σ.length i=i:=(by grind[ze8,zs5])
 have hid:yS (ren (List.range σ.length) σ.length)=fun o=>o:=funext (by grind[zr6])
 apply Bn
 intro i
 by_cases hi:i<s.length
 .have:=zu8 (sel:=List.range σ.length) (σc:=σ) (σ':=s) Br (fun q hq=>Ci.1 hq) (sU h) (A0 hi)
  grind
 grind[zu2]
theorem zD2 {f:FuncId} {caps args:List V} {KV:V->St->Prop} {R:V->St->Prop} (hc:VCalls P f (args++caps) σ R) (hb:wL P f=true)
  (hk: ∀r s,R r s->σ.length<=s.length->KV r s):wVC P c (.fn f caps) args σ KV fx:=by
 have ra: ∀i,ren (List.range σ.length) σ.length i=i:=(by grind[ze8,zs5])
 refine VC.of hc hb (List.range σ.length) Br sM (fun i j o hi ho=> ?_) ?_ ?_
 .grind[zr6]
 .have: ∀l:List V,All2 (argS (ren (List.range σ.length) σ.length)) l l:=by
   intro l
   induction l with
   |nil=>trivial
   |cons a l ih=>exact⟨.inl (zz5 ra a).symm,ih⟩
  grind
 grind[zz5,yL2]
theorem yo2 {n0:Nat} {R:V->St->Prop} {r:V} (hn:n0<=σ.length) (hR:R r σ):wret (some r) n0 R σ:=by
 have ra: ∀i,ren (List.range σ.length) σ.length i=i:=(by grind[ze8,zs5])
 refine⟨r,rfl,r,σ,List.range σ.length,σ,r,.refl _ _,⟨sM,Br,fun i j o hi ho=> ?_,(by grind)⟩,.inl (zz5 ra r).symm,hR⟩
 grind[zr6]
section
variable {P:Program} {c:Ctx} {nt:Nat} {n0:Kp}
variable {ops:List Oper}{q:List (Nat×Nat)}{σ:St}{e:Env}{e0:Env}{tr:List (V×St)}{listed:Array Bool}{i:Nat}{o:Oper}{z:List V}
theorem xs6 {Q:Exit->Act->World->Prop} {σ0:St} (hn:n0.n<=σ0.length) (ht:zv1 P c nt n0 ops q 0 ops e0 σ0 tr)
  (B:Nat->Nat->Prop) (sp: ∀{i j:Nat} {x y:Oper},i<j->ops[i]? =some x->ops[j]? =some y->zM8 ops q i j x y=false∨B i j)
  {a:Act} {w:World} {L:Nat->Nat} {β:List Value} (aa:ops[i]? =some o) (au:listed.getD i false=false) (a6:i<listed.size)
  (ahead: ∀{k:Nat},k≠i->B k i->listed.getD k false=true) (zf8: ∀{k:Nat},B i k->listed.getD k false=false) (a7: ∀{k j:Nat},B k j->listed.getD j false=true->listed.getD k false=true)
  (hs:Sim c nt (fE (fun i=>listed.getD i false) 0 ops tr e0) (fS (fun i=>listed.getD i false) q 0 ops tr σ0) a w L β) {next:Act->World->Prop}
  (a8: ∀a' w' L' β',Sim c nt (fE (fun k=>(listed.setIfInBounds i true).getD k false) 0 ops tr e0) (fS (fun k=>(listed.setIfInBounds i true).getD k false) q 0 ops tr σ0) a' w' L' β'->next a' w'):
  if Region.wanted o (yielded ops.toArray a.tmps)then o.wp P a w next Q∨(o.asks P a w/\LetsOut Q)else next (a.put o.dst undef) w:=by
 have aj: ∀k,k≠i->(listed.setIfInBounds i true).getD k false=listed.getD k false:=fun k hk=>getD_set_ne false (fun q=>hk q.symm)
 have av:(listed.setIfInBounds i true).getD i false=true:=by simp[Array.getD,a6]
 obtain⟨al,aA⟩:=zC9 ops q ops tr 0 e0 σ0 ht
 obtain⟨v,σ',aw,ag⟩:=aA i o aa
 rw[Ae]at ag
 have ax: ∀t∈zw0 ops o,fE (fun i=>listed.getD i false) 0 ops tr e0 t=fE (fun j=>decide (j<i)) 0 ops tr e0 t:=by
  intro t al
  refine ze2 _ _ t ops tr 0 e0 e0 rfl fun k o' hk ad=> ?_
  rw[Ae]
  rcases Bc k i with ab|ab|ab
  .rw[decide_eq_true ab]
   rcases sp ab hk aa with hc|hb
   .exact absurd al ((yT hc).2.1 t ad).1
   .exact ahead om hb
  .subst ab;rw[au];simp
  .rw[decide_eq_false om]
   rcases sp ab aa hk with hc|hb
   .exact absurd al ((yT hc).2.2 t ad)
   .exact zf8 hb
 have ak:2<=zT q i o->fS (fun i=>listed.getD i false) q 0 ops tr σ0=fS (fun j=>decide (j<i)) q 0 ops tr σ0:=by
  intro af
  refine zi2 _ _ q ops tr 0 σ0 fun k o' hk ad=> ?_
  rw[Ae]at ad⊢
  rcases Bc k i with ab|ab|ab
  .rw[decide_eq_true ab]
   rcases sp ab hk aa with hc|hb
   .have:=(yT hc).1
    rw[zn0 ad (wC _ _ _) af (wC _ _ _)]at this
    cases this
   .exact ahead om hb
  .subst ab;rw[au];simp
  .rw[decide_eq_false om]
   rcases sp ab aa hk with hc|hb
   .have:=(yT hc).1
    rw[zE4,zn0 ad (wC _ _ _) af (wC _ _ _)]at this
    cases this
   .exact zf8 hb
 have ay:zT q i o=1->n0.of (fS (fun i=>listed.getD i false) q 0 ops tr σ0)=n0.of (fS (fun j=>decide (j<i)) q 0 ops tr σ0):=by
  intro az
  have pre: ∀N,N<=ops.length-> ∃m,m<=N/\ ∀k o',k<N->ops[k]? =some o'->3<=zT q k o'->listed.getD k false=decide (k<m):=by
   intro N
   induction N with
   |zero=>exact fun _=>⟨0,A4 _,fun k o' h=>om⟩
   |succ N aB=>
    intro hN
    obtain⟨m,hm,ae⟩:=aB om
    have a1:=A0 (show N<ops.length by omega)
    by_cases hw:3<=zT q N (ops[N]'om)/\listed.getD N false=true
    .refine⟨N+1,A4 _,fun k o' hk ah h3=> ?_⟩
     rw[decide_eq_true hk]
     by_cases an:k=N
     .subst an;exact hw.2
     .rcases sp (show k<N by omega) ah a1 with hc|hb
      .have:=(yT hc).1
       rw[zn0 h3 (wC _ _ _) om (wC _ _ _)]at this
       cases this
      .exact a7 hb hw.2
    .refine⟨m,om,fun k o' hk ah h3=> ?_⟩
     by_cases an:k=N
     .subst an
      rw[a1]at ah;cases ah
      rw[decide_eq_false om]
      cases hl:listed.getD k false with
      |false=>rfl
      |true=>exact absurd ⟨h3,hl⟩ hw
     .exact ae k o' om ah h3
  obtain⟨m,hm,ae⟩:=pre ops.length (A4 _)
  have e1:fS (fun i=>listed.getD i false) q 0 ops tr σ0=fS (fun x=>decide (x<m)) q 0 ops tr σ0:=
   zi2 _ _ q ops tr 0 σ0 fun k o' hk h3=>by
    rw[Ae]at h3⊢
    exact ae k o' (A6.1 hk).1 hk h3
  rw[e1]
  have aD:i<ops.length:=(A6.1 aa).1
  rcases Nat.le_total m i with aC|aC
  .have:=(yZ9 ht hn (i - m) m om (fun k o' h5 h6 hk h4=>by
    have h7:=ae k o' (A6.1 hk).1 hk om
    rw[decide_eq_false om]at h7
    rcases sp (show k<i by omega) hk aa with hc|hb
    .have:=(yT hc).1
     rw[h4,az,zE5 dc]at this
     cases this
    .rw[ahead om hb]at h7;cases h7)).2
   rw[show m+(i - m)=i by omega]at this
   grind
  .have:=(yZ9 ht hn (m - i) i om (fun k o' h5 h6 hk h4=>by
    have h7:=ae k o' (A6.1 hk).1 hk om
    rw[decide_eq_true om]at h7
    have ab:k≠i:=fun qq=>by
     subst qq
     rw[hk]at aa;cases aa
     omega
    rcases sp (show i<k by omega) aa hk with hc|hb
    .have:=(yT hc).1
     rw[zE4,h4,az,zE5 dc]at this
     cases this
    grind)).2
   rw[show i+(m - i)=m by omega]at this
   omega
 refine zT8 (ops:=ops) (Q:=Q) (next:=next) o hs (ag.step ax ak ay) ?_
 rintro e' s' a' w' L' β' aE ⟨rfl,rfl⟩
 have e1:updO (fE (fun i=>listed.getD i false) 0 ops tr e0) o.dst v=fE (fun k=>(listed.setIfInBounds i true).getD k false) 0 ops tr e0:=by
  funext t
  by_cases ai:o.dst=some t
  .rw[zn1 _ _ _ _ ai]
   refine(zE1 _ t ops tr 0 i e0 o v σ' aa aw ai (by rw[Ae];exact av) fun k' o' ao aq ar=> ?_).symm
   rw[Ae,aj k' om]
   rcases sp ao aa aq with hc|hb
   .exact absurd ar ((yT hc).2.1 t ai).2
   .exact zf8 hb
  .rw[zi4 _ _ _ _ ai]
   refine ze2 _ _ t ops tr 0 e0 e0 rfl fun k o' hk ad=> ?_
   rw[Ae]
   refine(aj k fun q=> ?_).symm
   subst q
   rw[aa]at hk;cases hk
   exact ai ad
 have e2:(if 3<=zT q i o then σ' else fS (fun i=>listed.getD i false) q 0 ops tr σ0)=fS (fun k=>(listed.setIfInBounds i true).getD k false) q 0 ops tr σ0:=by
  split
  .rename_i af
   refine(zL0 _ q ops tr 0 i σ0 o v σ' aa aw (by rw[Ae];exact af) (by rw[Ae];exact av) fun k' o' ao aq ar=> ?_).symm
   rw[Ae]at ar⊢
   rw[aj k' om]
   rcases sp ao aa aq with hc|hb
   .have:=(yT hc).1
    rw[zn0 af (wC _ _ _) om (wC _ _ _)]at this
    cases this
   grind
  .rename_i af
   refine zi2 _ _ q ops tr 0 σ0 fun k o' hk ad=> ?_
   rw[Ae]at ad⊢
   refine(aj k fun q=> ?_).symm
   subst q
   rw[aa]at hk;cases hk
   exact af ad
 grind
theorem xw1 (B:Nat->Nat->Prop) (sp: ∀{i j:Nat} {x y:Oper},i<j->ops[i]? =some x->ops[j]? =some y->zM8 ops q i j x y=false∨B i j)
  (ab:ops[i]? =some o) (af:listed.getD i false=false)
  (ahead: ∀{k:Nat},k≠i->B k i->listed.getD k false=true) (zf8: ∀{k:Nat},B i k->listed.getD k false=false):
  ∀t∈zw0 ops o,fE (fun i=>listed.getD i false) 0 ops tr e0 t=fE (fun j=>decide (j<i)) 0 ops tr e0 t:=by
 intro t ad
 refine ze2 _ _ t ops tr 0 e0 e0 rfl fun k o' hk ae=> ?_
 rw[Ae]
 rcases Bc k i with aa|aa|aa
 .rw[decide_eq_true aa]
  rcases sp aa hk ab with hc|hb
  .exact absurd ad ((yT hc).2.1 t ae).1
  grind
 .grind
 .rw[decide_eq_false om]
  rcases sp aa ab hk with hc|hb
  .exact absurd ad ((yT hc).2.2 t ae)
  grind
theorem xw0 (B:Nat->Nat->Prop) (sp: ∀{i j:Nat} {x y:Oper},i<j->ops[i]? =some x->ops[j]? =some y->zM8 ops q i j x y=false∨B i j)
  {v:V} {σ':St} (ab:ops[i]? =some o) (ad:tr[i]? =some (v,σ')) (ai:i<listed.size) (zf8: ∀{k:Nat},B i k->listed.getD k false=false):
  updO (fE (fun i=>listed.getD i false) 0 ops tr e0) o.dst v=fE (fun k=>(listed.setIfInBounds i true).getD k false) 0 ops tr e0:=by
 have ae: ∀k,k≠i->(listed.setIfInBounds i true).getD k false=listed.getD k false:=fun k hk=>getD_set_ne false om
 have aj:(listed.setIfInBounds i true).getD i false=true:=by simp_all
 funext t
 by_cases aa:o.dst=some t
 .rw[zn1 _ _ _ _ aa]
  refine(zE1 _ t ops tr 0 i e0 o v σ' ab ad aa (by grind) fun k' o' af ag ah=> ?_).symm
  rw[Ae,ae k' om]
  rcases sp af ab ag with hc|hb
  .exact absurd ah ((yT hc).2.1 t aa).2
  grind
 .rw[zi4 _ _ _ _ aa]
  refine ze2 _ _ t ops tr 0 e0 e0 rfl fun k o' hk ak=> ?_
  grind
theorem xT8 {n:Nat} (D:Nat->Bool): ∀(os:List Oper) (tr:List (V×St)) (i:Nat) (e:Env),(∀t,ltS n (e t)=true)->(∀(k:Nat) v s,tr[k]? =some (v,s)->D (i+k)=true->ltS n v=true)-> ∀t,ltS n (fE D i os tr e t)=true
 | [],_,_,_,h,_=>by simpa
 |o::os,[],_,_,h,_=>by simpa
 |o::os,(v,s)::tr,i,e,h,hv=>by
  rw[fE]
  refine xT8 D os tr (i+1) _ (fun t=> ?_) (fun k v' s' hk hD=>hv (k+1) v' s' (by grind) (by grind))
  split
  .rename_i ab
   by_cases aa:o.dst=some t
   .rw[zn1 _ _ _ _ aa];exact hv 0 v s rfl om
   grind[zi4]
  grind
theorem Sim.pick {e e':Env} {σ s:St} {a:Act} {w:World} {L:Nat->Nat} {β:List Value} {pick:List Nat} (h:Sim c nt e σ a w L β) (hp:Picks c.σ0.length pick σ s) (hc:c.β0.length=c.σ0.length) (he: ∀t,argS (ren pick σ.length) (e' t) (e t)):
  ∃β',Sim c nt e' s a w L β':=
 ⟨_,h.mem.pick hp hc,h.size,h.defs,fun t=>zx9 (hp.bak h.mem.len) (he t) (h.env t)⟩
theorem yW2 {n0:Nat} (hn:n0<=σ.length) (aa:σ.all (ltOb σ.length)=true) (hz:z.all noC=true):
  Picks n0 (List.range σ.length++ [σ.length+1,σ.length]) (σ++ [.box z,.box z]) (σ++ [.box z,.box z]):=by
 have hb: ∀ρ,yS ρ (.box z)= .box z:=(by grind[yS,wD,zF3])
 have hr: ∀i,i<σ.length->ren (List.range σ.length++ [σ.length+1,σ.length]) (σ++ [Ob.box z,Ob.box z]).length i=i:=(by grind[wT])
 refine⟨sM, ?_,fun i j o hi ho=> ?_,fun i hi=> ?_⟩
 .grind
 .by_cases h1:i<σ.length
  .rw[Az (by grind),List.getElem?_range h1]at hi
   cases hi
   rw[Az h1]at ho
   have h2:ltOb σ.length o=true:=(by grind)
   grind[wO]
  .rw[B8 (by grind)]at hi
   grind
 grind
theorem ye4 {Q:Exit->Act->World->Prop} {next:Act->World->Prop} {a:Act} {w:World} {L:Nat->Nat} {β:List Value} {d:Tmp} {t ty:TypeId} {pos:String} {aft:Array Edge}
  (hz:zb0 P t=some z) (hd:d<nt) (h:Sim c nt e σ a w L β) (hn: ∀a' w' L' β',Sim c nt (upd e d (.ptr σ.length 0)) (σ++ [.box z]) a' w' L' β'->next a' w'):
  if Region.wanted (⟨some d,.alloc t,ty,pos,aft,none⟩:Oper) (yielded ops.toArray a.tmps)then(⟨some d,.alloc t,ty,pos,aft,none⟩:Oper).wp P a w next Q∨((⟨some d,.alloc t,ty,pos,aft,none⟩:Oper).asks P a w/\LetsOut Q)else next (a.put (some d) undef) w:=by
 refine zT8 (ops:=ops) (Q:=Q) (next:=next) ⟨some d,.alloc t,ty,pos,aft,none⟩ (K:=fun e' s'=>e'=upd e d (.ptr σ.length 0)/\s'=σ++ [.box z]) h ?_ ?_
 .have aa:xR P (some d) e σ (.alloc t)= .st (.ptr σ.length 0) (σ++ [.box z]):=by
   have h1:evOp P e σ (.alloc t)= .st (.ptr σ.length 0) (σ++ [.box z]):=by grind[evOp,zl3]
   have h2:za5 P e σ (.alloc t)=evOp P e σ (.alloc t):=rfl
   grind[xR]
  show vfin nt (some d) (xR P (some d) e σ (.alloc t)) _ e σ
  rw[aa]
  trivial
 grind
theorem xJ8 {Q:Exit->Env->St->Prop} {σ0:St} {p dA dB:Nat} {t tA tB:TypeId} {aC aD:String} {aA aB:Array Edge}
  (hn:n0.n<=σ0.length) (bb:c.σ0.length<=σ0.length) (bc:c.β0.length=c.σ0.length)
  (hA:ops[p]? =some ⟨some dA,.alloc t,tA,aC,aA,none⟩) (hB:ops[p+1]? =some ⟨some dB,.alloc t,tB,aD,aB,none⟩) (bd:dA≠dB)
  (b4:zT q p ⟨some dA,.alloc t,tA,aC,aA,none⟩=3) (b5:zT q (p+1) ⟨some dB,.alloc t,tB,aD,aB,none⟩=3) (hz:zb0 P t=some z) (bf:z.all noC=true)
  (ay: ∀(k:Nat) o,k<p->ops[k]? =some o->zT q k o<2/\dA∉zw0 ops o/\dB∉zw0 ops o/\o.dst≠some dA/\o.dst≠some dB)
  (aQ: ∀(k:Nat) o,p+1<k->ops[k]? =some o->p∈(befs ops []).getD k []/\(p+1)∈(befs ops []).getD k [])
  (hd: ∀{i j:Nat} {x y:Oper},i<j->ops[i]? =some x->ops[j]? =some y->zM8 ops q i j x y=false∨(i∈(befs ops []).getD j []∨(i=p/\j=p+1))) (aH:zc8 ops=true)
  (bg:σ0.all (ltOb σ0.length)=true) (h0: ∀s,ltS σ0.length (e0 s)=true) (hv: ∀(k:Nat) v s,k<p->tr[k]? =some (v,s)->ltS σ0.length v=true)
  (ht:zv1 P c nt n0 ops q 0 ops e0 σ0 tr) (hQ:Q .normal (fE (fun _=>true) 0 ops tr e0) (fS (fun _=>true) q 0 ops tr σ0)):
  ∀(fuel:Nat) (listed:Array Bool) (a:Act) (w:World) (L:Nat->Nat) (β:List Value),listed.size=ops.length->listed.toList.count false=fuel->
   (∀(j:Nat) o,ops[j]? =some o->listed.getD j false=true-> ∀e∈o.after.toList,Region.binds .any e=true->listed.getD e.on false=true)->
   ((listed.getD (p+1) false=true->listed.getD p false=true)/\Sim c nt (fE (fun i=>listed.getD i false) 0 ops tr e0) (fS (fun i=>listed.getD i false) q 0 ops tr σ0) a w L β∨
    (listed.getD (p+1) false=true/\listed.getD p false=false)/\Sim c nt (upd (fE (fun i=>listed.getD i false) 0 ops tr e0) dB (.ptr σ0.length 0)) (σ0++ [.box z]) a w L β)->
   wpAny P .any ops.toArray (Lift c nt Q) fuel listed a w:=by
 obtain⟨b6,aI⟩:=zC9 ops q ops tr 0 e0 σ0 ht
 have b7:p+1<ops.length:=(A6.1 hB).1
 have bh:fS (fun j=>decide (j<p)) q 0 ops tr σ0=σ0:=zy7 _ q ops tr 0 σ0 fun k o hk h3=>by
  rw[Ae]at h3⊢
  by_cases al:k<p
  .have:=(ay k o al hk).1;omega
  .simp;omega
 have aR: ∀(e:Env) (σ:St) (d:Tmp),xR P (some d) e σ (.alloc t)= .st (.ptr σ.length 0) (σ++ [.box z]):=fun e σ d=>by
  have h1:evOp P e σ (.alloc t)= .st (.ptr σ.length 0) (σ++ [.box z]):=by simp only[evOp,zl3,hz]
  have h2:za5 P e σ (.alloc t)=evOp P e σ (.alloc t):=rfl
  unfold xR
  rw[h2,h1];simp
 have fact: ∀{k d tt ps af E S v s'},Fact P c nt n0 ops q k ⟨some d,.alloc t,tt,ps,af,none⟩ E S v s'->v= .ptr S.length 0/\s'=S++ [.box z]/\d<nt:=by
  intro k d tt ps af E S v s' hf
  obtain⟨bj,_,_,_,g,hg,hb⟩:=hf
  simp only at hg
  subst hg
  simp only[if_true]at hb
  obtain⟨_,_,_,hb⟩:=hb
  rw[aR]at hb
  rcases hb with ⟨hr,_⟩|⟨_,hr,_⟩|⟨_,hr|⟨_,hr,_⟩⟩
  .cases hr
  .cases hr
  .cases hr;exact⟨rfl,rfl,bj d rfl⟩
  .cases hr
 obtain⟨vA,sA,aE,aS⟩:=aI p _ hA
 rw[Ae,bh]at aS
 obtain⟨rfl,rfl,bk⟩:=fact aS
 have bm:fS (fun j=>decide (j<p+1)) q 0 ops tr σ0=σ0++ [.box z]:=
  zL0 _ q ops tr 0 p σ0 _ _ _ hA aE (by rw[Ae];omega) sM fun k' o' ao _ _=>by simp;omega
 obtain⟨vB,sB,aq,aT⟩:=aI (p+1) _ hB
 rw[Ae,bm]at aT
 obtain⟨rfl,rfl,bn⟩:=fact aT
 simp only[Ak,Bf,Cw,List.singleton_append]at aq
 have fin: ∀(listed:Array Bool) (a:Act) (w:World) (L:Nat->Nat) (β:List Value),Sim c nt (fE (fun i=>listed.getD i false) 0 ops tr e0) (fS (fun i=>listed.getD i false) q 0 ops tr σ0) a w L β->
   (∀i,i<ops.length->listed.getD i false=true)->Lift c nt Q .normal a w:=by
  intro listed a w L β hs aj
  have e1:fE (fun i=>listed.getD i false) 0 ops tr e0=fE (fun _=>true) 0 ops tr e0:=by
   funext t
   exact ze2 _ _ t ops tr 0 e0 e0 rfl fun k o hk _=>by rw[Ae];exact aj k (A6.1 hk).1
  have e2:fS (fun i=>listed.getD i false) q 0 ops tr σ0=fS (fun _=>true) q 0 ops tr σ0:=
   zi2 _ _ q ops tr 0 σ0 fun k o hk _=>by rw[Ae];exact aj k (A6.1 hk).1
  rw[e1,e2]at hs
  exact⟨_,_,L,β,hs,hQ⟩
 have ar: ∀(listed:Array Bool),listed.size=ops.length->Region.ready .any ops.toArray listed= []-> ∀i,i<ops.length->listed.getD i false=true:=by
  intro listed an hr i
  induction i using Nat.strongRecOn with
  |ind i ih=>
   intro hi
   cases az:listed.getD i false with
   |true=>rfl
   |false=>
    exfalso
    have hm:i∈Region.ready .any ops.toArray listed:=by
     refine mem_ready.2 ⟨?_,ops[i],by simp[hi],fun e he hb=> ?_⟩
     .have aa:i<listed.size:=om
      simpa[Array.getD,aa]using az
     .unfold zc8 at aH
      simp only[Aj,Ci]at aH
      have:=aH i hi
      rw[A0 hi]at this
      simp only[Ce]at this
      have:=this e he
      simp only[hb,Bool.not_true,Bx,decide_eq_true_eq]at this
      exact ih e.on this om
    rw[hr]at hm
    cases hm
 intro fuel
 induction fuel with
 |zero=>
  intro listed a w L β an aU au hs
  have aj: ∀i,i<ops.length->listed.getD i false=true:=by
   intro i hi
   have aa:i<listed.size:=om
   cases az:listed[i]with
   |true=>simp[Array.getD,aa,az]
   |false=>
    exfalso
    have:false∈listed.toList:=by
     rw[<-az];simp
    have:=List.count_pos_iff.2 this
    omega
  rcases hs with ⟨_,hs⟩|⟨⟨_,hp⟩,_⟩
  .refine⟨?_,fin listed a w L β hs aj⟩
   cases hr:Region.ready .any ops.toArray listed with
   |nil=>rfl
   |cons i l=>
    exfalso
    have hm:i∈Region.ready .any ops.toArray listed:=by rw[hr];simp
    obtain⟨h1,o,ho,_⟩:=mem_ready.1 hm
    have hi:i<ops.length:=(A6.1 (sU ho)).1
    have:=aj i hi
    have aa:i<listed.size:=om
    simp[Array.getD,aa]at this h1
    rw[this]at h1
    cases h1
  .rw[aj p om]at hp;cases hp
 |succ fuel ih=>
  intro listed a w L β an aU au hs
  refine⟨fun hr=> ?_,fun i hi=> ?_⟩
  .rcases hs with ⟨_,hs⟩|⟨⟨_,hp⟩,_⟩
   .exact fin listed a w L β hs (ar listed an hr)
   .rw[ar listed an hr p om]at hp;cases hp
  obtain⟨h1,o,ho,aJ⟩:=mem_ready.1 hi
  have ab:ops[i]? =some o:=sU ho
  have b8:i<ops.length:=(A6.1 ab).1
  have aa:i<listed.size:=om
  have ag:listed.getD i false=false:=by
   simp[Array.getD,aa]at h1⊢;exact h1
  have ad: ∀k,k≠i->(listed.setIfInBounds i true).getD k false=listed.getD k false:=fun k hk=>getD_set_ne false (fun q=>hk q.symm)
  have a1:(listed.setIfInBounds i true).getD i false=true:=by simp[Array.getD,aa]
  have aF: ∀(j:Nat) o,ops[j]? =some o->(listed.setIfInBounds i true).getD j false=true-> ∀e∈o.after.toList,Region.binds .any e=true->(listed.setIfInBounds i true).getD e.on false=true:=by
   intro j o' hj aV e he hb
   by_cases aW:j=i
   .subst aW
    rw[ab]at hj
    cases hj
    exact getD_set_true (aJ e (sU he) hb)
   .rw[ad j aW]at aV
    exact getD_set_true (au j o' hj aV e he hb)
  have ahead: ∀{k:Nat},k≠i->k∈(befs ops []).getD i []->listed.getD k false=true:=fun{k} hk hb=>by
   have:=zh7 (D:=fun j=>(listed.setIfInBounds i true).getD j false) aF hb a1
   rwa [ad k hk]at this
  have zf8: ∀{k:Nat},i∈(befs ops []).getD k []->listed.getD k false=false:=fun{k} hb=>by
   cases hk:listed.getD k false with
   |false=>rfl
   |true=>
    have:=zh7 (D:=fun j=>listed.getD j false) au hb hk
    rw[ag]at this;cases this
  have a6:(listed.setIfInBounds i true).toList.count false=fuel:=by
   have:=yr3 (l:=listed) (i:=i) (by
    rw[B0 aa]
    have:=ag
    simp[Array.getD,aa]at this
    rw[this])
   omega
  have next:=fun a' w' L' β' h=>ih (listed.setIfInBounds i true) a' w' L' β' (sU an) a6 aF h
  unfold wpOp
  rw[ho]
  show if Region.wanted o (yielded ops.toArray a.tmps)then o.wp P a w (wpAny P .any ops.toArray (Lift c nt Q) fuel (listed.setIfInBounds i true)) (Lift c nt Q)∨_ else _
  have only:listed.getD p false=false-> ∀k,p+1<k->listed.getD k false=false:=fun hp k hk=>by
   cases hl:listed.getD k false with
   |false=>rfl
   |true=>
    have bo:k<ops.length:=by
     rcases C1 k ops.length with h|h
     .exact h
     .exfalso;simp[Array.getD,an,Nat.not_lt.2 h]at hl
    have:=zh7 (D:=fun j=>listed.getD j false) au (aQ k _ hk (A0 bo)).1 hl
    rw[hp]at this;cases this
  have bp:(i≠p+1∨listed.getD p false=true)->(listed.getD (p+1) false=true->listed.getD p false=true)->Sim c nt (fE (fun i=>listed.getD i false) 0 ops tr e0) (fS (fun i=>listed.getD i false) q 0 ops tr σ0) a w L β->
    if Region.wanted o (yielded ops.toArray a.tmps)then o.wp P a w (wpAny P .any ops.toArray (Lift c nt Q) fuel (listed.setIfInBounds i true)) (Lift c nt Q)∨(o.asks P a w/\LetsOut (Lift c nt Q))else wpAny P .any ops.toArray (Lift c nt Q) fuel (listed.setIfInBounds i true) (a.put o.dst undef) w:=by
   intro ae hinv hs
   refine xs6 hn ht (fun i j=>i∈(befs ops []).getD j []∨(i=p/\j=p+1)) (fun h1 h2 h3=>hd h1 h2 h3) ab ag aa ?_ ?_ ?_ hs fun a' w' L' β' ai=>next a' w' L' β' (.inl ⟨?_,ai⟩)
   .rintro k hk (hb|⟨rfl,rfl⟩)
    .exact ahead hk hb
    .rcases ae with h|h
     .exact absurd rfl h
     .exact h
   .rintro k (hb|⟨rfl,rfl⟩)
    .exact zf8 hb
    .cases hl:listed.getD (i+1) false with
     |false=>rfl
     |true=>rw[hinv hl]at ag;cases ag
   .rintro k j (hb|⟨rfl,rfl⟩) hj
    .exact zh7 (D:=fun j=>listed.getD j false) au hb hj
    .exact hinv hj
   .intro h
    by_cases av:i=p
    .subst av;exact a1
    .rw[ad p (fun q=>av q.symm)]
     by_cases aG:i=p+1
     .rcases ae with h'|h'
      .exact absurd aG h'
      .exact h'
     .rw[ad (p+1) (fun q=>aG q.symm)]at h
      exact hinv h
  rcases hs with ⟨hinv,hs⟩|⟨⟨a7,a8⟩,hs⟩
  .by_cases ae:i=p+1/\listed.getD p false=false
   ·
    obtain⟨rfl,hp⟩:=ae
    rw[hB]at ab;cases ab
    have aX:fS (fun i=>listed.getD i false) q 0 ops tr σ0=σ0:=zy7 _ q ops tr 0 σ0 fun k o hk h3=>by
     rw[Ae]at h3⊢
     rcases Bc k p with al|rfl|al
     .have:=(ay k o al hk).1;omega
     .exact hp
     .by_cases aw:k=p+1
      .subst aw;exact ag
      .exact only hp k om
    rw[aX]at hs
    refine ye4 (ops:=ops) (Q:=Lift c nt Q) (next:=wpAny P .any ops.toArray (Lift c nt Q) fuel (listed.setIfInBounds (p+1) true)) hz bn hs fun a' w' L' β' ai=>next a' w' L' β' (.inr ⟨⟨a1,by rw[ad p om];exact hp⟩, ?_⟩)
    have:upd (fE (fun i=>(listed.setIfInBounds (p+1) true).getD i false) 0 ops tr e0) dB (.ptr σ0.length 0)=upd (fE (fun i=>listed.getD i false) 0 ops tr e0) dB (.ptr σ0.length 0):=by
     funext s
     simp only[upd]
     split
     .rfl
     .rename_i bq
      refine ze2 _ _ s ops tr 0 e0 e0 rfl fun k o hk ax=> ?_
      rw[Ae]
      refine ad k fun e=> ?_
      subst e
      rw[hB]at hk;cases hk
      exact bq (Option.some.inj ax).symm
    grind
   .exact bp (by
     by_cases h:i=p+1
     .right
      cases hl:listed.getD p false with
      |true=>rfl
      |false=>exact absurd ⟨h,hl⟩ ae
     .exact .inl h) hinv hs
  ·
   by_cases av:i=p
   .subst av
    rw[hA]at ab;cases ab
    refine ye4 (ops:=ops) (Q:=Lift c nt Q) (next:=wpAny P .any ops.toArray (Lift c nt Q) fuel (listed.setIfInBounds i true)) hz bk hs fun a' w' L' β' ai=> ?_
    have hlen:(σ0++ [Ob.box z]).length=σ0.length+1:=sM
    rw[hlen,Cw,List.singleton_append]at ai
    have aK: ∀k,i+1<k->(listed.setIfInBounds i true).getD k false=false:=fun k hk=>by rw[ad k om];exact only a8 k hk
    have b9:fS (fun k=>(listed.setIfInBounds i true).getD k false) q 0 ops tr σ0=σ0++ [.box z,.box z]:=
     zL0 _ q ops tr 0 (i+1) σ0 _ _ _ hB aq (by rw[Ae];omega) (by rw[Ae,ad (i+1) om];exact a7) fun k' o' ao _ _=>by rw[Ae];exact aK k' ao
    have br:fE (fun k=>(listed.setIfInBounds i true).getD k false) 0 ops tr e0 dA= .ptr σ0.length 0:=
     zE1 _ dA ops tr 0 i e0 _ _ _ hA aE rfl (by rw[Ae];exact a1) fun k' o' ao aL aY=>by
      rw[Ae]
      by_cases aw:k'=i+1
      .subst aw
       rw[hB]at aL;cases aL
       exact absurd (Option.some.inj aY).symm bd
      .exact aK k' om
    have bt:fE (fun k=>(listed.setIfInBounds i true).getD k false) 0 ops tr e0 dB= .ptr (σ0.length+1) 0:=
     zE1 _ dB ops tr 0 (i+1) e0 _ _ _ hB aq rfl (by rw[Ae,ad (i+1) om];exact a7) fun k' o' ao aL aY=>by
      rw[Ae];exact aK k' ao
    have bu: ∀s,s≠dA->s≠dB->fE (fun k=>(listed.setIfInBounds i true).getD k false) 0 ops tr e0 s=fE (fun k=>listed.getD k false) 0 ops tr e0 s/\ltS σ0.length (fE (fun k=>listed.getD k false) 0 ops tr e0 s)=true:=by
     intro s bw bx
     refine⟨ze2 _ _ s ops tr 0 e0 e0 rfl fun k o hk ax=> ?_, ?_⟩
     .rw[Ae]
      refine ad k fun e=> ?_
      subst e
      rw[hA]at hk;cases hk
      exact bw (Option.some.inj ax).symm
     .have e1:fE (fun k=>listed.getD k false) 0 ops tr e0 s=fE (fun k=>decide (k<i)&&listed.getD k false) 0 ops tr e0 s:=by
       refine ze2 _ _ s ops tr 0 e0 e0 rfl fun k o hk ax=> ?_
       rw[Ae]
       rcases Bc k i with h|rfl|h
       .simp[h]
       .rw[ag];simp
       .by_cases aw:k=i+1
        .subst aw
         rw[hB]at hk;cases hk
         exact absurd (Option.some.inj ax).symm bx
        .rw[only a8 k om];simp
      rw[e1]
      refine xT8 _ ops tr 0 e0 h0 (fun k v s hk hD=> ?_) s
      rw[Ae]at hD
      simp only[A1,decide_eq_true_eq]at hD
      exact hv k v s hD.1 hk
    have aP:=yW2 (n0:=c.σ0.length) bb bg bf
    have hr: ∀k,k<σ0.length->ren (List.range σ0.length++ [σ0.length+1,σ0.length]) (σ0++ [Ob.box z,Ob.box z]).length k=k:=fun k hk=>by
     rw[wT (by simp;omega),List.getElem_append_left (sU hk)];simp
    obtain⟨β2,bA⟩:=ai.pick (e':=fE (fun k=>(listed.setIfInBounds i true).getD k false) 0 ops tr e0) aP bc fun s=>by
     by_cases h1:s=dA
     .subst h1
      rw[br]
      refine .inl ?_
      simp only[upd,if_true,renS,renA,renC,renK]
      rw[wT sM,List.getElem_append_right sM]
      simp
     .by_cases h2:s=dB
      .subst h2
       rw[bt]
       refine .inl ?_
       simp only[upd,if_neg h1,if_true,renS,renA,renC,renK]
       rw[wT sM,List.getElem_append_right sM]
       simp
      .obtain⟨q1,q2⟩:=bu s h1 h2
       rw[q1]
       simp only[upd,if_neg h1,if_neg h2]
       exact .inl (yB9 hr q2).symm
    grind
   ·
    have bB:i≠p+1:=fun e=>by subst e;rw[a7]at ag;cases ag
    have aZ:i<p:=by
     rcases Bc i p with h|h|h
     .exact h
     .exact absurd h av
     .exfalso
      have:=ahead (k:=p) om (aQ i o om ab).1
      rw[a8]at this;cases this
    obtain⟨bC,bD,bz,bE,b0⟩:=ay i o aZ ab
    have sp: ∀{i j:Nat} {x y:Oper},i<j->ops[i]? =some x->ops[j]? =some y->zM8 ops q i j x y=false∨(i∈(befs ops []).getD j []∨(i=p/\j=p+1)):=fun h1 h2 h3=>hd h1 h2 h3
    have ah: ∀{k:Nat},k≠i->(k∈(befs ops []).getD i []∨(k=p/\i=p+1))->listed.getD k false=true:=by
     rintro k hk (hb|⟨_,h⟩)
     .exact ahead hk hb
     .omega
    have be: ∀{k:Nat},(i∈(befs ops []).getD k []∨(i=p/\k=p+1))->listed.getD k false=false:=by
     rintro k (hb|⟨h,_⟩)
     .exact zf8 hb
     .omega
    have ba:=xw1 (e0:=e0) (tr:=tr) (fun i j=>i∈(befs ops []).getD j []∨(i=p/\j=p+1)) sp ab ag ah be
    obtain⟨v,σ',b1,ak⟩:=aI i o ab
    rw[Ae]at ak
    have b2:fS (fun j=>decide (j<i)) q 0 ops tr σ0=σ0:=zy7 _ q ops tr 0 σ0 fun k o hk h3=>by
     rw[Ae]at h3⊢
     by_cases al:k<p
     .have:=(ay k o al hk).1;omega
     .simp;omega
    rw[b2]at ak
    refine zT8 (ops:=ops) (Q:=Lift c nt Q) (next:=wpAny P .any ops.toArray (Lift c nt Q) fuel (listed.setIfInBounds i true)) o hs (ak.step (fun s ai=> ?_) (fun h=>om) fun _=> ?_) ?_
    .simp only[upd]
     split
     .rename_i h;subst h;exact absurd ai bz
     .exact ba s ai
    .rw[Kp.of_append hn]
    .rintro e' s' a' w' L' β' ai ⟨rfl,rfl⟩
     rw[if_neg om]at ai
     refine next a' w' L' β' (.inr ⟨⟨by rw[ad (p+1) om];exact a7,by rw[ad p om];exact a8⟩, ?_⟩)
     have b3:=xw0 (e0:=e0) (fun i j=>i∈(befs ops []).getD j []∨(i=p/\j=p+1)) sp ab b1 aa be
     have:updO (upd (fE (fun i=>listed.getD i false) 0 ops tr e0) dB (.ptr σ0.length 0)) o.dst v=upd (fE (fun k=>(listed.setIfInBounds i true).getD k false) 0 ops tr e0) dB (.ptr σ0.length 0):=by
      rw[<-b3]
      funext s
      by_cases h2:s=dB
      .subst h2
       rw[zi4 _ _ _ _ b0]
       simp[upd]
      .by_cases h3:o.dst=some s
       .rw[zn1 _ _ _ _ h3]
        simp only[upd,if_neg h2]
        rw[zn1 _ _ _ _ h3]
       .rw[zi4 _ _ _ _ h3]
        simp only[upd,if_neg h2]
        rw[zi4 _ _ _ _ h3]
     grind
theorem xx2 (D:Nat->Bool): ∀(ad aa:List Oper) (ae ab:List (V×St)) (i:Nat) (e:Env),ae.length=ad.length->fE D i (ad++aa) (ae++ab) e=fE D (i+ad.length) aa ab (fE D i ad ae e)
 | [],aa,[],ab,i,e,_=>by rfl
 | [],_,_::_,_,_,_,h=>by grind
 |_::_,_,[],_,_,_,h=>by grind
 |o::os,aa,(v,s)::tr,ab,i,e,h=>by
  simp only[Ax,fE,Aa]
  rw[xx2 D os aa tr ab (i+1) _ (sU h),show i+1+os.length=i+(os.length+1) by omega]
theorem xx3 (D:Nat->Bool) (q:List (Nat×Nat)): ∀(ad aa:List Oper) (ae ab:List (V×St)) (i:Nat) (σ:St),ae.length=ad.length->fS D q i (ad++aa) (ae++ab) σ=fS D q (i+ad.length) aa ab (fS D q i ad ae σ)
 | [],aa,[],ab,i,e,_=>by rfl
 | [],_,_::_,_,_,_,h=>by grind
 |_::_,_,[],_,_,_,h=>by grind
 |o::os,aa,(v,s)::tr,ab,i,e,h=>by
  simp only[Ax,fS,Aa]
  rw[xx3 D q os aa tr ab (i+1) _ (sU h),show i+1+os.length=i+(os.length+1) by omega]
theorem yw4 {ops:List Oper} {q:List (Nat×Nat)}: ∀(aa ab:List Oper) (ae ad:List (V×St)) (i:Nat) (e:Env) (σ:St),zv1 P c nt n0 ops q i aa e σ ae->
  zv1 P c nt n0 ops q (i+aa.length) ab (fE (fun _=>true) i aa ae e) (fS (fun _=>true) q i aa ae σ) ad->zv1 P c nt n0 ops q i (aa++ab) e σ (ae++ad)
 | [],ab,[],ad,i,e,σ,_,h=>by simpa
 | [],_,_::_,_,_,_,_,h,_=>h.elim
 |_::_,_,[],_,_,_,_,h,_=>h.elim
 |o::os,ab,(v,s)::tr,ad,i,e,σ,h1,h2=>by
  refine⟨h1.1,yw4 os ab tr ad (i+1) _ _ h1.2 ?_⟩
  rw[fE,fS,if_pos rfl]at h2
  have:(if((fun _=>true) i&&decide (3<=zT q i o))=true then s else σ)=s:=by
   by_cases h3:3<=zT q i o
   .grind
   .rw[if_neg (by grind)];exact(h1.1.2.1 om).symm
  grind
def two (P:Program) (ops:List Oper) (q:List (Nat×Nat)) (p:Nat):Bool:=
 match ops[p]?,ops[p+1]? with
 |some ⟨some dA,.alloc t,tA,posA,aA,none⟩,some ⟨some dB,.alloc t',tB,posB,aB,none⟩=>
  Nat.beq t t'&& !Nat.beq dA dB&&Nat.beq (zT q p ⟨some dA,.alloc t,tA,posA,aA,none⟩) 3&&Nat.beq (zT q (p+1) ⟨some dB,.alloc t',tB,posB,aB,none⟩) 3&&
  (match zb0 P t with|some z=>z.all noC|none=>false)&&
  ((List.range ops.length).all fun k=>match ops[k]? with
   |some o=>if k<p then decide (zT q k o<2)&& !(zw0 ops o).contains dA&& !(zw0 ops o).contains dB&&(match o.dst with|some d=> !Nat.beq d dA&& !Nat.beq d dB|none=>false)
    else if p+1<k then((befs ops []).getD k []).contains p&&((befs ops []).getD k []).contains (p+1)else true
   |none=>true)&&
  ((List.range ops.length).all fun j=>(List.range j).all fun i=>match ops[i]?,ops[j]? with
   |some x,some y=>(!zM8 ops q i j x y||((befs ops []).getD j []).contains i||(Nat.beq i p&&Nat.beq j (p+1)))&&(!Nat.blt j p||(match x.dst,y.dst with|some d,some d'=> !Nat.beq d d'|_,_=>true))
   |_,_=>true)
 |_,_=>false
theorem VW.draw2 {id:Nat} {Q:Exit->Env->St->Prop} (p:Nat) (hm:P.follows .mixedOrders=true) (hn:n0.n<=σ.length) (hc:c.σ0.length<=σ.length) (an:c.β0.length=c.σ0.length)
  (h2:two P ops q p=true) (ao:zc8 ops=true) (aq:σ.all (ltOb σ.length)=true) (h0: ∀s,ltS σ.length (e s)=true)
  (h:vtr P c nt n0 ops q 0 (ops.take p) (fun e' σ'=>(∀s,ltS σ.length (e' s)=true)/\vtr P c nt n0 ops q p (ops.drop p) (Q .normal) e' σ') e σ):VW P c nt (.region id ops.toArray true) Q e σ:=by
 obtain⟨aa,ah,aJ,h⟩:=zp6 _ _ _ _ _ h
 obtain⟨ab,ar,hK⟩:=zp6 _ _ _ _ _ h
 unfold two at h2
 split at h2
 case h_2=>cases h2
 rename_i dA t tA aG aA dB t' tB aH aB hA hB
 simp only[A1,Nat.beq_eq,Ck,Aj,Ci]at h2
 obtain⟨⟨⟨⟨⟨⟨au,av⟩,aw⟩,ax⟩,hz⟩,hk⟩,hd⟩:=h2
 subst au
 have aK:p+1<ops.length:=(A6.1 hB).1
 have ae:(ops.take p).length=p:=by simp;omega
 obtain⟨af,aI⟩:=zC9 ops q _ _ _ _ _ ah
 have ht:=yw4 (ops.take p) (ops.drop p) aa ab 0 e σ ah (by rw[ae,Ae];exact ar)
 have hE:=xx2 (fun _=>true) (ops.take p) (ops.drop p) aa ab 0 e af
 have hS:=xx3 (fun _=>true) q (ops.take p) (ops.drop p) aa ab 0 σ af
 rw[ae,Ae]at hE hS
 rw[Bo]at ht hE hS
 rw[<-hE,<-hS]at hK
 obtain⟨z,ay,az⟩: ∃z,zb0 P t=some z/\z.all noC=true:=by
  split at hz
  .exact⟨_,by assumption,hz⟩
  .cases hz
 have ai:dA≠dB:=fun q=>by subst q;simp at av
 have aj: ∀(k:Nat) o,k<p->ops[k]? =some o->(zT q k o<2/\dA∉zw0 ops o/\dB∉zw0 ops o/\o.dst≠some dA/\o.dst≠some dB)/\ ∃d,o.dst=some d:=by
  intro k o ad ho
  have:=hk k om
  rw[ho]at this
  simp only[if_pos ad,A1,decide_eq_true_eq,Ck]at this
  obtain⟨⟨⟨a1,a2⟩,a3⟩,a4⟩:=this
  cases hd:o.dst with
  |none=>rw[hd]at a4;cases a4
  |some d=>
   rw[hd]at a4
   simp only[A1,Ck]at a4
   refine⟨⟨a1,by simpa using a2,by simpa using a3,fun q=> ?_,fun q=> ?_⟩,d,rfl⟩
   all_goals simp_all
 refine fun a w L β hs=> ?_
 refine wp_region_any hm ?_
 have hg: ∀j,(Array.replicate ops.toArray.size false).getD j false=false:=fun j=>by
  simp[Array.getD]
 have e1:fE (fun i=>(Array.replicate ops.toArray.size false).getD i false) 0 ops (aa++ab) e=e:=by
  funext t
  exact yc4 _ t ops (aa++ab) 0 e fun k o _ _=>hg _
 have e2:fS (fun i=>(Array.replicate ops.toArray.size false).getD i false) q 0 ops (aa++ab) σ=σ:=zy7 _ q ops (aa++ab) 0 σ fun k o _ _=>hg _
 refine xJ8 hn hc an hA hB ai aw ax ay az (fun k o a b=>(aj k o a b).1) (fun k o a6 ho=> ?_) (fun{i j x y} a7 hx hy=> ?_) ao aq h0 (fun k v s ad hv=> ?_) ht hK _ _ a w.drew L β sM sM (fun j o _ hj=>by rw[hg]at hj;cases hj) (.inl ⟨fun h=>(by rw[hg]at h;cases h), ?_⟩)
 .have:=hk k (A6.1 ho).1
  rw[ho]at this
  simp only[if_neg (show ¬k<p by omega),if_pos a6,A1]at this
  exact⟨by simpa using this.1,by simpa using this.2⟩
 .have:=hd j (A6.1 hy).1 i a7
  rw[hx,hy]at this
  simp only[A1,Be,Ck,Nat.beq_eq]at this
  grind
 .obtain⟨o,ho⟩: ∃o,ops[k]? =some o:=⟨ops[k],by simp[A0 (show k<ops.length by omega)]⟩
  obtain⟨_,d,ak⟩:=aj k o ad ho
  have a8:aa[k]? =some (v,s):=by
   rw[Az (by rw[af,ae];exact ad)]at hv
   exact hv
  have aC:(ops.take p)[k]? =some o:=by rw[Dv ad];exact ho
  have:=zE1 (fun _=>true) d (ops.take p) aa 0 k e o v s aC a8 ak rfl fun k' o' aD ag aE=>by
   exfalso
   have al:k'<p:=by rw[<-ae];exact(A6.1 ag).1
   rw[Dv al]at ag
   have:=hd k' om k aD
   rw[ho,ag]at this
   simp only[A1]at this
   have:=this.2
   rw[ak,aE]at this
   simp at this
   rw[<-Bool.not_eq_true,Nat.blt_eq]at this
   omega
  grind
 .rw[e1,e2]
  obtain⟨aF,hle⟩:=hs.mem.drew
  exact⟨aF,hs.size,hs.defs,fun t=>(hs.env t).mono hle (Ext.refl _ _)⟩
def LtE (n:Nat) (e:Env):Prop:= ∀s,ltS n (e s)=true
theorem LtE.upd {n:Nat} {d:Tmp} {v:V} (he:LtE n e) (hv:ltS n v=true):LtE n (upd e d v):=fun s=>by
 simp only[Vx.upd]
 split
 .exact hv
 .exact he s
theorem wc7 {id:Nat} {Q:QT} {l1 l2:List Oper} (q:List (Nat×Nat)) (n0 p:Nat) (hn:n0<=σ.length) (hm:P.follows .mixedOrders=true) (hc:c.σ0.length<=σ.length) (aa:c.β0.length=c.σ0.length)
  (h2:(two P ops q p&&zc8 ops)=true) (ab:σ.all (ltOb σ.length)=true) (h0:LtE σ.length e)
  (h1:ops.take p=l1) (h3:ops.drop p=l2)
  (h:wtr P c nt (Kp.pre n0) ops q 0 l1 (fun e' σ'=>LtE σ.length e'/\wtr P c nt (Kp.pre n0) ops q p l2 (Q .normal) fx fx fx e' σ') fx fx fx e σ):wVW P c nt (.region id ops.toArray true) Q fx fx e σ:=by
 subst h1;subst h3
 simp only[A1]at h2
 exact VW.draw2 (n0:=Kp.pre n0) p hm hn hc aa h2.1 h2.2 ab h0 h
theorem Kp.out_or {k:Kp} {id:Nat} (h:k.out id=true):(id<k.x/\k.ob=none)∨k.n<=id:=by simp_all[Kp.out]
def xa5 (n0:Kp):V->Bool
 | .sl .full _=>true
 | .sl (.app id) _=>n0.out id
 | .lsv id _ _ _ _=>n0.out id
 |_=>false
attribute [go_sem] xa5
@[go_sem] theorem wtop_append3 {K:KT} {d:Option Tmp} {x y:Operand} {t1 t2:TypeId} (h:xa5 n0 (zD e x)=true):wtop P c nt n0 3 d (.call ⟨.builtin .append, #[x,y], #[t1,t2]⟩) K fx fx e σ=wop P c nt d (.call ⟨.builtin .append, #[x,y], #[t1,t2]⟩) K fx fx e σ:=by
 show vtop P c nt n0 3 d (.call ⟨.builtin .append, #[x,y], #[t1,t2]⟩) K e σ=vop P c nt d (.call ⟨.builtin .append, #[x,y], #[t1,t2]⟩) K e σ
 have h1:zZ7 (xR P d e σ (.call ⟨.builtin .append, #[x,y], #[t1,t2]⟩))=false:=by
  unfold xR
  split
  all_goals simp[zZ5,zf9]
 have hA: ∀(el:Option (Nat×Nat)) (k2:Nat) (y:V),stOk n0 3 σ (zh8 el k2 σ (zD e x) y):=fun el k2 y=>by
  unfold zh8
  split
  .split
   .exact⟨sM,fun _=> .inl ⟨_,rfl⟩⟩
   .rename_i hx
    rw[hx]at h
    have h:=Kp.out_or (k:=n0) h
    split<;>first|trivial|exact⟨sM,fun _=> .inr (Kp.of_set h)⟩
   .rename_i hx
    rw[hx]at h
    have h:=Kp.out_or (k:=n0) h
    (repeat' split)<;>first|trivial|exact⟨sM,fun _=> .inr (Kp.of_set h)⟩
   trivial
  trivial
 have hL: ∀(el:Option (Nat×Nat)) (k2:Nat) (y:V),stOk n0 3 σ (ze1 el k2 σ (zD e x) y):=fun el k2 y=>by
  unfold ze1
  split
  .rename_i hx
   rw[hx]at h
   have h:=Kp.out_or (k:=n0) h
   (repeat' split)<;>first|trivial|exact⟨sM,fun _=> .inr (Kp.of_set h)⟩
  ·(repeat' split)<;>first|trivial|exact⟨sM,fun _=> .inl ⟨_,rfl⟩⟩
 have h2:stOk n0 3 σ (xR P d e σ (.call ⟨.builtin .append, #[x,y], #[t1,t2]⟩)):=by
  unfold xR
  split
  .exact hL (elT P t1) (lenT P t2) (zD e y)
  .exact hA (elT P t1) (lenT P t2) (zD e y)
 grind[vtop,vop]
theorem LtE.env0 {n:Nat}:LtE n env0:=fun _=>rfl
end
variable {σ:St}{P:Program}{e:Env}{c:Ctx}{nt:Nat}{n:Nat}{σ':St}{d:Option Tmp}{m:Nat}{K:KT}{op:Op}{o:Ob}{f:FuncId}{ms:List Nat}{l:List V}
theorem xH4 (t s:Nat) (rows:List (List V)) {Q:QT} {y:Code} (h0:0<s) (hu:uni s rows) (ht:e t= .sl .full rows) (hy:wVW P c nt y Q fx fx (upd e t (.sl (.app σ.length) rows)) (σ++ [.app rows.length s])):wVW P c nt y Q fx fx e σ:=by
 intro a w L β hs
 have hr:=hs.env t
 rw[ht]at hr
 have hr:RdP w L (.sl .full rows) (a.tmps.getD t undef):=hr
 obtain⟨ad,hx,ab⟩: ∃ad,a.tmps.getD t undef= .slice ad rows.length rows.length/\RdP w L (.sl .ro rows) (.slice ad rows.length rows.length):=by
  generalize a.tmps.getD t undef=x at hr
  cases hr with
  |sl0 g ad cap hg ha=>have:=hg rfl;subst this;exact⟨ad,rfl,.sl0 .ro ad 0 om sM⟩
  |sl g rows s b o cap c ha hs hlen hlim hcap hg hc hr=>have:=hg rfl;subst this;exact⟨_,rfl,.sl .ro rows s b o _ c sM hs hlen hlim hcap om hc hr⟩
 have aa:=Ext.push σ β hs.mem.len (.app rows.length s) (.slice ad rows.length rows.length)
 refine hy a w L (β++ [.slice ad rows.length rows.length]) ⟨hs.mem.own h0,hs.size,hs.defs,fun k=> ?_⟩
 simp only[upd]
 split
 .rename_i hk
  subst hk
  rw[hx]
  exact⟨ab,rows.length,s,sM,om,fun _=>by rw[<-hs.mem.len];simp,hu⟩
 .exact(hs.env k).mono (Le.refl _ _) aa
theorem xS0 (i j:Nat) {p:Ob} {caps args args':List V} {KV:V->St->Prop} {R:V->St->Prop} (hc:VCalls P f args' [o,p] R) (hb:wL P f=true) (ae:i≠j) (ho:σ[i]? =some o) (hp:σ[j]? =some p) (hok:ltOb 0 o=true) (ad:ltOb 0 p=true)
  (aa:All2 (argS (ren [i,j] σ.length)) args' (args++caps)) (hR: ∀r s,R r s-> ∃o2 p2,s= [o2,p2]/\ltOb 0 o2=true/\ltOb 0 p2=true) (hK: ∀r o2 p2,R r [o2,p2]->KV (renS (ren [i,j] σ.length) r) ((σ.set i o2).set j p2)):wVC P c (.fn f caps) args σ KV fx:=by
 have ab: ∀q:Ob,ltOb 0 q=true->yS (ren [i,j] σ.length) q=q:=fun q h=>wO (n:=0) om h
 refine VC.of hc hb [i,j] (by grind) rfl (fun k l q h1 h2=> ?_) aa fun r s h _=> ?_
 .match k with
  |0=>simp at h1 h2;subst h1;subst h2;rw[ab _ hok];exact ho
  |1=>simp at h1 h2;subst h1;subst h2;rw[ab _ ad];exact hp
  |k+2=>simp at h1
 .obtain⟨o2,p2,rfl,h1,h2⟩:=hR r s h
  grind[xX,mset]
theorem yZ3 (pick:List Nat) {n0:Nat} {R:V->St->Prop} {s:St} {v r:V} (aa:pick.Nodup) (hn: ∀i,i<n0->pick[i]? =some i) (hlen:s.length=pick.length) (ab: ∀(i j:Nat) (o:Ob),pick[i]? =some j->s[i]? =some o->σ[j]? =some (yS (ren pick σ.length) o)) (hr:argS (ren pick σ.length) r v) (hR:R r s):wret (some v) n0 R σ:=
 ⟨v,rfl,v,σ,pick,s,r,.refl _ _,⟨hlen,aa,ab,hn⟩,hr,hR⟩
theorem VCalls.frz {args:List V} {v:V} {R:V->St->Prop} (h:VCalls P f args [] R) (hR: ∀r s,R r s-> ∃r' s',Frz [r] s [r'] s'/\argS (ren [] s'.length) v r'):Pure P f args v:=by
 intro w L β aa hm ha
 refine(h w L β aa hm ha).mono ?_
 rintro e w' ⟨x,r,L',σ',β',he,hr,hl,ad,ae⟩
 obtain⟨r',s',hf,hv⟩:=hR r σ' hr
 obtain⟨L2,β2,ab,ai,af,ag⟩:=hf.ok ad (show All2 (RdS w' L' σ' β') [r] [x] from⟨ae,tV⟩)
 have hβ:β.length=([]:St).length:=hm.len
 have hp:Picks (entry w L [] β).σ0.length [] s' []:=⟨rfl,Cj,sM,fun i q=>(by trivial)⟩
 have ah:=ab.pick hp hβ
 refine⟨x,v,L2,[],[],he,sM,om,ah, ?_⟩
 exact zx9 (hp.bak ab.len) hv ag.1
theorem xA3 (h:n<=m) {v:V} (hv:ltK n v=true):ltK m v=true:=by
 cases v with
 |sl g rows=>cases g<;>simp_all[ltK]<;>omega
 |_=>simp_all[ltK]<;>omega
theorem yj9 (h:n<=m) {v:V} (hv:ltC n v=true):ltC m v=true:=by
 cases v<;>grind[ltC,xA3]
theorem yK4 (h:n<=m) {v:V} (hv:ltA n v=true):ltA m v=true:=by
 cases v<;>grind[ltA,yj9]
theorem yt8 (h:n<=m) (ho:ltOb n o=true):ltOb m o=true:=by
 cases o with
 |box cells=>grind[ltOb,yj9]
 |lst rows s=>grind[ltOb,yj9]
 |mp kvs borns clk=>grind[ltOb,yK4]
 |it m' since seen last=>cases m' with
  |none=>rfl
  |some i=>simp_all[ltOb];omega
 |_=>rfl
theorem xS1 {caps args args':List V} {o2:Ob} {v:V} {KV:V->St->Prop} (hc:VCalls P f args' [o] (fun r s=>r=v/\s= [o2])) (hb:wL P f=true) (ho:σ[0]? =some o) (ad:ltOb 0 o=true) (ab:ltOb 0 o2=true)
  (aa:All2 (argS (ren [0] σ.length)) args' (args++caps)) (hn:noS v=true) (hk:KV v (σ.set 0 o2)):wVD P c ⟨1,n,[],none⟩ 3 (.fn f caps) args σ KV fx:=by
 have ae: ∀q:Ob,ltOb 0 q=true->yS (ren [0] σ.length) q=q:=fun q h=>wO (n:=0) om h
 have e:xX [0] σ [o2]=σ.set 0 o2:=by
  grind[xX,mset]
 refine yQ7 hc hb [0] sM rfl (fun i j q h1 h2=> ?_) aa (.inr ?_) ?_
 .grind
 .rw[e];exact Kp.of_set sM
 grind[zF4]
def yP (b:Bool):R->Prop
 | .need p _=>b=true->p
 | .needst p _ _=>b=true->p
 |_=>True
def uniB (s:Nat) (rows:List (List V)):Bool:=rows.all fun r=>r.length==s
theorem zu6 {s:Nat} {rows:List (List V)} (h:uniB s rows=true):uni s rows:=fun r hr=>by
 have:=Aj.1 h r hr
 grind
def xt6:List V->Bool
 | [.int .u8 _]=>true
 |_=>false
theorem xt7 {rows:List (List V)} (h:rows.all xt6=true):zR6 rows:=fun r hr=>by
 have:=Aj.1 h r hr
 unfold xt6 at this
 grind
def yc6 (op:BinOp) (y:Int):Bool:=
 match op with
 | .quo| .rem=>decide (y≠0)
 | .shl| .shr=>decide (0<=y)
 |_=>true
def yC8 (op:BinOp) (x y:List UInt8):Bool:=
 match op with
 | .add=>decide (x.length+y.length<=9223372036854775807)
 |_=>true
def binB (op:BinOp) (x y:V):Bool:=
 match x,y with
 | .int _ _,.int _ b=>yc6 op b
 | .str a,.str b=>yC8 op a b
 |_,_=>true
theorem yJ5 (op:BinOp) (k:IntKind) (x y:Int):yP (yc6 op y) (zO5 op k x y):=by
 cases op<;>simp[zO5,yc6,yP]
theorem yP3 (op:BinOp) (x y:List UInt8):yP (yC8 op x y) (zP8 op x y):=by
 cases op<;>simp[zP8,yC8,yP]
theorem xt1 (op:BinOp) (ek:Nat) (es:Option (List Pk)) (x y:V):yP (binB op x y) (zt0 op ek es x y):=by
 unfold zt0
 split
 .grind[binB,yJ5,yc6,yP]
 .exact yP3 ..
 all_goals (repeat' split)<;>trivial
theorem yV3 (op:BinOp) (ek:Nat) (x:V) (b:Bool):yP b (zu0 op ek x):=by
 unfold zu0 yL7
 (repeat' split)<;>trivial
def yi9 (sl:Option Nat) (ar:Option (Nat×Nat×Bool)) (x i:V):Bool:=
 match x,i with
 | .sl _ rows,.int _ k=>(match sl with|some s=>decide (0<=k/\k<rows.length/\(rows.getD k.toNat []).length=s)|none=>true)
 | .ptr _ _,.int _ k=>(match ar with|some (n,_,_)=>decide (0<=k/\k<n)|none=>true)
 | .elp _ _,.int _ k=>(match ar with|some (n,_,_)=>decide (0<=k/\k<n)|none=>true)
 | .lsv _ _ _ _ m,.int _ k=>decide (0<=k/\k<m)
 | .bsv _ _ _ n,.int _ k=>decide (0<=k/\k<n)
 |_,_=>true
theorem yz6 (sl:Option Nat) (ar:Option (Nat×Nat×Bool)) (x i:V):yP (yi9 sl ar x i) (zj0 sl ar x i):=by
 unfold zj0
 split
 all_goals first|trivial|simp only[yi9]
 all_goals split<;>first|trivial|simp only[yP,decide_eq_true_eq,imp_self]
def idxB (x i:V) (ar:Option (Nat×Nat×Bool)):Bool:=
 match x,i with
 | .str b,.int _ k=>decide (0<=k/\k<b.length)
 | .agg cs,.int _ k=>(match ar with|some (n,s,false)=>decide (0<=k/\k<n/\(k.toNat*s)<cs.length)|_=>true)
 |_,_=>true
theorem xy5 (x i:V) (str:Bool) (ar:Option (Nat×Nat×Bool)):yP (idxB x i ar) (zQ9 x i str ar):=by
 unfold zQ9
 split
 .simp only[idxB]
  split<;>first|trivial|simp only[yP,decide_eq_true_eq,imp_self]
 .split
  all_goals simp[idxB,yP]
 trivial
def ym4 (es:Option Nat) (x:V) (lo hi:Option V):Bool:=
 match x with
 | .lsv _ s n l0 m=>(match bnd lo 0,bnd hi m,es with|some l,some h,some z=>decide (0<=l/\l<=h/\(h<=m∨(l0:Int)+h<=n)/\z=s)|_,_,_=>true)
 | .str s=>(match bnd lo 0,bnd hi s.length with|some l,some h=>decide (0<=l/\l<=h/\h<=s.length)|_,_=>true)
 | .sl _ rows=>(match bnd lo 0,bnd hi rows.length,es with|some l,some h,some z=>decide (0<=l/\l<=h/\h<=rows.length)&&uniB z rows|_,_,_=>true)
 |_=>true
theorem yX7 (ar:Option (Nat×Nat×Bool)) (k:Nat) (es:Option Nat) (x:V) (lo hi:Option V):yP (ym4 es x lo hi) (zn3 ar k es x lo hi):=by
 unfold zn3
 split
 .split
  .rename_i h1 h2
   split
   all_goals simp_all[ym4,yP]
  trivial
 .split<;>trivial
 .split
  .rename_i h1 h2
   split
   all_goals simp_all[ym4,yP]
  trivial
 .split
  .rename_i h1 h2
   split
   all_goals simp_all[ym4,yP,zu6]
  trivial
 trivial
def yC5 (es:Option Nat) (x lo hi mx:V):Bool:=
 match x,lo,hi,mx,es with
 | .sl _ rows,.int _ l,.int _ h,.int _ m,some z=>decide (0<=l/\l<=h/\h<=rows.length/\m=h)&&uniB z rows
 | .lsv _ s _ _ n,.int _ l,.int _ h,.int _ m,some z=>decide (0<=l/\l<=h/\h<=m/\m<=n/\z=s)
 |_,_,_,_,_=>true
theorem yO8 (es:Option Nat) (x lo hi mx:V):yP (yC5 es x lo hi mx) (zr0 es x lo hi mx):=by
 unfold zr0
 split
 all_goals simp_all[yC5,yP,zu6]
def xT4 (x:V):Bool:=
 match x with
 | .sl _ rows=>rows.all xt6
 |_=>true
theorem xk4 (ks kd:Option Kd) (x:V):yP (xT4 x) (zD8 ks kd x):=by
 unfold zD8
 split
 .split<;>trivial
 .split<;>trivial
 .split<;>trivial
 .split
  .exact xt7
  trivial
 trivial
def yK5 (el:Option (Nat×Nat)) (l m:V):Bool:=
 match el,l,m with
 |some (_,by'),.int .i64 n,.int .i64 k=>decide (0<=n/\n<=k/\k.toNat*by'<=140737488355328)
 |_,_,_=>false
theorem xm8 (el:Option (Nat×Nat)) (zs:Option (List V)) (σ:St) (l m:V):yP (yK5 el l m) (zE0 el zs σ l m):=by
 unfold zE0
 split
 all_goals simp[yK5,yP]
theorem yU9 (el:Option (Nat×Nat)) (zs:Option (List V)) (σ:St) (l m:V):yP (yK5 el l m) (zt9 el zs σ l m):=by
 unfold zt9
 split
 all_goals simp[yK5,yP]
def yS4 (sl:Option Nat) (σ:St) (x:V):Bool:=
 match x with
 | .lsv id s n lo m=>(match σ[id]? with|some (.lst rows s')=>decide (sl=some s/\s'=s/\rows.length=n/\lo+m<=n)|_=>true)
 |_=>true
theorem yS5 (sl:Option Nat) (zs:Option (List V)) (σ:St) (x:V):yP (yS4 sl σ x) (zt8 sl zs σ x):=by
 unfold zt8
 split
 .split
  all_goals simp_all[yS4,yP]
 trivial
def srcB (σ:St):V->Bool
 | .lsv id s n lo m=>(match σ[id]? with|some (.lst rows s')=>decide (s'=s/\rows.length=n/\lo+m<=n)&&wE ((rows.drop lo).take m)|_=>false)
 |_=>true
theorem zT0 {y:V} (h:srcB σ y=true):zo1 σ y:=by
 unfold zo1
 split
 .simp only[srcB]at h
  split at h
  .rename_i h1
   rw[h1]
   simp only[A1,decide_eq_true_eq]at h
   exact⟨h.1.1,h.1.2.1,h.1.2.2,h.2⟩
  grind
 simp
def zK4 (el:Option (Nat×Nat)) (k2:Nat) (σ:St) (x y:V):Bool:=
 match el,zF7 k2 σ y with
 |some (s,by'),some r2=>
  (match x with
  | .sl .full r1=>srcB σ y&&decide ((r1.length+r2.length)*by'<=140737488355328)&&uniB s r1&&uniB s r2
  | .sl (.app id) r1=>(match σ[id]? with
   |some (.app n s')=>srcB σ y&&decide (r1.length=n/\s'=s/\(r1.length+r2.length)*by'<=140737488355328)&&uniB s r2
   |_=>true)
  | .lsv id s1 n lo m=>(match σ[id]? with
   |some (.lst rows s')=>srcB σ y&&decide (s1=s/\s'=s/\rows.length=n)&&uniB s r2&&(decide (lo+m+r2.length<=n)||decide (lo=0/\m=n/\(n+r2.length)*by'<=140737488355328))
   |_=>true)
  |_=>true)
 |_,_=>true
theorem yF5 (el:Option (Nat×Nat)) (k2:Nat) (σ:St) (x y:V):yP (zK4 el k2 σ x y) (zh8 el k2 σ x y):=by
 unfold zh8
 split
 .rename_i h2
  split
  .simp_all[zK4,yP,zT0,zu6]
  .split
   all_goals simp_all[zK4,yP,zT0,zu6]
  .split
   .rename_i h3
    split
    .simp_all[zK4,yP,zT0,zu6]
    simp_all[zK4,yP,zT0,zu6];omega
   trivial
  trivial
 trivial
def xE9 (σ:St):V->Bool
 | .lsv id s n lo m=>(match σ[id]? with|some (.lst rows s')=>decide (s'=s/\rows.length=n/\lo+m<=n)|_=>false)
 |_=>true
theorem yP0 {y:V} (h:xE9 σ y=true):zx1 σ y:=by
 unfold zx1
 split
 .simp only[xE9]at h
  grind
 simp
def zH2 (el:Option (Nat×Nat)) (k2:Nat) (σ:St) (x y:V):Bool:=
 match x with
 | .lsv id s1 n lo m=>(match el,zJ4 k2 σ y with
  |some (s,by'),some r2=>(match σ[id]? with
   |some (.lst rows s')=>xE9 σ y&&decide (s1=s/\s'=s/\rows.length=n)&&uniB s r2&&(decide (lo+m+r2.length<=n)||decide (lo=0/\m=n/\(n+r2.length)*by'<=140737488355328))
   |_=>true)
  |_,_=>true)
 |x=>match el,zF7 k2 σ y with
 |some (s,by'),some r2=>
  (match x with
  | .sl .full r1=>srcB σ y&&decide ((r1.length+r2.length)*by'<=140737488355328)&&uniB s r1&&uniB s r2&&(!r2.isEmpty||r1.isEmpty)
  |_=>true)
 |_,_=>true
theorem yx5 (el:Option (Nat×Nat)) (k2:Nat) (σ:St) (x y:V):yP (zH2 el k2 σ x y) (ze1 el k2 σ x y):=by
 unfold ze1
 split
 .split
  .rename_i h2
   split
   .rename_i h3
    split
    .simp_all[zH2,yP,yP0,zu6]
    simp_all[zH2,yP,yP0,zu6];omega
   trivial
  trivial
 .split
  .rename_i h2
   split
   .simp only[zH2,h2,yP,A1,decide_eq_true_eq]
    grind[zT0,zu6]
   trivial
  trivial
def zq7 (L:Bool) (es:Option Nat) (len:Nat) (parts:List (Nat×V)):Bool:=
 match es with
 |some s=>(parts.all fun p=>(L||zN8 p.2)&&(xE p.2).length==s)&&decide (len*s<=16777216/\0<s)
 |none=>true
theorem yb4 (es:Option Nat) (len:Nat) (parts:List (Nat×V)):yP (zq7 false es len parts) (zb4 es len parts):=by
 unfold zb4
 split
 .split
  all_goals simp[zq7,yP]
 trivial
theorem zU8 (es:Option Nat) (len:Nat) (σ:St) (parts:List (Nat×V)):yP (zq7 true es len parts) (za2 es len σ parts):=by
 unfold za2
 split
 .split
  all_goals simp[zq7,yP]
 trivial
def yk4 (P:Program) (L:Bool) (e:Env) (σ:St):Op->Bool
 | .buildSlice t n ps=>zq7 L ((elT P t).map (·.1)) n (ps.toList.map fun p=>(p.1,zD e p.2))
 | .binOp op _ x y _=>binB op (zD e x) (zD e y)
 | .convert _ _ x=>xT4 (zD e x)
 | .slice t x lo hi none=>if L then false else ym4 ((elT P t).map (·.1)) (zD e x) (lo.map (zD e)) (hi.map (zD e))
 | .slice t x (some lo) (some hi) (some mx)=>yC5 ((elT P t).map (·.1)) (zD e x) (zD e lo) (zD e hi) (zD e mx)
 | .indexAddr t x i=>yi9 (slcT P t) (arrT P t) (zD e x) (zD e i)
 | .index t x i=>idxB (zD e x) (zD e i) (arrT P t)
 | .makeSlice t l m=>yK5 (elT P t) (zD e l) (zD e m)
 | .call ⟨.builtin .append,⟨[x,y]⟩,⟨[t,t']⟩⟩=>if L then zH2 (elT P t) (lenT P t') σ (zD e x) (zD e y)else zK4 (elT P t) (lenT P t') σ (zD e x) (zD e y)
 | .call ⟨.builtin .clear,⟨[x]⟩,⟨[t]⟩⟩=>yS4 ((elT P t).map (·.1)) σ (zD e x)
 |_=>true
def wf7:R->Bool
 | .need _ _| .needst _ _ _=>false
 |_=>true
theorem yR {b:Bool} {r:R} (h:wf7 r=true):yP b r:=by
 cases r<;>first|trivial|cases h
theorem zV4 (op:Op):yP (yk4 P false e σ op) (evOp P e σ op):=by
 unfold evOp
 split
 .trivial
 .trivial
 .refine yR ?_;unfold zH7;(repeat' split)<;>rfl
 .refine yR ?_;unfold zl3;(repeat' split)<;>rfl
 .refine yR ?_;unfold zQ8;(repeat' split)<;>rfl
 .refine yR ?_;unfold zy3;(repeat' split)<;>rfl
 .exact yb4 ..
 .refine yR ?_;unfold zh9;(repeat' split)<;>first|rfl|(unfold zl4;(repeat' split)<;>rfl)
 .refine yR ?_;unfold zu1;(repeat' split)<;>rfl
 .refine yR ?_;unfold zZ4;(repeat' split)<;>rfl
 .split
  .grind[yV3]
  .split
   .refine yR ?_;unfold zq9;(repeat' split)<;>rfl
   .exact xt1 ..
 .refine yR ?_;unfold evUn;(repeat' split)<;>rfl
 .exact xk4 ..
 .exact yX7 ..
 .exact yO8 ..
 .refine yR ?_;unfold zf4;(repeat' split)<;>rfl
 .refine yR ?_;unfold zy5;(repeat' split)<;>rfl
 .exact yz6 ..
 .exact xy5 ..
 .refine yR ?_;unfold zm6;(repeat' split)<;>rfl
 .refine yR ?_;unfold zH6;(repeat' split)<;>rfl
 .exact xm8 ..
 .refine yR ?_;unfold zZ3;(repeat' split)<;>rfl
 .exact yF5 ..
 .exact yS5 ..
 .refine yR ?_;unfold zB0;(repeat' split)<;>rfl
 .refine yR ?_;unfold zB0;(repeat' split)<;>rfl
 .refine yR ?_;unfold zq8;(repeat' split)<;>rfl
 .refine yR ?_;unfold zm7;(repeat' split)<;>rfl
 .refine yR ?_;unfold xV;(repeat' split)<;>rfl
 .refine yR ?_;unfold xQ;(repeat' split)<;>rfl
 .refine yR ?_;unfold xQ;(repeat' split)<;>rfl
 .refine yR ?_;unfold xY;(repeat' split)<;>rfl
 .refine yR ?_;unfold xL;(repeat' split)<;>rfl
 .refine yR ?_;unfold zy6;(repeat' split)<;>rfl
 .refine yR ?_;unfold zi9;(repeat' split)<;>rfl
 .refine yR ?_;unfold zZ2;(repeat' split)<;>rfl
 .refine yR ?_;unfold zi0;(repeat' split)<;>rfl
 .trivial
theorem yT0 (op:Op):yP (yk4 P false e σ op&&yk4 P true e σ op) (za5 P e σ op):=by
 have weak: ∀{b c:Bool} {r:R},yP b r->yP (c&&b) r:=by
  intro b c r h
  cases r with
  |need p v=>exact fun q=>h (by grind)
  |needst p v s=>exact fun q=>h (by grind)
  |_=>trivial
 have aa: ∀{b c:Bool} {r:R},yP b r->yP (b&&c) r:=by
  simp_all
 unfold za5
 split
 .exact weak (zU8 ..)
 .exact weak (yU9 ..)
 .refine yR ?_;unfold zy4;(repeat' split)<;>rfl
 .refine weak (b:=false) ?_;unfold zr1;(repeat' split)<;>first|trivial|exact fun q=>by cases q
 .exact weak (yx5 ..)
 .refine yR ?_;unfold zi0;(repeat' split)<;>rfl
 grind[zV4]
def xopR (b:Bool) (σ:St):R->Option (V×St)
 | .ok v=>some (v,σ)
 | .need _ v=>if b then some (v,σ)else none
 | .st v σ'=>some (v,σ')
 | .needst _ v σ'=>if b then some (v,σ')else none
 |_=>none
def xop (P:Program) (d:Option Tmp) (e:Env) (σ:St) (op:Op):Option (V×St):=
 if ze3 e d then xopR (yk4 P false e σ op&&yk4 P true e σ op) σ (za5 P e σ op)else xopR (yk4 P false e σ op) σ (evOp P e σ op)
theorem yo5 {b:Bool} {r:R} {v:V} (hn:yP b r) (h:xopR b σ r=some (v,σ')) (hk:vput nt d v K e σ'):vfin nt d r K e σ:=by
 cases r with
 |fail=>cases h
 |ok v'=>cases h;exact hk
 |need p v'=>
  simp only[xopR]at h
  split at h
  .rename_i hb
   cases h;exact⟨hn hb,hk⟩
  grind
 |st v' s=>cases h;exact hk
 |needst p v' s=>
  simp only[xopR]at h
  split at h
  .rename_i hb
   cases h;exact⟨hn hb,hk⟩
  grind
 |all f=>cases h
 |any l=>cases h
theorem xS5 {v:V} (h:xop P d e σ op=some (v,σ')) (hk:vput nt d v K e σ'):vfin nt d (xR P d e σ op) K e σ:=by
 unfold xop at h
 unfold xR
 split at h
 .rename_i hh
  rw[if_pos hh]
  grind[yo5,yT0]
 .rename_i hh
  rw[if_neg hh]
  grind[yo5,zV4]
def envX (ms:List Nat) (l:List V):Env:=fun t=>if t<100000 then l.getD t .u else if ms.contains (t - 100000)then .tup []else .u
theorem xv9 {t:Nat} {v:V} (h:t<l.length) (hl:l.length<=100000):upd (envX ms l) t v=envX ms (l.set t v):=by
 funext k
 simp only[upd,envX]
 grind
def xput (d:Option Tmp) (v:V) (l:List V):Option (List V):=
 match d with
 |some t=>if t<l.length then some (l.set t v)else none
 |none=>some l
theorem ye2 {v:V} {l':List V} (h:xput d v l=some l') (hl:l.length<=100000):l'.length=l.length/\ ∀(K:KT) (σ:St),K (envX ms l') σ->vput l.length d v K (envX ms l) σ:=by
 unfold xput at h
 unfold vput
 split at h
 .grind[xv9]
 grind
def xgd (g:Option (Nat×Bool)) (ops:List Oper) (e:Env):Option Bool:=
 match g with
 |none=>some true
 |some (j,want)=>(match gdst ops j with|some t=>(match e t with| .bool b=>some (b==want)| .tup []=>some false|_=>none)|none=>none)
theorem yE6 {g:Option (Nat×Bool)} {ops:List Oper} {A B:Prop} {r:Bool} (h:xgd g ops e=some r) (ha:r=true->A) (hb:r=false->B):vgd g ops e A B:=by
 unfold xgd at h
 unfold vgd
 split at h
 .grind
 .split at h
  .rename_i t ht
   simp only[ht]
   unfold vgrd
   grind
  grind
abbrev zj4:=V->List V->St->Option (V×St)
def zs4 (P:Program) (call:zj4):Prop:= ∀fv az σ v σ',call fv az σ=some (v,σ')-> ∀c,VC P c fv az σ (fun r s=>r=v/\s=σ')
def xopc (P:Program) (call:zj4) (d:Option Tmp) (e:Env) (σ:St) (op:Op):Option (V×St):=
 match op with
 | .call ⟨.value f,args,_⟩=>call (zD e f) (args.toList.map (zD e)) σ
 |op=>xop P d e σ op
theorem xS6 {call:zj4} (hc:zs4 P call) {v:V} (h:xopc P call d e σ op=some (v,σ')) (hk:vput nt d v K e σ'):vop P c nt d op K e σ:=by
 unfold xopc at h
 unfold vop
 split at h
 .refine(hc _ _ _ _ _ h c).mono ?_
  grind
 .rename_i aa
  split
  .grind
  grind[xS5]
def yR4 (P:Program) (call:zj4) (ms:List Nat) (ops:List Oper):List Oper->List V->St->Option (List V×St)
 | [],l,σ=>some (l,σ)
 |o::rest,l,σ=>
  match xgd o.guard ops (envX ms l)with
  |none=>none
  |some true=>(match xopc P call o.dst (envX ms l) σ o.op with
   |some (v,σ')=>(match xput o.dst v l with|some l'=>yR4 P call ms ops rest l' σ'|none=>none)
   |none=>none)
  |some false=>(match xput o.dst (.tup []) l with|some l'=>yR4 P call ms ops rest l' σ|none=>none)
theorem zU5 {P:Program} {call:zj4} (hc:zs4 P call) {ms:List Nat} {ops:List Oper} {c:Ctx}: ∀(rest:List Oper) (l:List V) (σ:St) (l':List V) (σ':St),yR4 P call ms ops rest l σ=some (l',σ')->l.length<=100000->
  l'.length=l.length/\ ∀K:KT,K (envX ms l') σ'->vrun P c l.length ops rest K (envX ms l) σ
 | [],l,σ,l',σ',h,hl=>by cases h;exact⟨rfl,fun K hk=>hk⟩
 |o::rest,l,σ,l',σ',h,hl=>by
  unfold yR4 at h
  split at h
  .cases h
  .rename_i hg
   split at h
   .rename_i v s1 ho
    split at h
    .rename_i l1 hp
     obtain⟨e1,e2⟩:=ye2 (ms:=ms) hp hl
     obtain⟨e3,e4⟩:=zU5 hc (c:=c) rest l1 s1 l' σ' h om
     refine⟨om,fun K hk=> ?_⟩
     refine yE6 hg (fun _=> ?_) sM
     grind[xS6]
    grind
   grind
  .rename_i hg
   split at h
   .rename_i l1 hp
    obtain⟨e1,e2⟩:=ye2 (ms:=ms) hp hl
    obtain⟨e3,e4⟩:=zU5 hc (c:=c) rest l1 σ l' σ' h om
    refine⟨om,fun K hk=> ?_⟩
    refine yE6 hg sM (fun _=> ?_)
    grind
   grind
def notL:Op->Bool
 | .buildSlice .. | .makeSlice .. | .convert .. | .call _| .next .. | .slice .. =>false
 |_=>true
theorem xO0 (h:notL op=true): ∀e σ,za5 P e σ op=evOp P e σ op:=by
 intro e σ
 cases op<;>first|rfl|cases h
def xd8 (n0:Kp) (e:Env):Op->Bool
 | .load _ x=>imm n0 (zD e x)
 |_=>false
def wf2:Op->Bool
 | .alloc _| .box .. =>true
 |_=>false
def xV6 (P:Program) (n0:Kp) (k:Nat) (d:Option Tmp) (e:Env) (σ:St) (op:Op):Bool:=
 (!ze3 e d||notL op)&&(k !=0||ze6 op==0)&&(k !=1||xd8 n0 e op)&&(!isSt (evOp P e σ op)||decide (3<=k))&&(k==4||(k==3&&wf2 op)|| !isSt (evOp P e σ op))
def xtop (P:Program) (call:zj4) (n0:Kp) (k:Nat) (d:Option Tmp) (e:Env) (σ:St) (op:Op):Option (V×St):=
 match op with
 | .call ⟨.value f,args,_⟩=>if k=0 then(match call (zD e f) (args.toList.map (zD e)) []with|some (v,_)=>if noS v&&noS (zD e f)&&(args.toList.map (zD e)).all noS then some (v,σ)else none|none=>none)
   else if k=4 then(match call (zD e f) (args.toList.map (zD e)) σ with|some (v,σ')=>if σ.length<=σ'.length then some (v,σ')else none|none=>none)
   else none
 |op=>if xV6 P n0 k d e σ op then xopR (yk4 P false e σ op) σ (evOp P e σ op)else none
def zu9 (P:Program) (call:zj4):Prop:= ∀fv az v σ',call fv az []=some (v,σ')->noS v=true->noS fv=true->az.all noS=true-> ∀c s,VC P c fv az s (fun r s'=>r=v/\s'=s)
theorem xS7 {call:zj4} (hc:zs4 P call) (hp:zu9 P call) {n0:Kp} {k:Nat} {v:V} (h:xtop P call n0 k d e σ op=some (v,σ')) (hk:vput nt d v K e σ'):vtop P c nt n0 k d op K e σ:=by
 unfold xtop at h
 unfold vtop
 split at h
 .split at h
  .rename_i ab
   split at h
   .rename_i v' s' aa
    split at h
    .rename_i hn
     cases h
     simp only[A1]at hn
     subst ab
     refine⟨v,σ, ?_,fun _=>rfl,om,om,hk⟩
     rw[if_pos rfl]
     exact fun s=>hp _ _ _ _ aa hn.1.1 hn.1.2 hn.2 c s
    grind
   grind
  .split at h
   .rename_i ab ad
    split at h
    .rename_i v' s' aa
     split at h
     .rename_i hle
      cases h
      subst ad
      refine⟨v,σ', ?_,om,om,hle,hk⟩
      rw[if_neg dc,if_neg dc]
      exact hc _ _ _ _ _ aa c
     grind
    grind
   grind
 .rename_i ae
  split
  .grind
  .split at h
   .rename_i ht
    simp only[xV6,A1,Be,Ck,bne_iff_ne,beq_iff_eq,decide_eq_true_eq]at ht
    obtain⟨⟨⟨⟨t1,t2⟩,t3⟩,t4⟩,t5⟩:=ht
    have hh:hok P d e op:=by
     rcases t1 with t1|t1
     .exact .inl t1
     .exact .inr (xO0 t1)
    rw[zp2 hh]
    refine⟨fun _=>hh, ?_,om,fun q=> ?_,(by grind), ?_,yo5 (zV4 op) h hk⟩
    .cases hr:evOp P e σ op with
     |all f=>rw[hr]at h;cases h
     |any l=>rw[hr]at h;cases h
     |_=>rfl
    .have:=t3.resolve_left (fun w=>w q)
     unfold xd8 at this
     grind
    .rcases t5 with (t5|t5)|t5
     .grind[zX5]
     .obtain⟨t5,t6⟩:=t5
      subst t5
      cases op with
      |alloc t=>simp only[evOp];unfold zl3;split<;>first|trivial|exact⟨sM,fun _=> .inl ⟨_,rfl⟩⟩
      |box t x=>simp only[evOp];unfold zQ8;split<;>first|trivial|exact⟨sM,fun _=> .inl ⟨_,rfl⟩⟩
      |_=>cases t6
     grind[zr8]
   grind
def xtr (P:Program) (call:zj4) (n0:Kp) (ms:List Nat) (ops:List Oper) (q:List (Nat×Nat)):Nat->List Oper->List V->St->Option (List V×St)
 |_,[],l,σ=>some (l,σ)
 |i,o::rest,l,σ=>
  match xgd o.guard ops (envX ms l)with
  |none=>none
  |some true=>(match xtop P call n0 (zT q i o) o.dst (envX ms l) σ o.op with
   |some (v,σ')=>(match xput o.dst v l with|some l'=>xtr P call n0 ms ops q (i+1) rest l' σ'|none=>none)
   |none=>none)
  |some false=>(match xput o.dst (.tup []) l with|some l'=>xtr P call n0 ms ops q (i+1) rest l' σ|none=>none)
theorem yZ6 {P:Program} {call:zj4} (hc:zs4 P call) (aa:zu9 P call) {n0:Kp} {ms:List Nat} {ops:List Oper} {q:List (Nat×Nat)} {c:Ctx}: ∀(rest:List Oper) (i:Nat) (l:List V) (σ:St) (l':List V) (σ':St),xtr P call n0 ms ops q i rest l σ=some (l',σ')->l.length<=100000->
  l'.length=l.length/\ ∀K:KT,K (envX ms l') σ'->vtr P c l.length n0 ops q i rest K (envX ms l) σ
 | [],i,l,σ,l',σ',h,hl=>by cases h;exact⟨rfl,fun K hk=>hk⟩
 |o::rest,i,l,σ,l',σ',h,hl=>by
  unfold xtr at h
  split at h
  .cases h
  .rename_i hg
   split at h
   .rename_i v s1 ho
    split at h
    .rename_i l1 hp
     obtain⟨e1,e2⟩:=ye2 (ms:=ms) hp hl
     obtain⟨e3,e4⟩:=yZ6 hc aa (c:=c) rest (i+1) l1 s1 l' σ' h om
     refine⟨om,fun K hk=> ?_⟩
     refine yE6 hg (fun _=> ?_) sM
     grind[xS7]
    grind
   grind
  .rename_i hg
   split at h
   .rename_i l1 hp
    obtain⟨e1,e2⟩:=ye2 (ms:=ms) hp hl
    obtain⟨e3,e4⟩:=yZ6 hc aa (c:=c) rest (i+1) l1 σ l' σ' h om
    refine⟨om,fun K hk=> ?_⟩
    refine yE6 hg sM (fun _=> ?_)
    grind
   grind
def yx9:Nat->List Oper->List (Nat×Nat)
 |_,[]=> []
 |i,o::os=>(match o.op with| .call ⟨.value _,_,_⟩=> [(i,0)]|_=> [])++yx9 (i+1) os
def ym7:Nat->List Oper->List (Nat×Nat)
 |_,[]=> []
 |i,o::os=>(match o.op with| .store .. => [(i,4)]| .call ⟨.builtin .append,_,_⟩=> [(i,4)]|_=> [])++ym7 (i+1) os
def xV4:Nat->List Oper->List (Nat×Nat)
 |_,[]=> []
 |i,o::os=>(match o.op with| .store .. => [(i,4)]| .call ⟨.builtin .append,_,_⟩=> [(i,4)]| .call ⟨.value _,_,_⟩=> [(i,4)]|_=> [])++xV4 (i+1) os
def xH6:Nat->List Oper->List (Nat×Nat)
 |_,[]=> []
 |i,o::os=>(match o.op with| .store .. => [(i,4)]| .load .. => [(i,4)]| .alloc _=> [(i,4)]| .call ⟨.builtin .append,_,_⟩=> [(i,4)]| .call ⟨.value _,_,_⟩=> [(i,4)]|_=> [])++xH6 (i+1) os
def xI4 (ops:List Oper):List (List (Nat×Nat)):= [[],yx9 0 ops,ym7 0 ops,yx9 0 ops++ym7 0 ops,xV4 0 ops,xH6 0 ops]
def yE5 (P:Program) (call:zj4) (ms:List Nat) (ops:List Oper) (l:List V) (σ:St):List (List (Nat×Nat))->Option (List V×St)
 | []=>none
 |q::qs=>if zA3 ops q then(match xtr P call (Kp.pre σ.length) ms ops q 0 ops l σ with|some r=>some r|none=>yE5 P call ms ops l σ qs)else yE5 P call ms ops l σ qs
def xI5 (P:Program) (call:zj4) (ms:List Nat) (ops:List Oper) (l:List V) (σ:St):Option (List V×St):=
 if zc8 ops then yE5 P call ms ops l σ (xI4 ops)else none
theorem yR2 {call:zj4} (hc:zs4 P call) (aa:zu9 P call) (hm:P.follows .mixedOrders=true) {ops:List Oper} {id:Nat} {l':List V} (h:xI5 P call ms ops l σ=some (l',σ')) (hl:l.length<=100000):
  l'.length=l.length/\ ∀Q:QT,Q .normal (envX ms l') σ'->VW P c l.length (.region id ops.toArray true) Q (envX ms l) σ:=by
 unfold xI5 at h
 split at h
 .rename_i he
  have go: ∀q,zA3 ops q=true->xtr P call (Kp.pre σ.length) ms ops q 0 ops l σ=some (l',σ')->l'.length=l.length/\ ∀Q:QT,Q .normal (envX ms l') σ'->VW P c l.length (.region id ops.toArray true) Q (envX ms l) σ:=by
   intro q hd hx
   obtain⟨e1,e2⟩:=yZ6 hc aa (c:=c) ops 0 l σ l' σ' hx hl
   exact⟨e1,fun Q hq=>xA q σ.length rfl hm (by grind) (e2 (Q .normal) hq)⟩
  generalize xI4 ops=qs at h
  induction qs<;>grind[yE5]
 grind
end Go.Vx
