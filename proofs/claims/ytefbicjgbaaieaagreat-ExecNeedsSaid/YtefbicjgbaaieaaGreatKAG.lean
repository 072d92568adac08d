/-
  Structs of the program as Lean structures: their cells, their ranges, and that what reads as one is one.
  No condition. Written by program (vxdat.py).
-/
import Derived.Test.YtefbicjgbaaieaaGreatKAF
import Derived.Carry
import Derived.ProofKit
import Derived.OpenShut
import Derived.IntWalk
import Derived.Test.YtefbicjgbaaieaaGreatRows
set_option maxHeartbeats 8000000
namespace Go.Vx
open Go
mutual
inductive Shp (P:Program):TypeId->List V->Prop
 |bool {t:TypeId} (b:Bool):P.underlying t=some .bool->Shp P t [.bool b]
 |int {t:TypeId} {k:IntKind} {n:Int}:P.underlying t=some (.int k)->(Lit.int k n).wf=true->Shp P t [.int k n]
 |str {t:TypeId} {s:List UInt8}:P.underlying t=some .string->s.length<=maxLen->Shp P t [.str s]
 |sl {t e:TypeId} {rows:List (List V)}:P.underlying t=some (.slice e)->rows.length<=maxLen->ShpR P e rows->Shp P t [.sl .ro rows]
 |struct {t:TypeId} {fs:Array Field} {cells:List V}:P.underlying t=some (.struct fs)->ShpF P (fs.toList.map (·.type)) cells->Shp P t cells
inductive ShpR (P:Program):TypeId->List (List V)->Prop
 |nil {e:TypeId}:ShpR P e []
 |cons {e:TypeId} {r:List V} {rows:List (List V)}:Shp P e r->ShpR P e rows->ShpR P e (r::rows)
inductive ShpF (P:Program):List TypeId->List V->Prop
 |nil:ShpF P [] []
 |cons {t:TypeId} {ts:List TypeId} {a b:List V}:Shp P t a->ShpF P ts b->ShpF P (t::ts) (a++b)
end
def zD8 (P:Program):Nat->List Field->Nat->Bool
 |o,[],n=>o==n
 |o,f::fs,n=>f.offset==o&&zD8 P (o+P.cellsOf f.type) fs n
def okT (P:Program) (T:List TypeId):Bool:=T.all fun t=>
 match P.underlying t with
 |some .bool|some (.int _)|some .string=>true
 |some (.slice e)=>T.contains e&&decide (0<P.cellsOf e)
 |some (.struct fs)=>fs.all (fun f=>T.contains f.type)&&zD8 P 0 fs.toList (P.cellsOf t)
 |_=>false
def lims (w:World):Nat->Nat:=fun b=>match w.heap[b]? with|some (.cells c _ _)=>c.size|_=>0
section
variable {H:Type} {enc:TypeId×Value->H} {P:Program} {w:World} {base:Nat} {spare:Nat->Bool} {held:Bool}
theorem xf0 {b o:Nat} {x:Value} (h:w.cell? ⟨b,o,none⟩=some x):o<lims w b:=by
 unfold World.cell? at h
 unfold lims
 simp only at h
 split at h
 .rename_i c _ _ hb
  rw[hb]
  simp only[Option.isSome_none,D0,if_false]at h
  exact(Bp.1 h).1
 .cases h
theorem xg8 {T:List TypeId} (hT:okT P T=true) {t:TypeId} (h:t∈T):(match P.underlying t with
  |some .bool|some (.int _)|some .string=>true
  |some (.slice e)=>T.contains e&&decide (0<P.cellsOf e)
  |some (.struct fs)=>fs.all (fun f=>T.contains f.type)&&zD8 P 0 fs.toList (P.cellsOf t)
  |_=>false)=true:=by
 unfold okT at hT
 rw[Af]at hT
 exact hT t h
inductive Sm (M:Nat):V->Prop
 |bool (b:Bool):Sm M (.bool b)
 |int (k:IntKind) (n:Int):Sm M (.int k n)
 |str {s:List UInt8}:s.length<=M->Sm M (.str s)
 |sl {g:Tag} {rows:List (List V)}:rows.length<=M->(∀r∈rows,∀v∈r,Sm M v)->Sm M (.sl g rows)
 |agg {cs:List V}:(∀v∈cs,Sm M v)->Sm M (.agg cs)
structure BulkOk {H:Type} (B:DataW H->Nat) (BA:List (DataW H)->Nat):Prop where
 str: ∀s:List UInt8,s.length<=B (.lit (.string s))
 sl: ∀es sp,BA es<=B (.slice es sp)
 agg: ∀ps,BA ps<=B (.agg ps)
 mem: ∀d l,d∈l->B d<=BA l
 len: ∀l:List (DataW H),l.length<=BA l
def SmD {H:Type} (d:DataW H) (vs:List V):Prop:= ∀(B:DataW H->Nat) (BA:List (DataW H)->Nat),BulkOk B BA-> ∀M,B d<=M-> ∀v∈vs,Sm M v
theorem zP2 {T:List TypeId} (hT:okT P T=true): ∀(fuel:Nat) (t:TypeId) (cs:List Value) (x:DataW H×List MemPlace),t∈T->DataW.trod enc P w base spare held fuel t cs=some x->
  ∃vs,Shp P t vs/\All2 (RdP w (lims w)) vs cs/\SmD x.1 vs
 |0,t,cs,x,_,h=>by simp[DataW.trod]at h
 |fuel+1,t,cs,x,ht,h=>by
  have hk:=xg8 hT ht
  split at hk
  .rename_i hu
   obtain⟨b,rfl,_⟩:=DataW.trod_bool hu h
   exact⟨[.bool b],.bool b hu,⟨.bool b,tV⟩,fun _ _ _ _ _ v hv=>by simp at hv;subst hv;exact .bool b⟩
  .rename_i k hu
   obtain⟨n,rfl,_,hw⟩:=DataW.trod_int hu h
   exact⟨[.int k n],.int hu hw,⟨.int k n,tV⟩,fun _ _ _ _ _ v hv=>by simp at hv;subst hv;exact .int k n⟩
  .rename_i hu
   obtain⟨s,rfl,rfl,hs⟩:=DataW.trod_string hu h
   have hr:RdP w (lims w) (.str s.data.toList) (.string ⟨s.data.toList.toArray⟩):= .str _
   exact⟨[.str s.data.toList],.str hu (by simpa using hs),⟨hr,tV⟩,fun B BA hB M hM v hv=>by simp at hv;subst hv;exact .str (by have:=hB.str s.data.toList;simp only at hM;simp at this hM⊢;omega)⟩
  .rename_i e hu
   simp only[A6,decide_eq_true_eq,E1]at hk
   obtain⟨he,af⟩:=hk
   rcases DataW.trod_slice hu h with ⟨rfl,_⟩|⟨a,len,cap,elems,rest,n,a6,rfl,ag,hb,hl,hm,hlen,a7,_,_⟩
   .exact⟨[.sl .ro []],.sl hu (A4 _) .nil,⟨.sl0 _ _ _ (fun q=>by cases q) (fun _=>sm),tV⟩,fun _ _ _ _ _ v hv=>by simp at hv;subst hv;exact .sl (A4 _) sm⟩
   .obtain rfl:fuel=n:=om
    have each: ∀i,i<len-> ∃(vs:List V) (ab:List Value),Shp P e vs/\All2 (RdP w (lims w)) vs ab/\ab.length=P.cellsOf e/\(∀j,j<P.cellsOf e->w.cell? ((a.add (i*P.cellsOf e)).add j)=ab[j]?)/\ ∃d∈elems.map (·.1),SmD d vs:=by
     intro i hi
     have h1:=a7 i hi
     rw[A0 om]at h1
     cases hc:w.cells? base (a.add (i*P.cellsOf e)) (P.cellsOf e)with
     |none=>rw[hc]at h1;cases h1
     |some ab=>
      rw[hc]at h1
      obtain⟨_,ae,aa⟩:=World.cells?_some hc
      obtain⟨vs,hs,hr,ah⟩:=zP2 hT fuel e ab _ he h1
      exact⟨vs,ab,hs,hr,ae,aa,_,Ac.2 ⟨_,Aa _,rfl⟩,ah⟩
    rcases Nat.eq_zero_or_pos len with rfl|a8
    .exact⟨[.sl .ro []],.sl hu (A4 _) .nil,⟨.sl0 _ _ _ (fun q=>by cases q) (fun _=>sm),tV⟩,fun _ _ _ _ _ v hv=>by simp at hv;subst hv;exact .sl (A4 _) sm⟩
    .obtain⟨b,o,spot⟩:=a
     have ai:spot=none:=by
      obtain⟨vs,ab,_,_,ae,aa,_⟩:=each 0 a8
      have h0:=aa 0 af
      rw[A0 om]at h0
      simp only[Dj,Addr.add,if_true]at h0
      cases spot with
      |none=>rfl
      |some _=>
       exfalso
       unfold World.cell? at h0
       split at h0
       .simp at h0
       .cases h0
     subst ai
     have al: ∀i j,((⟨b,o,none⟩:Addr).add (i*P.cellsOf e)).add j=⟨b,o+i*P.cellsOf e+j,none⟩:=by
      intro i j;rw[xV,xV]
     have key: ∀m,m<=len-> ∃rows:List (List V),rows.length=m/\ShpR P e rows/\(∀r∈rows,r.length=P.cellsOf e)/\(∀r∈rows,∃d∈elems.map (·.1),SmD d r)/\
       ∀i j (hi:i<rows.length) (hj:j<rows[i].length),∃x,w.cell? ⟨b,o+(len - m+i)*P.cellsOf e+j,none⟩=some x/\RdP w (lims w) (rows[i][j]) x:=by
      intro m
      induction m with
      |zero=>exact fun _=>⟨[],rfl,.nil,fun _ q=>by simp at q,fun _ q=>by simp at q,fun i j hi=>by simp at hi⟩
      |succ m ih=>
       intro hm
       obtain⟨rows,h1,h2,h3,aj,h4⟩:=ih om
       obtain⟨vs,ab,hs,hr,ae,aa,ah⟩:=each (len - (m+1)) om
       refine⟨vs::rows,by simp[h1],.cons hs h2,fun r ad=> ?_,fun r ad=> ?_,fun i j hi hj=> ?_⟩
       .rcases Ae.1 ad with rfl|ad
        .rw[hr.length,ae]
        .exact h3 r ad
       .rcases Ae.1 ad with rfl|ad
        .exact ah
        .exact aj r ad
       .cases i with
        |zero=>
         simp only[List.getElem_cons_zero]at hj⊢
         obtain⟨x,hx,ak⟩:=hr.get j _ (A0 hj)
         refine⟨x, ?_,ak⟩
         have:=aa j (by rw[<-ae,<-hr.length];exact hj)
         rw[al,hx]at this
         simpa using this
        |succ i=>
         simp only[List.getElem_cons_succ]at hj⊢
         obtain⟨x,hx,ak⟩:=h4 i j (by simpa using hi) hj
         refine⟨x, ?_,ak⟩
         rw[show len - (m+1)+(i+1)=len - m+i by omega]
         exact hx
     obtain⟨rows,h1,h2,h3,aj,h4⟩:=key len (A5 _)
     have an:len - len=0:=om
     rw[an]at h4
     simp only[Ad]at h4
     subst h1
     refine⟨[.sl .ro rows],.sl hu om h2,⟨?_,tV⟩,fun B BA hB M hM v hv=>by
      simp at hv;subst hv
      rw[ag]at hM
      have q1:=hB.sl (elems.map (·.1)) (rest.map (·.1))
      have q2:=hB.len (elems.map (·.1))
      rw[B1]at q2
      simp only at hM
      refine .sl om fun r hr v hv=> ?_
      obtain⟨d,hd,aA⟩:=aj r hr
      have q3:=hB.mem _ _ hd
      exact aA B BA hB M om v hv⟩
     let c:Nat->Nat->Value:=fun i j=>(w.cell? ⟨b,o+i*P.cellsOf e+j,none⟩).getD undef
     refine .sl .ro rows (P.cellsOf e) b o cap c (fun _=>sm) af h3 ?_ hl (fun q=>by cases q) (fun i j hi hj=> ?_) (fun i j hi hj=> ?_)
     .obtain⟨x,hx,_⟩:=h4 (rows.length - 1) (P.cellsOf e - 1) om (by rw[h3 _ (Aa _)];omega)
      have aH:=xf0 hx
      have h5:(rows.length - 1)*P.cellsOf e+P.cellsOf e=rows.length*P.cellsOf e:=by
       rw[<-Nat.succ_mul];congr 1;omega
      omega
     .obtain⟨x,hx,_⟩:=h4 i j hi (by rw[h3 _ (Aa _)];exact hj)
      simp[c,hx]
     .obtain⟨x,hx,hr⟩:=h4 i j hi hj
      simp only[c,hx,Option.getD_some]
      exact hr
  .rename_i fs hu
   simp only[A6,Df,E1]at hk
   obtain⟨ao,aq⟩:=hk
   obtain⟨xs,n,a6,ag,hlen,aB,ar⟩:=DataW.trod_struct hu h
   obtain rfl:fuel=n:=om
   have key: ∀(l:List Field) (pre:List Field) (off:Nat),fs.toList=pre++l->zD8 P off l (P.cellsOf t)=true->off<=cs.length->
     ∃vs,ShpF P (l.map (·.type)) vs/\All2 (RdP w (lims w)) vs (cs.drop off)/\SmD (.agg (xs.map (·.1))) vs:=by
    intro l
    induction l with
    |nil=>
     intro pre off _ hr _
     unfold zD8 at hr
     have:off=P.cellsOf t:=by simpa using hr
     refine⟨[],.nil, ?_,fun _ _ _ _ _ v hv=>by simp at hv⟩
     rw[Ab om]
     trivial
    |cons f l ih=>
     intro pre off au hr hle
     unfold zD8 at hr
     simp only[A6,beq_iff_eq]at hr
     obtain⟨av,hr⟩:=hr
     have hf:fs[pre.length]? =some f:=by
      have:fs.toList[pre.length]? =some f:=by rw[au];simp
      simpa using this
     have hx:=ar pre.length f hf
     have aw:pre.length<xs.length:=by
      rw[aB];exact(Bp.1 hf).1
     rw[A0 aw,av]at hx
     obtain⟨aC,ax,ay,az⟩:=zP2 hT fuel f.type _ _ (ao f (Array.mem_of_getElem? hf)) hx
     have a1:off+P.cellsOf f.type<=cs.length:=by
      rw[hlen]
      clear ih hx ar ax ay az
      revert hr
      generalize off+P.cellsOf f.type=o2
      intro hr
      have: ∀(l:List Field) (o:Nat),zD8 P o l (P.cellsOf t)=true->o<=P.cellsOf t:=by
       intro l
       induction l with
       |nil=>intro o h;unfold zD8 at h;simp at h;omega
       |cons f l ih=>intro o h;unfold zD8 at h;simp at h;have:=ih _ h.2;omega
      exact this l o2 hr
     obtain⟨aD,aE,aF,aG⟩:=ih (pre++ [f]) (off+P.cellsOf f.type) (by rw[au];simp) hr a1
     refine⟨aC++aD,.cons ax aE, ?_,fun B BA hB M hM v hv=>by
      rcases Av.1 hv with hv|hv
      .have q1:=hB.agg (xs.map (·.1))
       have q2:=hB.mem (xs[pre.length]'aw).1 (xs.map (·.1)) (Ac.2 ⟨_,Aa _,rfl⟩)
       exact az B BA hB M om v hv
      .exact aG B BA hB M hM v hv⟩
     have e:cs.drop off=(cs.drop off).take (P.cellsOf f.type)++cs.drop (off+P.cellsOf f.type):=by
      rw[<-List.drop_drop];exact(Bf _ _).symm
     rw[e]
     exact ay.append aF
   obtain⟨vs,h1,h2,h3⟩:=key fs.toList [] 0 rfl aq (A4 _)
   exact⟨vs,.struct hu h1,by simpa using h2,by rw[ag];exact h3⟩
  .cases hk
def zN4 (P:Program) (t:TypeId) (vs:List V):V:=match P.underlying t with|some (.struct _)=> .agg vs|_=>vs.headD .u
inductive ShpA (P:Program):List TypeId->List V->Prop
 |nil:ShpA P [] []
 |cons {t:TypeId} {ts:List TypeId} {vs:List V} {xs:List V}:Shp P t vs->ShpA P ts xs->ShpA P (t::ts) (zN4 P t vs::xs)
theorem yW7 {W:World} {r:Reach} {b:Nat} {t:TypeId} {v:Value} {T:List TypeId} (hT:okT P T=true) (ht:t∈T) (h:Value.okWide P W r b t v):(∃fs cs,P.underlying t=some (.struct fs)/\v= .agg cs)∨((∀fs,P.underlying t≠some (.struct fs))/\v.oneCell'=true):=by
 have hk:=xg8 hT ht
 split at hk
 .rename_i hu
  refine .inr ⟨fun fs q=>(by rw[hu]at q;cases q), ?_⟩
  cases v<;>simp[Value.okWide,hu,Cell.okWide,Cell.ok]at h<;>rfl
 .rename_i k hu
  refine .inr ⟨fun fs q=>(by rw[hu]at q;cases q), ?_⟩
  cases v<;>simp[Value.okWide,hu,Cell.okWide,Cell.ok]at h<;>rfl
 .rename_i hu
  refine .inr ⟨fun fs q=>(by rw[hu]at q;cases q), ?_⟩
  cases v<;>simp[Value.okWide,hu,Cell.okWide,Cell.ok]at h<;>rfl
 .rename_i e hu
  refine .inr ⟨fun fs q=>(by rw[hu]at q;cases q), ?_⟩
  cases v<;>simp[Value.okWide,hu,Cell.okWide,Cell.ok]at h<;>rfl
 .rename_i fs hu
  refine .inl ⟨fs, ?_⟩
  simp only[Value.okWide,hu]at h
  obtain⟨cs,rfl,_⟩:=h
  exact⟨cs,hu,rfl⟩
 .cases hk
theorem zN5 {T:List TypeId} (hT:okT P T=true): ∀(ts:List TypeId) (aa:List Value) (ds:List (DataW H)) (ps:List MemPlace),(∀t∈ts,t∈T)->(∀(j:Nat) t v,ts[j]? =some t->aa[j]? =some v->Value.okWide P w .any base t v)->
  DataW.TrodAll enc P w 0 spare held ts aa ds ps-> ∃xs,ShpA P ts xs/\All2 (RdS w (lims w) [] []) xs aa/\ ∀(B:DataW H->Nat) (BA:List (DataW H)->Nat),BulkOk B BA-> ∀M,(∀d∈ds,B d<=M)-> ∀v∈xs,Sm M v
 | [],[],_,_,_,_,_=>⟨[],.nil,tV,fun _ _ _ _ _ v hv=>by simp at hv⟩
 |t::ts,v::aa,ds,ps,hm,hok,h=>by
  obtain⟨v',vs',d,ae,p,q,hv,rfl,rfl,h1,h2⟩:=ChangeShapes.trodAll_cons h
  cases hv
  obtain⟨xs,af,ag,ah⟩:=zN5 hT ts aa ae q (fun t ht=>hm t (by simp[ht])) (fun j t' v' h1 h2=>hok (j+1) t' v' (by simpa using h1) (by simpa using h2)) h2
  obtain⟨fuel,hf⟩:=h1
  obtain⟨vs,hs,hr,ai⟩:=zP2 hT fuel t _ _ (hm t sm) hf
  suffices hall:RdS w (lims w) [] [] (zN4 P t vs) v/\ ∀M,(∀v∈vs,Sm M v)->Sm M (zN4 P t vs) from
   ⟨zN4 P t vs::xs,.cons hs af,⟨hall.1,ag⟩,fun B BA hB M hM v' ab=>by
    rcases Ae.1 ab with rfl|ab
    .exact hall.2 M fun v hv=>ai B BA hB M (hM _ sm) v hv
    .exact ah B BA hB M (fun d hd=>hM d (by simp[hd])) v' ab⟩
  rcases yW7 hT (hm t sm) (hok 0 t v rfl rfl)with ⟨fs,cs,hu,rfl⟩|⟨aj,ad⟩
  .unfold zN4
   rw[hu]
   exact⟨⟨cs.toList,sm,hr.imp fun _ _ r=>RdC.of_pure r⟩,fun M hM=> .agg hM⟩
  .rw[zA4 ad]at hr
   have:zN4 P t vs=vs.headD .u:=by
    unfold zN4
    split
    .rename_i fs hu;exact absurd hu (aj fs)
    .rfl
   rw[this]
   cases vs with
   |nil=>exact hr.elim
   |cons x vs=>exact⟨RdS.of_cell (RdC.of_pure hr.1),fun M hM=>hM _ sm⟩
 | [],_::_,_,_,_,_,h=>by cases (ChangeShapes.trodAll_nil h).1
 |_::_,[],ds,_,_,_,h=>by cases ds<;>simp[DataW.TrodAll]at h
theorem zA0 {w':World} {sp':Nat->Bool} (hl:laidOutB P=true): ∀(ts:List TypeId) (aa:List Value) (ds:List (DataW H)) (ps:List MemPlace),(∀t∈ts,P.readableRec t=true/\t<P.types.size)->
  DataW.TrodAll enc P w 0 (fun _=>true) true ts aa ds ps->(∀x∈ps,w.sameAt w' x)->(∀x∈ps,sp' x.block=true)->DataW.TrodAll enc P w' 0 sp' true ts aa ds ps
 | [],_,_,_,_,h,_,_=>by
  obtain⟨rfl,rfl,rfl⟩:=ChangeShapes.trodAll_nil h
  rfl
 |t::ts,aa,ds,ps,hr,h,hs,hp=>by
  obtain⟨v,vs',d,ab,p,q,rfl,rfl,rfl,h1,h2⟩:=ChangeShapes.trodAll_cons h
  exact⟨p,q,WideElems.Trod_stays hl (hr t sm).1 (hr t sm).2 h1 (fun x hx=>hs x (by simp[hx])) (fun x hx=>hp x (by simp[hx])),
   zA0 hl ts vs' ab q (fun t ht=>hr t (by simp[ht])) h2 (fun x hx=>hs x (by simp[hx])) (fun x hx=>hp x (by simp[hx])),rfl⟩
theorem xo6 (w:World) (ht:GlobOk w (lims w)):Mem (entry w (lims w) [] []) w (lims w) [] []:=
 ⟨rfl,fun i o x h=>by simp at h,fun i j o o' x x' b _ h=>by simp at h,fun i o x b h=>by simp at h,fun b hb hx=>⟨rfl,rfl⟩,Le.refl _ _,A5 _,rfl,rfl,rfl,A5 _,
  fun b hb=>by
   have hb:w.heap.size<=b:=hb
   unfold lims
   rw[Array.getElem?_eq_none hb],Ext.refl _ _,ht⟩
theorem xn9 {f:FuncId} {fn:Func} {s:ChangeSpec} {apart fresh handsOn again:Bool} (T ts:List TypeId) (tb:TypeId) (ao:fn.params=ts.toArray) (ag:fn.resultTypes= #[tb]) (hb:P.underlying tb=some .bool) (hT:okT P T=true) (aq:ts.all (T.contains ·)=true)
  (ah:ts.all (fun t=>P.readableRec t&&decide (t<P.types.size))=true) (hl:laidOutB P=true) (aa:s.vars= [])
  (ai: ∀(H:Type) (ds:List (DataW H)),ds.length=ts.length->s.fn H ds={results:= [.lit (.bool true)],args:=ds})
  (ar:List V->Prop) (hw: ∀xs,ShpA P ts xs->ar xs->VCalls P f xs [] fun r _=>r= .bool true) (H:Type) (enc:TypeId×Value->H) (W:World) (base:Nat) (args:Array Value) (ds gs:List (DataW H)) (before:List MemPlace)
  (au: ∀(j:Nat) t v,fn.params[j]? =some t->args[j]? =some v->Value.okWide P W .any base t v)
  (hW:DataW.Whole enc P fn.params.toList s.vars apart W args.toList ds gs before) (aj:GlobOk W (lims W))
  (hlim: ∀xs,(∀(B:DataW H->Nat) (BA:List (DataW H)->Nat),BulkOk B BA-> ∀M,(∀d∈ds++gs,B d<=M)-> ∀v∈xs,Sm M v)->ar xs):
  Calls P f args W fun e W'=> ∃v,e= .returned v/\s.post enc P fn apart fresh handsOn again W args v W':=by
 have ak:=hW
 obtain⟨p,q,hA,hV,rfl,av,aw⟩:=hW
 rw[aa]at hV
 obtain⟨rfl,rfl⟩:=ChangeShapes.trodVars_none hV
 have al:fn.params.toList=ts:=by rw[ao]
 rw[al]at hA
 rw[Af]at aq ah
 obtain⟨xs,hx,hr,az⟩:=zN5 (base:=base) hT ts args.toList ds p (fun t ht=>by simpa using aq t ht) (fun j t v h1 h2=>au j t v (by rw[ao];simpa using h1) (by simpa using h2)) hA
 have hlen:ds.length=ts.length:=by
  have: ∀(ts:List TypeId) (ad:List Value) (ds:List (DataW H)) (p:List MemPlace),DataW.TrodAll enc P W 0 (fun _=>true) true ts ad ds p->ds.length=ts.length:=by
   intro ts
   induction ts with
   |nil=>intro ad ds p h;obtain⟨_,rfl,_⟩:=ChangeShapes.trodAll_nil h;rfl
   |cons t ts ih=>intro ad ds p h;obtain⟨_,_,_,a6,_,_,_,rfl,_,_,h2⟩:=ChangeShapes.trodAll_cons h;simp[ih _ _ _ h2]
  exact this ts _ _ _ hA
 have ae:=hw xs hx (hlim xs fun B BA hB M hM=>az B BA hB M fun d hd=>hM d (by simp[hd])) W (lims W) [] args.toList (xo6 W aj) hr
 have ax:args.toList.toArray=args:=sm
 rw[ax]at ae
 refine ae.mono ?_
 rintro e W' ⟨v,r,L',σ',β',rfl,rfl,_,hm,ay⟩
 have a1:v= .bool true:=zd0 ay
 subst a1
 have ab:RowKit.Below W.heap.size W W':=⟨hm.os,hm.tape,hm.output,hm.size,fun k hk=>(hm.same k hk (by simp[entry,zj3])).1⟩
 have af:=ak.lt
 simp only[Az]at af ak av aw
 have an:s.fn H ds={results:= [.lit (.bool true)],args:=ds}:=ai H ds hlen
 refine⟨_,rfl,ds,[],p,[],p,[],ak, ?_, ?_, ?_, ?_,fun _=>⟨?_, ?_⟩⟩
 .rw[Az,an,ag]
  exact ChangeShapes.trodAll_mk1 (RowKit.shut_bool hb _)
 .rw[Az,an,al]
  exact zA0 hl ts _ _ _ (fun t ht=>by simpa using ah t ht) hA (fun x hx=>ab.same (af x hx)) (fun x hx=>by simpa using af x hx)
 .rw[Az,an,aa]
  rfl
 .exact ab.frame _
 .exact RowKit.ok_one ag rfl (RowKit.okWide_bool_mk hb _)
 .rw[al,ag]
  refine⟨[.lit (.bool true)]++ds,[],p,⟨[]++p,[],ChangeShapes.trodAll_append (zA0 (sp':=fun _=>true) hl ts _ _ _ (fun t ht=>by simpa using ah t ht) hA (fun x hx=>ab.same (af x hx)) (fun x hx=>rfl)) ?_,by rw[aa];rfl,sm, ?_,aw⟩,fun x hx _=>hx⟩
  .exact ChangeShapes.trodAll_mk1 (RowKit.shut_bool hb _)
  .intro b off hp
   rw[ab.frozen (p:=⟨b,off,none⟩) (af _ hp)]
   exact av b off hp
theorem xB3 {f:FuncId} {fn:Func} {s:ChangeSpec} {apart fresh handsOn again:Bool} (T ts:List TypeId) (tb:TypeId) (af:fn.params=ts.toArray) (ag:fn.resultTypes= #[tb]) (hb:P.underlying tb=some .bool) (hT:okT P T=true) (ah:ts.all (T.contains ·)=true)
  (ai:ts.all (fun t=>P.readableRec t&&decide (t<P.types.size))=true) (hl:laidOutB P=true) (aa:s.vars= [])
  (ab: ∀(H:Type) (ds:List (DataW H)),ds.length=ts.length->s.fn H ds={results:= [.lit (.bool true)],args:=ds})
  (hw: ∀xs,ShpA P ts xs->VCalls P f xs [] fun r _=>r= .bool true) (H:Type) (enc:TypeId×Value->H) (W:World) (base:Nat) (args:Array Value) (ds gs:List (DataW H)) (before:List MemPlace)
  (ae: ∀(j:Nat) t v,fn.params[j]? =some t->args[j]? =some v->Value.okWide P W .any base t v)
  (hW:DataW.Whole enc P fn.params.toList s.vars apart W args.toList ds gs before) (ad:GlobOk W (lims W)):
  Calls P f args W fun e W'=> ∃v,e= .returned v/\s.post enc P fn apart fresh handsOn again W args v W':=
 xn9 T ts tb af ag hb hT ah ai hl aa ab (fun _=>True) (fun xs h _=>hw xs h) H enc W base args ds gs before ae hW ad fun _ _=>trivial
variable {t:TypeId} {vs:List V}
theorem ShpA.cons_inv {ts:List TypeId} {xs:List V} (h:ShpA P (t::ts) xs): ∃vs aa,xs=zN4 P t vs::aa/\Shp P t vs/\ShpA P ts aa:=by
 cases h with
 |cons h1 h2=>exact⟨_,_,rfl,h1,h2⟩
theorem ShpA.nil_inv {xs:List V} (h:ShpA P [] xs):xs= []:=by cases h;rfl
theorem Shp.int_inv {k:IntKind} (hu:P.underlying t=some (.int k)) (h:Shp P t vs): ∃n,vs= [.int k n]/\(Lit.int k n).wf=true:=by
 cases h with
 |int h1 h2=>rw[hu]at h1;cases h1;exact⟨_,rfl,h2⟩
 |bool b h1=>rw[hu]at h1;cases h1
 |str h1 _=>rw[hu]at h1;cases h1
 |sl h1 _ _=>rw[hu]at h1;cases h1
 |struct h1 _=>rw[hu]at h1;cases h1
theorem Shp.sl_inv {e:TypeId} (hu:P.underlying t=some (.slice e)) (h:Shp P t vs): ∃rows,vs= [.sl .ro rows]/\rows.length<=maxLen/\ShpR P e rows:=by
 cases h with
 |int h1 h2=>rw[hu]at h1;cases h1
 |bool b h1=>rw[hu]at h1;cases h1
 |str h1 h2=>rw[hu]at h1;cases h1
 |sl h1 h2 h3=>rw[hu]at h1;cases h1;exact⟨_,rfl,h2,h3⟩
 |struct h1 _=>rw[hu]at h1;cases h1
theorem Shp.struct_inv {fs:Array Field} (hu:P.underlying t=some (.struct fs)) (h:Shp P t vs):ShpF P (fs.toList.map (·.type)) vs:=by
 cases h with
 |int h1 h2=>rw[hu]at h1;cases h1
 |bool b h1=>rw[hu]at h1;cases h1
 |str h1 h2=>rw[hu]at h1;cases h1
 |sl h1 h2 h3=>rw[hu]at h1;cases h1
 |struct h1 h2=>rw[hu]at h1;cases h1;exact h2
theorem ShpF.cons_inv {ts:List TypeId} (h:ShpF P (t::ts) vs): ∃a b,vs=a++b/\Shp P t a/\ShpF P ts b:=by
 cases h with
 |cons h1 h2=>exact⟨_,_,rfl,h1,h2⟩
theorem ShpF.nil_inv (h:ShpF P [] vs):vs= []:=by cases h;rfl
theorem ShpR.map_inv {α:Type} {f:α->List V} {ok:α->Prop} (h: ∀r,Shp P t r-> ∃x,r=f x/\ok x): ∀{rows:List (List V)},ShpR P t rows-> ∃xs:List α,rows=xs.map f/\ ∀x∈xs,ok x
 | [],_=>⟨[],rfl,fun _ q=>by simp at q⟩
 |r::rows,hr=>by
  cases hr with
  |cons h1 h2=>
   obtain⟨x,rfl,hx⟩:=h r h1
   obtain⟨xs,rfl,aa⟩:=ShpR.map_inv h h2
   exact⟨x::xs,rfl,fun y hy=>by(rcases Ae.1 hy with rfl|hy<;>first|exact hx|exact aa y hy)⟩
theorem yu1 {v:V} (h:(match P.underlying t with|some (.struct _)=>false|_=>true)=true):zN4 P t [v]=v:=by
 unfold zN4
 split
 .rename_i hu;rw[hu]at h;cases h
 .rfl
theorem yE9 {n:Int} (h:(Lit.int .i64 n).wf=true): -9223372036854775808<=n/\n<=9223372036854775807:=by
 simpa[Lit.wf,IntKind.min,IntKind.max,IntKind.signed,IntKind.bits]using h
end
variable {ρ:Nat->Nat}{σ:St}{f:FuncId}{P:Program}{c:Ctx}{caps:List V}{args':List V}{KV:V->St->Prop}
theorem xO7 {j:Nat} (h:j<=9223372036854775807):IntKind.i64.wrap (j:Int)=j:=IntWalk.i64_in _ om
theorem i64_id {n:Int} (h: -9223372036854775808<=n) (h2:n<=9223372036854775807):IntKind.i64.wrap n=n:=IntWalk.i64_in _ om
theorem u64_id {n:Int} (h:0<=n) (h2:n<=18446744073709551615):IntKind.u64.wrap n=n:=by
 unfold IntKind.wrap
 simp[IntKind.bits,IntKind.signed]
 omega
@[go_sem] theorem i64_lit (n:Nat) (h:n<=9223372036854775807):IntKind.i64.wrap (no_index (OfNat.ofNat n))=OfNat.ofNat n:=by
 rw[show(OfNat.ofNat n:Int)=((n:Nat):Int) from rfl]
 exact xO7 h
theorem zQ {i n:Nat} (h:i<n) (hn:n<=9223372036854775807):IntKind.i64.wrap ((i:Int)+1)=((i+1:Nat):Int):=by
 rw[IntWalk.i64_in _ om];rfl
theorem yc9 {α:Type} {f:α->List V} {s:Nat} {l:List α} (h: ∀x,(f x).length=s):uni s (l.map f):=fun r hr=>by
 obtain⟨x,_,rfl⟩:=Ac.1 hr
 exact h x
theorem zV {s:Nat} {r:List V} (h:r.length=s):uni s [r]:=fun x hx=>by simp at hx;subst hx;exact h
theorem xA (k:Nat) {n0:Nat} {R:V->St->Prop} {s:St} {v r:V} (hs:σ.take k=s) (hl:s.length=k) (hok:s.all (ltOb k)=true) (hn:n0<=k) (hr:argS (ren (List.range k) σ.length) r v) (hR:R r s):wret (some v) n0 R σ:=by
 subst hs;exact zw8 k hl hok hn hr hR
def i64R (n:Int):Prop:= -9223372036854775808<=n/\n<=9223372036854775807
instance (n:Int):Decidable (i64R n):=inferInstanceAs (Decidable (_/\_))
@[go_sem] def yQ (n:Int):List V:= [.int .i64 n]
theorem wD {vs' vs:List V} (h:All2 (argA ρ) vs' vs):argS ρ (.tup vs') (.tup vs):= .inr (.inr (.inr (.inr ⟨vs',vs,rfl,rfl,h⟩)))
theorem zx0 {g:Tag} {rows:List (List V)}:argA ρ (.sl .ro rows) (.sl g rows):= .inr (.inl ⟨g,rows,rfl,rfl⟩)
theorem zb8 {v:V} (h:noA v=true):argA ρ v v:= .inl (yD0 h).symm
theorem yJ {g:Tag} {rows:List (List V)}:argC ρ (.sl .ro rows) (.sl g rows):= .inr ⟨g,rows,rfl,rfl⟩
theorem zT {v:V} (h:noC v=true):argC ρ v v:= .inl (zF0 h).symm
theorem zm7 {aa cs:List V} (h:All2 (argC ρ) aa cs):argS ρ (.agg aa) (.agg cs):= .inr (.inr (.inr (.inl ⟨aa,cs,rfl,rfl,h⟩)))
theorem zc7 {aa cs:List V} (h:All2 (argC ρ) aa cs):argA ρ (.agg aa) (.agg cs):= .inr (.inr ⟨aa,cs,rfl,rfl,h⟩)
theorem xU6 {args:List V} {R:V->Prop} (hc:VCalls P f args' [] fun r s=>R r/\s= []) (hb:wB P f=true) (aa:All2 (argS (ren [] σ.length)) args' (args++caps))
  (hn: ∀r,R r->noS r=true) (hk: ∀r,R r->KV r σ):wVC P c (.fn f caps) args σ KV fx:=by
 refine VC.of hc hb [] D9 rfl (fun i j o h=>by simp at h) aa ?_
 rintro r σ' ⟨hR,rfl⟩ _
 rw[zy9 (hn r hR)]
 have:xD [] σ []=σ:=by simp[xD,mset]
 rw[this];exact hk r hR
theorem zZ5 {k:Nat} {s:St} (hk:k<=σ.length) (hs:s.length=k) (hok:s.all (ltOb k)=true):xD (List.range k) σ s=s++σ.drop k:=by
 have e1:(s.take (List.range k).length).map (yF (ren (List.range k) σ.length))=s:=by
  rw[Cc,Al om]
  exact xX (fun o h=>xT (n:=k) (fun i hi=>zb2 hi) h) hok
 have e2:(s.drop (List.range k).length).map (yF (ren (List.range k) σ.length))= []:=by
  rw[Cc,Bq om];rfl
 unfold xD
 rw[e1,e2,Az]
 apply Bt
 intro i
 by_cases hi:i<k
 .rw[yc3 (List.range k) σ s i i Bm (fun q hq=>by have:=C3.1 hq;omega) (by rw[Cc];omega) (by rw[C4 hi]),Ah om]
 .rw[zh6 _ _ _ _ (fun h=>hi (C3.1 h)),Am om,Bj,hs]
  congr 1;omega
theorem zo1 (k:Nat) {args:List V} {σin:St} {R:V->St->Prop} (hc:VCalls P f args' σin R) (hb:wB P f=true) (hk:σ.take k=σin) (hl:σin.length=k) (hok:σin.all (ltOb k)=true)
  (aa:All2 (argS (ren (List.range k) σ.length)) args' (args++caps)) (hR: ∀r s,R r s->s.length=k/\s.all (ltOb k)=true/\ltS k r=true) (hK: ∀r s,R r s->KV r (s++σ.drop k)):wVC P c (.fn f caps) args σ KV fx:=by
 have ab:k<=σ.length:=by rw[<-hl,<-hk];simp;exact Nat.min_le_right _ _
 refine VC.of hc hb (List.range k) Bm (by simp[hl]) (fun i j o h1 h2=> ?_) aa fun r s h _=> ?_
 .obtain⟨h3,h4⟩:=A3.1 h1
  simp at h3 h4
  subst h4
  have ho:ltOb k o=true:=by
   rw[Af]at hok
   exact hok o (Aq.2 ⟨i,h2⟩)
  rw[xT (n:=k) (fun i hi=>zb2 hi) ho]
  rw[<-hk,Ai,if_pos h3]at h2
  exact h2
 .obtain⟨h1,h2,h3⟩:=hR r s h
  rw[yD1 (n:=k) (fun i hi=>zb2 hi) h3,zZ5 ab h1 h2]
  exact hK r s h
theorem zl9 (i:Nat) {o:Ob} {args:List V} {R:V->St->Prop} (hc:VCalls P f args' [o] R) (hb:wB P f=true) (ho:σ[i]? =some o) (hok:ltOb 0 o=true)
  (aa:All2 (argS (ren [i] σ.length)) args' (args++caps)) (hR: ∀r s,R r s-> ∃o2,s= [o2]/\ltOb 0 o2=true) (hK: ∀r o2,R r [o2]->KV (renS (ren [i] σ.length) r) (σ.set i o2)):wVC P c (.fn f caps) args σ KV fx:=by
 refine xU5 hc hb ho hok aa fun r s h _=> ?_
 obtain⟨o2,rfl,h2⟩:=hR r s h
 have e:xD [i] σ [o2]=σ.set i o2:=by
  simp only[xD,Bn,C8,Dt,Dm,Bg,Aj,Bx,mset,Az]
  rw[xT (n:=0) (fun _ h=>absurd h (Bc _)) h2]
 rw[e];exact hK r o2 h
theorem xR6 {i N:Nat}:ren [i] N 0=i:=rfl
attribute [go_sem] renS renA renC renK xR6
section
variable {ρ:Nat->Nat} (hρ: ∀i,ρ i=i)
include hρ
theorem xR5 (v:V):renK ρ v=v:=by
 cases v with
 |sl g rows=>cases g<;>simp[renK,hρ]
 |_=>simp[renK,hρ]
theorem xi0 (v:V):renC ρ v=v:=by
 have h:renK ρ=fun v=>v:=funext fun v=>xR5 hρ v
 cases v with
 |fn f caps=>simp only[renC,h,E7]
 |ifc t v=>simp only[renC,h,E7]
 |_=>simp only[renC,h]
theorem xh9 (v:V):renA ρ v=v:=by
 have h:renC ρ=fun v=>v:=funext fun v=>xi0 hρ v
 cases v with
 |agg cs=>simp only[renA,h,E7]
 |_=>simp only[renA,h]
theorem zy8 (v:V):renS ρ v=v:=by
 have h:renA ρ=fun v=>v:=funext fun v=>xh9 hρ v
 cases v with
 |tup vs=>simp only[renS,h,E7]
 |_=>simp only[renS,h]
theorem zr2 (o:Ob):yF ρ o=o:=by
 have h:renC ρ=fun v=>v:=funext fun v=>xi0 hρ v
 cases o with
 |box cells=>simp only[yF,h,E7]
 |lst rows s=>simp only[yF,h,E7]
 |mp kvs borns clk=>
  have h:renA ρ=fun v=>v:=funext fun v=>xh9 hρ v
  simp only[yF,h,E7]
 |it m since seen last=>cases m<;>simp[yF,hρ]
 |_=>rfl
end
variable {σ:St}{P:Program}{c:Ctx}{nt:Nat}{Q:QT}{e:Env}{y:Code}
theorem zJ9 {f:FuncId} {caps args args':List V} {KV:V->St->Prop} {R:V->St->Prop} (hc:VCalls P f args' [] R) (hb:wB P f=true)
  (aa:All2 (argS (ren [] 0)) args' (args++caps)) (hK: ∀r s,R r s->KV r s):wVC P c (.fn f caps) args [] KV fx:=by
 have hid: ∀i,ren [] 0 i=i:=fun i=>by simp[ren]
 refine VC.of hc hb [] D9 rfl (fun i j o h=>by simp at h) aa fun r s h _=> ?_
 have e:xD [] [] s=s:=by
  have h2:yF (ren [] 0)=fun o=>o:=funext fun o=>zr2 hid o
  simp[xD,mset,h2]
 show KV (renS (ren [] 0) r) (xD [] [] s)
 rw[e,zy8 hid]
 exact hK r s h
theorem wQ {id:Nat} {ops:List Oper} (q:List (Nat×Nat)) (n0:Nat) (hn:n0<=σ.length) (hm:P.follows .mixedOrders=true) (hd:(zz7 ops q&&zc4 ops)=true) (h:wtr P c nt (Kp.pre n0) ops q 0 ops (Q .normal) fx fx fx e σ):wVW P c nt (.region id ops.toArray true) Q fx fx e σ:=by
 simp only[A6]at hd
 obtain⟨tr,ht,hK⟩:=zp4 ops 0 (Q .normal) e σ h
 exact VW.draw (n0:=Kp.pre n0) hm hn hd.1 hd.2 ht hK
theorem za5 {id:Nat} {ops:List Oper} (q:List (Nat×Nat)) (x n0:Nat) (hn:n0<=σ.length) (hm:P.follows .mixedOrders=true) (hd:(zz7 ops q&&zc4 ops)=true) (h:wtr P c nt (Kp.mk x n0 [] none) ops q 0 ops (Q .normal) fx fx fx e σ):wVW P c nt (.region id ops.toArray true) Q fx fx e σ:=by
 simp only[A6]at hd
 obtain⟨tr,ht,hK⟩:=zp4 ops 0 (Q .normal) e σ h
 exact VW.draw (n0:=Kp.mk x n0 [] none) hm hn hd.1 hd.2 ht hK
theorem zi6 (t s:Nat) (h0:0<s) (ht:e t= .sl .full []) (hy:wVW P c nt y Q fx fx (upd e t (.sl (.app σ.length) [])) (σ++ [.app 0 s])):wVW P c nt y Q fx fx e σ:=by
 intro a w L β hs
 have hr:=hs.env t
 rw[ht]at hr
 obtain⟨ad,hx⟩: ∃ad,a.tmps.getD t undef= .slice ad 0 0:=by
  have hr:RdP w L (.sl .full []) (a.tmps.getD t undef):=hr
  generalize a.tmps.getD t undef=x at hr
  cases hr with
  |sl0 g ad cap hg ha=>have:=hg rfl;subst this;exact⟨ad,rfl⟩
  |sl g rows s b o cap c ha hs hlen hlim hcap hg hc hr=>have:=hg rfl;subst this;exact⟨_,rfl⟩
 have aa:=Ext.push σ β hs.mem.len (.app 0 s) (.slice ad 0 0)
 refine hy a w L (β++ [.slice ad 0 0]) ⟨hs.mem.own h0,hs.size,hs.defs,fun k=> ?_⟩
 simp only[upd]
 split
 .rename_i hk
  subst hk
  rw[hx]
  exact⟨.sl0 .ro ad 0 (fun h=>by cases h) (fun _ h=>by cases h),0,s,sm,A4 _,fun _=>by rw[<-hs.mem.len];simp,fun r h=>by simp at h⟩
 .exact(hs.env k).mono (Le.refl _ _) aa
theorem zK0 (id off s:Nat) (cells:List V) (h0:0<s) (hσ:σ[id]? =some (.box cells)) (hc:cells[off]? =some (.sl .full []))
  (hy:wVW P c nt y Q fx fx e (σ.set id (.box (cells.set off (.sl (.app σ.length) [])))++ [.app 0 s])):wVW P c nt y Q fx fx e σ:=by
 intro a w L β hs
 obtain⟨x,h1,h2⟩:=xL6 hs.mem h0 hσ hc
 exact hy a w L (β++ [x]) ⟨h1,hs.size,hs.defs,fun k=>(hs.env k).mono (Le.refl _ _) h2⟩
theorem zM5 (t s:Nat) (h0:0<s) (ht:e t= .sl .full []) (hy:wVW P c nt y Q fx fx (upd e t (.lsv σ.length s 0 0 0)) (σ++ [.lst [] s])):wVW P c nt y Q fx fx e σ:=by
 intro a w L β hs
 have hr:=hs.env t
 rw[ht]at hr
 obtain⟨ad,hx⟩: ∃ad,a.tmps.getD t undef= .slice ad 0 0:=by
  have hr:RdP w L (.sl .full []) (a.tmps.getD t undef):=hr
  generalize a.tmps.getD t undef=x at hr
  cases hr with
  |sl0 g ad cap hg ha=>have:=hg rfl;subst this;exact⟨ad,rfl⟩
  |sl g rows s b o cap c ha hs hlen hlim hcap hg hc hr=>have:=hg rfl;subst this;exact⟨_,rfl⟩
 have aa:=Ext.push σ β hs.mem.len (.lst [] s) (.slice ad 0 0)
 refine hy a w L (β++ [.slice ad 0 0]) ⟨hs.mem.lstNil h0,hs.size,hs.defs,fun k=> ?_⟩
 simp only[upd]
 split
 .rename_i hk
  subst hk
  rw[hx]
  exact zR9 (w':=w) (L':=L) (s:=s) (rows:= []) (cap:=0) (a0:=ad) hs.mem.len (A5 _) (fun h=>absurd h om)
 .exact(hs.env k).mono (Le.refl _ _) aa
theorem yM6 {s:St} (h:σ.length<=s.length):xD (List.range σ.length) σ s=s:=by
 have ra: ∀i,ren (List.range σ.length) σ.length i=i:=fun i=>by
  by_cases h:i<σ.length
  .exact zb2 h
  .rw[zp3 (by simp;omega)];simp;omega
 have hid:yF (ren (List.range σ.length) σ.length)=fun o=>o:=funext fun o=>zr2 ra o
 apply Bt
 intro i
 by_cases hi:i<s.length
 .have:=zp0 (sel:=List.range σ.length) (σc:=σ) (σ':=s) Bm (fun q hq=>C3.1 hq) (by simpa using h) (A0 hi)
  rw[ra,hid]at this
  rw[this,A0 hi]
 .have hl:(xD (List.range σ.length) σ s).length=s.length:=by rw[zn2];simp;omega
  rw[Bh om,Bh om]
theorem zu2 {f:FuncId} {caps args:List V} {KV:V->St->Prop} {R:V->St->Prop} (hc:VCalls P f (args++caps) σ R) (hb:wB P f=true)
  (hk: ∀r s,R r s->σ.length<=s.length->KV r s):wVC P c (.fn f caps) args σ KV fx:=by
 have ra: ∀i,ren (List.range σ.length) σ.length i=i:=fun i=>by
  by_cases h:i<σ.length
  .exact zb2 h
  .rw[zp3 (by simp;omega)];simp;omega
 refine VC.of hc hb (List.range σ.length) Bm sm (fun i j o hi ho=> ?_) ?_ ?_
 .obtain⟨h3,h4⟩:=A3.1 hi
  simp at h3 h4
  subst h4
  rw[zr2 ra];exact ho
 .have: ∀l:List V,All2 (argS (ren (List.range σ.length) σ.length)) l l:=by
   intro l
   induction l with
   |nil=>trivial
   |cons a l ih=>exact⟨.inl (zy8 ra a).symm,ih⟩
  exact this _
 .intro r s hr hl
  rw[zy8 ra,yM6 (by simpa using hl)]
  exact hk r s hr (by simpa using hl)
theorem yl7 {n0:Nat} {R:V->St->Prop} {r:V} (hn:n0<=σ.length) (hR:R r σ):wret (some r) n0 R σ:=by
 have ra: ∀i,ren (List.range σ.length) σ.length i=i:=fun i=>by
  by_cases h:i<σ.length
  .exact zb2 h
  .rw[zp3 (by simp;omega)];simp;omega
 refine⟨r,rfl,r,σ,List.range σ.length,σ,r,.refl _ _,⟨sm,Bm,fun i j o hi ho=> ?_,fun i hi=>by rw[C4 om]⟩,.inl (zy8 ra r).symm,hR⟩
 obtain⟨h1,h2⟩:=A3.1 hi
 simp at h1 h2
 subst h2
 rw[zr2 ra]
 exact ho
end Go.Vx
namespace Go.Proofs.YtefbicjgbaaieaaGreat
open Go Go.Vx Go.Proofs.Tryz
@[go_sem] theorem szT_0:szT prog 2=some 1/\szT prog 3=some 1/\szT prog 4=some 1/\szT prog 5=some 1/\szT prog 9=some 1/\szT prog 25=some 1/\szT prog 29=some 1/\szT prog 30=some 1/\szT prog 32=some 3/\szT prog 36=some 1/\szT prog 38=some 3/\szT prog 41=some 1/\szT prog 50=some 2/\szT prog 52=some 2/\szT prog 53=some 1/\szT prog 57=some 3:=by
 and_intros<;>kernel_rfl
@[go_sem] theorem szT_1:szT prog 58=some 1/\szT prog 60=some 2/\szT prog 61=some 1/\szT prog 63=some 3/\szT prog 65=some 1/\szT prog 66=some 1/\szT prog 68=some 2/\szT prog 74=some 1/\szT prog 75=some 1/\szT prog 76=some 1/\szT prog 77=some 1/\szT prog 79=some 6/\szT prog 81=some 15/\szT prog 97=some 1/\szT prog 99=some 1/\szT prog 101=some 1:=by
 and_intros<;>kernel_rfl
@[go_sem] theorem szT_2:szT prog 103=some 2/\szT prog 105=some 2/\szT prog 117=some 4/\szT prog 120=some 7/\szT prog 122=some 7/\szT prog 124=some 1/\szT prog 125=some 1/\szT prog 137=some 1/\szT prog 141=some 11/\szT prog 169=some 1/\szT prog 180=some 4/\szT prog 188=some 3/\szT prog 191=some 2/\szT prog 195=some 1/\szT prog 200=some 3/\szT prog 310=some 2:=by
 and_intros<;>kernel_rfl
@[go_sem] theorem aggT_0:aggT prog 2=some false/\aggT prog 3=some false/\aggT prog 4=some false/\aggT prog 5=some false/\aggT prog 9=some false/\aggT prog 25=some false/\aggT prog 29=some false/\aggT prog 30=some false/\aggT prog 32=some true/\aggT prog 36=some false/\aggT prog 38=some true/\aggT prog 41=some false/\aggT prog 50=some true/\aggT prog 52=some true/\aggT prog 53=some false/\aggT prog 57=some true:=by
 and_intros<;>kernel_rfl
@[go_sem] theorem aggT_1:aggT prog 58=some false/\aggT prog 60=some true/\aggT prog 61=some false/\aggT prog 63=some true/\aggT prog 65=some false/\aggT prog 66=some false/\aggT prog 68=some true/\aggT prog 74=some false/\aggT prog 75=some false/\aggT prog 76=some false/\aggT prog 77=some false/\aggT prog 79=some true/\aggT prog 81=some true/\aggT prog 97=some false/\aggT prog 99=some false/\aggT prog 101=some false:=by
 and_intros<;>kernel_rfl
@[go_sem] theorem aggT_2:aggT prog 103=some true/\aggT prog 105=some true/\aggT prog 117=some true/\aggT prog 120=some true/\aggT prog 122=some true/\aggT prog 124=some false/\aggT prog 125=some false/\aggT prog 137=some false/\aggT prog 141=some true/\aggT prog 169=some false/\aggT prog 180=some true/\aggT prog 188=some true/\aggT prog 191=some true/\aggT prog 195=some false/\aggT prog 200=some true/\aggT prog 310=some true:=by
 and_intros<;>kernel_rfl
@[go_sem] theorem eqK_0:eqK prog 2=0/\eqK prog 3=0/\eqK prog 4=1/\eqK prog 5=0/\eqK prog 9=0/\eqK prog 29=0/\eqK prog 57=0/\eqK prog 61=3/\eqK prog 63=0/\eqK prog 105=0/\eqK prog 134=0/\eqK prog 261=0:=by
 and_intros<;>kernel_rfl
@[go_sem] theorem eqS_0:eqS prog 2=none/\eqS prog 3=none/\eqS prog 4=none/\eqS prog 5=none/\eqS prog 9=none/\eqS prog 29=none/\eqS prog 57=some [.s,.b,.s]/\eqS prog 61=none/\eqS prog 63=some [.i .i64,.i .i64,.s]/\eqS prog 105=some [.s,.s]/\eqS prog 134=none/\eqS prog 261=none:=by
 and_intros<;>kernel_rfl
@[go_sem] theorem kdT_0:kdT prog 2=some (.int .i64)/\kdT prog 3=some (.int .i64)/\kdT prog 5=some (.int .u8)/\kdT prog 9=some .str/\kdT prog 133=some .bytes/\kdT prog 134=some (.int .u64)/\kdT prog 261=some (.int .u64):=by
 and_intros<;>kernel_rfl
@[go_sem] theorem zeroT_0:wI prog 3=some [.int .i64 0]/\wI prog 28=some [.sl .full [],.sl .full [],.sl .full [],.sl .full [],.sl .full [],.sl .full [],.sl .full [],.sl .full []]/\wI prog 32=some [.int .i64 0,.int .i64 0,.sl .full []]/\wI prog 38=some [.int .i64 0,.int .i64 0,.sl .full []]/\wI prog 50=some [.int .i64 0,.sl .full []]/\wI prog 52=some [.str [],.str []]/\wI prog 55=some [.int .i64 0,.sl .full []]/\wI prog 57=some [.str [],.bool false,.str []]/\wI prog 60=some [.sl .full [],.int .i64 0]/\wI prog 63=some [.int .i64 0,.int .i64 0,.str []]/\wI prog 68=some [.sl .full [],.sl .full []]/\wI prog 79=some [.int .i64 0,.str [],.int .i64 0,.int .i64 0,.str [],.sl .full []]/\wI prog 81=some [.int .i64 0,.str [],.sl .full [],.sl .full [],.sl .full [],.bool false,.int .i64 0,.str [],.int .i64 0,.int .i64 0,.str [],.sl .full [],.str [],.bool false,.int .i64 0]/\wI prog 103=some [.int .i64 0,.sl .full []]/\wI prog 105=some [.str [],.str []]/\wI prog 120=some [.int .i64 0,.int .i64 0,.str [],.int .i64 0,.int .i64 0,.str [],.sl .full []]:=by
 and_intros<;>kernel_rfl
@[go_sem] theorem zeroT_1:wI prog 122=some [.str [],.int .i64 0,.str [],.int .i64 0,.int .i64 0,.str [],.sl .full []]/\wI prog 127=some [.sl .full [],.sl .full [],.raw (.map none),.raw (.map none),.raw (.map none)]/\wI prog 141=some [.str [],.sl .full [],.int .i64 0,.int .i64 0,.int .i64 0,.sl .full [],.sl .full [],.sl .full [],.int .i64 0,.int .i64 0,.int .i64 0]/\wI prog 152=some [.sl .full []]/\wI prog 158=some [.int .i64 0,.sl .full []]/\wI prog 174=some [.sl .full [],.int .i64 0,.int .i64 0,.int .i64 0,.int .i64 0]/\wI prog 180=some [.int .i64 0,.int .i64 0,.str [],.int .i64 0]/\wI prog 191=some [.int .i64 0,.str []]/\wI prog 200=some [.int .i64 0,.str [],.sl .full []]/\wI prog 310=some [.raw .nilFunc,.raw .nilFunc]:=by
 and_intros<;>kernel_rfl
@[go_sem] theorem lenT_0:lenT prog 9=1/\lenT prog 22=2/\lenT prog 25=2/\lenT prog 30=2/\lenT prog 33=2/\lenT prog 36=2/\lenT prog 41=2/\lenT prog 42=2/\lenT prog 53=2/\lenT prog 58=2/\lenT prog 61=2/\lenT prog 65=2/\lenT prog 66=2/\lenT prog 74=2/\lenT prog 75=2/\lenT prog 76=2:=by
 and_intros<;>kernel_rfl
@[go_sem] theorem lenT_1:lenT prog 77=2/\lenT prog 97=2/\lenT prog 99=2/\lenT prog 101=2/\lenT prog 107=2/\lenT prog 133=2/\lenT prog 137=2/\lenT prog 169=2/\lenT prog 195=2/\lenT prog 201=2:=by
 and_intros<;>kernel_rfl
@[go_sem] theorem strT_0:strT prog 9=true:=kR
@[go_sem] theorem slcT_0:slcT prog 22=some 1/\slcT prog 25=some 2/\slcT prog 30=some 2/\slcT prog 33=some 2/\slcT prog 36=some 15/\slcT prog 41=some 4/\slcT prog 42=some 2/\slcT prog 53=some 3/\slcT prog 58=some 1/\slcT prog 61=some 3/\slcT prog 65=some 1/\slcT prog 66=some 11/\slcT prog 74=some 7/\slcT prog 75=some 1/\slcT prog 76=some 7/\slcT prog 77=some 6:=by
 and_intros<;>kernel_rfl
@[go_sem] theorem slcT_1:slcT prog 97=some 1/\slcT prog 99=some 2/\slcT prog 101=some 2/\slcT prog 107=some 2/\slcT prog 133=some 1/\slcT prog 137=some 3/\slcT prog 169=some 4/\slcT prog 195=some 3/\slcT prog 201=some 2/\slcT prog 378=some 1:=by
 and_intros<;>kernel_rfl
@[go_sem] theorem elT_0:elT prog 25=some (2,32)/\elT prog 30=some (2,32)/\elT prog 33=some (2,32)/\elT prog 36=some (15,216)/\elT prog 42=some (2,32)/\elT prog 53=some (3,40)/\elT prog 58=some (1,24)/\elT prog 61=some (3,32)/\elT prog 65=some (1,8)/\elT prog 66=some (11,160)/\elT prog 74=some (7,88)/\elT prog 75=some (1,24)/\elT prog 76=some (7,96)/\elT prog 77=some (6,80)/\elT prog 97=some (1,16)/\elT prog 99=some (2,32):=by
 and_intros<;>kernel_rfl
@[go_sem] theorem elT_1:elT prog 101=some (2,32)/\elT prog 107=some (2,32)/\elT prog 133=some (1,1)/\elT prog 169=some (4,40)/\elT prog 195=some (3,48)/\elT prog 201=some (2,24)/\elT prog 378=some (1,24):=by
 and_intros<;>kernel_rfl
@[go_sem] theorem arrT_0:arrT prog 26=some (8,1,false):=kR
@[go_sem] theorem plcT_0:plcT prog 28=some [(0,8)]/\plcT prog 32=some [(0,1),(1,1),(2,1)]/\plcT prog 38=some [(0,1),(1,1),(2,1)]/\plcT prog 50=some [(0,1),(1,1)]/\plcT prog 52=some [(0,1),(1,1)]/\plcT prog 55=some [(0,1),(1,1)]/\plcT prog 57=some [(0,1),(1,1),(2,1)]/\plcT prog 60=some [(0,1),(1,1)]/\plcT prog 63=some [(0,1),(1,1),(2,1)]/\plcT prog 68=some [(0,1),(1,1)]/\plcT prog 79=some [(0,1),(1,1),(2,3),(5,1)]/\plcT prog 81=some [(0,1),(1,1),(2,1),(3,1),(4,1),(5,1),(6,6),(12,1),(13,1),(14,1)]/\plcT prog 103=some [(0,1),(1,1)]/\plcT prog 105=some [(0,1),(1,1)]/\plcT prog 120=some [(0,1),(1,6)]/\plcT prog 122=some [(0,1),(1,6)]:=by
 and_intros<;>kernel_rfl
@[go_sem] theorem plcT_1:plcT prog 127=some [(0,2),(2,1),(3,1),(4,1)]/\plcT prog 141=some [(0,1),(1,1),(2,1),(3,1),(4,1),(5,6)]/\plcT prog 152=some [(0,1)]/\plcT prog 158=some [(0,1),(1,1)]/\plcT prog 174=some [(0,1),(1,1),(2,1),(3,1),(4,1)]/\plcT prog 180=some [(0,1),(1,1),(2,1),(3,1)]/\plcT prog 191=some [(0,1),(1,1)]/\plcT prog 200=some [(0,2),(2,1)]/\plcT prog 310=some [(0,1),(1,1)]:=by
 and_intros<;>kernel_rfl
@[go_sem] theorem fldT_0:fldT prog 28 0=some (0,8,true)/\fldT prog 32 0=some (0,1,false)/\fldT prog 32 1=some (1,1,false)/\fldT prog 32 2=some (2,1,false)/\fldT prog 38 0=some (0,1,false)/\fldT prog 38 1=some (1,1,false)/\fldT prog 38 2=some (2,1,false)/\fldT prog 50 0=some (0,1,false)/\fldT prog 50 1=some (1,1,false)/\fldT prog 52 0=some (0,1,false)/\fldT prog 52 1=some (1,1,false)/\fldT prog 55 0=some (0,1,false)/\fldT prog 55 1=some (1,1,false)/\fldT prog 57 0=some (0,1,false)/\fldT prog 57 1=some (1,1,false)/\fldT prog 57 2=some (2,1,false):=by
 and_intros<;>kernel_rfl
@[go_sem] theorem fldT_1:fldT prog 60 0=some (0,1,false)/\fldT prog 60 1=some (1,1,false)/\fldT prog 63 0=some (0,1,false)/\fldT prog 63 1=some (1,1,false)/\fldT prog 63 2=some (2,1,false)/\fldT prog 68 0=some (0,1,false)/\fldT prog 68 1=some (1,1,false)/\fldT prog 79 0=some (0,1,false)/\fldT prog 79 1=some (1,1,false)/\fldT prog 79 2=some (2,3,true)/\fldT prog 79 3=some (5,1,false)/\fldT prog 81 0=some (0,1,false)/\fldT prog 81 1=some (1,1,false)/\fldT prog 81 2=some (2,1,false)/\fldT prog 81 3=some (3,1,false)/\fldT prog 81 4=some (4,1,false):=by
 and_intros<;>kernel_rfl
@[go_sem] theorem fldT_2:fldT prog 81 5=some (5,1,false)/\fldT prog 81 6=some (6,6,true)/\fldT prog 81 7=some (12,1,false)/\fldT prog 81 8=some (13,1,false)/\fldT prog 81 9=some (14,1,false)/\fldT prog 103 0=some (0,1,false)/\fldT prog 103 1=some (1,1,false)/\fldT prog 105 0=some (0,1,false)/\fldT prog 105 1=some (1,1,false)/\fldT prog 117 0=some (0,1,false)/\fldT prog 117 1=some (1,1,false)/\fldT prog 117 2=some (2,1,false)/\fldT prog 117 3=some (3,1,false)/\fldT prog 120 0=some (0,1,false)/\fldT prog 120 1=some (1,6,true)/\fldT prog 122 0=some (0,1,false):=by
 and_intros<;>kernel_rfl
@[go_sem] theorem fldT_3:fldT prog 122 1=some (1,6,true)/\fldT prog 127 0=some (0,2,true)/\fldT prog 127 1=some (2,1,false)/\fldT prog 127 2=some (3,1,false)/\fldT prog 127 3=some (4,1,false)/\fldT prog 141 0=some (0,1,false)/\fldT prog 141 1=some (1,1,false)/\fldT prog 141 2=some (2,1,false)/\fldT prog 141 3=some (3,1,false)/\fldT prog 141 4=some (4,1,false)/\fldT prog 152 0=some (0,1,false)/\fldT prog 158 0=some (0,1,false)/\fldT prog 158 1=some (1,1,false)/\fldT prog 174 0=some (0,1,false)/\fldT prog 174 1=some (1,1,false)/\fldT prog 174 2=some (2,1,false):=by
 and_intros<;>kernel_rfl
@[go_sem] theorem fldT_4:fldT prog 174 3=some (3,1,false)/\fldT prog 174 4=some (4,1,false)/\fldT prog 180 0=some (0,1,false)/\fldT prog 180 1=some (1,1,false)/\fldT prog 180 2=some (2,1,false)/\fldT prog 180 3=some (3,1,false)/\fldT prog 188 0=some (0,1,false)/\fldT prog 188 1=some (1,1,false)/\fldT prog 188 2=some (2,1,false)/\fldT prog 191 0=some (0,1,false)/\fldT prog 191 1=some (1,1,false)/\fldT prog 200 0=some (0,2,true)/\fldT prog 200 1=some (2,1,false)/\fldT prog 310 0=some (0,1,false)/\fldT prog 310 1=some (1,1,false):=by
 and_intros<;>kernel_rfl
@[go_sem] theorem zelT_0:zelT prog 65=some [.int .i64 0]/\zelT prog 133=some [.int .u8 0]:=by
 and_intros<;>kernel_rfl
@[go_sem] theorem Tryz.isMapT124:zh4 prog 124=true:=kR
@[go_sem] theorem Tryz.mapT124:mapT prog 124=some (.st [.i .i64,.s],.str []):=kR
@[go_sem] theorem Tryz.isMapT125:zh4 prog 125=true:=kR
@[go_sem] theorem Tryz.mapT125:mapT prog 125=some (.st [.i .i64,.s],.int .i64 0):=kR
@[go_sem] theorem Tryz.isSlT195:ys6 prog 195=true:=kR
theorem cB {P:Program} {f:FuncId} (h:wB P f=true:=by kernel_rfl):wB P f=true:=h
end Go.Proofs.YtefbicjgbaaieaaGreat
namespace Go.Proofs.YtefbicjgbaaieaaGreat
open Go Go.Vx Go.Proofs.Tryz
set_option maxRecDepth 100000
structure GCol where
 name:List UInt8
 kind:Int
 null:Bool
 deriving DecidableEq
@[go_sem] def GCol.row (x:GCol):List V:= [.str x.name,.int .i64 x.kind,.bool x.null]
structure GZone where
 voters:List Int
 witnesses:List Int
 learners:List Int
 elect:Int
 commit:Int
 survive:Int
 deriving DecidableEq
structure GTable where
 name:List UInt8
 cols:List GCol
 key:Int
 place:Int
 region:Int
 zone:GZone
 deriving DecidableEq
@[go_sem] def GTable.row (x:GTable):List V:= [.str x.name,.sl .ro (x.cols.map GCol.row),.int .i64 x.key,.int .i64 x.place,.int .i64 x.region,.sl .ro (x.zone.voters.map (fun n=> [V.int .i64 n])),.sl .ro (x.zone.witnesses.map (fun n=> [V.int .i64 n])),.sl .ro (x.zone.learners.map (fun n=> [V.int .i64 n])),.int .i64 x.zone.elect,.int .i64 x.zone.commit,.int .i64 x.zone.survive]
structure GValue where
 kind:Int
 n:Int
 s:List UInt8
 deriving DecidableEq
@[go_sem] def GValue.row (x:GValue):List V:= [.int .i64 x.kind,.int .i64 x.n,.str x.s]
structure GValue.ok (x:GValue):Prop where
 kind: -9223372036854775808<=x.kind/\x.kind<=9223372036854775807
 n: -9223372036854775808<=x.n/\x.n<=9223372036854775807
 s:x.s.length<=maxLen
inductive GExpr where
 |mk (kind:Int) (s:List UInt8) (v:GValue) (args:List GExpr)
def GExpr.kind:GExpr->Int
 | .mk x _ _ _=>x
def GExpr.s:GExpr->List UInt8
 | .mk _ x _ _=>x
def GExpr.v:GExpr->GValue
 | .mk _ _ x _=>x
def GExpr.args:GExpr->List GExpr
 | .mk _ _ _ x=>x
mutual
def GExpr.row:GExpr->List V
 | .mk a0 a1 a2 a3=> [.int .i64 a0,.str a1,.int .i64 a2.kind,.int .i64 a2.n,.str a2.s,.sl .ro (GExpr.rows a3)]
def GExpr.rows:List GExpr->List (List V)
 | []=> []
 |e::l=>GExpr.row e::GExpr.rows l
end
theorem GExpr.rows_map: ∀l:List GExpr,GExpr.rows l=l.map GExpr.row
 | []=>rfl
 |e::l=>by rw[GExpr.rows,GExpr.rows_map l];rfl
@[go_sem] theorem GExpr.row_eq (x:GExpr):x.row= [.int .i64 x.kind,.str x.s,.int .i64 x.v.kind,.int .i64 x.v.n,.str x.v.s,.sl .ro (x.args.map GExpr.row)]:=by
 cases x
 rw[GExpr.row,GExpr.rows_map]
 rfl
structure GItem where
 kind:Int
 e:GExpr
@[go_sem] def GItem.row (x:GItem):List V:= [.int .i64 x.kind,.int .i64 x.e.kind,.str x.e.s,.int .i64 x.e.v.kind,.int .i64 x.e.v.n,.str x.e.v.s,.sl .ro (x.e.args.map GExpr.row)]
structure GAssign where
 name:List UInt8
 e:GExpr
@[go_sem] def GAssign.row (x:GAssign):List V:= [.str x.name,.int .i64 x.e.kind,.str x.e.s,.int .i64 x.e.v.kind,.int .i64 x.e.v.n,.str x.e.v.s,.sl .ro (x.e.args.map GExpr.row)]
structure GStmt where
 kind:Int
 table:List UInt8
 items:List GItem
 rows:List (List GExpr)
 sets:List GAssign
 filtered:Bool
 where_:GExpr
 order:List UInt8
 down:Bool
 limit:Int
@[go_sem] def GStmt.row (x:GStmt):List V:= [.int .i64 x.kind,.str x.table,.sl .ro (x.items.map GItem.row),.sl .ro (x.rows.map (fun(l:List GExpr)=> [V.sl .ro (l.map GExpr.row)])),.sl .ro (x.sets.map GAssign.row),.bool x.filtered,.int .i64 x.where_.kind,.str x.where_.s,.int .i64 x.where_.v.kind,.int .i64 x.where_.v.n,.str x.where_.v.s,.sl .ro (x.where_.args.map GExpr.row),.str x.order,.bool x.down,.int .i64 x.limit]
structure GLot where
 mode:Int
 n:Int
 stmts:List GStmt
@[go_sem] def GLot.row (x:GLot):List V:= [.int .i64 x.mode,.int .i64 x.n,.sl .ro (x.stmts.map GStmt.row)]
structure GSpan where
 lo:List UInt8
 hi:List UInt8
 deriving DecidableEq
@[go_sem] def GSpan.row (x:GSpan):List V:= [.str x.lo,.str x.hi]
structure GAct where
 what:Int
 a:Int
 b:Int
 c:Int
 deriving DecidableEq
@[go_sem] def GAct.row (x:GAct):List V:= [.int .i64 x.what,.int .i64 x.a,.int .i64 x.b,.int .i64 x.c]
structure GAct.ok (x:GAct):Prop where
 what: -9223372036854775808<=x.what/\x.what<=9223372036854775807
 a: -9223372036854775808<=x.a/\x.a<=9223372036854775807
 b: -9223372036854775808<=x.b/\x.b<=9223372036854775807
 c: -9223372036854775808<=x.c/\x.c<=9223372036854775807
theorem GAct.of_shp {vs:List V} (h:Shp prog 117 vs): ∃x:GAct,vs=x.row/\x.ok:=by
 have h:ShpF prog [3,3,3,3] vs:=h.struct_inv underlying117
 obtain⟨_,_,rfl,h0,h⟩:=h.cons_inv
 obtain⟨_,_,rfl,h1,h⟩:=h.cons_inv
 obtain⟨_,_,rfl,h2,h⟩:=h.cons_inv
 obtain⟨_,_,rfl,h3,h⟩:=h.cons_inv
 obtain rfl:=h.nil_inv
 obtain⟨x0,rfl,w0⟩:=h0.int_inv underlying3
 have w0:=yE9 w0
 obtain⟨x1,rfl,w1⟩:=h1.int_inv underlying3
 have w1:=yE9 w1
 obtain⟨x2,rfl,w2⟩:=h2.int_inv underlying3
 have w2:=yE9 w2
 obtain⟨x3,rfl,w3⟩:=h3.int_inv underlying3
 have w3:=yE9 w3
 exact⟨⟨x0,x1,x2,x3⟩,rfl,⟨w0,w1,w2,w3⟩⟩
end Go.Proofs.YtefbicjgbaaieaaGreat
