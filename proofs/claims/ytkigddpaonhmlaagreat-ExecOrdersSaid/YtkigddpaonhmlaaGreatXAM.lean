/-
  Small helps for walks: numbers that do not wrap, rows at an index, arguments and results piece by piece.
  No condition: a library text; nothing of the program is named.
-/
import Derived.Test.YtkigddpaonhmlaaGreatXAL
import Derived.Carry
import Derived.ProofKit
import Derived.OpenShut
import Derived.IntWalk
set_option maxHeartbeats 8000000
namespace Go.Vx
open Go
mutual
inductive Shp (P:Program):TypeId->List V->Prop
 |bool {t:TypeId} (b:Bool):P.underlying t=some .bool->Shp P t [.bool b]
 |int {t:TypeId} {k:IntKind} {n:Int}:P.underlying t=some (.int k)->(Lit.int k n).wf=true->Shp P t [.int k n]
 |str {t:TypeId} {s:List UInt8}:P.underlying t=some .string->s.length<=maxLen->Shp P t [.str s]
 |sl {t e:TypeId} {rows:List (List V)}:P.underlying t=some (.slice e)->rows.length<=maxLen->ShpR P e rows->Shp P t [.sl .ro rows]
 |struct {t:TypeId} {fs:Array Field} {cells:List V}:P.underlying t=some (.struct fs)->ShpF P (fs.toList.map (·.type)) cells->Shp P t cells
inductive ShpR (P:Program):TypeId->List (List V)->Prop
 |nil {e:TypeId}:ShpR P e []
 |cons {e:TypeId} {r:List V} {rows:List (List V)}:Shp P e r->ShpR P e rows->ShpR P e (r::rows)
inductive ShpF (P:Program):List TypeId->List V->Prop
 |nil:ShpF P [] []
 |cons {t:TypeId} {ts:List TypeId} {a b:List V}:Shp P t a->ShpF P ts b->ShpF P (t::ts) (a++b)
end
def zC1 (P:Program):Nat->List Field->Nat->Bool
 |o,[],n=>o==n
 |o,f::fs,n=>f.offset==o&&zC1 P (o+P.cellsOf f.type) fs n
def okT (P:Program) (T:List TypeId):Bool:=T.all fun t=>
 match P.underlying t with
 |some .bool|some (.int _)|some .string=>true
 |some (.slice e)=>T.contains e&&decide (0<P.cellsOf e)
 |some (.struct fs)=>fs.all (fun f=>T.contains f.type)&&zC1 P 0 fs.toList (P.cellsOf t)
 |_=>false
def lims (w:World):Nat->Nat:=fun b=>match w.heap[b]? with|some (.cells c _ _)=>c.size|_=>0
section
variable {H:Type} {enc:TypeId×Value->H} {P:Program} {w:World} {base:Nat} {spare:Nat->Bool} {held:Bool}
theorem yX3 {b o:Nat} {x:Value} (h:w.cell? ⟨b,o,none⟩=some x):o<lims w b:=by
 unfold World.cell? at h
 unfold lims
 simp only at h
 split at h
 .rename_i c _ _ hb
  rw[hb]
  simp only[Option.isSome_none,Bf,if_false]at h
  exact(Ap.1 h).1
 .cases h
theorem yY8 {T:List TypeId} (hT:okT P T=true) {t:TypeId} (h:t∈T):(match P.underlying t with
  |some .bool|some (.int _)|some .string=>true
  |some (.slice e)=>T.contains e&&decide (0<P.cellsOf e)
  |some (.struct fs)=>fs.all (fun f=>T.contains f.type)&&zC1 P 0 fs.toList (P.cellsOf t)
  |_=>false)=true:=by
 unfold okT at hT
 rw[Af]at hT
 exact hT t h
inductive Sm (M:Nat):V->Prop
 |bool (b:Bool):Sm M (.bool b)
 |int (k:IntKind) (n:Int):Sm M (.int k n)
 |str {s:List UInt8}:s.length<=M->Sm M (.str s)
 |sl {g:Tag} {rows:List (List V)}:rows.length<=M->(∀r∈rows,∀v∈r,Sm M v)->Sm M (.sl g rows)
 |agg {cs:List V}:(∀v∈cs,Sm M v)->Sm M (.agg cs)
structure BulkOk {H:Type} (B:DataW H->Nat) (BA:List (DataW H)->Nat):Prop where
 str: ∀s:List UInt8,s.length<=B (.lit (.string s))
 sl: ∀es sp,BA es<=B (.slice es sp)
 agg: ∀ps,BA ps<=B (.agg ps)
 mem: ∀d l,d∈l->B d<=BA l
 len: ∀l:List (DataW H),l.length<=BA l
def SmD {H:Type} (d:DataW H) (vs:List V):Prop:= ∀(B:DataW H->Nat) (BA:List (DataW H)->Nat),BulkOk B BA-> ∀M,B d<=M-> ∀v∈vs,Sm M v
theorem zM5 {T:List TypeId} (hT:okT P T=true): ∀(fuel:Nat) (t:TypeId) (cs:List Value) (x:DataW H×List MemPlace),t∈T->DataW.trod enc P w base spare held fuel t cs=some x->
  ∃vs,Shp P t vs/\All2 (RdP w (lims w)) vs cs/\SmD x.1 vs
 |0,t,cs,x,_,h=>by simp[DataW.trod]at h
 |fuel+1,t,cs,x,ht,h=>by
  have hk:=yY8 hT ht
  split at hk
  .rename_i hu
   obtain⟨b,rfl,_⟩:=DataW.trod_bool hu h
   exact⟨[.bool b],.bool b hu,⟨.bool b,trivial⟩,fun _ _ _ _ _ v hv=>by simp at hv;subst hv;exact .bool b⟩
  .rename_i k hu
   obtain⟨n,rfl,_,hw⟩:=DataW.trod_int hu h
   exact⟨[.int k n],.int hu hw,⟨.int k n,trivial⟩,fun _ _ _ _ _ v hv=>by simp at hv;subst hv;exact .int k n⟩
  .rename_i hu
   obtain⟨s,rfl,rfl,hs⟩:=DataW.trod_string hu h
   have hr:RdP w (lims w) (.str s.data.toList) (.string ⟨s.data.toList.toArray⟩):= .str _
   exact⟨[.str s.data.toList],.str hu (by simpa using hs),⟨hr,trivial⟩,fun B BA hB M hM v hv=>by simp at hv;subst hv;exact .str (by have:=hB.str s.data.toList;simp only at hM;simp at this hM⊢;omega)⟩
  .rename_i e hu
   simp only[A4,decide_eq_true_eq,List.contains_iff_mem]at hk
   obtain⟨he,hpos⟩:=hk
   rcases DataW.trod_slice hu h with ⟨rfl,_⟩|⟨a,len,cap,elems,rest,n,hfu,rfl,hxe,hb,hl,hm,hlen,hel,_,_⟩
   .exact⟨[.sl .ro []],.sl hu (A3 _) .nil,⟨.sl0 _ _ _ (fun q=>by cases q) (fun _=>by simp),trivial⟩,fun _ _ _ _ _ v hv=>by simp at hv;subst hv;exact .sl (A3 _) (by simp)⟩
   .obtain rfl:fuel=n:=by omega
    have each: ∀i,i<len-> ∃(vs:List V) (cs':List Value),Shp P e vs/\All2 (RdP w (lims w)) vs cs'/\cs'.length=P.cellsOf e/\(∀j,j<P.cellsOf e->w.cell? ((a.add (i*P.cellsOf e)).add j)=cs'[j]?)/\ ∃d∈elems.map (·.1),SmD d vs:=by
     intro i hi
     have h1:=hel i hi
     rw[A0 (by omega)]at h1
     cases hc:w.cells? base (a.add (i*P.cellsOf e)) (P.cellsOf e)with
     |none=>rw[hc]at h1;cases h1
     |some cs'=>
      rw[hc]at h1
      obtain⟨_,hl',hcell⟩:=World.cells?_some hc
      obtain⟨vs,hs,hr,hsm⟩:=zM5 hT fuel e cs' _ he h1
      exact⟨vs,cs',hs,hr,hl',hcell,_,Ac.2 ⟨_,A8 _,rfl⟩,hsm⟩
    rcases Nat.eq_zero_or_pos len with rfl|hlp
    .exact⟨[.sl .ro []],.sl hu (A3 _) .nil,⟨.sl0 _ _ _ (fun q=>by cases q) (fun _=>by simp),trivial⟩,fun _ _ _ _ _ v hv=>by simp at hv;subst hv;exact .sl (A3 _) (by simp)⟩
    .obtain⟨b,o,spot⟩:=a
     have hspot:spot=none:=by
      obtain⟨vs,cs',_,_,hl',hcell,_⟩:=each 0 hlp
      have h0:=hcell 0 hpos
      rw[A0 (by omega)]at h0
      simp only[Ca,Addr.add,if_true]at h0
      cases spot with
      |none=>rfl
      |some _=>
       exfalso
       unfold World.cell? at h0
       split at h0
       .simp at h0
       .cases h0
     subst hspot
     have hadd: ∀i j,((⟨b,o,none⟩:Addr).add (i*P.cellsOf e)).add j=⟨b,o+i*P.cellsOf e+j,none⟩:=by
      intro i j;rw[xS,xS]
     have key: ∀m,m<=len-> ∃rows:List (List V),rows.length=m/\ShpR P e rows/\(∀r∈rows,r.length=P.cellsOf e)/\(∀r∈rows,∃d∈elems.map (·.1),SmD d r)/\
       ∀i j (hi:i<rows.length) (hj:j<rows[i].length),∃x,w.cell? ⟨b,o+(len - m+i)*P.cellsOf e+j,none⟩=some x/\RdP w (lims w) (rows[i][j]) x:=by
      intro m
      induction m with
      |zero=>exact fun _=>⟨[],rfl,.nil,fun _ q=>by simp at q,fun _ q=>by simp at q,fun i j hi=>by simp at hi⟩
      |succ m ih=>
       intro hm
       obtain⟨rows,h1,h2,h3,h3b,h4⟩:=ih (by omega)
       obtain⟨vs,cs',hs,hr,hl',hcell,hsm⟩:=each (len - (m+1)) (by omega)
       refine⟨vs::rows,by simp[h1],.cons hs h2,fun r hr'=> ?_,fun r hr'=> ?_,fun i j hi hj=> ?_⟩
       .rcases Ag.1 hr' with rfl|hr'
        .rw[hr.length,hl']
        .exact h3 r hr'
       .rcases Ag.1 hr' with rfl|hr'
        .exact hsm
        .exact h3b r hr'
       .cases i with
        |zero=>
         simp only[List.getElem_cons_zero]at hj⊢
         obtain⟨x,hx,hrx⟩:=hr.get j _ (A0 hj)
         refine⟨x, ?_,hrx⟩
         have:=hcell j (by rw[<-hl',<-hr.length];exact hj)
         rw[hadd,hx]at this
         simpa using this
        |succ i=>
         simp only[List.getElem_cons_succ]at hj⊢
         obtain⟨x,hx,hrx⟩:=h4 i j (by simpa using hi) hj
         refine⟨x, ?_,hrx⟩
         rw[show len - (m+1)+(i+1)=len - m+i by omega]
         exact hx
     obtain⟨rows,h1,h2,h3,h3b,h4⟩:=key len (A2 _)
     have hsub:len - len=0:=by omega
     rw[hsub]at h4
     simp only[Aa]at h4
     subst h1
     refine⟨[.sl .ro rows],.sl hu (by omega) h2,⟨?_,trivial⟩,fun B BA hB M hM v hv=>by
      simp at hv;subst hv
      rw[hxe]at hM
      have q1:=hB.sl (elems.map (·.1)) (rest.map (·.1))
      have q2:=hB.len (elems.map (·.1))
      rw[Aq]at q2
      simp only at hM
      refine .sl (by omega) fun r hr v hv=> ?_
      obtain⟨d,hd,hsd⟩:=h3b r hr
      have q3:=hB.mem _ _ hd
      exact hsd B BA hB M (by omega) v hv⟩
     let c:Nat->Nat->Value:=fun i j=>(w.cell? ⟨b,o+i*P.cellsOf e+j,none⟩).getD undef
     refine .sl .ro rows (P.cellsOf e) b o cap c (fun _=>by simp) hpos h3 ?_ hl (fun q=>by cases q) (fun i j hi hj=> ?_) (fun i j hi hj=> ?_)
     .obtain⟨x,hx,_⟩:=h4 (rows.length - 1) (P.cellsOf e - 1) (by omega) (by rw[h3 _ (A8 _)];omega)
      have hlt:=yX3 hx
      have h5:(rows.length - 1)*P.cellsOf e+P.cellsOf e=rows.length*P.cellsOf e:=by
       rw[<-Nat.succ_mul];congr 1;omega
      omega
     .obtain⟨x,hx,_⟩:=h4 i j hi (by rw[h3 _ (A8 _)];exact hj)
      simp[c,hx]
     .obtain⟨x,hx,hr⟩:=h4 i j hi hj
      simp only[c,hx,Ej]
      exact hr
  .rename_i fs hu
   simp only[A4,D3,List.contains_iff_mem]at hk
   obtain⟨hmem,hrow⟩:=hk
   obtain⟨xs,n,hfu,hxe,hlen,hxl,hat⟩:=DataW.trod_struct hu h
   obtain rfl:fuel=n:=by omega
   have key: ∀(l:List Field) (pre:List Field) (off:Nat),fs.toList=pre++l->zC1 P off l (P.cellsOf t)=true->off<=cs.length->
     ∃vs,ShpF P (l.map (·.type)) vs/\All2 (RdP w (lims w)) vs (cs.drop off)/\SmD (.agg (xs.map (·.1))) vs:=by
    intro l
    induction l with
    |nil=>
     intro pre off _ hr _
     unfold zC1 at hr
     have:off=P.cellsOf t:=by simpa using hr
     refine⟨[],.nil, ?_,fun _ _ _ _ _ v hv=>by simp at hv⟩
     rw[A9 (by omega)]
     trivial
    |cons f l ih=>
     intro pre off hfs hr hle
     unfold zC1 at hr
     simp only[A4,beq_iff_eq]at hr
     obtain⟨hoff,hr⟩:=hr
     have hf:fs[pre.length]? =some f:=by
      have:fs.toList[pre.length]? =some f:=by rw[hfs];simp
      simpa using this
     have hx:=hat pre.length f hf
     have hpl:pre.length<xs.length:=by
      rw[hxl];exact(Ap.1 hf).1
     rw[A0 hpl,hoff]at hx
     obtain⟨vs1,hs1,hr1,hm1⟩:=zM5 hT fuel f.type _ _ (hmem f (Array.mem_of_getElem? hf)) hx
     have hle2:off+P.cellsOf f.type<=cs.length:=by
      rw[hlen]
      clear ih hx hat hs1 hr1 hm1
      revert hr
      generalize off+P.cellsOf f.type=o2
      intro hr
      have: ∀(l:List Field) (o:Nat),zC1 P o l (P.cellsOf t)=true->o<=P.cellsOf t:=by
       intro l
       induction l with
       |nil=>intro o h;unfold zC1 at h;simp at h;omega
       |cons f l ih=>intro o h;unfold zC1 at h;simp at h;have:=ih _ h.2;omega
      exact this l o2 hr
     obtain⟨vs2,hs2,hr2,hm2⟩:=ih (pre++ [f]) (off+P.cellsOf f.type) (by rw[hfs];simp) hr hle2
     refine⟨vs1++vs2,.cons hs1 hs2, ?_,fun B BA hB M hM v hv=>by
      rcases B4.1 hv with hv|hv
      .have q1:=hB.agg (xs.map (·.1))
       have q2:=hB.mem (xs[pre.length]'hpl).1 (xs.map (·.1)) (Ac.2 ⟨_,A8 _,rfl⟩)
       exact hm1 B BA hB M (by omega) v hv
      .exact hm2 B BA hB M hM v hv⟩
     have e:cs.drop off=(cs.drop off).take (P.cellsOf f.type)++cs.drop (off+P.cellsOf f.type):=by
      rw[<-List.drop_drop];exact(Bp _ _).symm
     rw[e]
     exact hr1.append hr2
   obtain⟨vs,h1,h2,h3⟩:=key fs.toList [] 0 rfl hrow (A3 _)
   exact⟨vs,.struct hu h1,by simpa using h2,by rw[hxe];exact h3⟩
  .cases hk
def zK8 (P:Program) (t:TypeId) (vs:List V):V:=match P.underlying t with|some (.struct _)=> .agg vs|_=>vs.headD .u
inductive ShpA (P:Program):List TypeId->List V->Prop
 |nil:ShpA P [] []
 |cons {t:TypeId} {ts:List TypeId} {vs:List V} {xs:List V}:Shp P t vs->ShpA P ts xs->ShpA P (t::ts) (zK8 P t vs::xs)
theorem yP5 {W:World} {r:Reach} {b:Nat} {t:TypeId} {v:Value} {T:List TypeId} (hT:okT P T=true) (ht:t∈T) (h:Value.okWide P W r b t v):(∃fs cs,P.underlying t=some (.struct fs)/\v= .agg cs)∨((∀fs,P.underlying t≠some (.struct fs))/\v.oneCell'=true):=by
 have hk:=yY8 hT ht
 split at hk
 .rename_i hu
  refine .inr ⟨fun fs q=>(by rw[hu]at q;cases q), ?_⟩
  cases v<;>simp[Value.okWide,hu,Cell.okWide,Cell.ok]at h<;>rfl
 .rename_i k hu
  refine .inr ⟨fun fs q=>(by rw[hu]at q;cases q), ?_⟩
  cases v<;>simp[Value.okWide,hu,Cell.okWide,Cell.ok]at h<;>rfl
 .rename_i hu
  refine .inr ⟨fun fs q=>(by rw[hu]at q;cases q), ?_⟩
  cases v<;>simp[Value.okWide,hu,Cell.okWide,Cell.ok]at h<;>rfl
 .rename_i e hu
  refine .inr ⟨fun fs q=>(by rw[hu]at q;cases q), ?_⟩
  cases v<;>simp[Value.okWide,hu,Cell.okWide,Cell.ok]at h<;>rfl
 .rename_i fs hu
  refine .inl ⟨fs, ?_⟩
  simp only[Value.okWide,hu]at h
  obtain⟨cs,rfl,_⟩:=h
  exact⟨cs,hu,rfl⟩
 .cases hk
theorem zK9 {T:List TypeId} (hT:okT P T=true): ∀(ts:List TypeId) (vals:List Value) (ds:List (DataW H)) (ps:List MemPlace),(∀t∈ts,t∈T)->(∀(j:Nat) t v,ts[j]? =some t->vals[j]? =some v->Value.okWide P w .any base t v)->
  DataW.TrodAll enc P w 0 spare held ts vals ds ps-> ∃xs,ShpA P ts xs/\All2 (RdS w (lims w) [] []) xs vals/\ ∀(B:DataW H->Nat) (BA:List (DataW H)->Nat),BulkOk B BA-> ∀M,(∀d∈ds,B d<=M)-> ∀v∈xs,Sm M v
 | [],[],_,_,_,_,_=>⟨[],.nil,trivial,fun _ _ _ _ _ v hv=>by simp at hv⟩
 |t::ts,v::vals,ds,ps,hm,hok,h=>by
  obtain⟨v',vs',d,ds',p,q,hv,rfl,rfl,h1,h2⟩:=ChangeShapes.trodAll_cons h
  cases hv
  obtain⟨xs,hx1,hx2,hx3⟩:=zK9 hT ts vals ds' q (fun t ht=>hm t (by simp[ht])) (fun j t' v' h1 h2=>hok (j+1) t' v' (by simpa using h1) (by simpa using h2)) h2
  obtain⟨fuel,hf⟩:=h1
  obtain⟨vs,hs,hr,hsm⟩:=zM5 hT fuel t _ _ (hm t (by simp)) hf
  suffices hall:RdS w (lims w) [] [] (zK8 P t vs) v/\ ∀M,(∀v∈vs,Sm M v)->Sm M (zK8 P t vs) from
   ⟨zK8 P t vs::xs,.cons hs hx1,⟨hall.1,hx2⟩,fun B BA hB M hM v' hv'=>by
    rcases Ag.1 hv' with rfl|hv'
    .exact hall.2 M fun v hv=>hsm B BA hB M (hM _ (by simp)) v hv
    .exact hx3 B BA hB M (fun d hd=>hM d (by simp[hd])) v' hv'⟩
  rcases yP5 hT (hm t (by simp)) (hok 0 t v rfl rfl)with ⟨fs,cs,hu,rfl⟩|⟨hno,hone⟩
  .unfold zK8
   rw[hu]
   exact⟨⟨cs.toList,by simp,hr.imp fun _ _ r=>RdC.of_pure r⟩,fun M hM=> .agg hM⟩
  .rw[zz1 hone]at hr
   have:zK8 P t vs=vs.headD .u:=by
    unfold zK8
    split
    .rename_i fs hu;exact absurd hu (hno fs)
    .rfl
   rw[this]
   cases vs with
   |nil=>exact hr.elim
   |cons x vs=>exact⟨RdS.of_cell (RdC.of_pure hr.1),fun M hM=>hM _ (by simp)⟩
 | [],_::_,_,_,_,_,h=>by cases (ChangeShapes.trodAll_nil h).1
 |_::_,[],ds,_,_,_,h=>by cases ds<;>simp[DataW.TrodAll]at h
theorem zy7 {w':World} {sp':Nat->Bool} (hl:laidOutB P=true): ∀(ts:List TypeId) (vals:List Value) (ds:List (DataW H)) (ps:List MemPlace),(∀t∈ts,P.readableRec t=true/\t<P.types.size)->
  DataW.TrodAll enc P w 0 (fun _=>true) true ts vals ds ps->(∀x∈ps,w.sameAt w' x)->(∀x∈ps,sp' x.block=true)->DataW.TrodAll enc P w' 0 sp' true ts vals ds ps
 | [],_,_,_,_,h,_,_=>by
  obtain⟨rfl,rfl,rfl⟩:=ChangeShapes.trodAll_nil h
  rfl
 |t::ts,vals,ds,ps,hr,h,hs,hp=>by
  obtain⟨v,vs',d,ds',p,q,rfl,rfl,rfl,h1,h2⟩:=ChangeShapes.trodAll_cons h
  exact⟨p,q,WideElems.Trod_stays hl (hr t (by simp)).1 (hr t (by simp)).2 h1 (fun x hx=>hs x (by simp[hx])) (fun x hx=>hp x (by simp[hx])),
   zy7 hl ts vs' ds' q (fun t ht=>hr t (by simp[ht])) h2 (fun x hx=>hs x (by simp[hx])) (fun x hx=>hp x (by simp[hx])),rfl⟩
theorem xg0 (w:World) (ht:GlobOk w (lims w)):Mem (entry w (lims w) [] []) w (lims w) [] []:=
 ⟨rfl,fun i o x h=>by simp at h,fun i j o o' x x' b _ h=>by simp at h,fun i o x b h=>by simp at h,fun b hb hx=>⟨rfl,rfl⟩,Le.refl _ _,A2 _,rfl,rfl,rfl,A2 _,
  fun b hb=>by
   have hb:w.heap.size<=b:=hb
   unfold lims
   rw[Array.getElem?_eq_none hb],Ext.refl _ _,ht⟩
theorem xf3 {f:FuncId} {fn:Func} {s:ChangeSpec} {apart fresh handsOn again:Bool} (T ts:List TypeId) (tb:TypeId) (hps:fn.params=ts.toArray) (hrt:fn.resultTypes= #[tb]) (hb:P.underlying tb=some .bool) (hT:okT P T=true) (hts:ts.all (T.contains ·)=true)
  (hrd:ts.all (fun t=>P.readableRec t&&decide (t<P.types.size))=true) (hl:laidOutB P=true) (hvars:s.vars= [])
  (hspec: ∀(H:Type) (ds:List (DataW H)),ds.length=ts.length->s.fn H ds={results:= [.lit (.bool true)],args:=ds})
  (Lim:List V->Prop) (hw: ∀xs,ShpA P ts xs->Lim xs->VCalls P f xs [] fun r _=>r= .bool true) (H:Type) (enc:TypeId×Value->H) (W:World) (base:Nat) (args:Array Value) (ds gs:List (DataW H)) (before:List MemPlace)
  (hval: ∀(j:Nat) t v,fn.params[j]? =some t->args[j]? =some v->Value.okWide P W .any base t v)
  (hW:DataW.Whole enc P fn.params.toList s.vars apart W args.toList ds gs before) (hglob:GlobOk W (lims W))
  (hlim: ∀xs,(∀(B:DataW H->Nat) (BA:List (DataW H)->Nat),BulkOk B BA-> ∀M,(∀d∈ds++gs,B d<=M)-> ∀v∈xs,Sm M v)->Lim xs):
  Calls P f args W fun e W'=> ∃v,e= .returned v/\s.post enc P fn apart fresh handsOn again W args v W':=by
 have hW':=hW
 obtain⟨p,q,hA,hV,rfl,hfz,hnd⟩:=hW
 rw[hvars]at hV
 obtain⟨rfl,rfl⟩:=ChangeShapes.trodVars_none hV
 have hpl:fn.params.toList=ts:=by rw[hps]
 rw[hpl]at hA
 rw[Af]at hts hrd
 obtain⟨xs,hx,hr,hsm⟩:=zK9 (base:=base) hT ts args.toList ds p (fun t ht=>by simpa using hts t ht) (fun j t v h1 h2=>hval j t v (by rw[hps];simpa using h1) (by simpa using h2)) hA
 have hlen:ds.length=ts.length:=by
  have: ∀(ts:List TypeId) (vals:List Value) (ds:List (DataW H)) (p:List MemPlace),DataW.TrodAll enc P W 0 (fun _=>true) true ts vals ds p->ds.length=ts.length:=by
   intro ts
   induction ts with
   |nil=>intro vals ds p h;obtain⟨_,rfl,_⟩:=ChangeShapes.trodAll_nil h;rfl
   |cons t ts ih=>intro vals ds p h;obtain⟨_,_,_,ds',_,_,_,rfl,_,_,h2⟩:=ChangeShapes.trodAll_cons h;simp[ih _ _ _ h2]
  exact this ts _ _ _ hA
 have hcall:=hw xs hx (hlim xs fun B BA hB M hM=>hsm B BA hB M fun d hd=>hM d (by simp[hd])) W (lims W) [] args.toList (xg0 W hglob) hr
 have harr:args.toList.toArray=args:=by simp
 rw[harr]at hcall
 refine hcall.mono ?_
 rintro e W' ⟨v,r,L',σ',β',rfl,rfl,_,hm,hrd'⟩
 have hvb:v= .bool true:=zc8 hrd'
 subst hvb
 have hbel:RowKit.Below W.heap.size W W':=⟨hm.os,hm.tape,hm.output,hm.size,fun k hk=>(hm.same k hk (by simp[entry,zi8])).1⟩
 have hlt:=hW'.lt
 simp only[B7]at hlt hW' hfz hnd
 have hsp:s.fn H ds={results:= [.lit (.bool true)],args:=ds}:=hspec H ds hlen
 refine⟨_,rfl,ds,[],p,[],p,[],hW', ?_, ?_, ?_, ?_,fun _=>⟨?_, ?_⟩⟩
 .rw[B7,hsp,hrt]
  exact ChangeShapes.trodAll_mk1 (RowKit.shut_bool hb _)
 .rw[B7,hsp,hpl]
  exact zy7 hl ts _ _ _ (fun t ht=>by simpa using hrd t ht) hA (fun x hx=>hbel.same (hlt x hx)) (fun x hx=>by simpa using hlt x hx)
 .rw[B7,hsp,hvars]
  rfl
 .exact hbel.frame _
 .exact RowKit.ok_one hrt rfl (RowKit.okWide_bool_mk hb _)
 .rw[hpl,hrt]
  refine⟨[.lit (.bool true)]++ds,[],p,⟨[]++p,[],ChangeShapes.trodAll_append (zy7 (sp':=fun _=>true) hl ts _ _ _ (fun t ht=>by simpa using hrd t ht) hA (fun x hx=>hbel.same (hlt x hx)) (fun x hx=>rfl)) ?_,by rw[hvars];rfl,by simp, ?_,hnd⟩,fun x hx _=>hx⟩
  .exact ChangeShapes.trodAll_mk1 (RowKit.shut_bool hb _)
  .intro b off hp
   rw[hbel.frozen (p:=⟨b,off,none⟩) (hlt _ hp)]
   exact hfz b off hp
theorem xs5 {f:FuncId} {fn:Func} {s:ChangeSpec} {apart fresh handsOn again:Bool} (T ts:List TypeId) (tb:TypeId) (hps:fn.params=ts.toArray) (hrt:fn.resultTypes= #[tb]) (hb:P.underlying tb=some .bool) (hT:okT P T=true) (hts:ts.all (T.contains ·)=true)
  (hrd:ts.all (fun t=>P.readableRec t&&decide (t<P.types.size))=true) (hl:laidOutB P=true) (hvars:s.vars= [])
  (hspec: ∀(H:Type) (ds:List (DataW H)),ds.length=ts.length->s.fn H ds={results:= [.lit (.bool true)],args:=ds})
  (hw: ∀xs,ShpA P ts xs->VCalls P f xs [] fun r _=>r= .bool true) (H:Type) (enc:TypeId×Value->H) (W:World) (base:Nat) (args:Array Value) (ds gs:List (DataW H)) (before:List MemPlace)
  (hval: ∀(j:Nat) t v,fn.params[j]? =some t->args[j]? =some v->Value.okWide P W .any base t v)
  (hW:DataW.Whole enc P fn.params.toList s.vars apart W args.toList ds gs before) (hglob:GlobOk W (lims W)):
  Calls P f args W fun e W'=> ∃v,e= .returned v/\s.post enc P fn apart fresh handsOn again W args v W':=
 xf3 T ts tb hps hrt hb hT hts hrd hl hvars hspec (fun _=>True) (fun xs h _=>hw xs h) H enc W base args ds gs before hval hW hglob fun _ _=>trivial
variable {t:TypeId} {vs:List V}
theorem ShpA.cons_inv {ts:List TypeId} {xs:List V} (h:ShpA P (t::ts) xs): ∃vs xs',xs=zK8 P t vs::xs'/\Shp P t vs/\ShpA P ts xs':=by
 cases h with
 |cons h1 h2=>exact⟨_,_,rfl,h1,h2⟩
theorem ShpA.nil_inv {xs:List V} (h:ShpA P [] xs):xs= []:=by cases h;rfl
theorem Shp.int_inv {k:IntKind} (hu:P.underlying t=some (.int k)) (h:Shp P t vs): ∃n,vs= [.int k n]/\(Lit.int k n).wf=true:=by
 cases h with
 |int h1 h2=>rw[hu]at h1;cases h1;exact⟨_,rfl,h2⟩
 |bool b h1=>rw[hu]at h1;cases h1
 |str h1 _=>rw[hu]at h1;cases h1
 |sl h1 _ _=>rw[hu]at h1;cases h1
 |struct h1 _=>rw[hu]at h1;cases h1
theorem Shp.bool_inv (hu:P.underlying t=some .bool) (h:Shp P t vs): ∃b,vs= [.bool b]:=by
 cases h with
 |int h1 h2=>rw[hu]at h1;cases h1
 |bool b h1=>exact⟨b,rfl⟩
 |str h1 _=>rw[hu]at h1;cases h1
 |sl h1 _ _=>rw[hu]at h1;cases h1
 |struct h1 _=>rw[hu]at h1;cases h1
theorem Shp.sl_inv {e:TypeId} (hu:P.underlying t=some (.slice e)) (h:Shp P t vs): ∃rows,vs= [.sl .ro rows]/\rows.length<=maxLen/\ShpR P e rows:=by
 cases h with
 |int h1 h2=>rw[hu]at h1;cases h1
 |bool b h1=>rw[hu]at h1;cases h1
 |str h1 h2=>rw[hu]at h1;cases h1
 |sl h1 h2 h3=>rw[hu]at h1;cases h1;exact⟨_,rfl,h2,h3⟩
 |struct h1 _=>rw[hu]at h1;cases h1
theorem Shp.struct_inv {fs:Array Field} (hu:P.underlying t=some (.struct fs)) (h:Shp P t vs):ShpF P (fs.toList.map (·.type)) vs:=by
 cases h with
 |int h1 h2=>rw[hu]at h1;cases h1
 |bool b h1=>rw[hu]at h1;cases h1
 |str h1 h2=>rw[hu]at h1;cases h1
 |sl h1 h2 h3=>rw[hu]at h1;cases h1
 |struct h1 h2=>rw[hu]at h1;cases h1;exact h2
theorem ShpF.cons_inv {ts:List TypeId} (h:ShpF P (t::ts) vs): ∃a b,vs=a++b/\Shp P t a/\ShpF P ts b:=by
 cases h with
 |cons h1 h2=>exact⟨_,_,rfl,h1,h2⟩
theorem ShpF.nil_inv (h:ShpF P [] vs):vs= []:=by cases h;rfl
theorem ShpR.map_inv {α:Type} {f:α->List V} {ok:α->Prop} (h: ∀r,Shp P t r-> ∃x,r=f x/\ok x): ∀{rows:List (List V)},ShpR P t rows-> ∃xs:List α,rows=xs.map f/\ ∀x∈xs,ok x
 | [],_=>⟨[],rfl,fun _ q=>by simp at q⟩
 |r::rows,hr=>by
  cases hr with
  |cons h1 h2=>
   obtain⟨x,rfl,hx⟩:=h r h1
   obtain⟨xs,rfl,hxs⟩:=ShpR.map_inv h h2
   exact⟨x::xs,rfl,fun y hy=>by(rcases Ag.1 hy with rfl|hy<;>first|exact hx|exact hxs y hy)⟩
theorem zT2 {v:V} (h:(match P.underlying t with|some (.struct _)=>false|_=>true)=true):zK8 P t [v]=v:=by
 unfold zK8
 split
 .rename_i hu;rw[hu]at h;cases h
 .rfl
theorem yz6 {n:Int} (h:(Lit.int .i64 n).wf=true): -9223372036854775808<=n/\n<=9223372036854775807:=by
 simpa[Lit.wf,IntKind.min,IntKind.max,IntKind.signed,IntKind.bits]using h
theorem xX5 {n:Int} (h:(Lit.int .u8 n).wf=true):0<=n/\n<=255:=by
 simpa[Lit.wf,IntKind.min,IntKind.max,IntKind.signed,IntKind.bits]using h
end
theorem xE5 {j:Nat} (h:j<=9223372036854775807):IntKind.i64.wrap (j:Int)=j:=IntWalk.i64_in _ (by omega)
theorem i64_id {n:Int} (h: -9223372036854775808<=n) (h2:n<=9223372036854775807):IntKind.i64.wrap n=n:=IntWalk.i64_in _ (by omega)
theorem u64_id {n:Int} (h:0<=n) (h2:n<=18446744073709551615):IntKind.u64.wrap n=n:=by
 unfold IntKind.wrap
 simp[IntKind.bits,IntKind.signed]
 omega
@[go_sem] theorem i64_lit (n:Nat) (h:n<=9223372036854775807):IntKind.i64.wrap (no_index (OfNat.ofNat n))=OfNat.ofNat n:=by
 rw[show(OfNat.ofNat n:Int)=((n:Nat):Int) from rfl]
 exact xE5 h
theorem zV {i n:Nat} (h:i<n) (hn:n<=9223372036854775807):IntKind.i64.wrap ((i:Int)+1)=((i+1:Nat):Int):=by
 rw[IntWalk.i64_in _ (by omega)];rfl
theorem zZ5 {α:Type} {f:α->List V} {s:Nat} {l:List α} (h: ∀x,(f x).length=s):uni s (l.map f):=fun r hr=>by
 obtain⟨x,_,rfl⟩:=Ac.1 hr
 exact h x
theorem yC {s:Nat} {r:List V} (h:r.length=s):uni s [r]:=fun x hx=>by simp at hx;subst hx;exact h
theorem xJ (k:Nat) {n0:Nat} {R:V->St->Prop} {σ s:St} {v r:V} (hs:σ.take k=s) (hl:s.length=k) (hok:s.all (ltOb k)=true) (hn:n0<=k) (hr:argS (ren (List.range k) σ.length) r v) (hR:R r s):wret (some v) n0 R σ:=by
 subst hs;exact zr3 k hl hok hn hr hR
def i64R (n:Int):Prop:= -9223372036854775808<=n/\n<=9223372036854775807
instance (n:Int):Decidable (i64R n):=inferInstanceAs (Decidable (_/\_))
@[go_sem] def yO (n:Int):List V:= [.int .i64 n]
theorem xT {ρ:Nat->Nat} {vs' vs:List V} (h:All2 (argA ρ) vs' vs):argS ρ (.tup vs') (.tup vs):= .inr (.inr (.inr (.inr ⟨vs',vs,rfl,rfl,h⟩)))
theorem zr9 {ρ:Nat->Nat} {g:Tag} {rows:List (List V)}:argA ρ (.sl .ro rows) (.sl g rows):= .inr (.inl ⟨g,rows,rfl,rfl⟩)
theorem za6 {ρ:Nat->Nat} {v:V} (h:noA v=true):argA ρ v v:= .inl (yx5 h).symm
theorem yX {ρ:Nat->Nat} {g:Tag} {rows:List (List V)}:argC ρ (.sl .ro rows) (.sl g rows):= .inr ⟨g,rows,rfl,rfl⟩
theorem zZ {ρ:Nat->Nat} {v:V} (h:noC v=true):argC ρ v v:= .inl (zD1 h).symm
theorem zt4 {ρ:Nat->Nat} {cs' cs:List V} (h:All2 (argC ρ) cs' cs):argS ρ (.agg cs') (.agg cs):= .inr (.inr (.inr (.inl ⟨cs',cs,rfl,rfl,h⟩)))
theorem zc5 {ρ:Nat->Nat} {cs' cs:List V} (h:All2 (argC ρ) cs' cs):argA ρ (.agg cs') (.agg cs):= .inr (.inr ⟨cs',cs,rfl,rfl,h⟩)
theorem xJ5 {P:Program} {c:Ctx} {σ:St} {f:FuncId} {caps args args':List V} {KV:V->St->Prop} {R:V->Prop} (hc:VCalls P f args' [] fun r s=>R r/\s= []) (hb:wS P f=true) (hargs:All2 (argS (ren [] σ.length)) args' (args++caps))
  (hn: ∀r,R r->noS r=true) (hk: ∀r,R r->KV r σ):wVC P c (.fn f caps) args σ KV fx:=by
 refine VC.of hc hb [] D5 rfl (fun i j o h=>by simp at h) hargs ?_
 rintro r σ' ⟨hR,rfl⟩ _
 rw[zD2 (hn r hR)]
 have:xE [] σ []=σ:=by simp[xE,mset]
 rw[this];exact hk r hR
theorem zW3 {k:Nat} {σ s:St} (hk:k<=σ.length) (hs:s.length=k) (hok:s.all (ltOb k)=true):xE (List.range k) σ s=s++σ.drop k:=by
 have e1:(s.take (List.range k).length).map (yN (ren (List.range k) σ.length))=s:=by
  rw[Ds,Au (by omega)]
  exact xV (fun o h=>wD (n:=k) (fun i hi=>ze1 hi) h) hok
 have e2:(s.drop (List.range k).length).map (yN (ren (List.range k) σ.length))= []:=by
  rw[Ds,Bs (by omega)];rfl
 unfold xE
 rw[e1,e2,B7]
 apply C4
 intro i
 by_cases hi:i<k
 .rw[zZ0 (List.range k) σ s i i C3 (fun q hq=>by have:=C7.1 hq;omega) (by rw[Ds];omega) (by rw[Cw hi]),Ab (by omega)]
 .rw[zh5 _ _ _ _ (fun h=>hi (C7.1 h)),Ai (by omega),B0,hs]
  congr 1;omega
theorem ze9 {P:Program} {c:Ctx} {σ:St} (k:Nat) {f:FuncId} {caps args args':List V} {σin:St} {KV:V->St->Prop} {R:V->St->Prop} (hc:VCalls P f args' σin R) (hb:wS P f=true) (hk:σ.take k=σin) (hl:σin.length=k) (hok:σin.all (ltOb k)=true)
  (hargs:All2 (argS (ren (List.range k) σ.length)) args' (args++caps)) (hR: ∀r s,R r s->s.length=k/\s.all (ltOb k)=true/\ltS k r=true) (hK: ∀r s,R r s->KV r (s++σ.drop k)):wVC P c (.fn f caps) args σ KV fx:=by
 have hkl:k<=σ.length:=by rw[<-hl,<-hk];simp;exact Nat.min_le_right _ _
 refine VC.of hc hb (List.range k) C3 (by simp[hl]) (fun i j o h1 h2=> ?_) hargs fun r s h _=> ?_
 .obtain⟨h3,h4⟩:=A1.1 h1
  simp at h3 h4
  subst h4
  have ho:ltOb k o=true:=by
   rw[Af]at hok
   exact hok o (Av.2 ⟨i,h2⟩)
  rw[wD (n:=k) (fun i hi=>ze1 hi) ho]
  rw[<-hk,Ae,if_pos h3]at h2
  exact h2
 .obtain⟨h1,h2,h3⟩:=hR r s h
  rw[yx6 (n:=k) (fun i hi=>ze1 hi) h3,zW3 hkl h1 h2]
  exact hK r s h
theorem zl2 {P:Program} {c:Ctx} {σ:St} (i:Nat) {o:Ob} {f:FuncId} {caps args args':List V} {KV:V->St->Prop} {R:V->St->Prop} (hc:VCalls P f args' [o] R) (hb:wS P f=true) (ho:σ[i]? =some o) (hok:ltOb 0 o=true)
  (hargs:All2 (argS (ren [i] σ.length)) args' (args++caps)) (hR: ∀r s,R r s-> ∃o2,s= [o2]/\ltOb 0 o2=true) (hK: ∀r o2,R r [o2]->KV (renS (ren [i] σ.length) r) (σ.set i o2)):wVC P c (.fn f caps) args σ KV fx:=by
 refine xJ4 hc hb ho hok hargs fun r s h _=> ?_
 obtain⟨o2,rfl,h2⟩:=hR r s h
 have e:xE [i] σ [o2]=σ.set i o2:=by
  simp only[xE,Bh,By,Dq,Dk,Bd,Al,Br,mset,B7]
  rw[wD (n:=0) (fun _ h=>absurd h (Bg _)) h2]
 rw[e];exact hK r o2 h
theorem xH0 {i N:Nat}:ren [i] N 0=i:=rfl
attribute [go_sem] renS renA renC renK xH0
section
variable {ρ:Nat->Nat} (hρ: ∀i,ρ i=i)
include hρ
theorem xG9 (v:V):renK ρ v=v:=by
 cases v with
 |sl g rows=>cases g<;>simp[renK,hρ]
 |_=>simp[renK,hρ]
theorem yZ9 (v:V):renC ρ v=v:=by
 have h:renK ρ=fun v=>v:=funext fun v=>xG9 hρ v
 cases v with
 |fn f caps=>simp only[renC,h,Dv]
 |ifc t v=>simp only[renC,h,Dv]
 |_=>simp only[renC,h]
theorem yZ8 (v:V):renA ρ v=v:=by
 have h:renC ρ=fun v=>v:=funext fun v=>yZ9 hρ v
 cases v with
 |agg cs=>simp only[renA,h,Dv]
 |_=>simp only[renA,h]
theorem zx7 (v:V):renS ρ v=v:=by
 have h:renA ρ=fun v=>v:=funext fun v=>yZ8 hρ v
 cases v with
 |tup vs=>simp only[renS,h,Dv]
 |_=>simp only[renS,h]
theorem zp9 (o:Ob):yN ρ o=o:=by
 have h:renC ρ=fun v=>v:=funext fun v=>yZ9 hρ v
 cases o with
 |box cells=>simp only[yN,h,Dv]
 |lst rows s=>simp only[yN,h,Dv]
 |mp kvs borns clk=>
  have h:renA ρ=fun v=>v:=funext fun v=>yZ8 hρ v
  simp only[yN,h,Dv]
 |it m since seen last=>cases m<;>simp[yN,hρ]
 |_=>rfl
end
theorem zH5 {P:Program} {c:Ctx} {f:FuncId} {caps args args':List V} {KV:V->St->Prop} {R:V->St->Prop} (hc:VCalls P f args' [] R) (hb:wS P f=true)
  (hargs:All2 (argS (ren [] 0)) args' (args++caps)) (hK: ∀r s,R r s->KV r s):wVC P c (.fn f caps) args [] KV fx:=by
 have hid: ∀i,ren [] 0 i=i:=fun i=>by simp[ren]
 refine VC.of hc hb [] D5 rfl (fun i j o h=>by simp at h) hargs fun r s h _=> ?_
 have e:xE [] [] s=s:=by
  have h2:yN (ren [] 0)=fun o=>o:=funext fun o=>zp9 hid o
  simp[xE,mset,h2]
 show KV (renS (ren [] 0) r) (xE [] [] s)
 rw[e,zx7 hid]
 exact hK r s h
theorem zb7 {P:Program} {c:Ctx} {nt:Nat} {id:Nat} {ops:List Oper} {Q:QT} {e:Env} {σ:St} (q:List (Nat×Nat)) (n0:Nat) (hn:n0<=σ.length) (hm:P.follows .mixedOrders=true) (hd:(zy4 ops q&&zc3 ops)=true) (h:wtr P c nt (Kp.pre n0) ops q 0 ops (Q .normal) fx fx fx e σ):wVW P c nt (.region id ops.toArray true) Q fx fx e σ:=by
 simp only[A4]at hd
 obtain⟨tr,ht,hK⟩:=zo3 ops 0 (Q .normal) e σ h
 exact VW.draw (n0:=Kp.pre n0) hm hn hd.1 hd.2 ht hK
theorem za0 {P:Program} {c:Ctx} {nt:Nat} {id:Nat} {ops:List Oper} {Q:QT} {e:Env} {σ:St} (q:List (Nat×Nat)) (x n0:Nat) (hn:n0<=σ.length) (hm:P.follows .mixedOrders=true) (hd:(zy4 ops q&&zc3 ops)=true) (h:wtr P c nt (Kp.mk x n0 [] none) ops q 0 ops (Q .normal) fx fx fx e σ):wVW P c nt (.region id ops.toArray true) Q fx fx e σ:=by
 simp only[A4]at hd
 obtain⟨tr,ht,hK⟩:=zo3 ops 0 (Q .normal) e σ h
 exact VW.draw (n0:=Kp.mk x n0 [] none) hm hn hd.1 hd.2 ht hK
theorem zn1 (t s:Nat) {P:Program} {c:Ctx} {nt:Nat} {e:Env} {σ:St} {Q:QT} {y:Code} (h0:0<s) (ht:e t= .sl .full []) (hy:wVW P c nt y Q fx fx (upd e t (.sl (.app σ.length) [])) (σ++ [.app 0 s])):wVW P c nt y Q fx fx e σ:=by
 intro a w L β hs
 have hr:=hs.env t
 rw[ht]at hr
 obtain⟨ad,hx⟩: ∃ad,a.tmps.getD t undef= .slice ad 0 0:=by
  have hr:RdP w L (.sl .full []) (a.tmps.getD t undef):=hr
  generalize a.tmps.getD t undef=x at hr
  cases hr with
  |sl0 g ad cap hg ha=>have:=hg rfl;subst this;exact⟨ad,rfl⟩
  |sl g rows s b o cap c ha hs hlen hlim hcap hg hc hr=>have:=hg rfl;subst this;exact⟨_,rfl⟩
 have hext:=Ext.push σ β hs.mem.len (.app 0 s) (.slice ad 0 0)
 refine hy a w L (β++ [.slice ad 0 0]) ⟨hs.mem.own h0,hs.size,hs.defs,fun k=> ?_⟩
 simp only[upd]
 split
 .rename_i hk
  subst hk
  rw[hx]
  exact⟨.sl0 .ro ad 0 (fun h=>by cases h) (fun _ h=>by cases h),0,s,by simp,A3 _,fun _=>by rw[<-hs.mem.len];simp,fun r h=>by simp at h⟩
 .exact(hs.env k).mono (Le.refl _ _) hext
theorem zH6 (id off s:Nat) (cells:List V) {P:Program} {c:Ctx} {nt:Nat} {e:Env} {σ:St} {Q:QT} {y:Code} (h0:0<s) (hσ:σ[id]? =some (.box cells)) (hc:cells[off]? =some (.sl .full []))
  (hy:wVW P c nt y Q fx fx e (σ.set id (.box (cells.set off (.sl (.app σ.length) [])))++ [.app 0 s])):wVW P c nt y Q fx fx e σ:=by
 intro a w L β hs
 obtain⟨x,h1,h2⟩:=xC0 hs.mem h0 hσ hc
 exact hy a w L (β++ [x]) ⟨h1,hs.size,hs.defs,fun k=>(hs.env k).mono (Le.refl _ _) h2⟩
theorem zJ9 (t s:Nat) {P:Program} {c:Ctx} {nt:Nat} {e:Env} {σ:St} {Q:QT} {y:Code} (h0:0<s) (ht:e t= .sl .full []) (hy:wVW P c nt y Q fx fx (upd e t (.lsv σ.length s 0 0 0)) (σ++ [.lst [] s])):wVW P c nt y Q fx fx e σ:=by
 intro a w L β hs
 have hr:=hs.env t
 rw[ht]at hr
 obtain⟨ad,hx⟩: ∃ad,a.tmps.getD t undef= .slice ad 0 0:=by
  have hr:RdP w L (.sl .full []) (a.tmps.getD t undef):=hr
  generalize a.tmps.getD t undef=x at hr
  cases hr with
  |sl0 g ad cap hg ha=>have:=hg rfl;subst this;exact⟨ad,rfl⟩
  |sl g rows s b o cap c ha hs hlen hlim hcap hg hc hr=>have:=hg rfl;subst this;exact⟨_,rfl⟩
 have hext:=Ext.push σ β hs.mem.len (.lst [] s) (.slice ad 0 0)
 refine hy a w L (β++ [.slice ad 0 0]) ⟨hs.mem.lstNil h0,hs.size,hs.defs,fun k=> ?_⟩
 simp only[upd]
 split
 .rename_i hk
  subst hk
  rw[hx]
  exact zP0 (w':=w) (L':=L) (s:=s) (rows:= []) (cap:=0) (a0:=ad) hs.mem.len (A2 _) (fun h=>absurd h (by omega))
 .exact(hs.env k).mono (Le.refl _ _) hext
theorem yG3 {σ s:St} (h:σ.length<=s.length):xE (List.range σ.length) σ s=s:=by
 have ra: ∀i,ren (List.range σ.length) σ.length i=i:=fun i=>by
  by_cases h:i<σ.length
  .exact ze1 h
  .rw[zq9 (by simp;omega)];simp;omega
 have hid:yN (ren (List.range σ.length) σ.length)=fun o=>o:=funext fun o=>zp9 ra o
 apply C4
 intro i
 by_cases hi:i<s.length
 .have:=zt1 (sel:=List.range σ.length) (σc:=σ) (σ':=s) C3 (fun q hq=>C7.1 hq) (by simpa using h) (A0 hi)
  rw[ra,hid]at this
  rw[this,A0 hi]
 .have hl:(xE (List.range σ.length) σ s).length=s.length:=by rw[zs7];simp;omega
  rw[Bc (by omega),Bc (by omega)]
theorem zB0 {P:Program} {c:Ctx} {σ:St} {f:FuncId} {caps args:List V} {KV:V->St->Prop} {R:V->St->Prop} (hc:VCalls P f (args++caps) σ R) (hb:wS P f=true)
  (hk: ∀r s,R r s->σ.length<=s.length->KV r s):wVC P c (.fn f caps) args σ KV fx:=by
 have ra: ∀i,ren (List.range σ.length) σ.length i=i:=fun i=>by
  by_cases h:i<σ.length
  .exact ze1 h
  .rw[zq9 (by simp;omega)];simp;omega
 refine VC.of hc hb (List.range σ.length) C3 (by simp) (fun i j o hi ho=> ?_) ?_ ?_
 .obtain⟨h3,h4⟩:=A1.1 hi
  simp at h3 h4
  subst h4
  rw[zp9 ra];exact ho
 .have: ∀l:List V,All2 (argS (ren (List.range σ.length) σ.length)) l l:=by
   intro l
   induction l with
   |nil=>trivial
   |cons a l ih=>exact⟨.inl (zx7 ra a).symm,ih⟩
  exact this _
 .intro r s hr hl
  rw[zx7 ra,yG3 (by simpa using hl)]
  exact hk r s hr (by simpa using hl)
theorem yk1 {n0:Nat} {R:V->St->Prop} {σ:St} {r:V} (hn:n0<=σ.length) (hR:R r σ):wret (some r) n0 R σ:=by
 have ra: ∀i,ren (List.range σ.length) σ.length i=i:=fun i=>by
  by_cases h:i<σ.length
  .exact ze1 h
  .rw[zq9 (by simp;omega)];simp;omega
 refine⟨r,rfl,r,σ,List.range σ.length,σ,r,.refl _ _,⟨by simp,C3,fun i j o hi ho=> ?_,fun i hi=>by rw[Cw (by omega)]⟩,.inl (zx7 ra r).symm,hR⟩
 obtain⟨h1,h2⟩:=A1.1 hi
 simp at h1 h2
 subst h2
 rw[zp9 ra]
 exact ho
end Go.Vx
