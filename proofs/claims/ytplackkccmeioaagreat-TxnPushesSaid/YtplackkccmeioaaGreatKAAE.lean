/-
  A call that is handed the first of the caller's objects, and may make more of them.
  No condition: a library text; nothing of the program is named.
-/
import Derived.Test.YtplackkccmeioaaGreatKAAD
import Derived.Carry
import Derived.ProofKit
import Derived.OpenShut
import Derived.IntWalk
import Derived.Test.YtplackkccmeioaaGreatRows
set_option maxHeartbeats 8000000
namespace Go.Vx
open Go
mutual
inductive kJ (P:Program):TypeId->List V->Prop
 |bool {t:TypeId} (b:Bool):P.underlying t=some .bool->kJ P t [.bool b]
 |int {t:TypeId} {k:IntKind} {n:Int}:P.underlying t=some (.int k)->(Lit.int k n).wf=true->kJ P t [.int k n]
 |str {t:TypeId} {s:aiA}:P.underlying t=some .string->s.length<=maxLen->kJ P t [.str s]
 |sl {t e:TypeId} {rows:List (List V)}:P.underlying t=some (.slice e)->rows.length<=maxLen->lx P e rows->kJ P t [.sl .ro rows]
 |struct {t:TypeId} {fs:Array Field} {cells:List V}:P.underlying t=some (.struct fs)->jL P (fs.toList.map (·.type)) cells->kJ P t cells
inductive lx (P:Program):TypeId->List (List V)->Prop
 |nil {e:TypeId}:lx P e []
 |cons {e:TypeId} {r:List V} {rows:List (List V)}:kJ P e r->lx P e rows->lx P e (r::rows)
inductive jL (P:Program):List TypeId->List V->Prop
 |nil:jL P [] []
 |cons {t:TypeId} {ts:List TypeId} {a b:List V}:kJ P t a->jL P ts b->jL P (t::ts) (a++b)
end
def z8 (P:Program):Nat->List Field->Nat->Bool
 |o,[],n=>o==n
 |o,f::fs,n=>f.offset==o&&z8 P (o+P.cellsOf f.type) fs n
def DC (P:Program) (T:List TypeId):Bool:=T.all λt=>
 match P.underlying t with
 |some .bool|some (.int _)|some .string=>true
 |some (.slice e)=>T.contains e&&decide (0<P.cellsOf e)
 |some (.struct fs)=>fs.all (λf=>T.contains f.type)&&z8 P 0 fs.toList (P.cellsOf t)
 |_=>false
def iw (w:World):Nat->Nat:=λb=>match w.heap[b]? with|some (.cells c _ _)=>c.size|_=>0
section
variable {H:Type} {enc:TypeId×Value->H} {P:Program} {w:World} {base:Nat} {spare:Nat->Bool} {held:Bool}
theorem QU {b o:Nat} {x:Value} (h:w.cell? ⟨b,o,none⟩=some x):o<iw w b:=by
 unfold World.cell? at h
 unfold iw
 grind
theorem QV {T:List TypeId} (hT:DC P T) {t:TypeId} (h:t∈T):(match P.underlying t with
  |some .bool|some (.int _)|some .string=>true
  |some (.slice e)=>T.contains e&&decide (0<P.cellsOf e)
  |some (.struct fs)=>fs.all (λf=>T.contains f.type)&&z8 P 0 fs.toList (P.cellsOf t)
  |_=>false)=true:=by
 grind[DC]
inductive Sm (M:Nat):V->Prop
 |bool (b:Bool):Sm M (.bool b)
 |int (k:IntKind) (n:Int):Sm M (.int k n)
 |str {s:aiA}:s.length<=M->Sm M (.str s)
 |sl {g:Tag} {rows:List (List V)}:rows.length<=M->(∀r∈rows,∀v∈r,Sm M v)->Sm M (.sl g rows)
 |agg {cs:List V}:(∀v∈cs,Sm M v)->Sm M (.agg cs)
structure oT {H:Type} (B:DataW H->Nat) (BA:List (DataW H)->Nat):Prop where
 str: ∀s:aiA,s.length<=B (.lit (.string s))
 sl: ∀es sp,BA es<=B (.slice es sp)
 agg: ∀ps,BA ps<=B (.agg ps)
 mem: ∀d l,d∈l->B d<=BA l
 len: ∀l:List (DataW H),l.length<=BA l
def JS {H:Type} (d:DataW H) (vs:List V):Prop:= ∀(B:DataW H->Nat) (BA:List (DataW H)->Nat),oT B BA-> ∀M,B d<=M-> ∀v∈vs,Sm M v
theorem MI {T:List TypeId} (hT:DC P T): ∀(fuel:Nat) (t:TypeId) (cs:aiC) (x:DataW H×List MemPlace),t∈T->DataW.trod enc P w base spare held fuel t cs=some x->
  ∃vs,kJ P t vs/\bP (cF w (iw w)) vs cs/\JS x.1 vs
 |0,t,cs,x,_,h=>by simp[DataW.trod]at h
 |fuel+1,t,cs,x,ht,h=>by
  have hk:=QV hT ht
  split at hk
  .rename_i hu
   obtain⟨b,rfl,_⟩:=DataW.trod_bool hu h
   exact⟨[.bool b],.bool b hu,⟨.bool b,tV⟩,λ_ _ _ _ _ v hv=>by simp at hv;subst hv;exact .bool b⟩
  .rename_i k hu
   obtain⟨n,rfl,_,hw⟩:=DataW.trod_int hu h
   exact⟨[.int k n],.int hu hw,⟨.int k n,tV⟩,λ_ _ _ _ _ v hv=>by simp at hv;subst hv;exact .int k n⟩
  .rename_i hu
   obtain⟨s,rfl,rfl,hs⟩:=DataW.trod_string hu h
   have hr:cF w (iw w) (.str s.data.toList) (.string ⟨s.data.toList.toArray⟩):= .str _
   exact⟨[.str s.data.toList],.str hu (sU hs),⟨hr,tV⟩,λB BA hB M hM v hv=>by simp at hv;subst hv;exact .str (by have:=hB.str s.data.toList;simp only at hM;simp at this hM⊢;omega)⟩
  .rename_i e hu
   simp only[Ac,ai7,aim]at hk
   obtain⟨he,ae⟩:=hk
   rcases DataW.trod_slice hu h with ⟨rfl,_⟩|⟨a,len,cap,elems,rest,n,a6,rfl,af,hb,hl,hm,hlen,a7,_,_⟩
   .exact⟨[.sl .ro []],.sl hu (A3 _) .nil,⟨.jn _ _ _ (λq=>by cases q) (λ_=>sm),tV⟩,λ_ _ _ _ _ v hv=>by simp at hv;subst hv;exact .sl (A3 _) sm⟩
   .obtain rfl:fuel=n:=om
    have each: ∀i,i<len-> ∃(vs:List V) (aa:aiC),kJ P e vs/\bP (cF w (iw w)) vs aa/\aa.length=P.cellsOf e/\(∀j,j<P.cellsOf e->w.cell? ((a.add (i*P.cellsOf e)).add j)=aa[j]?)/\ ∃d∈elems.map (·.1),JS d vs:=by
     intro i hi
     have h1:=a7 i hi
     rw[A0 om]at h1
     cases hc:w.cells? base (a.add (i*P.cellsOf e)) (P.cellsOf e)with
     |none=>rw[hc]at h1;cases h1
     |some aa=>
      rw[hc]at h1
      obtain⟨_,ah,ab⟩:=World.cells?_some hc
      obtain⟨vs,hs,hr,ak⟩:=MI hT fuel e aa _ he h1
      grind
    rcases Nat.eq_zero_or_pos len with rfl|a8
    .exact⟨[.sl .ro []],.sl hu (A3 _) .nil,⟨.jn _ _ _ (λq=>by cases q) (λ_=>sm),tV⟩,λ_ _ _ _ _ v hv=>by simp at hv;subst hv;exact .sl (A3 _) sm⟩
    .obtain⟨b,o,spot⟩:=a
     have ai:spot=none:=by
      obtain⟨vs,aa,_,_,ah,ab,_⟩:=each 0 a8
      have h0:=ab 0 ae
      rw[A0 om]at h0
      simp only[Cw,Addr.add,aib]at h0
      cases spot with
      |none=>rfl
      |some _=>
       grind[World.cell?]
     subst ai
     have aH: ∀i j,((⟨b,o,none⟩:Addr).add (i*P.cellsOf e)).add j=⟨b,o+i*P.cellsOf e+j,none⟩:=by
      intro i j;rw[wE,wE]
     have key: ∀m,m<=len-> ∃rows:List (List V),rows.length=m/\lx P e rows/\(∀r∈rows,r.length=P.cellsOf e)/\(∀r∈rows,∃d∈elems.map (·.1),JS d r)/\
       ∀i j (hi:i<rows.length) (hj:j<rows[i].length),∃x,w.cell? ⟨b,o+(len - m+i)*P.cellsOf e+j,none⟩=some x/\cF w (iw w) (rows[i][j]) x:=by
      intro m
      induction m with
      |zero=>exact λ_=>⟨[],rfl,.nil,λ_ q=>by simp at q,λ_ q=>by simp at q,λi j hi=>by simp at hi⟩
      |succ m ih=>
       intro hm
       obtain⟨rows,h1,h2,h3,aj,h4⟩:=ih om
       obtain⟨vs,aa,hs,hr,ah,ab,ak⟩:=each (len - (m+1)) om
       refine⟨vs::rows,by simp[h1],.cons hs h2,λr ad=> ?_,λr ad=> ?_,λi j hi hj=> ?_⟩
       .rcases Ae.1 ad with rfl|ad
        .rw[hr.length,ah]
        grind
       .rcases Ae.1 ad with rfl|ad
        .exact ak
        .exact aj r ad
       .cases i with
        |zero=>
         simp only[List.getElem_cons_zero]at hj⊢
         obtain⟨x,hx,al⟩:=hr.get j _ (A0 hj)
         grind
        |succ i=>
         simp only[List.getElem_cons_succ]at hj⊢
         obtain⟨x,hx,al⟩:=h4 i j (sU hi) hj
         refine⟨x, ?_,al⟩
         grind
     obtain⟨rows,h1,h2,h3,aj,h4⟩:=key len (A7 _)
     have an:len - len=0:=om
     rw[an]at h4
     simp only[Ad]at h4
     subst h1
     refine⟨[.sl .ro rows],.sl hu om h2,⟨?_,tV⟩,λB BA hB M hM v hv=>by
      simp at hv;subst hv
      rw[af]at hM
      have q1:=hB.sl (elems.map (·.1)) (rest.map (·.1))
      have q2:=hB.len (elems.map (·.1))
      rw[Ai]at q2
      simp only at hM
      refine .sl om λr hr v hv=> ?_
      obtain⟨d,hd,aA⟩:=aj r hr
      have q3:=hB.mem _ _ hd
      exact aA B BA hB M om v hv⟩
     let c:Nat->Nat->Value:=λi j=>(w.cell? ⟨b,o+i*P.cellsOf e+j,none⟩).getD undef
     refine .sl .ro rows (P.cellsOf e) b o cap c (λ_=>sm) ae h3 ?_ hl (λq=>by cases q) (λi j hi hj=> ?_) (λi j hi hj=> ?_)
     .obtain⟨x,hx,_⟩:=h4 (rows.length - 1) (P.cellsOf e - 1) om (by rw[h3 _ (A8 _)];omega)
      have aI:=QU hx
      have h5:(rows.length - 1)*P.cellsOf e+P.cellsOf e=rows.length*P.cellsOf e:=by
       rw[<-Nat.succ_mul];congr 1;omega
      omega
     all_goals grind
  .rename_i fs hu
   simp only[Ac,Cg,aim]at hk
   obtain⟨ao,aq⟩:=hk
   obtain⟨xs,n,a6,af,hlen,aB,ar⟩:=DataW.trod_struct hu h
   obtain rfl:fuel=n:=om
   have key: ∀(l:List Field) (pre:List Field) (off:Nat),fs.toList=pre++l->z8 P off l (P.cellsOf t)=true->off<=cs.length->
     ∃vs,jL P (l.map (·.type)) vs/\bP (cF w (iw w)) vs (cs.drop off)/\JS (.agg (xs.map (·.1))) vs:=by
    intro l
    induction l with
    |nil=>
     intro pre off _ hr _
     unfold z8 at hr
     have:off=P.cellsOf t:=sU hr
     refine⟨[],.nil, ?_,λ_ _ _ _ _ v hv=>by simp at hv⟩
     rw[A9 om]
     trivial
    |cons f l ih=>
     intro pre off au hr hle
     unfold z8 at hr
     simp only[Ac,ai8]at hr
     obtain⟨av,hr⟩:=hr
     have hf:fs[pre.length]? =some f:=by
      have:fs.toList[pre.length]? =some f:=by rw[au];simp
      simpa using this
     have hx:=ar pre.length f hf
     have aw:pre.length<xs.length:=by
      rw[aB];exact(Bq.1 hf).1
     rw[A0 aw,av]at hx
     obtain⟨aC,ax,ay,az⟩:=MI hT fuel f.type _ _ (ao f (Array.mem_of_getElem? hf)) hx
     have a1:off+P.cellsOf f.type<=cs.length:=by
      rw[hlen]
      clear ih hx ar ax ay az
      revert hr
      generalize off+P.cellsOf f.type=o2
      intro hr
      have: ∀(l:List Field) (o:Nat),z8 P o l (P.cellsOf t)=true->o<=P.cellsOf t:=by
       intro l
       induction l<;>grind[z8]
      grind
     obtain⟨aD,aE,aF,aG⟩:=ih (pre++ [f]) (off+P.cellsOf f.type) (by rw[au];simp) hr a1
     refine⟨aC++aD,.cons ax aE, ?_,λB BA hB M hM v hv=>by
      rcases Ak.1 hv with hv|hv
      .have q1:=hB.agg (xs.map (·.1))
       have q2:=hB.mem (xs[pre.length]'aw).1 (xs.map (·.1)) (Ab.2 ⟨_,A8 _,rfl⟩)
       exact az B BA hB M om v hv
      .exact aG B BA hB M hM v hv⟩
     have e:cs.drop off=(cs.drop off).take (P.cellsOf f.type)++cs.drop (off+P.cellsOf f.type):=by
      rw[<-ais];exact(B8 _ _).symm
     rw[e]
     exact ay.append aF
   obtain⟨vs,h1,h2,h3⟩:=key fs.toList [] 0 rfl aq (A3 _)
   exact⟨vs,.struct hu h1,by simpa using h2,by rw[af];exact h3⟩
  grind
def rV (P:Program) (t:TypeId) (vs:List V):V:=match P.underlying t with|some (.struct _)=> .agg vs|_=>vs.headD .u
inductive j8 (P:Program):List TypeId->List V->Prop
 |nil:j8 P [] []
 |cons {t:TypeId} {ts:List TypeId} {vs:List V} {xs:List V}:kJ P t vs->j8 P ts xs->j8 P (t::ts) (rV P t vs::xs)
theorem Y3 {W:World} {r:Reach} {b:Nat} {t:TypeId} {v:Value} {T:List TypeId} (hT:DC P T) (ht:t∈T) (h:Value.okWide P W r b t v):(∃fs cs,P.underlying t=some (.struct fs)/\v= .agg cs)\/((∀fs,P.underlying t≠some (.struct fs))/\v.oneCell'=true):=by
 have hk:=QV hT ht
 split at hk
 .rename_i hu
  refine .inr ⟨(by grind), ?_⟩
  cases v<;>simp[Value.okWide,hu,Cell.okWide,Cell.ok]at h<;>rfl
 .rename_i k hu
  refine .inr ⟨(by grind), ?_⟩
  cases v<;>simp[Value.okWide,hu,Cell.okWide,Cell.ok]at h<;>rfl
 .rename_i hu
  refine .inr ⟨(by grind), ?_⟩
  cases v<;>simp[Value.okWide,hu,Cell.okWide,Cell.ok]at h<;>rfl
 .rename_i e hu
  refine .inr ⟨(by grind), ?_⟩
  cases v<;>simp[Value.okWide,hu,Cell.okWide,Cell.ok]at h<;>rfl
 .rename_i fs hu
  refine .inl ⟨fs, ?_⟩
  simp only[Value.okWide,hu]at h
  grind
 grind
theorem QW {T:List TypeId} (hT:DC P T): ∀(ts:List TypeId) (aa:aiC) (ds:List (DataW H)) (ps:List MemPlace),(∀t∈ts,t∈T)->(∀(j:Nat) t v,ts[j]? =some t->aa[j]? =some v->Value.okWide P w .any base t v)->
  DataW.TrodAll enc P w 0 spare held ts aa ds ps-> ∃xs,j8 P ts xs/\bP (dz w (iw w) [] []) xs aa/\ ∀(B:DataW H->Nat) (BA:List (DataW H)->Nat),oT B BA-> ∀M,(∀d∈ds,B d<=M)-> ∀v∈xs,Sm M v
 | [],[],_,_,_,_,_=>⟨[],.nil,tV,sm⟩
 |t::ts,v::aa,ds,ps,hm,db,h=>by
  obtain⟨v',gZ,d,ae,p,q,hv,rfl,rfl,h1,h2⟩:=ChangeShapes.trodAll_cons h
  cases hv
  obtain⟨xs,af,ah,aj⟩:=QW hT ts aa ae q (by grind) (λj t' v' h1 h2=>db (j+1) t' v' (by grind) (by grind)) h2
  obtain⟨fuel,hf⟩:=h1
  obtain⟨vs,hs,hr,ai⟩:=MI hT fuel t _ _ (by grind) hf
  suffices td:dz w (iw w) [] [] (rV P t vs) v/\ ∀M,(∀v∈vs,Sm M v)->Sm M (rV P t vs) from
   ⟨rV P t vs::xs,.cons hs af,⟨td.1,ah⟩,λB BA hB M hM v' ab=>by
    rcases Ae.1 ab with rfl|ab
    .exact td.2 M λv hv=>ai B BA hB M (by grind) v hv
    grind⟩
  rcases Y3 hT (by grind) (db 0 t v rfl rfl)with ⟨fs,cs,hu,rfl⟩|⟨ak,ad⟩
  .unfold rV
   rw[hu]
   exact⟨⟨cs.toList,sm,hr.imp (by grind[df.dv])⟩,λM hM=> .agg hM⟩
  .rw[GH ad]at hr
   have:rV P t vs=vs.headD .u:=by
    unfold rV
    simp
   rw[this]
   cases vs with
   |nil=>trivial
   |cons x vs=>exact⟨dz.dI (df.dv hr.1),(by grind)⟩
 | [],_::_,_,_,_,_,h=>by trivial
 |_::_,[],ds,_,_,_,h=>by trivial
theorem MJ {w':World} {MK:Nat->Bool} (hl:laidOutB P): ∀(ts:List TypeId) (aa:aiC) (ds:List (DataW H)) (ps:List MemPlace),(∀t∈ts,P.readableRec t=true/\t<P.types.size)->
  DataW.TrodAll enc P w 0 (λ_=>true) true ts aa ds ps->(∀x∈ps,w.sameAt w' x)->(∀x∈ps,MK x.block=true)->DataW.TrodAll enc P w' 0 MK true ts aa ds ps
 | [],_,_,_,_,h,_,_=>by
  obtain⟨rfl,rfl,rfl⟩:=ChangeShapes.trodAll_nil h
  rfl
 |t::ts,aa,ds,ps,hr,h,hs,hp=>by
  obtain⟨v,gZ,d,ab,p,q,rfl,rfl,rfl,h1,h2⟩:=ChangeShapes.trodAll_cons h
  exact⟨p,q,(by grind[WideElems.Trod_stays]),
   (by simp_all[MJ]),rfl⟩
theorem Y4 (w:World) (ht:il w (iw w)):Mem (entry w (iw w) [] []) w (iw w) [] []:=
 ⟨rfl,sm,sm,sm,λb hb hx=>(by trivial),Le.refl _ _,A7 _,rfl,rfl,rfl,A7 _,
  (by grind[iw]),Ext.refl _ _,ht⟩
theorem Y5 {f:FuncId} {fn:Func} {s:ChangeSpec} {apart fresh handsOn again:Bool} (T ts:List TypeId) (tb:TypeId) (av:fn.params=ts.toArray) (ah:fn.resultTypes= #[tb]) (hb:P.underlying tb=some .bool) (hT:DC P T) (aw:ts.all (T.contains ·))
  (ax:ts.all (λt=>P.readableRec t&&decide (t<P.types.size))) (hl:laidOutB P) (aa:s.vars= [])
  (ay: ∀(H:Type) (ds:List (DataW H)),ds.length=ts.length->s.fn H ds={results:= [.lit (.bool true)],args:=ds})
  (an:List V->Prop) (hw: ∀xs,j8 P ts xs->an xs->bN P f xs [] λr _=>r= .bool true) (H:Type) (enc:TypeId×Value->H) (W:World) (base:Nat) (args:aiE) (ds gs:List (DataW H)) (before:List MemPlace)
  (a1: ∀(j:Nat) t v,fn.params[j]? =some t->args[j]? =some v->Value.okWide P W .any base t v)
  (hW:DataW.Whole enc P fn.params.toList s.vars apart W args.toList ds gs before) (ai:il W (iw W))
  (fp: ∀xs,(∀(B:DataW H->Nat) (BA:List (DataW H)->Nat),oT B BA-> ∀M,(∀d∈ds++gs,B d<=M)-> ∀v∈xs,Sm M v)->an xs):
  Calls P f args W λe W'=> ∃v,e= .returned v/\s.post enc P fn apart fresh handsOn again W args v W':=by
 have aj:=hW
 obtain⟨p,q,hA,hV,rfl,ao,aq⟩:=hW
 rw[aa]at hV
 obtain⟨rfl,rfl⟩:=ChangeShapes.trodVars_none hV
 have ak:fn.params.toList=ts:=by rw[av]
 rw[ak]at hA
 rw[Am]at aw ax
 obtain⟨xs,hx,hr,a6⟩:=QW (base:=base) hT ts args.toList ds p (by grind) (by grind) hA
 have hlen:ds.length=ts.length:=by
  have: ∀(ts:List TypeId) (ad:aiC) (ds:List (DataW H)) (p:List MemPlace),DataW.TrodAll enc P W 0 (λ_=>true) true ts ad ds p->ds.length=ts.length:=by
   intro ts
   induction ts with
   |nil=>intro ad ds p h;obtain⟨_,rfl,_⟩:=ChangeShapes.trodAll_nil h;rfl
   |cons t ts ih=>intro ad ds p h;obtain⟨_,_,_,a7,_,_,_,rfl,_,_,h2⟩:=ChangeShapes.trodAll_cons h;grind
  grind
 have ae:=hw xs hx (by grind) W (iw W) [] args.toList (Y4 W ai) hr
 have ar:args.toList.toArray=args:=sm
 rw[ar]at ae
 refine ae.mono ?_
 rintro e W' ⟨v,r,L',I',J',rfl,rfl,_,hm,au⟩
 have az:v= .bool true:=pQ au
 subst az
 have ab:RowKit.Below W.heap.size W W':=⟨hm.os,hm.tape,hm.output,hm.size,λk hk=>(hm.same k hk (by simp[entry,uE])).1⟩
 have af:=aj.lt
 simp only[Az]at af aj ao aq
 have al:s.fn H ds={results:= [.lit (.bool true)],args:=ds}:=(by grind)
 refine⟨_,rfl,ds,[],p,[],p,[],aj, ?_, ?_, ?_, ?_,λ_=>⟨?_, ?_⟩⟩
 .rw[Az,al,ah]
  exact ChangeShapes.trodAll_mk1 (RowKit.shut_bool hb _)
 .rw[Az,al,ak]
  exact MJ hl ts _ _ _ (by grind) hA (λx hx=>ab.same (af x hx)) (by grind)
 .rw[Az,al,aa]
  rfl
 .exact ab.frame _
 .exact RowKit.ok_one ah rfl (RowKit.okWide_bool_mk hb _)
 .rw[ak,ah]
  refine⟨[.lit (.bool true)]++ds,[],p,⟨[]++p,[],ChangeShapes.trodAll_append (MJ (MK:=λ_=>true) hl ts _ _ _ (by grind) hA (λx hx=>ab.same (af x hx)) sm) ?_,by rw[aa];rfl,sm, ?_,aq⟩,(by grind)⟩
  .exact ChangeShapes.trodAll_mk1 (RowKit.shut_bool hb _)
  .intro b off hp
   rw[ab.frozen (p:=⟨b,off,none⟩) (af _ hp)]
   exact ao b off hp
theorem Y6 {f:FuncId} {fn:Func} {s:ChangeSpec} {apart fresh handsOn again:Bool} (T ts:List TypeId) (tb:TypeId) (af:fn.params=ts.toArray) (ah:fn.resultTypes= #[tb]) (hb:P.underlying tb=some .bool) (hT:DC P T) (ai:ts.all (T.contains ·))
  (aj:ts.all (λt=>P.readableRec t&&decide (t<P.types.size))) (hl:laidOutB P) (aa:s.vars= [])
  (ab: ∀(H:Type) (ds:List (DataW H)),ds.length=ts.length->s.fn H ds={results:= [.lit (.bool true)],args:=ds})
  (hw: ∀xs,j8 P ts xs->bN P f xs [] λr _=>r= .bool true) (H:Type) (enc:TypeId×Value->H) (W:World) (base:Nat) (args:aiE) (ds gs:List (DataW H)) (before:List MemPlace)
  (ae: ∀(j:Nat) t v,fn.params[j]? =some t->args[j]? =some v->Value.okWide P W .any base t v)
  (hW:DataW.Whole enc P fn.params.toList s.vars apart W args.toList ds gs before) (ad:il W (iw W)):
  Calls P f args W λe W'=> ∃v,e= .returned v/\s.post enc P fn apart fresh handsOn again W args v W':=
 Y5 T ts tb af ah hb hT ai aj hl aa ab (λ_=>True) (by grind) H enc W base args ds gs before ae hW ad sm
variable {t:TypeId} {vs:List V}
theorem j8.cons_inv {ts:List TypeId} {xs:List V} (h:j8 P (t::ts) xs): ∃vs aa,xs=rV P t vs::aa/\kJ P t vs/\j8 P ts aa:=by
 cases h<;>grind
theorem j8.ku {xs:List V} (h:j8 P [] xs):xs= []:=by cases h;rfl
theorem kJ.fO {k:IntKind} (hu:P.underlying t=some (.int k)) (h:kJ P t vs): ∃n,vs= [.int k n]/\(Lit.int k n).wf=true:=by
 cases h<;>grind
theorem kJ.tf (hu:P.underlying t=some .bool) (h:kJ P t vs): ∃b,vs= [.bool b]:=by
 cases h<;>grind
theorem kJ.DD {e:TypeId} (hu:P.underlying t=some (.slice e)) (h:kJ P t vs): ∃rows,vs= [.sl .ro rows]/\rows.length<=maxLen/\lx P e rows:=by
 cases h<;>grind
theorem kJ.kK {fs:Array Field} (hu:P.underlying t=some (.struct fs)) (h:kJ P t vs):jL P (fs.toList.map (·.type)) vs:=by
 cases h<;>grind
theorem jL.cons_inv {ts:List TypeId} (h:jL P (t::ts) vs): ∃a b,vs=a++b/\kJ P t a/\jL P ts b:=by
 cases h<;>grind
theorem jL.ku (h:jL P [] vs):vs= []:=by cases h;rfl
theorem lx.pU {U:Type} {f:U->List V} {ok:U->Prop} (h: ∀r,kJ P t r-> ∃x,r=f x/\ok x): ∀{rows:List (List V)},lx P t rows-> ∃xs:List U,rows=xs.map f/\ ∀x∈xs,ok x
 | [],_=>sm
 |r::rows,hr=>by
  cases hr with
  |cons h1 h2=>
   obtain⟨x,rfl,hx⟩:=h r h1
   obtain⟨xs,rfl,aa⟩:=lx.pU h h2
   exact⟨x::xs,rfl,(by grind)⟩
theorem JT {v:V} (h:(match P.underlying t with|some (.struct _)=>false|_=>true)):rV P t [v]=v:=by
 unfold rV
 grind
theorem Y7 {fs:Array Field} (h:P.underlying t=some (.struct fs)):rV P t vs= .agg vs:=by grind[rV]
theorem uP {n:Int} (h:(Lit.int .i64 n).wf): -9223372036854775808<=n/\n<=9223372036854775807:=by
 grind[Lit.wf,IntKind.min,IntKind.max,IntKind.signed,IntKind.bits]
end
variable {ρ:Nat->Nat}{I:St}{f:FuncId}{P:Program}{c:Ctx}{bY:List V}{cj:List V}{KV:V->St->Prop}
theorem Y8 {j:Nat} (h:j<=9223372036854775807):IntKind.i64.wrap (j:Int)=j:=(by grind[IntWalk.i64_in])
theorem bX {n:Int} (h: -9223372036854775808<=n) (h2:n<=9223372036854775807):IntKind.i64.wrap n=n:=(by grind[IntWalk.i64_in])
theorem cW {n:Int} (h:0<=n) (h2:n<=18446744073709551615):IntKind.u64.wrap n=n:=by
 grind[IntKind.wrap,IntKind.bits,IntKind.signed]
@[go_sem] theorem JU (n:Nat) (h:n<=9223372036854775807):IntKind.i64.wrap (no_index (OfNat.ofNat n))=OfNat.ofNat n:=by
 rw[show(OfNat.ofNat n:Int)=((n:Nat):Int) from rfl]
 grind[Y8]
@[go_sem] theorem Hj:IntKind.i64.wrap 0=0:=by rfl
@[go_sem] theorem Hk:IntKind.i64.wrap 1=1:=by rfl
@[go_sem] theorem FL {k k':IntKind} {x y:Int} {ek:Nat} {es:Option (List Pk)} (h:k≠k'):mS .shl ek es (.int k x) (.int k' y)= .ez (0<=y) (.int k (k.wrap (x*2^(min y.toNat k.bits)))):=by grind[mS]
theorem zU {i n:Nat} (h:i<n) (hn:n<=9223372036854775807):IntKind.i64.wrap ((i:Int)+1)=((i+1:Nat):Int):=by
 rw[IntWalk.i64_in _ om];rfl
theorem my {U:Type} {f:U->List V} {s:Nat} {l:List U} (h: ∀x,(f x).length=s):eK s (l.map f):=λr hr=>by
 grind
theorem zY {s:Nat} {r:List V} (h:r.length=s):eK s [r]:=λx hx=>by grind
theorem yZ (k:Nat) {n0:Nat} {R:V->St->Prop} {s:St} {v r:V} (hs:I.take k=s) (hl:s.length=k) (db:s.all (bT k)) (hn:n0<=k) (hr:cP (cK (List.range k) I.length) r v) (hR:R r s):cw (some v) n0 R I:=by
 grind[mV]
def cZ (n:Int):Prop:= -9223372036854775808<=n/\n<=9223372036854775807
instance (n:Int):Decidable (cZ n):=inferInstanceAs (Decidable (_/\_))
@[go_sem] def yS (n:Int):List V:= [.int .i64 n]
theorem yW {gZ vs:List V} (h:bP (nj ρ) gZ vs):cP ρ (.cz gZ) (.cz vs):= .inr (by grind)
theorem uQ {g:Tag} {rows:List (List V)}:nj ρ (.sl .ro rows) (.sl g rows):= .inr sm
theorem xV {v:V} (h:v7 v):nj ρ v v:= .inl (My h).symm
theorem zX {g:Tag} {rows:List (List V)}:oN ρ (.sl .ro rows) (.sl g rows):= .inr sm
theorem zF {v:V} (h:oQ v):oN ρ v v:= .inl (CS h).symm
theorem wN {aa cs:List V} (h:bP (oN ρ) aa cs):cP ρ (.agg aa) (.agg cs):= .inr (by grind)
theorem wX {aa cs:List V} (h:bP (oN ρ) aa cs):nj ρ (.agg aa) (.agg cs):= .inr (by grind)
theorem Y9 {args:List V} {R:V->Prop} (hc:bN P f cj [] λr s=>R r/\s= []) (hb:xE P f) (aa:bP (cP (cK [] I.length)) cj (args++bY))
  (hn: ∀r,R r->gM r) (hk: ∀r,R r->KV r I):jk P c (.fn f bY) args I KV fx:=by
 refine VC.of hc hb [] C0 rfl sm aa ?_
 rintro r I' ⟨hR,rfl⟩ _
 grind[zi,yX,fI]
theorem QX {k:Nat} {s:St} (hk:k<=I.length) (hs:s.length=k) (db:s.all (bT k)):yX (List.range k) I s=s++I.drop k:=by
 have e1:(s.take (List.range k).length).map (yA (cK (List.range k) I.length))=s:=by
  grind[wH,yY,qE]
 have e2:(s.drop (List.range k).length).map (yA (cK (List.range k) I.length))= []:=by
  grind
 unfold yX
 rw[e1,e2,Az]
 apply Bh
 intro i
 by_cases hi:i<k
 .rw[Jd (List.range k) I s i i Bf (by grind) (by grind) (by grind),Ao om]
 simp_all[sO,Au]
theorem uR (k:Nat) {args:List V} {fj:St} {R:V->St->Prop} (hc:bN P f cj fj R) (hb:xE P f) (hk:I.take k=fj) (hl:fj.length=k) (db:fj.all (bT k))
  (aa:bP (cP (cK (List.range k) I.length)) cj (args++bY)) (hR: ∀r s,R r s->s.length=k/\s.all (bT k)=true/\iS k r) (hK: ∀r s,R r s->KV r (s++I.drop k)):jk P c (.fn f bY) args I KV fx:=by
 have ab:k<=I.length:=by grind
 refine VC.of hc hb (List.range k) Bf (by grind) (λi j o h1 h2=> ?_) aa λr s h _=> ?_
 .obtain⟨h3,h4⟩:=A4.1 h1
  simp at h3 h4
  subst h4
  have ho:bT k o:=by
   grind
  rw[yY (n:=k) (by grind[qE]) ho]
  grind
 grind[Mz,qE,QX]
theorem mz (i:Nat) {o:Ob} {args:List V} {R:V->St->Prop} (hc:bN P f cj [o] R) (hb:xE P f) (ho:I[i]? =some o) (db:bT 0 o)
  (aa:bP (cP (cK [i] I.length)) cj (args++bY)) (hR: ∀r s,R r s-> ∃o2,s= [o2]/\bT 0 o2) (hK: ∀r o2,R r [o2]->KV (dH (cK [i] I.length) r) (I.set i o2)):jk P c (.fn f bY) args I KV fx:=by
 refine YQ hc hb ho db aa λr s h _=> ?_
 obtain⟨o2,rfl,h2⟩:=hR r s h
 have e:yX [i] I [o2]=I.set i o2:=by
  simp only[yX,Bl,Cr,aiu,Ds,Bj,Ah,Bp,fI,Az]
  rw[yY (n:=0) om h2]
 grind
theorem Za {i N:Nat}:cK [i] N 0=i:=rfl
attribute [go_sem] dH dM dj dt Za
section
variable {ρ:Nat->Nat} (iT: ∀i,ρ i=i)
include iT
theorem Zb (v:V):dt ρ v=v:=by
 cases v with
 |sl g rows=>cases g<;>simp[dt,iT]
 |_=>simp[dt,iT]
theorem QY (v:V):dj ρ v=v:=by
 have h:dt ρ=λv=>v:=funext (by grind[Zb])
 cases v<;>grind[dj,E3]
theorem QZ (v:V):dM ρ v=v:=by
 have h:dj ρ=λv=>v:=funext (by grind[QY])
 cases v<;>grind[dM,E3]
theorem AA (v:V):dH ρ v=v:=by
 have h:dM ρ=λv=>v:=funext (by grind[QZ])
 cases v<;>grind[dH,E3]
theorem AB (o:Ob):yA ρ o=o:=by
 have h:dj ρ=λv=>v:=funext (by grind[QY])
 cases o with
 |box cells=>grind[yA,E3]
 |cd rows s=>simp_all[yA]
 |mp dL gk cV=>
  have h:dM ρ=λv=>v:=funext (by grind[QZ])
  grind[yA,E3]
 |it m since seen last=>cases m<;>simp[yA,iT]
 |_=>rfl
end
variable {I:St}{P:Program}{c:Ctx}{nt:Nat}{Q:QT}{e:Env}{y:Code}
theorem AD {f:FuncId} {bY args cj:List V} {KV:V->St->Prop} {R:V->St->Prop} (hc:bN P f cj [] R) (hb:xE P f)
  (aa:bP (cP (cK [] 0)) cj (args++bY)) (hK: ∀r s,R r s->KV r s):jk P c (.fn f bY) args [] KV fx:=by
 have hid: ∀i,cK [] 0 i=i:=(by grind[cK])
 refine VC.of hc hb [] C0 rfl sm aa λr s h _=> ?_
 have e:yX [] [] s=s:=by
  have h2:yA (cK [] 0)=λo=>o:=funext (by grind[AB])
  simp_all[yX,fI]
 show KV (dH (cK [] 0) r) (yX [] [] s)
 grind[AA]
theorem nv {id:Nat} {ops:List Oper} (q:List (Nat×Nat)) (n0:Nat) (hn:n0<=I.length) (hm:P.follows .mixedOrders) (hd:(uN ops q&&rQ ops)) (h:rS P c nt (Kp.pre n0) ops q 0 ops (Q .normal) fx fx fx e I):gG P c nt (.region id ops.toArray true) Q fx fx e I:=by
 simp only[Ac]at hd
 obtain⟨tr,ht,hK⟩:=CW ops 0 (Q .normal) e I h
 exact VW.draw (n0:=Kp.pre n0) hm hn hd.1 hd.2 ht hK
theorem wJ {id:Nat} {ops:List Oper} (q:List (Nat×Nat)) (x n0:Nat) (hn:n0<=I.length) (hm:P.follows .mixedOrders) (hd:(uN ops q&&rQ ops)) (h:rS P c nt (Kp.mk x n0 [] none) ops q 0 ops (Q .normal) fx fx fx e I):gG P c nt (.region id ops.toArray true) Q fx fx e I:=by
 simp only[Ac]at hd
 obtain⟨tr,ht,hK⟩:=CW ops 0 (Q .normal) e I h
 exact VW.draw (n0:=Kp.mk x n0 [] none) hm hn hd.1 hd.2 ht hK
theorem l7 (t s:Nat) (h0:0<s) (ht:e t= .sl .full []) (hy:gG P c nt y Q fx fx (fu e t (.sl (.app I.length) [])) (I++ [.app 0 s])):gG P c nt y Q fx fx e I:=by
 intro a w L J hs
 have hr:=hs.env t
 rw[ht]at hr
 obtain⟨ad,hx⟩: ∃ad,a.tmps.getD t undef= .slice ad 0 0:=by
  have hr:cF w L (.sl .full []) (a.tmps.getD t undef):=hr
  generalize a.tmps.getD t undef=x at hr
  cases hr<;>simp_all
 have aa:=Ext.push I J hs.mem.len (.app 0 s) (.slice ad 0 0)
 refine hy a w L (J++ [.slice ad 0 0]) ⟨hs.mem.own h0,hs.size,hs.defs,λk=> ?_⟩
 simp only[fu]
 split
 .rename_i hk
  subst hk
  rw[hx]
  exact⟨.jn .ro ad 0 om sm,0,s,sm,sm,λ_=>by rw[<-hs.mem.len];simp,sm⟩
 .exact(hs.env k).mono (Le.refl _ _) aa
theorem DE (id off s:Nat) (cells:List V) (h0:0<s) (cJ:I[id]? =some (.box cells)) (hc:cells[off]? =some (.sl .full []))
  (hy:gG P c nt y Q fx fx e (I.set id (.box (cells.set off (.sl (.app I.length) [])))++ [.app 0 s])):gG P c nt y Q fx fx e I:=by
 intro a w L J hs
 obtain⟨x,h1,h2⟩:=YD hs.mem h0 cJ hc
 exact hy a w L (J++ [x]) ⟨h1,hs.size,hs.defs,λk=>(hs.env k).mono (Le.refl _ _) h2⟩
theorem FM (t s:Nat) (h0:0<s) (ht:e t= .sl .full []) (hy:gG P c nt y Q fx fx (fu e t (.cL I.length s 0 0 0)) (I++ [.cd [] s])):gG P c nt y Q fx fx e I:=by
 intro a w L J hs
 have hr:=hs.env t
 rw[ht]at hr
 obtain⟨ad,hx⟩: ∃ad,a.tmps.getD t undef= .slice ad 0 0:=by
  have hr:cF w L (.sl .full []) (a.tmps.getD t undef):=hr
  generalize a.tmps.getD t undef=x at hr
  cases hr<;>simp_all
 have aa:=Ext.push I J hs.mem.len (.cd [] s) (.slice ad 0 0)
 refine hy a w L (J++ [.slice ad 0 0]) ⟨hs.mem.mg h0,hs.size,hs.defs,λk=> ?_⟩
 simp only[fu]
 split
 .rename_i hk
  subst hk
  rw[hx]
  exact GR (w':=w) (L':=L) (s:=s) (rows:= []) (cap:=0) (a0:=ad) hs.mem.len sm om
 .exact(hs.env k).mono (Le.refl _ _) aa
theorem Zc {s:St} (h:I.length<=s.length):yX (List.range I.length) I s=s:=by
 have ra: ∀i,cK (List.range I.length) I.length i=i:=(by grind[qE,qu])
 have hid:yA (cK (List.range I.length) I.length)=λo=>o:=funext (by grind[AB])
 apply Bh
 intro i
 by_cases hi:i<s.length
 .have:=BT (dg:=List.range I.length) (Ic:=I) (I':=s) Bf (λq hq=>Cm.1 hq) (sU h) (A0 hi)
  grind
 grind[FH]
theorem FN {f:FuncId} {bY args:List V} {KV:V->St->Prop} {R:V->St->Prop} (hc:bN P f (args++bY) I R) (hb:xE P f)
  (hk: ∀r s,R r s->I.length<=s.length->KV r s):jk P c (.fn f bY) args I KV fx:=by
 have ra: ∀i,cK (List.range I.length) I.length i=i:=(by grind[qE,qu])
 refine VC.of hc hb (List.range I.length) Bf sm (λi j o hi ho=> ?_) ?_ ?_
 .grind[AB]
 .have: ∀l:List V,bP (cP (cK (List.range I.length) I.length)) l l:=by
   intro l
   induction l with
   |nil=>trivial
   |cons a l ih=>exact⟨.inl (AA ra a).symm,ih⟩
  grind
 grind[AA,Zc]
theorem Hl {n0:Nat} {R:V->St->Prop} {r:V} (hn:n0<=I.length) (hR:R r I):cw (some r) n0 R I:=by
 have ra: ∀i,cK (List.range I.length) I.length i=i:=(by grind[qE,qu])
 refine⟨r,rfl,r,I,List.range I.length,I,r,.refl _ _,⟨sm,Bf,λi j o hi ho=> ?_,(by grind)⟩,.inl (AA ra r).symm,hR⟩
 grind[AB]
end Go.Vx
namespace Go.Proofs.YtplackkccmeioaaGreat
open Go Go.Vx Go.Proofs.Tryz
@[go_sem] theorem Q0:eG prog 2=some 1/\eG prog 3=some 1/\eG prog 4=some 1/\eG prog 5=some 1/\eG prog 9=some 1/\eG prog 25=some 1/\eG prog 26=some 1/\eG prog 28=some 2/\eG prog 31=some 4/\eG prog 32=some 1/\eG prog 34=some 3/\eG prog 36=some 2/\eG prog 37=some 1/\eG prog 38=some 1/\eG prog 39=some 1/\eG prog 41=some 3:=by
 and_intros<;>kernel_rfl
@[go_sem] theorem Q1:eG prog 43=some 16/\eG prog 50=some 1/\eG prog 52=some 11/\eG prog 55=some 1/\eG prog 56=some 1/\eG prog 58=some 14/\eG prog 60=some 15/\eG prog 88=some 4/\eG prog 91=some 11/\eG prog 96=some 2/\eG prog 117=some 3/\eG prog 118=some 1/\eG prog 120=some 11/\eG prog 122=some 1/\eG prog 123=some 1/\eG prog 124=some 1:=by
 and_intros<;>kernel_rfl
@[go_sem] theorem Q2:eG prog 126=some 3/\eG prog 127=some 1/\eG prog 129=some 6/\eG prog 131=some 15/\eG prog 134=some 7/\eG prog 142=some 7/\eG prog 149=some 1/\eG prog 150=some 1/\eG prog 154=some 2/\eG prog 156=some 1/\eG prog 158=some 2/\eG prog 164=some 1/\eG prog 167=some 2/\eG prog 168=some 1/\eG prog 179=some 4/\eG prog 187=some 2:=by
 and_intros<;>kernel_rfl
@[go_sem] theorem Q3:eG prog 190=some 3/\eG prog 197=some 2/\eG prog 208=some 1/\eG prog 215=some 2/\eG prog 223=some 1/\eG prog 228=some 3/\eG prog 247=some 1/\eG prog 341=some 2:=by
 and_intros<;>kernel_rfl
@[go_sem] theorem ML:cQ prog 2=some false/\cQ prog 3=some false/\cQ prog 4=some false/\cQ prog 5=some false/\cQ prog 9=some false/\cQ prog 25=some false/\cQ prog 26=some false/\cQ prog 28=some true/\cQ prog 31=some true/\cQ prog 32=some false/\cQ prog 34=some true/\cQ prog 36=some true/\cQ prog 37=some false/\cQ prog 38=some false/\cQ prog 39=some false/\cQ prog 41=some true:=by
 and_intros<;>kernel_rfl
@[go_sem] theorem MM:cQ prog 43=some true/\cQ prog 50=some false/\cQ prog 52=some true/\cQ prog 55=some false/\cQ prog 56=some false/\cQ prog 58=some true/\cQ prog 60=some true/\cQ prog 88=some true/\cQ prog 91=some true/\cQ prog 96=some true/\cQ prog 117=some true/\cQ prog 118=some false/\cQ prog 120=some true/\cQ prog 122=some false/\cQ prog 123=some false/\cQ prog 124=some false:=by
 and_intros<;>kernel_rfl
@[go_sem] theorem MN:cQ prog 126=some true/\cQ prog 127=some false/\cQ prog 129=some true/\cQ prog 131=some true/\cQ prog 134=some true/\cQ prog 142=some true/\cQ prog 149=some false/\cQ prog 150=some false/\cQ prog 154=some true/\cQ prog 156=some false/\cQ prog 158=some true/\cQ prog 164=some false/\cQ prog 167=some true/\cQ prog 168=some false/\cQ prog 179=some true/\cQ prog 187=some true:=by
 and_intros<;>kernel_rfl
@[go_sem] theorem MO:cQ prog 190=some true/\cQ prog 197=some true/\cQ prog 208=some false/\cQ prog 215=some true/\cQ prog 223=some false/\cQ prog 228=some true/\cQ prog 247=some false/\cQ prog 341=some true:=by
 and_intros<;>kernel_rfl
@[go_sem] theorem Q4:iR prog 2=0/\iR prog 3=0/\iR prog 4=1/\iR prog 5=0/\iR prog 9=0/\iR prog 31=0/\iR prog 36=0/\iR prog 38=0/\iR prog 50=3/\iR prog 55=3/\iR prog 56=3/\iR prog 70=0/\iR prog 126=0/\iR prog 187=0/\iR prog 190=0/\iR prog 208=3:=by
 and_intros<;>kernel_rfl
@[go_sem] theorem Q5:iR prog 234=0:=kR
@[go_sem] theorem Q6:kE prog 2=none/\kE prog 3=none/\kE prog 4=none/\kE prog 5=none/\kE prog 9=none/\kE prog 31=some [.i .i64,.i .i64,.i .i64,.i .i64]/\kE prog 36=some [.i .i64,.i .i64]/\kE prog 38=none/\kE prog 50=none/\kE prog 55=none/\kE prog 56=none/\kE prog 70=none/\kE prog 126=some [.i .i64,.i .i64,.s]/\kE prog 187=some [.s,.s]/\kE prog 190=some [.s,.b,.s]/\kE prog 208=none:=by
 and_intros<;>kernel_rfl
@[go_sem] theorem Q7:kE prog 234=none:=kR
@[go_sem] theorem Q8:jG prog 2=some (.int .i64)/\jG prog 3=some (.int .i64)/\jG prog 5=some (.int .u8)/\jG prog 9=some .str/\jG prog 70=some (.int .u64)/\jG prog 111=some .bytes/\jG prog 234=some (.int .u64):=by
 and_intros<;>kernel_rfl
@[go_sem] theorem JV:wB prog 3=some [.int .i64 0]/\wB prog 28=some [.sl .full [],.sl .full []]/\wB prog 31=some [.int .i64 0,.int .i64 0,.int .i64 0,.int .i64 0]/\wB prog 34=some [.int .i64 0,.int .i64 0,.sl .full []]/\wB prog 36=some [.int .i64 0,.int .i64 0]/\wB prog 41=some [.int .i64 0,.int .i64 0,.sl .full []]/\wB prog 43=some [.int .i64 0,.int .i64 0,.int .i64 0,.int .i64 0,.int .i64 0,.int .i64 0,.sl .full [],.int .i64 0,.int .i64 0,.int .i64 0,.int .i64 0,.int .i64 0,.sl .full [],.int .i64 0,.int .i64 0,.sl .full []]/\wB prog 52=some [.int .i64 0,.sl .full [],.int .i64 0,.int .i64 0,.int .i64 0,.int .i64 0,.int .i64 0,.int .i64 0,.int .i64 0,.int .i64 0,.bool false]/\wB prog 58=some [.int .i64 0,.int .i64 0,.int .i64 0,.int .i64 0,.int .i64 0,.int .i64 0,.int .i64 0,.int .i64 0,.int .i64 0,.int .i64 0,.int .i64 0,.bool false,.sl .full [],.sl .full []]/\wB prog 60=some [.int .i64 0,.int .i64 0,.int .i64 0,.int .i64 0,.int .i64 0,.int .i64 0,.int .i64 0,.int .i64 0,.int .i64 0,.int .i64 0,.int .i64 0,.int .i64 0,.bool false,.sl .full [],.sl .full []]/\wB prog 91=some [.int .i64 0,.int .i64 0,.int .i64 0,.sl .full [],.sl .full [],.sl .full [],.int .i64 0,.int .i64 0,.int .i64 0,.int .i64 0,.bool false]/\wB prog 96=some [.str [],.str []]/\wB prog 120=some [.str [],.sl .full [],.int .i64 0,.int .i64 0,.int .i64 0,.sl .full [],.sl .full [],.sl .full [],.int .i64 0,.int .i64 0,.int .i64 0]/\wB prog 126=some [.int .i64 0,.int .i64 0,.str []]/\wB prog 129=some [.int .i64 0,.str [],.int .i64 0,.int .i64 0,.str [],.sl .full []]/\wB prog 131=some [.int .i64 0,.str [],.sl .full [],.sl .full [],.sl .full [],.bool false,.int .i64 0,.str [],.int .i64 0,.int .i64 0,.str [],.sl .full [],.str [],.bool false,.int .i64 0]:=by
 and_intros<;>kernel_rfl
@[go_sem] theorem JW:wB prog 134=some [.int .i64 0,.int .i64 0,.str [],.int .i64 0,.int .i64 0,.str [],.sl .full []]/\wB prog 142=some [.str [],.int .i64 0,.str [],.int .i64 0,.int .i64 0,.str [],.sl .full []]/\wB prog 152=some [.sl .full [],.sl .full [],.raw (.map none),.raw (.map none),.raw (.map none)]/\wB prog 154=some [.int .i64 0,.sl .full []]/\wB prog 158=some [.sl .full [],.int .i64 0]/\wB prog 167=some [.int .i64 0,.sl .full []]/\wB prog 173=some [.sl .full [],.int .i64 0,.int .i64 0,.int .i64 0,.int .i64 0]/\wB prog 179=some [.int .i64 0,.int .i64 0,.str [],.int .i64 0]/\wB prog 187=some [.str [],.str []]/\wB prog 190=some [.str [],.bool false,.str []]/\wB prog 197=some [.int .i64 0,.sl .full []]/\wB prog 215=some [.int .i64 0,.str []]/\wB prog 228=some [.int .i64 0,.str [],.sl .full []]/\wB prog 237=some [.sl .full []]/\wB prog 341=some [.raw .nilFunc,.raw .nilFunc]:=by
 and_intros<;>kernel_rfl
@[go_sem] theorem MP:dJ prog 9=1/\dJ prog 22=2/\dJ prog 25=2/\dJ prog 26=2/\dJ prog 32=2/\dJ prog 37=2/\dJ prog 39=2/\dJ prog 47=2/\dJ prog 50=2/\dJ prog 55=2/\dJ prog 56=2/\dJ prog 80=2/\dJ prog 111=2/\dJ prog 118=2/\dJ prog 122=2/\dJ prog 123=2:=by
 and_intros<;>kernel_rfl
@[go_sem] theorem MQ:dJ prog 124=2/\dJ prog 127=2/\dJ prog 147=2/\dJ prog 156=2/\dJ prog 164=2/\dJ prog 168=2/\dJ prog 208=2/\dJ prog 223=2/\dJ prog 229=2/\dJ prog 247=2:=by
 and_intros<;>kernel_rfl
@[go_sem] theorem MR:qh prog 9=true:=kR
@[go_sem] theorem MS:fa prog 22=some 4/\fa prog 25=some 1/\fa prog 26=some 11/\fa prog 32=some 15/\fa prog 37=some 11/\fa prog 39=some 2/\fa prog 47=some 15/\fa prog 50=some 2/\fa prog 55=some 2/\fa prog 56=some 3/\fa prog 80=some 2/\fa prog 111=some 1/\fa prog 118=some 3/\fa prog 122=some 7/\fa prog 123=some 1/\fa prog 124=some 7:=by
 and_intros<;>kernel_rfl
@[go_sem] theorem MT:fa prog 127=some 6/\fa prog 147=some 2/\fa prog 156=some 1/\fa prog 164=some 2/\fa prog 168=some 4/\fa prog 208=some 3/\fa prog 223=some 3/\fa prog 229=some 2/\fa prog 247=some 1/\fa prog 387=some 1:=by
 and_intros<;>kernel_rfl
@[go_sem] theorem Q9:eI prog 25=some (1,8)/\eI prog 26=some (11,160)/\eI prog 32=some (15,216)/\eI prog 37=some (11,136)/\eI prog 39=some (2,32)/\eI prog 47=some (15,152)/\eI prog 50=some (2,32)/\eI prog 55=some (2,32)/\eI prog 56=some (3,40)/\eI prog 80=some (2,32)/\eI prog 111=some (1,1)/\eI prog 122=some (7,88)/\eI prog 123=some (1,24)/\eI prog 124=some (7,96)/\eI prog 127=some (6,80)/\eI prog 147=some (2,32):=by
 and_intros<;>kernel_rfl
@[go_sem] theorem Ra:eI prog 156=some (1,24)/\eI prog 164=some (2,32)/\eI prog 168=some (4,40)/\eI prog 208=some (3,32)/\eI prog 223=some (3,48)/\eI prog 229=some (2,24)/\eI prog 247=some (1,16)/\eI prog 387=some (1,24):=by
 and_intros<;>kernel_rfl
@[go_sem] theorem MU:jq prog 25=some [.int .i64 0]/\jq prog 111=some [.int .u8 0]:=by
 and_intros<;>kernel_rfl
@[go_sem] theorem MV:eY prog 28=some [(0,1),(1,1)]/\eY prog 31=some [(0,1),(1,1),(2,1),(3,1)]/\eY prog 34=some [(0,1),(1,1),(2,1)]/\eY prog 36=some [(0,1),(1,1)]/\eY prog 41=some [(0,1),(1,1),(2,1)]/\eY prog 43=some [(0,4),(4,3),(7,1),(8,2),(10,1),(11,1),(12,1),(13,3)]/\eY prog 52=some [(0,1),(1,1),(2,4),(6,1),(7,2),(9,1),(10,1)]/\eY prog 58=some [(0,1),(1,1),(2,1),(3,1),(4,4),(8,2),(10,1),(11,1),(12,1),(13,1)]/\eY prog 60=some [(0,1),(1,14)]/\eY prog 91=some [(0,1),(1,1),(2,1),(3,1),(4,1),(5,1),(6,4),(10,1)]/\eY prog 120=some [(0,1),(1,1),(2,1),(3,1),(4,1),(5,6)]/\eY prog 126=some [(0,1),(1,1),(2,1)]/\eY prog 129=some [(0,1),(1,1),(2,3),(5,1)]/\eY prog 131=some [(0,1),(1,1),(2,1),(3,1),(4,1),(5,1),(6,6),(12,1),(13,1),(14,1)]/\eY prog 134=some [(0,1),(1,6)]/\eY prog 142=some [(0,1),(1,6)]:=by
 and_intros<;>kernel_rfl
@[go_sem] theorem MW:eY prog 152=some [(0,2),(2,1),(3,1),(4,1)]/\eY prog 154=some [(0,1),(1,1)]/\eY prog 158=some [(0,1),(1,1)]/\eY prog 167=some [(0,1),(1,1)]/\eY prog 173=some [(0,1),(1,1),(2,1),(3,1),(4,1)]/\eY prog 179=some [(0,1),(1,1),(2,1),(3,1)]/\eY prog 187=some [(0,1),(1,1)]/\eY prog 190=some [(0,1),(1,1),(2,1)]/\eY prog 197=some [(0,1),(1,1)]/\eY prog 215=some [(0,1),(1,1)]/\eY prog 228=some [(0,2),(2,1)]/\eY prog 237=some [(0,1)]/\eY prog 341=some [(0,1),(1,1)]:=by
 and_intros<;>kernel_rfl
@[go_sem] theorem MX:cy prog 28 0=some (0,1,false)/\cy prog 28 1=some (1,1,false)/\cy prog 31 0=some (0,1,false)/\cy prog 31 1=some (1,1,false)/\cy prog 31 2=some (2,1,false)/\cy prog 31 3=some (3,1,false)/\cy prog 34 0=some (0,1,false)/\cy prog 34 1=some (1,1,false)/\cy prog 34 2=some (2,1,false)/\cy prog 36 0=some (0,1,false)/\cy prog 36 1=some (1,1,false)/\cy prog 41 2=some (2,1,false)/\cy prog 43 0=some (0,4,true)/\cy prog 43 1=some (4,3,true)/\cy prog 43 2=some (7,1,false)/\cy prog 43 3=some (8,2,true):=by
 and_intros<;>kernel_rfl
@[go_sem] theorem MY:cy prog 43 4=some (10,1,false)/\cy prog 43 5=some (11,1,false)/\cy prog 43 6=some (12,1,false)/\cy prog 43 7=some (13,3,true)/\cy prog 52 0=some (0,1,false)/\cy prog 52 1=some (1,1,false)/\cy prog 52 2=some (2,4,true)/\cy prog 52 3=some (6,1,false)/\cy prog 52 4=some (7,2,true)/\cy prog 52 5=some (9,1,false)/\cy prog 52 6=some (10,1,false)/\cy prog 58 0=some (0,1,false)/\cy prog 58 1=some (1,1,false)/\cy prog 58 2=some (2,1,false)/\cy prog 58 3=some (3,1,false)/\cy prog 58 4=some (4,4,true):=by
 and_intros<;>kernel_rfl
@[go_sem] theorem MZ:cy prog 58 5=some (8,2,true)/\cy prog 58 6=some (10,1,false)/\cy prog 58 7=some (11,1,false)/\cy prog 58 8=some (12,1,false)/\cy prog 58 9=some (13,1,false)/\cy prog 60 0=some (0,1,false)/\cy prog 60 1=some (1,14,true)/\cy prog 88 0=some (0,1,false)/\cy prog 88 1=some (1,1,false)/\cy prog 88 2=some (2,1,false)/\cy prog 88 3=some (3,1,false)/\cy prog 91 0=some (0,1,false)/\cy prog 91 1=some (1,1,false)/\cy prog 91 2=some (2,1,false)/\cy prog 91 3=some (3,1,false)/\cy prog 91 4=some (4,1,false):=by
 and_intros<;>kernel_rfl
@[go_sem] theorem M0:cy prog 91 5=some (5,1,false)/\cy prog 91 6=some (6,4,true)/\cy prog 91 7=some (10,1,false)/\cy prog 96 0=some (0,1,false)/\cy prog 96 1=some (1,1,false)/\cy prog 117 0=some (0,1,false)/\cy prog 117 1=some (1,1,false)/\cy prog 117 2=some (2,1,false)/\cy prog 120 0=some (0,1,false)/\cy prog 120 1=some (1,1,false)/\cy prog 120 2=some (2,1,false)/\cy prog 120 3=some (3,1,false)/\cy prog 120 4=some (4,1,false)/\cy prog 126 0=some (0,1,false)/\cy prog 126 1=some (1,1,false)/\cy prog 126 2=some (2,1,false):=by
 and_intros<;>kernel_rfl
@[go_sem] theorem M1:cy prog 129 0=some (0,1,false)/\cy prog 129 1=some (1,1,false)/\cy prog 129 2=some (2,3,true)/\cy prog 129 3=some (5,1,false)/\cy prog 131 0=some (0,1,false)/\cy prog 131 1=some (1,1,false)/\cy prog 131 2=some (2,1,false)/\cy prog 131 3=some (3,1,false)/\cy prog 131 4=some (4,1,false)/\cy prog 131 5=some (5,1,false)/\cy prog 131 6=some (6,6,true)/\cy prog 131 7=some (12,1,false)/\cy prog 131 8=some (13,1,false)/\cy prog 131 9=some (14,1,false)/\cy prog 134 0=some (0,1,false)/\cy prog 134 1=some (1,6,true):=by
 and_intros<;>kernel_rfl
@[go_sem] theorem M4:cy prog 142 0=some (0,1,false)/\cy prog 142 1=some (1,6,true)/\cy prog 152 0=some (0,2,true)/\cy prog 152 1=some (2,1,false)/\cy prog 152 2=some (3,1,false)/\cy prog 152 3=some (4,1,false)/\cy prog 154 0=some (0,1,false)/\cy prog 154 1=some (1,1,false)/\cy prog 158 0=some (0,1,false)/\cy prog 167 0=some (0,1,false)/\cy prog 167 1=some (1,1,false)/\cy prog 173 0=some (0,1,false)/\cy prog 173 1=some (1,1,false)/\cy prog 173 2=some (2,1,false)/\cy prog 173 3=some (3,1,false)/\cy prog 173 4=some (4,1,false):=by
 and_intros<;>kernel_rfl
@[go_sem] theorem M5:cy prog 179 0=some (0,1,false)/\cy prog 179 1=some (1,1,false)/\cy prog 179 2=some (2,1,false)/\cy prog 179 3=some (3,1,false)/\cy prog 187 0=some (0,1,false)/\cy prog 187 1=some (1,1,false)/\cy prog 190 0=some (0,1,false)/\cy prog 190 1=some (1,1,false)/\cy prog 190 2=some (2,1,false)/\cy prog 197 0=some (0,1,false)/\cy prog 197 1=some (1,1,false)/\cy prog 215 0=some (0,1,false)/\cy prog 215 1=some (1,1,false)/\cy prog 228 0=some (0,2,true)/\cy prog 228 1=some (2,1,false)/\cy prog 237 0=some (0,1,false):=by
 and_intros<;>kernel_rfl
@[go_sem] theorem M6:cy prog 341 0=some (0,1,false)/\cy prog 341 1=some (1,1,false):=by
 and_intros<;>kernel_rfl
@[go_sem] theorem Tryz.FO:nh prog 149=true:=kR
@[go_sem] theorem Tryz.JX:gF prog 149=some (.st [.i .i64,.s],.str []):=kR
@[go_sem] theorem Tryz.FP:nh prog 150=true:=kR
@[go_sem] theorem Tryz.pV:gF prog 150=some (.st [.i .i64,.s],.int .i64 0):=kR
@[go_sem] theorem Tryz.Hm:EP prog 223=true:=kR
theorem cB {P:Program} {f:FuncId} (h:xE P f=true:=by kernel_rfl):xE P f=true:=h
end Go.Proofs.YtplackkccmeioaaGreat
namespace Go.Proofs.YtplackkccmeioaaGreat
open Go Go.Vx Go.Proofs.Tryz
set_option maxRecDepth 100000
structure fy where
 name:aiA
 kind:Int
 null:Bool
 deriving DecidableEq
@[go_sem] def fy.row (x:fy):List V:= [.str x.name,.int .i64 x.kind,.bool x.null]
structure AE where
 DF:aiD
 qI:aiD
 tg:aiD
 Hn:Int
 DG:Int
 wj:Int
 deriving DecidableEq
structure bL where
 name:aiA
 cm:List fy
 key:Int
 place:Int
 region:Int
 mA:AE
 deriving DecidableEq
@[go_sem] def bL.row (x:bL):List V:= [.str x.name,.sl .ro (x.cm.map fy.row),.int .i64 x.key,.int .i64 x.place,.int .i64 x.region,.sl .ro (x.mA.DF.map (λn=> [V.int .i64 n])),.sl .ro (x.mA.qI.map (λn=> [V.int .i64 n])),.sl .ro (x.mA.tg.map (λn=> [V.int .i64 n])),.int .i64 x.mA.Hn,.int .i64 x.mA.DG,.int .i64 x.mA.wj]
structure bK where
 kind:Int
 n:Int
 s:aiA
 deriving DecidableEq
@[go_sem] def bK.row (x:bK):List V:= [.int .i64 x.kind,.int .i64 x.n,.str x.s]
structure bK.ok (x:bK):Prop where
 kind: -9223372036854775808<=x.kind/\x.kind<=9223372036854775807
 n: -9223372036854775808<=x.n/\x.n<=9223372036854775807
 s:x.s.length<=maxLen
inductive bJ where
 |mk (kind:Int) (s:aiA) (v:bK) (args:List bJ)
def bJ.kind:bJ->Int
 | .mk x _ _ _=>x
def bJ.s:bJ->aiA
 | .mk _ x _ _=>x
def bJ.v:bJ->bK
 | .mk _ _ x _=>x
def bJ.args:bJ->List bJ
 | .mk _ _ _ x=>x
mutual
def bJ.row:bJ->List V
 | .mk a0 a1 a2 a3=> [.int .i64 a0,.str a1,.int .i64 a2.kind,.int .i64 a2.n,.str a2.s,.sl .ro (bJ.rows a3)]
def bJ.rows:List bJ->List (List V)
 | []=> []
 |e::l=>bJ.row e::bJ.rows l
end
theorem bJ.nx: ∀l:List bJ,bJ.rows l=l.map bJ.row
 | []=>rfl
 |e::l=>by rw[bJ.rows,bJ.nx l];rfl
@[go_sem] theorem bJ.bR (x:bJ):x.row= [.int .i64 x.kind,.str x.s,.int .i64 x.v.kind,.int .i64 x.v.n,.str x.v.s,.sl .ro (x.args.map bJ.row)]:=by
 cases x
 rw[bJ.row,bJ.nx]
 rfl
structure cO where
 kind:Int
 e:bJ
@[go_sem] def cO.row (x:cO):List V:= [.int .i64 x.kind,.int .i64 x.e.kind,.str x.e.s,.int .i64 x.e.v.kind,.int .i64 x.e.v.n,.str x.e.v.s,.sl .ro (x.e.args.map bJ.row)]
structure ct where
 name:aiA
 e:bJ
@[go_sem] def ct.row (x:ct):List V:= [.str x.name,.int .i64 x.e.kind,.str x.e.s,.int .i64 x.e.v.kind,.int .i64 x.e.v.n,.str x.e.v.s,.sl .ro (x.e.args.map bJ.row)]
structure bW where
 kind:Int
 table:aiA
 items:List cO
 rows:List (List bJ)
 cG:List ct
 dP:Bool
 cE:bJ
 order:aiA
 down:Bool
 bS:Int
@[go_sem] def bW.row (x:bW):List V:= [.int .i64 x.kind,.str x.table,.sl .ro (x.items.map cO.row),.sl .ro (x.rows.map (λ(l:List bJ)=> [V.sl .ro (l.map bJ.row)])),.sl .ro (x.cG.map ct.row),.bool x.dP,.int .i64 x.cE.kind,.str x.cE.s,.int .i64 x.cE.v.kind,.int .i64 x.cE.v.n,.str x.cE.v.s,.sl .ro (x.cE.args.map bJ.row),.str x.order,.bool x.down,.int .i64 x.bS]
structure dZ where
 mode:Int
 n:Int
 stmts:List bW
@[go_sem] def dZ.row (x:dZ):List V:= [.int .i64 x.mode,.int .i64 x.n,.sl .ro (x.stmts.map bW.row)]
structure ca where
 lo:aiA
 hi:aiA
 deriving DecidableEq
@[go_sem] def ca.row (x:ca):List V:= [.str x.lo,.str x.hi]
structure ca.ok (x:ca):Prop where
 lo:x.lo.length<=maxLen
 hi:x.hi.length<=maxLen
structure gH where
 lz:Int
 a:Int
 b:Int
 c:Int
 deriving DecidableEq
@[go_sem] def gH.row (x:gH):List V:= [.int .i64 x.lz,.int .i64 x.a,.int .i64 x.b,.int .i64 x.c]
structure gH.ok (x:gH):Prop where
 lz: -9223372036854775808<=x.lz/\x.lz<=9223372036854775807
 a: -9223372036854775808<=x.a/\x.a<=9223372036854775807
 b: -9223372036854775808<=x.b/\x.b<=9223372036854775807
 c: -9223372036854775808<=x.c/\x.c<=9223372036854775807
theorem gH.oU {vs:List V} (h:kJ prog 88 vs): ∃x:gH,vs=x.row/\x.ok:=by
 have h:jL prog [3,3,3,3] vs:=h.kK underlying88
 obtain⟨_,_,rfl,h0,h⟩:=h.cons_inv
 obtain⟨_,_,rfl,h1,h⟩:=h.cons_inv
 obtain⟨_,_,rfl,h2,h⟩:=h.cons_inv
 obtain⟨_,_,rfl,h3,h⟩:=h.cons_inv
 obtain rfl:=h.ku
 obtain⟨x0,rfl,w0⟩:=h0.fO underlying3
 have w0:=uP w0
 obtain⟨x1,rfl,w1⟩:=h1.fO underlying3
 have w1:=uP w1
 obtain⟨x2,rfl,w2⟩:=h2.fO underlying3
 have w2:=uP w2
 obtain⟨x3,rfl,w3⟩:=h3.fO underlying3
 have w3:=uP w3
 exact⟨⟨x0,x1,x2,x3⟩,rfl,⟨w0,w1,w2,w3⟩⟩
structure ix where
 key:aiA
 data:aiA
 deriving DecidableEq
@[go_sem] def ix.row (x:ix):List V:= [.str x.key,.str x.data]
structure dK where
 key:aiA
 drop:Bool
 data:aiA
 deriving DecidableEq
@[go_sem] def dK.row (x:dK):List V:= [.str x.key,.bool x.drop,.str x.data]
structure dK.ok (x:dK):Prop where
 key:x.key.length<=maxLen
 drop:True
 data:x.data.length<=maxLen
structure fq where
 node:Int
 eZ:Int
 seq:Int
 attempt:Int
 deriving DecidableEq
@[go_sem] def fq.row (x:fq):List V:= [.int .i64 x.node,.int .i64 x.eZ,.int .i64 x.seq,.int .i64 x.attempt]
structure fq.ok (x:fq):Prop where
 node: -9223372036854775808<=x.node/\x.node<=9223372036854775807
 eZ: -9223372036854775808<=x.eZ/\x.eZ<=9223372036854775807
 seq: -9223372036854775808<=x.seq/\x.seq<=9223372036854775807
 attempt: -9223372036854775808<=x.attempt/\x.attempt<=9223372036854775807
theorem fq.oU {vs:List V} (h:kJ prog 31 vs): ∃x:fq,vs=x.row/\x.ok:=by
 have h:jL prog [3,3,3,3] vs:=h.kK underlying31
 obtain⟨_,_,rfl,h0,h⟩:=h.cons_inv
 obtain⟨_,_,rfl,h1,h⟩:=h.cons_inv
 obtain⟨_,_,rfl,h2,h⟩:=h.cons_inv
 obtain⟨_,_,rfl,h3,h⟩:=h.cons_inv
 obtain rfl:=h.ku
 obtain⟨x0,rfl,w0⟩:=h0.fO underlying3
 have w0:=uP w0
 obtain⟨x1,rfl,w1⟩:=h1.fO underlying3
 have w1:=uP w1
 obtain⟨x2,rfl,w2⟩:=h2.fO underlying3
 have w2:=uP w2
 obtain⟨x3,rfl,w3⟩:=h3.fO underlying3
 have w3:=uP w3
 exact⟨⟨x0,x1,x2,x3⟩,rfl,⟨w0,w1,w2,w3⟩⟩
structure cp where
 range:Int
 state:Int
 home:Int
 cI:List ca
 writes:List dK
 dO:List ix
 dN:fq
 yes:Bool
 deriving DecidableEq
@[go_sem] def cp.row (x:cp):List V:= [.int .i64 x.range,.int .i64 x.state,.int .i64 x.home,.sl .ro (x.cI.map ca.row),.sl .ro (x.writes.map dK.row),.sl .ro (x.dO.map ix.row),.int .i64 x.dN.node,.int .i64 x.dN.eZ,.int .i64 x.dN.seq,.int .i64 x.dN.attempt,.bool x.yes]
structure fJ where
 wall:Int
 tie:Int
 deriving DecidableEq
@[go_sem] def fJ.row (x:fJ):List V:= [.int .i64 x.wall,.int .i64 x.tie]
structure fJ.ok (x:fJ):Prop where
 wall: -9223372036854775808<=x.wall/\x.wall<=9223372036854775807
 tie: -9223372036854775808<=x.tie/\x.tie<=9223372036854775807
structure iy where
 kind:Int
 fi:Int
 node:Int
 home:Int
 dN:fq
 at_:fJ
 wall:Int
 yes:Bool
 cI:List ca
 writes:List dK
 deriving DecidableEq
@[go_sem] def iy.row (x:iy):List V:= [.int .i64 x.kind,.int .i64 x.fi,.int .i64 x.node,.int .i64 x.home,.int .i64 x.dN.node,.int .i64 x.dN.eZ,.int .i64 x.dN.seq,.int .i64 x.dN.attempt,.int .i64 x.at_.wall,.int .i64 x.at_.tie,.int .i64 x.wall,.bool x.yes,.sl .ro (x.cI.map ca.row),.sl .ro (x.writes.map dK.row)]
structure iy.ok (x:iy):Prop where
 kind: -9223372036854775808<=x.kind/\x.kind<=9223372036854775807
 fi: -9223372036854775808<=x.fi/\x.fi<=9223372036854775807
 node: -9223372036854775808<=x.node/\x.node<=9223372036854775807
 home: -9223372036854775808<=x.home/\x.home<=9223372036854775807
 dN:x.dN.ok
 at_:x.at_.ok
 wall: -9223372036854775808<=x.wall/\x.wall<=9223372036854775807
 yes:True
 cI:x.cI.length<=maxLen/\ ∀y∈x.cI,y.ok
 writes:x.writes.length<=maxLen/\ ∀y∈x.writes,y.ok
structure cT where
 range:Int
 cmd:iy
 deriving DecidableEq
@[go_sem] def cT.row (x:cT):List V:= [.int .i64 x.range,.int .i64 x.cmd.kind,.int .i64 x.cmd.fi,.int .i64 x.cmd.node,.int .i64 x.cmd.home,.int .i64 x.cmd.dN.node,.int .i64 x.cmd.dN.eZ,.int .i64 x.cmd.dN.seq,.int .i64 x.cmd.dN.attempt,.int .i64 x.cmd.at_.wall,.int .i64 x.cmd.at_.tie,.int .i64 x.cmd.wall,.bool x.cmd.yes,.sl .ro (x.cmd.cI.map ca.row),.sl .ro (x.cmd.writes.map dK.row)]
structure dR where
 err:Int
 dO:List ix
 dN:fq
 home:Int
 at_:fJ
 wall:Int
 yes:Bool
 deriving DecidableEq
@[go_sem] def dR.row (x:dR):List V:= [.int .i64 x.err,.sl .ro (x.dO.map ix.row),.int .i64 x.dN.node,.int .i64 x.dN.eZ,.int .i64 x.dN.seq,.int .i64 x.dN.attempt,.int .i64 x.home,.int .i64 x.at_.wall,.int .i64 x.at_.tie,.int .i64 x.wall,.bool x.yes]
end Go.Proofs.YtplackkccmeioaaGreat
namespace Go.Vx
open Go
section
variable {P:Program} {c:Ctx} {nt:Nat} {n0:Kp}
variable {ops:List Oper}{q:List (Nat×Nat)}{I:St}{e:Env}{e0:Env}{tr:List (V×St)}{bM:Array Bool}{i:Nat}{o:Oper}{z:List V}
theorem Zd {Q:Exit->Act->World->Prop} {cv:St} (hn:n0.n<=cv.length) (ht:oS P c nt n0 ops q 0 ops e0 cv tr)
  (B:Nat->Nat->Prop) (sp: ∀{i j:Nat} {x y:Oper},i<j->ops[i]? =some x->ops[j]? =some y->uM ops q i j x y=false\/B i j)
  {a:Act} {w:World} {L:Nat->Nat} {J:aiC} (aa:ops[i]? =some o) (av:bM.getD i false=false) (a7:i<bM.size)
  (ahead: ∀{k:Nat},k≠i->B k i->bM.getD k false) (nu: ∀{k:Nat},B i k->bM.getD k false=false) (a8: ∀{k j:Nat},B k j->bM.getD j false=true->bM.getD k false)
  (hs:dS c nt (fE (λi=>bM.getD i false) 0 ops tr e0) (fS (λi=>bM.getD i false) q 0 ops tr cv) a w L J) {next:Act->World->Prop}
  (aA: ∀a' w' L' J',dS c nt (fE (λk=>(bM.setIfInBounds i true).getD k false) 0 ops tr e0) (fS (λk=>(bM.setIfInBounds i true).getD k false) q 0 ops tr cv) a' w' L' J'->next a' w'):
  if Region.wanted o (yielded ops.toArray a.tmps)then o.wp P a w next Q\/(o.asks P a w/\LetsOut Q)else next (a.put o.dst undef) w:=by
 have ak: ∀k,k≠i->(bM.setIfInBounds i true).getD k false=bM.getD k false:=λk hk=>getD_set_ne false (λq=>hk q.symm)
 have aw:(bM.setIfInBounds i true).getD i false:=by simp[Array.getD,a7]
 obtain⟨an,aB⟩:=FA ops q ops tr 0 e0 cv ht
 obtain⟨v,I',ax,ah⟩:=aB i o aa
 rw[Ad]at ah
 have ay: ∀t∈oR ops o,fE (λi=>bM.getD i false) 0 ops tr e0 t=fE (λj=>decide (j<i)) 0 ops tr e0 t:=by
  intro t an
  refine qG _ _ t ops tr 0 e0 e0 rfl λk o' hk ad=> ?_
  rw[Ad]
  rcases Be k i with ab|ab|ab
  .rw[ai4 ab]
   rcases sp ab hk aa with hc|hb
   .exact absurd an ((yV hc).2.1 t ad).1
   .exact ahead om hb
  .subst ab;rw[av];simp
  .rw[ai3 om]
   rcases sp ab aa hk with hc|hb
   .exact absurd an ((yV hc).2.2 t ad)
   .exact nu hb
 have al:2<=zZ q i o->fS (λi=>bM.getD i false) q 0 ops tr cv=fS (λj=>decide (j<i)) q 0 ops tr cv:=by
  intro af
  refine s8 _ _ q ops tr 0 cv λk o' hk ad=> ?_
  rw[Ad]at ad⊢
  rcases Be k i with ab|ab|ab
  .rw[ai4 ab]
   rcases sp ab hk aa with hc|hb
   .have:=(yV hc).1
    rw[zr ad (wF _ _ _) af (wF _ _ _)]at this
    cases this
   .exact ahead om hb
  .subst ab;rw[av];simp
  .rw[ai3 om]
   rcases sp ab aa hk with hc|hb
   .have:=(yV hc).1
    rw[JH,zr ad (wF _ _ _) af (wF _ _ _)]at this
    cases this
   .exact nu hb
 have az:zZ q i o=1->n0.of (fS (λi=>bM.getD i false) q 0 ops tr cv)=n0.of (fS (λj=>decide (j<i)) q 0 ops tr cv):=by
  intro a1
  have pre: ∀N,N<=ops.length-> ∃m,m<=N/\ ∀k o',k<N->ops[k]? =some o'->3<=zZ q k o'->bM.getD k false=decide (k<m):=by
   intro N
   induction N with
   |zero=>exact λ_=>⟨0,A7 _,λk o' h=>om⟩
   |succ N aC=>
    intro hN
    obtain⟨m,hm,ae⟩:=aC om
    have a6:=A0 (show N<ops.length by omega)
    by_cases hw:3<=zZ q N (ops[N]'om)/\bM.getD N false=true
    .refine⟨N+1,A7 _,λk o' hk ai h3=> ?_⟩
     rw[ai4 hk]
     by_cases ao:k=N
     .subst ao;exact hw.2
     .rcases sp (show k<N by omega) ai a6 with hc|hb
      .have:=(yV hc).1
       rw[zr h3 (wF _ _ _) om (wF _ _ _)]at this
       cases this
      .exact a8 hb hw.2
    .refine⟨m,om,λk o' hk ai h3=> ?_⟩
     by_cases ao:k=N
     .subst ao
      rw[a6]at ai;cases ai
      rw[ai3 om]
      cases hl:bM.getD k false with
      |false=>rfl
      |true=>exact absurd ⟨h3,hl⟩ hw
     .exact ae k o' om ai h3
  obtain⟨m,hm,ae⟩:=pre ops.length (A7 _)
  have e1:fS (λi=>bM.getD i false) q 0 ops tr cv=fS (λx=>decide (x<m)) q 0 ops tr cv:=
   s8 _ _ q ops tr 0 cv λk o' hk h3=>by
    rw[Ad]at h3⊢
    exact ae k o' (A4.1 hk).1 hk h3
  rw[e1]
  have aE:i<ops.length:=(A4.1 aa).1
  rcases Nat.le_total m i with aD|aD
  .have:=(JJ ht hn (i - m) m om (λk o' h5 h6 hk h4=>by
    have h7:=ae k o' (A4.1 hk).1 hk om
    rw[ai3 om]at h7
    rcases sp (show k<i by omega) hk aa with hc|hb
    .have:=(yV hc).1
     rw[h4,a1,JI dC]at this
     cases this
    .rw[ahead om hb]at h7;cases h7)).2
   rw[show m+(i - m)=i by omega]at this
   grind
  .have:=(JJ ht hn (m - i) i om (λk o' h5 h6 hk h4=>by
    have h7:=ae k o' (A4.1 hk).1 hk om
    rw[ai4 om]at h7
    have ab:k≠i:=λqq=>by
     subst qq
     rw[hk]at aa;cases aa
     omega
    rcases sp (show i<k by omega) aa hk with hc|hb
    .have:=(yV hc).1
     rw[JH,h4,a1,JI dC]at this
     cases this
    grind)).2
   rw[show i+(m - i)=m by omega]at this
   omega
 refine JG (ops:=ops) (Q:=Q) (next:=next) o hs (ah.step ay al az) ?_
 rintro e' s' a' w' L' J' aF ⟨rfl,rfl⟩
 have e1:ga (fE (λi=>bM.getD i false) 0 ops tr e0) o.dst v=fE (λk=>(bM.setIfInBounds i true).getD k false) 0 ops tr e0:=by
  funext t
  by_cases aj:o.dst=some t
  .rw[zn _ _ _ _ aj]
   refine(CU _ t ops tr 0 i e0 o v I' aa ax aj (by rw[Ad];exact aw) λk' o' aq ar au=> ?_).symm
   rw[Ad,ak k' om]
   rcases sp aq aa ar with hc|hb
   .exact absurd au ((yV hc).2.1 t aj).2
   .exact nu hb
  .rw[zo _ _ _ _ aj]
   refine qG _ _ t ops tr 0 e0 e0 rfl λk o' hk ad=> ?_
   rw[Ad]
   refine(ak k λq=> ?_).symm
   subst q
   rw[aa]at hk;cases hk
   exact aj ad
 have e2:(if 3<=zZ q i o then I' else fS (λi=>bM.getD i false) q 0 ops tr cv)=fS (λk=>(bM.setIfInBounds i true).getD k false) q 0 ops tr cv:=by
  split
  .rename_i af
   refine(Fz _ q ops tr 0 i cv o v I' aa ax (by rw[Ad];exact af) (by rw[Ad];exact aw) λk' o' aq ar au=> ?_).symm
   rw[Ad]at au⊢
   rw[ak k' om]
   rcases sp aq aa ar with hc|hb
   .have:=(yV hc).1
    rw[zr af (wF _ _ _) om (wF _ _ _)]at this
    cases this
   grind
  .rename_i af
   refine s8 _ _ q ops tr 0 cv λk o' hk ad=> ?_
   rw[Ad]at ad⊢
   refine(ak k λq=> ?_).symm
   subst q
   rw[aa]at hk;cases hk
   exact af ad
 grind
theorem Ze (B:Nat->Nat->Prop) (sp: ∀{i j:Nat} {x y:Oper},i<j->ops[i]? =some x->ops[j]? =some y->uM ops q i j x y=false\/B i j)
  (ab:ops[i]? =some o) (af:bM.getD i false=false)
  (ahead: ∀{k:Nat},k≠i->B k i->bM.getD k false) (nu: ∀{k:Nat},B i k->bM.getD k false=false):
  ∀t∈oR ops o,fE (λi=>bM.getD i false) 0 ops tr e0 t=fE (λj=>decide (j<i)) 0 ops tr e0 t:=by
 intro t ad
 refine qG _ _ t ops tr 0 e0 e0 rfl λk o' hk ae=> ?_
 rw[Ad]
 rcases Be k i with aa|aa|aa
 .rw[ai4 aa]
  rcases sp aa hk ab with hc|hb
  .exact absurd ad ((yV hc).2.1 t ae).1
  grind
 .grind
 .rw[ai3 om]
  rcases sp aa ab hk with hc|hb
  .exact absurd ad ((yV hc).2.2 t ae)
  grind
theorem Zf (B:Nat->Nat->Prop) (sp: ∀{i j:Nat} {x y:Oper},i<j->ops[i]? =some x->ops[j]? =some y->uM ops q i j x y=false\/B i j)
  {v:V} {I':St} (ab:ops[i]? =some o) (ad:tr[i]? =some (v,I')) (aj:i<bM.size) (nu: ∀{k:Nat},B i k->bM.getD k false=false):
  ga (fE (λi=>bM.getD i false) 0 ops tr e0) o.dst v=fE (λk=>(bM.setIfInBounds i true).getD k false) 0 ops tr e0:=by
 have ae: ∀k,k≠i->(bM.setIfInBounds i true).getD k false=bM.getD k false:=λk hk=>getD_set_ne false om
 have ak:(bM.setIfInBounds i true).getD i false:=by simp_all
 funext t
 by_cases aa:o.dst=some t
 .rw[zn _ _ _ _ aa]
  refine(CU _ t ops tr 0 i e0 o v I' ab ad aa (by grind) λk' o' af ah ai=> ?_).symm
  rw[Ad,ae k' om]
  rcases sp af ab ah with hc|hb
  .exact absurd ai ((yV hc).2.1 t aa).2
  grind
 .rw[zo _ _ _ _ aa]
  refine qG _ _ t ops tr 0 e0 e0 rfl λk o' hk al=> ?_
  grind
theorem Rb {n:Nat} (D:Nat->Bool): ∀(os:List Oper) (tr:List (V×St)) (i:Nat) (e:Env),(∀t,iS n (e t)=true)->(∀(k:Nat) v s,tr[k]? =some (v,s)->D (i+k)=true->iS n v=true)-> ∀t,iS n (fE D i os tr e t)=true
 | [],_,_,_,h,_=>by simpa
 |o::os,[],_,_,h,_=>by simpa
 |o::os,(v,s)::tr,i,e,h,hv=>by
  rw[fE]
  refine Rb D os tr (i+1) _ (λt=> ?_) (λk v' s' hk hD=>hv (k+1) v' s' (by grind) (by grind))
  split
  .rename_i ab
   by_cases aa:o.dst=some t
   .rw[zn _ _ _ _ aa];exact hv 0 v s rfl om
   grind[zo]
  grind
theorem dS.pick {e e':Env} {I s:St} {a:Act} {w:World} {L:Nat->Nat} {J:aiC} {pick:aiB} (h:dS c nt e I a w L J) (hp:gE c.cv.length pick I s) (hc:c.β0.length=c.cv.length) (he: ∀t,cP (cK pick I.length) (e' t) (e t)):
  ∃J',dS c nt e' s a w L J':=
 ⟨_,h.mem.pick hp hc,h.size,h.defs,λt=>yw (hp.jr h.mem.len) (he t) (h.env t)⟩
theorem Zg {n0:Nat} (hn:n0<=I.length) (aa:I.all (bT I.length)) (hz:z.all oQ):
  gE n0 (List.range I.length++ [I.length+1,I.length]) (I++ [.box z,.box z]) (I++ [.box z,.box z]):=by
 have hb: ∀ρ,yA ρ (.box z)= .box z:=(by grind[yA,wH,CS])
 have hr: ∀i,i<I.length->cK (List.range I.length++ [I.length+1,I.length]) (I++ [Ob.box z,Ob.box z]).length i=i:=(by grind[wV])
 refine⟨sm, ?_,λi j o hi ho=> ?_,λi hi=> ?_⟩
 .grind
 .by_cases h1:i<I.length
  .rw[Ao (by grind),Dc h1]at hi
   cases hi
   rw[Ao h1]at ho
   have h2:bT I.length o:=(by grind)
   grind[yY]
  .rw[Au (by grind)]at hi
   grind
 grind
theorem Rc {Q:Exit->Act->World->Prop} {next:Act->World->Prop} {a:Act} {w:World} {L:Nat->Nat} {J:aiC} {d:Tmp} {t ty:TypeId} {pos:String} {dY:Array Edge}
  (hz:wB P t=some z) (hd:d<nt) (h:dS c nt e I a w L J) (hn: ∀a' w' L' J',dS c nt (fu e d (.ptr I.length 0)) (I++ [.box z]) a' w' L' J'->next a' w'):
  if Region.wanted (⟨some d,.alloc t,ty,pos,dY,none⟩:Oper) (yielded ops.toArray a.tmps)then(⟨some d,.alloc t,ty,pos,dY,none⟩:Oper).wp P a w next Q\/((⟨some d,.alloc t,ty,pos,dY,none⟩:Oper).asks P a w/\LetsOut Q)else next (a.put (some d) undef) w:=by
 refine JG (ops:=ops) (Q:=Q) (next:=next) ⟨some d,.alloc t,ty,pos,dY,none⟩ (K:=λe' s'=>e'=fu e d (.ptr I.length 0)/\s'=I++ [.box z]) h ?_ ?_
 .have aa:xX P (some d) e I (.alloc t)= .st (.ptr I.length 0) (I++ [.box z]):=by
   have h1:cu P e I (.alloc t)= .st (.ptr I.length 0) (I++ [.box z]):=by grind[cu,rL]
   have h2:ir P e I (.alloc t)=cu P e I (.alloc t):=rfl
   grind[xX]
  show ml nt (some d) (xX P (some d) e I (.alloc t)) _ e I
  rw[aa]
  trivial
 grind
theorem Zh {Q:Exit->Env->St->Prop} {cv:St} {p dA dB:Nat} {t tA tB:TypeId} {aD aE:String} {aA aB:Array Edge}
  (hn:n0.n<=cv.length) (bc:c.cv.length<=cv.length) (bd:c.β0.length=c.cv.length)
  (hA:ops[p]? =some ⟨some dA,.alloc t,tA,aD,aA,none⟩) (hB:ops[p+1]? =some ⟨some dB,.alloc t,tB,aE,aB,none⟩) (bf:dA≠dB)
  (b5:zZ q p ⟨some dA,.alloc t,tA,aD,aA,none⟩=3) (b6:zZ q (p+1) ⟨some dB,.alloc t,tB,aE,aB,none⟩=3) (hz:wB P t=some z) (bg:z.all oQ)
  (az: ∀(k:Nat) o,k<p->ops[k]? =some o->zZ q k o<2/\dA∉oR ops o/\dB∉oR ops o/\o.dst≠some dA/\o.dst≠some dB)
  (aR: ∀(k:Nat) o,p+1<k->ops[k]? =some o->p∈(gq ops []).getD k []/\(p+1)∈(gq ops []).getD k [])
  (hd: ∀{i j:Nat} {x y:Oper},i<j->ops[i]? =some x->ops[j]? =some y->uM ops q i j x y=false\/(i∈(gq ops []).getD j []\/(i=p/\j=p+1))) (aI:rQ ops)
  (bh:cv.all (bT cv.length)) (h0: ∀s,iS cv.length (e0 s)) (hv: ∀(k:Nat) v s,k<p->tr[k]? =some (v,s)->iS cv.length v)
  (ht:oS P c nt n0 ops q 0 ops e0 cv tr) (hQ:Q .normal (fE (λ_=>true) 0 ops tr e0) (fS (λ_=>true) q 0 ops tr cv)):
  ∀(fuel:Nat) (bM:Array Bool) (a:Act) (w:World) (L:Nat->Nat) (J:aiC),bM.size=ops.length->bM.toList.count false=fuel->
   (∀(j:Nat) o,ops[j]? =some o->bM.getD j false=true-> ∀e∈o.after.toList,Region.binds .any e=true->bM.getD e.on false=true)->
   ((bM.getD (p+1) false=true->bM.getD p false=true)/\dS c nt (fE (λi=>bM.getD i false) 0 ops tr e0) (fS (λi=>bM.getD i false) q 0 ops tr cv) a w L J\/
    (bM.getD (p+1) false=true/\bM.getD p false=false)/\dS c nt (fu (fE (λi=>bM.getD i false) 0 ops tr e0) dB (.ptr cv.length 0)) (cv++ [.box z]) a w L J)->
   wpAny P .any ops.toArray (fw c nt Q) fuel bM a w:=by
 obtain⟨b7,aJ⟩:=FA ops q ops tr 0 e0 cv ht
 have b8:p+1<ops.length:=(A4.1 hB).1
 have bj:fS (λj=>decide (j<p)) q 0 ops tr cv=cv:=zp _ q ops tr 0 cv λk o hk h3=>by
  rw[Ad]at h3⊢
  by_cases an:k<p
  .have:=(az k o an hk).1;omega
  .simp;omega
 have aS: ∀(e:Env) (I:St) (d:Tmp),xX P (some d) e I (.alloc t)= .st (.ptr I.length 0) (I++ [.box z]):=λe I d=>by
  have h1:cu P e I (.alloc t)= .st (.ptr I.length 0) (I++ [.box z]):=by simp only[cu,rL,hz]
  have h2:ir P e I (.alloc t)=cu P e I (.alloc t):=rfl
  unfold xX
  rw[h2,h1];simp
 have fact: ∀{k d tt ps af E S v s'},Fact P c nt n0 ops q k ⟨some d,.alloc t,tt,ps,af,none⟩ E S v s'->v= .ptr S.length 0/\s'=S++ [.box z]/\d<nt:=by
  intro k d tt ps af E S v s' hf
  obtain⟨bk,_,_,_,g,hg,hb⟩:=hf
  simp only at hg
  subst hg
  simp only[aib]at hb
  obtain⟨_,_,_,hb⟩:=hb
  rw[aS]at hb
  rcases hb with ⟨hr,_⟩|⟨_,hr,_⟩|⟨_,hr|⟨_,hr,_⟩⟩
  .cases hr
  .cases hr
  .cases hr;exact⟨rfl,rfl,bk d rfl⟩
  .cases hr
 obtain⟨vA,sA,aF,aT⟩:=aJ p _ hA
 rw[Ad,bj]at aT
 obtain⟨rfl,rfl,bm⟩:=fact aT
 have bn:fS (λj=>decide (j<p+1)) q 0 ops tr cv=cv++ [.box z]:=
  Fz _ q ops tr 0 p cv _ _ _ hA aF (by rw[Ad];omega) sm λk' o' aq _ _=>by simp;omega
 obtain⟨vB,sB,ar,aU⟩:=aJ (p+1) _ hB
 rw[Ad,bn]at aU
 obtain⟨rfl,rfl,bo⟩:=fact aU
 simp only[An,Bl,Cn,List.singleton_append]at ar
 have fin: ∀(bM:Array Bool) (a:Act) (w:World) (L:Nat->Nat) (J:aiC),dS c nt (fE (λi=>bM.getD i false) 0 ops tr e0) (fS (λi=>bM.getD i false) q 0 ops tr cv) a w L J->
   (∀i,i<ops.length->bM.getD i false=true)->fw c nt Q .normal a w:=by
  intro bM a w L J hs ak
  have e1:fE (λi=>bM.getD i false) 0 ops tr e0=fE (λ_=>true) 0 ops tr e0:=by
   funext t
   exact qG _ _ t ops tr 0 e0 e0 rfl λk o hk _=>by rw[Ad];exact ak k (A4.1 hk).1
  have e2:fS (λi=>bM.getD i false) q 0 ops tr cv=fS (λ_=>true) q 0 ops tr cv:=
   s8 _ _ q ops tr 0 cv λk o hk _=>by rw[Ad];exact ak k (A4.1 hk).1
  rw[e1,e2]at hs
  exact⟨_,_,L,J,hs,hQ⟩
 have au: ∀(bM:Array Bool),bM.size=ops.length->Region.ready .any ops.toArray bM= []-> ∀i,i<ops.length->bM.getD i false=true:=by
  intro bM ao hr i
  induction i using Nat.strongRecOn with
  |ind i ih=>
   intro hi
   cases a1:bM.getD i false with
   |true=>rfl
   |false=>
    exfalso
    have hm:i∈Region.ready .any ops.toArray bM:=by
     refine mem_ready.2 ⟨?_,ops[i],by simp[hi],λe he hb=> ?_⟩
     .have aa:i<bM.size:=om
      simpa[Array.getD,aa]using a1
     .unfold rQ at aI
      simp only[Am,Cm]at aI
      have:=aI i hi
      rw[A0 hi]at this
      simp only[Cg]at this
      have:=this e he
      simp only[hb,Bool.not_true,C5,ai7]at this
      exact ih e.on this om
    rw[hr]at hm
    cases hm
 intro fuel
 induction fuel with
 |zero=>
  intro bM a w L J ao aV av hs
  have ak: ∀i,i<ops.length->bM.getD i false:=by
   intro i hi
   have aa:i<bM.size:=om
   cases a1:bM[i]with
   |true=>simp[Array.getD,aa,a1]
   |false=>
    exfalso
    have:false∈bM.toList:=by
     rw[<-a1];simp
    have:=List.count_pos_iff.2 this
    omega
  rcases hs with ⟨_,hs⟩|⟨⟨_,hp⟩,_⟩
  .refine⟨?_,fin bM a w L J hs ak⟩
   cases hr:Region.ready .any ops.toArray bM with
   |nil=>rfl
   |cons i l=>
    exfalso
    have hm:i∈Region.ready .any ops.toArray bM:=by rw[hr];simp
    obtain⟨h1,o,ho,_⟩:=mem_ready.1 hm
    have hi:i<ops.length:=(A4.1 (sU ho)).1
    have:=ak i hi
    have aa:i<bM.size:=om
    simp[Array.getD,aa]at this h1
    rw[this]at h1
    cases h1
  .rw[ak p om]at hp;cases hp
 |succ fuel ih=>
  intro bM a w L J ao aV av hs
  refine⟨λhr=> ?_,λi hi=> ?_⟩
  .rcases hs with ⟨_,hs⟩|⟨⟨_,hp⟩,_⟩
   .exact fin bM a w L J hs (au bM ao hr)
   .rw[au bM ao hr p om]at hp;cases hp
  obtain⟨h1,o,ho,aK⟩:=mem_ready.1 hi
  have ab:ops[i]? =some o:=sU ho
  have b9:i<ops.length:=(A4.1 ab).1
  have aa:i<bM.size:=om
  have ai:bM.getD i false=false:=by
   simp[Array.getD,aa]at h1⊢;exact h1
  have ad: ∀k,k≠i->(bM.setIfInBounds i true).getD k false=bM.getD k false:=λk hk=>getD_set_ne false (λq=>hk q.symm)
  have a6:(bM.setIfInBounds i true).getD i false:=by simp[Array.getD,aa]
  have aG: ∀(j:Nat) o,ops[j]? =some o->(bM.setIfInBounds i true).getD j false=true-> ∀e∈o.after.toList,Region.binds .any e=true->(bM.setIfInBounds i true).getD e.on false=true:=by
   intro j o' hj aW e he hb
   by_cases aX:j=i
   .subst aX
    rw[ab]at hj
    cases hj
    exact getD_set_true (aK e (sU he) hb)
   .rw[ad j aX]at aW
    exact getD_set_true (av j o' hj aW e he hb)
  have ahead: ∀{k:Nat},k≠i->k∈(gq ops []).getD i []->bM.getD k false=true:=fun{k} hk hb=>by
   have:=CV (D:=λj=>(bM.setIfInBounds i true).getD j false) aG hb a6
   rwa [ad k hk]at this
  have nu: ∀{k:Nat},i∈(gq ops []).getD k []->bM.getD k false=false:=fun{k} hb=>by
   cases hk:bM.getD k false with
   |false=>rfl
   |true=>
    have:=CV (D:=λj=>bM.getD j false) av hb hk
    rw[ai]at this;cases this
  have a7:(bM.setIfInBounds i true).toList.count false=fuel:=by
   have:=QN (l:=bM) (i:=i) (by
    rw[B2 aa]
    have:=ai
    simp[Array.getD,aa]at this
    rw[this])
   omega
  have next:=λa' w' L' J' h=>ih (bM.setIfInBounds i true) a' w' L' J' (sU ao) a7 aG h
  unfold wpOp
  rw[ho]
  show if Region.wanted o (yielded ops.toArray a.tmps)then o.wp P a w (wpAny P .any ops.toArray (fw c nt Q) fuel (bM.setIfInBounds i true)) (fw c nt Q)\/_ else _
  have only:bM.getD p false=false-> ∀k,p+1<k->bM.getD k false=false:=λhp k hk=>by
   cases hl:bM.getD k false with
   |false=>rfl
   |true=>
    have bp:k<ops.length:=by
     rcases Bv k ops.length with h|h
     .exact h
     .exfalso;simp[Array.getD,ao,Nat.not_lt.2 h]at hl
    have:=CV (D:=λj=>bM.getD j false) av (aR k _ hk (A0 bp)).1 hl
    rw[hp]at this;cases this
  have bq:(i≠p+1\/bM.getD p false=true)->(bM.getD (p+1) false=true->bM.getD p false=true)->dS c nt (fE (λi=>bM.getD i false) 0 ops tr e0) (fS (λi=>bM.getD i false) q 0 ops tr cv) a w L J->
    if Region.wanted o (yielded ops.toArray a.tmps)then o.wp P a w (wpAny P .any ops.toArray (fw c nt Q) fuel (bM.setIfInBounds i true)) (fw c nt Q)\/(o.asks P a w/\LetsOut (fw c nt Q))else wpAny P .any ops.toArray (fw c nt Q) fuel (bM.setIfInBounds i true) (a.put o.dst undef) w:=by
   intro ae hinv hs
   refine Zd hn ht (λi j=>i∈(gq ops []).getD j []\/(i=p/\j=p+1)) (λh1 h2 h3=>hd h1 h2 h3) ab ai aa ?_ ?_ ?_ hs λa' w' L' J' aj=>next a' w' L' J' (.inl ⟨?_,aj⟩)
   .rintro k hk (hb|⟨rfl,rfl⟩)
    .exact ahead hk hb
    .rcases ae with h|h
     .exact absurd rfl h
     .exact h
   .rintro k (hb|⟨rfl,rfl⟩)
    .exact nu hb
    .cases hl:bM.getD (i+1) false with
     |false=>rfl
     |true=>rw[hinv hl]at ai;cases ai
   .rintro k j (hb|⟨rfl,rfl⟩) hj
    .exact CV (D:=λj=>bM.getD j false) av hb hj
    .exact hinv hj
   .intro h
    by_cases aw:i=p
    .subst aw;exact a6
    .rw[ad p (λq=>aw q.symm)]
     by_cases aH:i=p+1
     .rcases ae with h'|h'
      .exact absurd aH h'
      .exact h'
     .rw[ad (p+1) (λq=>aH q.symm)]at h
      exact hinv h
  rcases hs with ⟨hinv,hs⟩|⟨⟨a8,aC⟩,hs⟩
  .by_cases ae:i=p+1/\bM.getD p false=false
   ·
    obtain⟨rfl,hp⟩:=ae
    rw[hB]at ab;cases ab
    have aY:fS (λi=>bM.getD i false) q 0 ops tr cv=cv:=zp _ q ops tr 0 cv λk o hk h3=>by
     rw[Ad]at h3⊢
     rcases Be k p with an|rfl|an
     .have:=(az k o an hk).1;omega
     .exact hp
     .by_cases ax:k=p+1
      .subst ax;exact ai
      .exact only hp k om
    rw[aY]at hs
    refine Rc (ops:=ops) (Q:=fw c nt Q) (next:=wpAny P .any ops.toArray (fw c nt Q) fuel (bM.setIfInBounds (p+1) true)) hz bo hs λa' w' L' J' aj=>next a' w' L' J' (.inr ⟨⟨a6,by rw[ad p om];exact hp⟩, ?_⟩)
    have:fu (fE (λi=>(bM.setIfInBounds (p+1) true).getD i false) 0 ops tr e0) dB (.ptr cv.length 0)=fu (fE (λi=>bM.getD i false) 0 ops tr e0) dB (.ptr cv.length 0):=by
     funext s
     simp only[fu]
     split
     .rfl
     .rename_i br
      refine qG _ _ s ops tr 0 e0 e0 rfl λk o hk ay=> ?_
      rw[Ad]
      refine ad k λe=> ?_
      subst e
      rw[hB]at hk;cases hk
      exact br (aik ay).symm
    grind
   .exact bq (by
     by_cases h:i=p+1
     .right
      cases hl:bM.getD p false with
      |true=>rfl
      |false=>exact absurd ⟨h,hl⟩ ae
     .exact .inl h) hinv hs
  ·
   by_cases aw:i=p
   .subst aw
    rw[hA]at ab;cases ab
    refine Rc (ops:=ops) (Q:=fw c nt Q) (next:=wpAny P .any ops.toArray (fw c nt Q) fuel (bM.setIfInBounds i true)) hz bm hs λa' w' L' J' aj=> ?_
    have hlen:(cv++ [Ob.box z]).length=cv.length+1:=sm
    rw[hlen,Cn,List.singleton_append]at aj
    have aL: ∀k,i+1<k->(bM.setIfInBounds i true).getD k false=false:=λk hk=>by rw[ad k om];exact only aC k hk
    have bA:fS (λk=>(bM.setIfInBounds i true).getD k false) q 0 ops tr cv=cv++ [.box z,.box z]:=
     Fz _ q ops tr 0 (i+1) cv _ _ _ hB ar (by rw[Ad];omega) (by rw[Ad,ad (i+1) om];exact a8) λk' o' aq _ _=>by rw[Ad];exact aL k' aq
    have bt:fE (λk=>(bM.setIfInBounds i true).getD k false) 0 ops tr e0 dA= .ptr cv.length 0:=
     CU _ dA ops tr 0 i e0 _ _ _ hA aF rfl (by rw[Ad];exact a6) λk' o' aq aP aZ=>by
      rw[Ad]
      by_cases ax:k'=i+1
      .subst ax
       rw[hB]at aP;cases aP
       exact absurd (aik aZ).symm bf
      .exact aL k' om
    have bu:fE (λk=>(bM.setIfInBounds i true).getD k false) 0 ops tr e0 dB= .ptr (cv.length+1) 0:=
     CU _ dB ops tr 0 (i+1) e0 _ _ _ hB ar rfl (by rw[Ad,ad (i+1) om];exact a8) λk' o' aq aP aZ=>by
      rw[Ad];exact aL k' aq
    have bw: ∀s,s≠dA->s≠dB->fE (λk=>(bM.setIfInBounds i true).getD k false) 0 ops tr e0 s=fE (λk=>bM.getD k false) 0 ops tr e0 s/\iS cv.length (fE (λk=>bM.getD k false) 0 ops tr e0 s)=true:=by
     intro s bx bz
     refine⟨qG _ _ s ops tr 0 e0 e0 rfl λk o hk ay=> ?_, ?_⟩
     .rw[Ad]
      refine ad k λe=> ?_
      subst e
      rw[hA]at hk;cases hk
      exact bx (aik ay).symm
     .have e1:fE (λk=>bM.getD k false) 0 ops tr e0 s=fE (λk=>decide (k<i)&&bM.getD k false) 0 ops tr e0 s:=by
       refine qG _ _ s ops tr 0 e0 e0 rfl λk o hk ay=> ?_
       rw[Ad]
       rcases Be k i with h|rfl|h
       .simp[h]
       .rw[ai];simp
       .by_cases ax:k=i+1
        .subst ax
         rw[hB]at hk;cases hk
         exact absurd (aik ay).symm bz
        .rw[only aC k om];simp
      rw[e1]
      refine Rb _ ops tr 0 e0 h0 (λk v s hk hD=> ?_) s
      rw[Ad]at hD
      simp only[Ac,ai7]at hD
      exact hv k v s hD.1 hk
    have aQ:=Zg (n0:=c.cv.length) bc bh bg
    have hr: ∀k,k<cv.length->cK (List.range cv.length++ [cv.length+1,cv.length]) (cv++ [Ob.box z,Ob.box z]).length k=k:=λk hk=>by
     rw[wV (by simp;omega),List.getElem_append_left (sU hk)];simp
    obtain⟨J2,bB⟩:=aj.pick (e':=fE (λk=>(bM.setIfInBounds i true).getD k false) 0 ops tr e0) aQ bd λs=>by
     by_cases h1:s=dA
     .subst h1
      rw[bt]
      refine .inl ?_
      simp only[fu,aib,dH,dM,dj,dt]
      rw[wV sm,List.getElem_append_right sm]
      simp
     .by_cases h2:s=dB
      .subst h2
       rw[bu]
       refine .inl ?_
       simp only[fu,ai1 h1,aib,dH,dM,dj,dt]
       rw[wV sm,List.getElem_append_right sm]
       simp
      .obtain⟨q1,q2⟩:=bw s h1 h2
       rw[q1]
       simp only[fu,ai1 h1,ai1 h2]
       exact .inl (Mz hr q2).symm
    grind
   ·
    have bC:i≠p+1:=λe=>by subst e;rw[a8]at ai;cases ai
    have ba:i<p:=by
     rcases Be i p with h|h|h
     .exact h
     .exact absurd h aw
     .exfalso
      have:=ahead (k:=p) om (aR i o om ab).1
      rw[aC]at this;cases this
    obtain⟨bD,bE,b0,bF,b1⟩:=az i o ba ab
    have sp: ∀{i j:Nat} {x y:Oper},i<j->ops[i]? =some x->ops[j]? =some y->uM ops q i j x y=false\/(i∈(gq ops []).getD j []\/(i=p/\j=p+1)):=λh1 h2 h3=>hd h1 h2 h3
    have ah: ∀{k:Nat},k≠i->(k∈(gq ops []).getD i []\/(k=p/\i=p+1))->bM.getD k false=true:=by
     rintro k hk (hb|⟨_,h⟩)
     .exact ahead hk hb
     .omega
    have be: ∀{k:Nat},(i∈(gq ops []).getD k []\/(i=p/\k=p+1))->bM.getD k false=false:=by
     rintro k (hb|⟨h,_⟩)
     .exact nu hb
     .omega
    have bb:=Ze (e0:=e0) (tr:=tr) (λi j=>i∈(gq ops []).getD j []\/(i=p/\j=p+1)) sp ab ai ah be
    obtain⟨v,I',b2,al⟩:=aJ i o ab
    rw[Ad]at al
    have b3:fS (λj=>decide (j<i)) q 0 ops tr cv=cv:=zp _ q ops tr 0 cv λk o hk h3=>by
     rw[Ad]at h3⊢
     by_cases an:k<p
     .have:=(az k o an hk).1;omega
     .simp;omega
    rw[b3]at al
    refine JG (ops:=ops) (Q:=fw c nt Q) (next:=wpAny P .any ops.toArray (fw c nt Q) fuel (bM.setIfInBounds i true)) o hs (al.step (λs aj=> ?_) (λh=>om) λ_=> ?_) ?_
    .simp only[fu]
     split
     .rename_i h;subst h;exact absurd aj b0
     .exact bb s aj
    .rw[Kp.lZ hn]
    .rintro e' s' a' w' L' J' aj ⟨rfl,rfl⟩
     rw[ai1 om]at aj
     refine next a' w' L' J' (.inr ⟨⟨by rw[ad (p+1) om];exact a8,by rw[ad p om];exact aC⟩, ?_⟩)
     have b4:=Zf (e0:=e0) (λi j=>i∈(gq ops []).getD j []\/(i=p/\j=p+1)) sp ab b2 aa be
     have:ga (fu (fE (λi=>bM.getD i false) 0 ops tr e0) dB (.ptr cv.length 0)) o.dst v=fu (fE (λk=>(bM.setIfInBounds i true).getD k false) 0 ops tr e0) dB (.ptr cv.length 0):=by
      rw[<-b4]
      funext s
      by_cases h2:s=dB
      .subst h2
       rw[zo _ _ _ _ b1]
       simp[fu]
      .by_cases h3:o.dst=some s
       .rw[zn _ _ _ _ h3]
        simp only[fu,ai1 h2]
        rw[zn _ _ _ _ h3]
       .rw[zo _ _ _ _ h3]
        simp only[fu,ai1 h2]
        rw[zo _ _ _ _ h3]
     grind
theorem Re (D:Nat->Bool): ∀(ad aa:List Oper) (ae ab:List (V×St)) (i:Nat) (e:Env),ae.length=ad.length->fE D i (ad++aa) (ae++ab) e=fE D (i+ad.length) aa ab (fE D i ad ae e)
 | [],aa,[],ab,i,e,_=>by rfl
 | [],_,_::_,_,_,_,h=>by grind
 |_::_,_,[],_,_,_,h=>by grind
 |o::os,aa,(v,s)::tr,ab,i,e,h=>by
  simp only[Bs,fE,Af]
  rw[Re D os aa tr ab (i+1) _ (sU h),show i+1+os.length=i+(os.length+1) by omega]
theorem Rf (D:Nat->Bool) (q:List (Nat×Nat)): ∀(ad aa:List Oper) (ae ab:List (V×St)) (i:Nat) (I:St),ae.length=ad.length->fS D q i (ad++aa) (ae++ab) I=fS D q (i+ad.length) aa ab (fS D q i ad ae I)
 | [],aa,[],ab,i,e,_=>by rfl
 | [],_,_::_,_,_,_,h=>by grind
 |_::_,_,[],_,_,_,h=>by grind
 |o::os,aa,(v,s)::tr,ab,i,e,h=>by
  simp only[Bs,fS,Af]
  rw[Rf D q os aa tr ab (i+1) _ (sU h),show i+1+os.length=i+(os.length+1) by omega]
theorem Rg {ops:List Oper} {q:List (Nat×Nat)}: ∀(aa ab:List Oper) (ae ad:List (V×St)) (i:Nat) (e:Env) (I:St),oS P c nt n0 ops q i aa e I ae->
  oS P c nt n0 ops q (i+aa.length) ab (fE (λ_=>true) i aa ae e) (fS (λ_=>true) q i aa ae I) ad->oS P c nt n0 ops q i (aa++ab) e I (ae++ad)
 | [],ab,[],ad,i,e,I,_,h=>by simpa
 | [],_,_::_,_,_,_,_,h,_=>h.elim
 |_::_,_,[],_,_,_,_,h,_=>h.elim
 |o::os,ab,(v,s)::tr,ad,i,e,I,h1,h2=>by
  refine⟨h1.1,Rg os ab tr ad (i+1) _ _ h1.2 ?_⟩
  rw[fE,fS,ai2 rfl]at h2
  have:(if((λ_=>true) i&&decide (3<=zZ q i o))=true then s else I)=s:=by
   by_cases h3:3<=zZ q i o
   .grind
   .rw[ai1 (by grind)];exact(h1.1.2.1 om).symm
  grind
def two (P:Program) (ops:List Oper) (q:List (Nat×Nat)) (p:Nat):Bool:=
 match ops[p]?,ops[p+1]? with
 |some ⟨some dA,.alloc t,tA,M7,aA,none⟩,some ⟨some dB,.alloc t',tB,M8,aB,none⟩=>
  Nat.beq t t'&& !Nat.beq dA dB&&Nat.beq (zZ q p ⟨some dA,.alloc t,tA,M7,aA,none⟩) 3&&Nat.beq (zZ q (p+1) ⟨some dB,.alloc t',tB,M8,aB,none⟩) 3&&
  (match wB P t with|some z=>z.all oQ|none=>false)&&
  ((List.range ops.length).all λk=>match ops[k]? with
   |some o=>if k<p then decide (zZ q k o<2)&& !(oR ops o).contains dA&& !(oR ops o).contains dB&&(match o.dst with|some d=> !Nat.beq d dA&& !Nat.beq d dB|none=>false)
    else if p+1<k then((gq ops []).getD k []).contains p&&((gq ops []).getD k []).contains (p+1)else true
   |none=>true)&&
  ((List.range ops.length).all λj=>(List.range j).all λi=>match ops[i]?,ops[j]? with
   |some x,some y=>(!uM ops q i j x y||((gq ops []).getD j []).contains i||(Nat.beq i p&&Nat.beq j (p+1)))&&(!Nat.blt j p||(match x.dst,y.dst with|some d,some d'=> !Nat.beq d d'|_,_=>true))
   |_,_=>true)
 |_,_=>false
theorem VW.Ho {id:Nat} {Q:Exit->Env->St->Prop} (p:Nat) (hm:P.follows .mixedOrders) (hn:n0.n<=I.length) (hc:c.cv.length<=I.length) (ao:c.β0.length=c.cv.length)
  (h2:two P ops q p) (aq:rQ ops) (ar:I.all (bT I.length)) (h0: ∀s,iS I.length (e s))
  (h:rR P c nt n0 ops q 0 (ops.take p) (λe' I'=>(∀s,iS I.length (e' s)=true)/\rR P c nt n0 ops q p (ops.drop p) (Q .normal) e' I') e I):VW P c nt (.region id ops.toArray true) Q e I:=by
 obtain⟨aa,ai,aK,h⟩:=CW _ _ _ _ _ h
 obtain⟨ab,au,hK⟩:=CW _ _ _ _ _ h
 unfold two at h2
 split at h2
 case h_2=>cases h2
 rename_i dA t tA aH aA dB t' tB aI aB hA hB
 simp only[Ac,Nat.beq_eq,Do,Am,Cm]at h2
 obtain⟨⟨⟨⟨⟨⟨av,aw⟩,ax⟩,ay⟩,hz⟩,hk⟩,hd⟩:=h2
 subst av
 have aL:p+1<ops.length:=(A4.1 hB).1
 have ae:(ops.take p).length=p:=by simp;omega
 obtain⟨af,aJ⟩:=FA ops q _ _ _ _ _ ai
 have ht:=Rg (ops.take p) (ops.drop p) aa ab 0 e I ai (by rw[ae,Ad];exact au)
 have hE:=Re (λ_=>true) (ops.take p) (ops.drop p) aa ab 0 e af
 have hS:=Rf (λ_=>true) q (ops.take p) (ops.drop p) aa ab 0 I af
 rw[ae,Ad]at hE hS
 rw[B8]at ht hE hS
 rw[<-hE,<-hS]at hK
 obtain⟨z,az,a6⟩: ∃z,wB P t=some z/\z.all oQ=true:=by
  split at hz
  .exact⟨_,by assumption,hz⟩
  .cases hz
 have aj:dA≠dB:=λq=>by subst q;simp at aw
 have ak: ∀(k:Nat) o,k<p->ops[k]? =some o->(zZ q k o<2/\dA∉oR ops o/\dB∉oR ops o/\o.dst≠some dA/\o.dst≠some dB)/\ ∃d,o.dst=some d:=by
  intro k o ad ho
  have:=hk k om
  rw[ho]at this
  simp only[ai2 ad,Ac,ai7,Do]at this
  obtain⟨⟨⟨a1,a2⟩,a3⟩,a4⟩:=this
  cases hd:o.dst with
  |none=>rw[hd]at a4;cases a4
  |some d=>
   rw[hd]at a4
   simp only[Ac,Do]at a4
   refine⟨⟨a1,by simpa using a2,by simpa using a3,λq=> ?_,λq=> ?_⟩,d,rfl⟩
   all_goals simp_all
 refine λa w L J hs=> ?_
 refine wp_region_any hm ?_
 have hg: ∀j,(Array.replicate ops.toArray.size false).getD j false=false:=λj=>by
  simp[Array.getD]
 have e1:fE (λi=>(Array.replicate ops.toArray.size false).getD i false) 0 ops (aa++ab) e=e:=by
  funext t
  exact JF _ t ops (aa++ab) 0 e λk o _ _=>hg _
 have e2:fS (λi=>(Array.replicate ops.toArray.size false).getD i false) q 0 ops (aa++ab) I=I:=zp _ q ops (aa++ab) 0 I λk o _ _=>hg _
 refine Zh hn hc ao hA hB aj ax ay az a6 (λk o a b=>(ak k o a b).1) (λk o a7 ho=> ?_) (fun{i j x y} a8 hx hy=> ?_) aq ar h0 (λk v s ad hv=> ?_) ht hK _ _ a w.drew L J sm sm (λj o _ hj=>by rw[hg]at hj;cases hj) (.inl ⟨λh=>(by rw[hg]at h;cases h), ?_⟩)
 .have:=hk k (A4.1 ho).1
  rw[ho]at this
  simp only[ai1 (show ¬k<p by omega),ai2 a7,Ac]at this
  exact⟨by simpa using this.1,by simpa using this.2⟩
 .have:=hd j (A4.1 hy).1 i a8
  rw[hx,hy]at this
  simp only[Ac,Ce,Do,Nat.beq_eq]at this
  grind
 .obtain⟨o,ho⟩: ∃o,ops[k]? =some o:=⟨ops[k],by simp[A0 (show k<ops.length by omega)]⟩
  obtain⟨_,d,al⟩:=ak k o ad ho
  have aC:aa[k]? =some (v,s):=by
   rw[Ao (by rw[af,ae];exact ad)]at hv
   exact hv
  have aD:(ops.take p)[k]? =some o:=by rw[List.getElem?_take_of_lt ad];exact ho
  have:=CU (λ_=>true) d (ops.take p) aa 0 k e o v s aD aC al rfl λk' o' aE ah aF=>by
   exfalso
   have an:k'<p:=by rw[<-ae];exact(A4.1 ah).1
   rw[List.getElem?_take_of_lt an]at ah
   have:=hd k' om k aE
   rw[ho,ah]at this
   simp only[Ac]at this
   have:=this.2
   rw[al,aF]at this
   simp at this
   rw[<-Bool.not_eq_true,Nat.blt_eq]at this
   omega
  grind
 .rw[e1,e2]
  obtain⟨aG,hle⟩:=hs.mem.drew
  exact⟨aG,hs.size,hs.defs,λt=>(hs.env t).mono hle (Ext.refl _ _)⟩
def th (n:Nat) (e:Env):Prop:= ∀s,iS n (e s)=true
theorem th.fu {n:Nat} {d:Tmp} {v:V} (he:th n e) (hv:iS n v):th n (fu e d v):=λs=>by
 simp only[Vx.fu]
 split
 .exact hv
 .exact he s
theorem Zi {id:Nat} {Q:QT} {l1 l2:List Oper} (q:List (Nat×Nat)) (n0 p:Nat) (hn:n0<=I.length) (hm:P.follows .mixedOrders) (hc:c.cv.length<=I.length) (aa:c.β0.length=c.cv.length)
  (h2:(two P ops q p&&rQ ops)) (ab:I.all (bT I.length)) (h0:th I.length e)
  (h1:ops.take p=l1) (h3:ops.drop p=l2)
  (h:rS P c nt (Kp.pre n0) ops q 0 l1 (λe' I'=>th I.length e'/\rS P c nt (Kp.pre n0) ops q p l2 (Q .normal) fx fx fx e' I') fx fx fx e I):gG P c nt (.region id ops.toArray true) Q fx fx e I:=by
 subst h1;subst h3
 simp only[Ac]at h2
 exact VW.Ho (n0:=Kp.pre n0) p hm hn hc aa h2.1 h2.2 ab h0 h
theorem Kp.oV {k:Kp} {id:Nat} (h:k.out id):(id<k.x/\k.ob=none)\/k.n<=id:=by simp_all[Kp.out]
def Rh (n0:Kp):V->Bool
 | .sl .full _=>true
 | .sl (.app id) _=>n0.out id
 | .cL id _ _ _ _=>n0.out id
 |_=>false
attribute [go_sem] Rh
@[go_sem] theorem wk {K:KT} {d:Option Tmp} {x y:Operand} {t1 t2:TypeId} (h:Rh n0 (zG e x)):eN P c nt n0 3 d (.call ⟨.builtin .append, #[x,y], #[t1,t2]⟩) K fx fx e I=eL P c nt d (.call ⟨.builtin .append, #[x,y], #[t1,t2]⟩) K fx fx e I:=by
 show fW P c nt n0 3 d (.call ⟨.builtin .append, #[x,y], #[t1,t2]⟩) K e I=jB P c nt d (.call ⟨.builtin .append, #[x,y], #[t1,t2]⟩) K e I
 have h1:zt (xX P d e I (.call ⟨.builtin .append, #[x,y], #[t1,t2]⟩))=false:=by
  unfold xX
  split
  all_goals simp[QP,wa]
 have hA: ∀(el:Option (Nat×Nat)) (k2:Nat) (y:V),jK n0 3 I (sH el k2 I (zG e x) y):=λel k2 y=>by
  unfold sH
  split
  .split
   .exact⟨sm,λ_=> .inl ⟨_,rfl⟩⟩
   .rename_i hx
    rw[hx]at h
    have h:=Kp.oV (k:=n0) h
    split<;>first|trivial|exact⟨sm,λ_=> .inr (Kp.iU h)⟩
   .rename_i hx
    rw[hx]at h
    have h:=Kp.oV (k:=n0) h
    (repeat' split)<;>first|trivial|exact⟨sm,λ_=> .inr (Kp.iU h)⟩
   trivial
  trivial
 have hL: ∀(el:Option (Nat×Nat)) (k2:Nat) (y:V),jK n0 3 I (sI el k2 I (zG e x) y):=λel k2 y=>by
  unfold sI
  split
  .rename_i hx
   rw[hx]at h
   have h:=Kp.oV (k:=n0) h
   (repeat' split)<;>first|trivial|exact⟨sm,λ_=> .inr (Kp.iU h)⟩
  ·(repeat' split)<;>first|trivial|exact⟨sm,λ_=> .inl ⟨_,rfl⟩⟩
 have h2:jK n0 3 I (xX P d e I (.call ⟨.builtin .append, #[x,y], #[t1,t2]⟩)):=by
  unfold xX
  split
  .exact hL (eI P t1) (dJ P t2) (zG e y)
  .exact hA (eI P t1) (dJ P t2) (zG e y)
 grind[fW,jB]
theorem th.oJ {n:Nat}:th n oJ:=λ_=>rfl
end
variable {n:Nat}{P:Program}{τ:St}{c:Ctx}{I:St}{o:Ob}{f:FuncId}{k:Nat}{I':St}{m:Nat}{ρ:Nat->Nat}{AF:Nat->Nat}{bY:List V}{cj:List V}{KV:V->St->Prop}
theorem Zj (t s:Nat) (rows:List (List V)) {nt:Nat} {e:Env} {Q:QT} {y:Code} (h0:0<s) (hu:eK s rows) (ht:e t= .sl .full rows) (hy:gG P c nt y Q fx fx (fu e t (.sl (.app I.length) rows)) (I++ [.app rows.length s])):gG P c nt y Q fx fx e I:=by
 intro a w L J hs
 have hr:=hs.env t
 rw[ht]at hr
 have hr:cF w L (.sl .full rows) (a.tmps.getD t undef):=hr
 obtain⟨ad,hx,ab⟩: ∃ad,a.tmps.getD t undef= .slice ad rows.length rows.length/\cF w L (.sl .ro rows) (.slice ad rows.length rows.length):=by
  generalize a.tmps.getD t undef=x at hr
  cases hr with
  |jn g ad cap hg ha=>have:=hg rfl;subst this;exact⟨ad,rfl,.jn .ro ad 0 om sm⟩
  |sl g rows s b o cap c ha hs hlen fp dp hg hc hr=>have:=hg rfl;subst this;exact⟨_,rfl,.sl .ro rows s b o _ c sm hs hlen fp dp om hc hr⟩
 have aa:=Ext.push I J hs.mem.len (.app rows.length s) (.slice ad rows.length rows.length)
 refine hy a w L (J++ [.slice ad rows.length rows.length]) ⟨hs.mem.own h0,hs.size,hs.defs,λk=> ?_⟩
 simp only[fu]
 split
 .rename_i hk
  subst hk
  rw[hx]
  exact⟨ab,rows.length,s,sm,om,λ_=>by rw[<-hs.mem.len];simp,hu⟩
 .exact(hs.env k).mono (Le.refl _ _) aa
theorem Zk (i j:Nat) {p:Ob} {args:List V} {R:V->St->Prop} (hc:bN P f cj [o,p] R) (hb:xE P f) (ae:i≠j) (ho:I[i]? =some o) (hp:I[j]? =some p) (db:bT 0 o) (ad:bT 0 p)
  (aa:bP (cP (cK [i,j] I.length)) cj (args++bY)) (hR: ∀r s,R r s-> ∃o2 p2,s= [o2,p2]/\bT 0 o2=true/\bT 0 p2) (hK: ∀r o2 p2,R r [o2,p2]->KV (dH (cK [i,j] I.length) r) ((I.set i o2).set j p2)):jk P c (.fn f bY) args I KV fx:=by
 have ab: ∀q:Ob,bT 0 q=true->yA (cK [i,j] I.length) q=q:=λq h=>yY (n:=0) om h
 refine VC.of hc hb [i,j] (by grind) rfl (λk l q h1 h2=> ?_) aa λr s h _=> ?_
 .match k with
  |0=>simp at h1 h2;subst h1;subst h2;rw[ab _ db];exact ho
  |1=>simp at h1 h2;subst h1;subst h2;rw[ab _ ad];exact hp
  |k+2=>simp at h1
 .obtain⟨o2,p2,rfl,h1,h2⟩:=hR r s h
  grind[yX,fI]
theorem M9 (pick:aiB) {n0:Nat} {R:V->St->Prop} {s:St} {v r:V} (aa:pick.Nodup) (hn: ∀i,i<n0->pick[i]? =some i) (hlen:s.length=pick.length) (ab: ∀(i j:Nat) (o:Ob),pick[i]? =some j->s[i]? =some o->I[j]? =some (yA (cK pick I.length) o)) (hr:cP (cK pick I.length) r v) (hR:R r s):cw (some v) n0 R I:=
 ⟨v,rfl,v,I,pick,s,r,.refl _ _,⟨hlen,aa,ab,hn⟩,hr,hR⟩
theorem bN.Je {args:List V} {v:V} {R:V->St->Prop} (h:bN P f args [] R) (hR: ∀r s,R r s-> ∃r' s',oq [r] s [r'] s'/\cP (cK [] s'.length) v r'):Pure P f args v:=by
 intro w L J aa hm ha
 refine(h w L J aa hm ha).mono ?_
 rintro e w' ⟨x,r,L',I',J',he,hr,hl,ad,ae⟩
 obtain⟨r',s',hf,hv⟩:=hR r I' hr
 obtain⟨L2,J2,ab,aj,af,ah⟩:=hf.ok ad (show bP (dz w' L' I' J') [r] [x] from⟨ae,tV⟩)
 have dh:J.length=([]:St).length:=hm.len
 have hp:gE (entry w L [] J).cv.length [] s' []:=⟨rfl,C0,sm,λi q=>(by trivial)⟩
 have ai:=ab.pick hp dh
 refine⟨x,v,L2,[],[],he,sm,om,ai, ?_⟩
 exact yw (hp.jr ab.len) hv ah.1
structure kL (k:Nat) (τ s I':St) (pick:aiB):Prop where
 pW:gE 0 pick I' (s++τ)
 first: ∀i,i<k->pick[i]? =some i
 rest: ∀i,i<τ.length->pick[s.length+i]? =some (k+i)
theorem kL.Hp {s:St} {pick:aiB} (h:kL k τ s I' pick) {M i:Nat} (hi:i<k):cK pick M i=i:=by
 have h1:=h.first i hi
 obtain⟨hl,e⟩:=A4.1 h1
 simp_all[cK]
theorem kL.Hq {s:St} {pick:aiB} (h:kL k τ s I' pick) {M i:Nat} (hi:i<τ.length):cK pick M (s.length+i)=k+i:=by
 have h1:=h.rest i hi
 obtain⟨hl,e⟩:=A4.1 h1
 simp_all[cK]
theorem Zl (h:n<=m) {v:V} (hv:cN n v):cN m v=true:=by
 cases v with
 |sl g rows=>cases g<;>simp_all[cN]<;>omega
 |_=>simp_all[cN]<;>omega
theorem Na (h:n<=m) {v:V} (hv:cS n v):cS m v=true:=by
 cases v<;>grind[cS,Zl]
theorem Ri (h:n<=m) {v:V} (hv:jC n v):jC m v=true:=by
 cases v<;>grind[jC,Na]
theorem JY (h:n<=m) (ho:bT n o):bT m o=true:=by
 cases o with
 |box cells=>grind[bT,Na]
 |cd rows s=>grind[bT,Na]
 |mp dL gk cV=>grind[bT,Ri]
 |it m' since seen last=>cases m' with
  |none=>rfl
  |some i=>simp_all[bT];omega
 |_=>rfl
theorem Nb {v:V} (h: ∀i,i<n->ρ i=AF i) (hv:cN n v):dt ρ v=dt AF v:=by
 cases v with
 |sl g rows=>cases g<;>simp_all[dt,cN]
 |_=>simp_all[dt,cN]
theorem JZ {v:V} (h: ∀i,i<n->ρ i=AF i) (hv:cS n v):dj ρ v=dj AF v:=by
 cases v with
 |fn f bY=>
  simp only[cS,Am]at hv
  simp only[dj]
  congr 1
  grind[B9,Nb]
 |gW t v=>
  simp only[cS,Am]at hv
  simp only[dj]
  congr 1
  grind[B9,Nb]
 |_=>simp only[dj];exact(by grind[Nb,cS])
theorem Zm {v:V} (h: ∀i,i<n->ρ i=AF i) (hv:jC n v):dM ρ v=dM AF v:=by
 cases v with
 |agg cs=>
  simp only[jC,Am]at hv
  simp only[dM]
  congr 1
  grind[B9,JZ]
 |_=>simp only[dM];exact(by grind[JZ,jC])
theorem Rj (h: ∀i,i<n->ρ i=AF i) (ho:bT n o):yA ρ o=yA AF o:=by
 cases o with
 |box cells=>
  simp only[bT,Am]at ho
  simp only[yA]
  congr 1
  grind[B9,JZ]
 |cd rows s=>
  simp only[bT,Am]at ho
  simp only[yA]
  congr 1
  grind[B9,JZ]
 |mp dL gk cV=>
  simp only[bT,Am]at ho
  simp only[yA]
  congr 1
  grind[B9,Zm]
 |it m since seen last=>
  cases m with
  |none=>rfl
  |some i=>simp_all[bT,yA]
 |_=>rfl
theorem J0 {args:List V} {fj:St} {R:V->St->Prop} (hc:bN P f cj fj R) (hb:xE P f) (aq:fj.all (bT fj.length)) (hτ:τ.all (bT 0))
  (aj:bP (cP (cK (List.range fj.length) (fj.length+τ.length))) cj (args++bY))
  (hR: ∀r s,R r s->gM r=true/\s.all (bT s.length))
  (hk: ∀r s,R r s->fj.length<=s.length-> ∀I' pick,kL fj.length τ s I' pick->KV r I'):jk P c (.fn f bY) args (fj++τ) KV fx:=by
 have ar:(fj++τ).length=fj.length+τ.length:=An
 refine VC.of hc hb (List.range fj.length) Bf sm (λi j o h1 h2=> ?_) (by grind) λr s hr hl=> ?_
 .obtain⟨h3,h4⟩:=A4.1 h1
  simp at h3 h4
  subst h4
  rw[Ao h3,h2]
  have ho:bT fj.length o:=by
   grind
  grind[yY,qE]
 .obtain⟨ak,hs⟩:=hR r s hr
  rw[zi ak]
  rw[List.length_range]at hl
  obtain⟨k,ah⟩:=eX fj.length
  rw[ah]at hl hk⊢
  obtain⟨I',ab⟩: ∃I',yX (List.range k) (fj++τ) s=I':=⟨_,rfl⟩
  rw[ab]
  have al:(fj++τ).length=k+τ.length:=om
  have ao:I'.length=s.length+τ.length:=by
   grind[FH]
  have hold: ∀i o,s[i]? =some o->I'[if i<k then i else i+τ.length]? =some (yA (cK (List.range k) (k+τ.length)) o):=λi o ho=>by
   have:=BT (dg:=List.range k) (Ic:=fj++τ) (I':=s) Bf (λq hq=>by have:=Cm.1 hq;omega) (sU hl) ho
   rw[ab,al]at this
   by_cases hi:i<k
   .simp_all[qE]
   .rw[ai1 hi]
    grind[qu]
  have ad: ∀i,i<τ.length->I'[k+i]? =τ[i]? :=λi hi=>by
   rw[<-ab]
   unfold yX
   rw[Ao (by grind[nk]),sO _ _ _ _ sm,Au om,ah]
   simp
  refine hk r s hr hl I' (List.range k++(List.range (s.length - k)).map (k+τ.length+ ·)++(List.range τ.length).map (k+ ·)) ?_
  obtain⟨pick,hp⟩:=eX (List.range k++(List.range (s.length - k)).map (k+τ.length+ ·)++(List.range τ.length).map (k+ ·))
  rw[hp]
  have au:pick.length=s.length+τ.length:=by grind
  have an: ∀i,i<k->pick[i]? =some i:=(by grind)
  have av: ∀i,k<=i->i<s.length->pick[i]? =some (i+τ.length):=λi h1 h2=>by
   rw[<-hp,Ao (by grind),Au (by grind),List.length_range,B6,Dc om,Ba]
   congr 1;omega
  have ai: ∀i,i<τ.length->pick[s.length+i]? =some (k+i):=λi hi=>by
   rw[<-hp,Au (by grind)]
   simp only[An,List.length_range,Ai]
   grind
  have iT: ∀i,i<s.length->cK pick I'.length i=cK (List.range k) (k+τ.length) i:=λi hi=>by
   have ae:i<pick.length:=om
   unfold cK
   grind
  refine⟨⟨by grind, ?_,λi j o aa ho=> ?_,om⟩,an,ai⟩
  .rw[<-hp]
   refine Co.2 ⟨Co.2 ⟨Bf, ?_,λa ha b hb=> ?_⟩, ?_,λa ha b hb=> ?_⟩
   .exact List.Pairwise.map _ om (Bf (n:=_))
   .grind
   .exact List.Pairwise.map _ om (Bf (n:=_))
   .simp only[Ak,Cm,Ab]at ha hb
    omega
  .by_cases hi:i<s.length
   .rw[Ao hi]at ho
    have h1:=hold i o ho
    have h2:pick[i]? =some (if i<k then i else i+τ.length):=by
     grind
    rw[h2]at aa;cases aa
    rw[h1]
    congr 1
    have af:bT s.length o:=by
     grind
    exact(Rj iT af).symm
   .rw[Au om]at ho
    have ae:=(A4.1 ho).1
    have h2:=ai (i - s.length) ae
    rw[show s.length+(i - s.length)=i by omega]at h2
    rw[h2]at aa;cases aa
    rw[ad _ ae,ho]
    have af:bT 0 o:=by
     grind
    rw[yY (n:=0) om af]
theorem Rk {e:Env} {s:St} {pick keep:aiB} {vs:List V} (h:kL k τ s I' pick) (ha:bP (cP (cK pick I'.length)) vs (keep.map e)):At 0 keep vs (s++τ) e I':=⟨pick,h.pW,ha⟩
theorem Rl {n0:Nat} {s:St} {pick:aiB} {R:V->St->Prop} {v:V} (h:kL k τ s I' pick) (hn:n0<=k) (hs:s.all (bT s.length)) (ad:k<=s.length) (hv:gM v) (hR:R v s):cw (some v) n0 R I':=by
 have ae:pick.length=s.length+τ.length:=by rw[<-h.pW.len,An]
 refine M9 (pick.take s.length) ?_ (λi hi=> ?_) (by grind) (λi j o aa ho=> ?_) (zC hv) hR
 .exact h.pW.nodup.sublist (by grind)
 .rw[Ap,ai2 om];exact h.first i om
 .have hi:=(A4.1 ho).1
  rw[Ap,ai2 hi]at aa
  rw[h.pW.ob i j o aa (by grind)]
  congr 1
  have ab:bT s.length o:=by
   grind
  refine Rj (λq hq=> ?_) ab
  unfold cK
  grind
theorem Zn {args:List V} {o2:Ob} {v:V} (hc:bN P f cj [o] (λr s=>r=v/\s= [o2])) (hb:xE P f) (ho:I[0]? =some o) (ad:bT 0 o) (ab:bT 0 o2)
  (aa:bP (cP (cK [0] I.length)) cj (args++bY)) (hn:gM v) (hk:KV v (I.set 0 o2)):pT P c ⟨1,n,[],none⟩ 3 (.fn f bY) args I KV fx:=by
 have ae: ∀q:Ob,bT 0 q=true->yA (cK [0] I.length) q=q:=λq h=>yY (n:=0) om h
 have e:yX [0] I [o2]=I.set 0 o2:=by
  grind[yX,fI]
 refine FI hc hb [0] sm rfl (λi j q h1 h2=> ?_) aa (.inr ?_) ?_
 .grind
 .rw[e];exact Kp.iU sm
 grind[zi]
end Go.Vx
