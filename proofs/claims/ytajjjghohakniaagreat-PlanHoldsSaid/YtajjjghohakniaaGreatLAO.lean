/-
  Small helps for walks: numbers that do not wrap, rows at an index, arguments and results piece by piece.
  No condition: a library text; nothing of the program is named.
-/
import Derived.Test.YtajjjghohakniaaGreatLAN
import Derived.Carry
import Derived.ProofKit
import Derived.OpenShut
import Derived.IntWalk
namespace Go.Vx
open Go
mutual
inductive Shp (P:Program):TypeId→List V→Prop
 |bool {t:TypeId} (b:Bool):P.underlying t=some .bool→Shp P t [.bool b]
 |int {t:TypeId} {k:IntKind} {n:Int}:P.underlying t=some (.int k)→(Lit.int k n).wf=true→Shp P t [.int k n]
 |str {t:TypeId} {s:List UInt8}:P.underlying t=some .string→s.length≤maxLen→Shp P t [.str s]
 |sl {t e:TypeId} {rows:List (List V)}:P.underlying t=some (.slice e)→rows.length≤maxLen→ShpR P e rows→Shp P t [.sl .ro rows]
 |struct {t:TypeId} {fs:Array Field} {cells:List V}:P.underlying t=some (.struct fs)→ShpF P (fs.toList.map (·.type)) cells→Shp P t cells
inductive ShpR (P:Program):TypeId→List (List V)→Prop
 |nil {e:TypeId}:ShpR P e []
 |cons {e:TypeId} {r:List V} {rows:List (List V)}:Shp P e r→ShpR P e rows→ShpR P e (r::rows)
inductive ShpF (P:Program):List TypeId→List V→Prop
 |nil:ShpF P [] []
 |cons {t:TypeId} {ts:List TypeId} {a b:List V}:Shp P t a→ShpF P ts b→ShpF P (t::ts) (a++b)
end
def zx7 (P:Program):Nat→List Field→Nat→Bool
 |o,[],n=>o==n
 |o,f::fs,n=>f.offset==o&&zx7 P (o+P.cellsOf f.type) fs n
def okT (P:Program) (T:List TypeId):Bool:=T.all fun t=>
 match P.underlying t with
 |some .bool|some (.int _)|some .string=>true
 |some (.slice e)=>T.contains e&&decide (0<P.cellsOf e)
 |some (.struct fs)=>fs.all (fun f=>T.contains f.type)&&zx7 P 0 fs.toList (P.cellsOf t)
 |_=>false
def lims (w:World):Nat→Nat:=fun b=>match w.heap[b]? with|some (.cells c _ _)=>c.size|_=>0
section
variable {H:Type} {enc:TypeId×Value→H} {P:Program} {w:World} {base:Nat} {spare:Nat→Bool} {held:Bool}
theorem yG0 {b o:Nat} {x:Value} (h:w.cell? ⟨b,o,none⟩=some x):o<lims w b:=by
 unfold World.cell? at h
 unfold lims
 simp only at h
 split at h
 ·rename_i c _ _ hb
  rw[hb]
  simp only[Option.isSome_none,Bool.false_eq_true,if_false]at h
  exact(Array.getElem?_eq_some_iff.1 h).1
 ·cases h
theorem yH4 {T:List TypeId} (hT:okT P T=true) {t:TypeId} (h:t∈T):(match P.underlying t with
  |some .bool|some (.int _)|some .string=>true
  |some (.slice e)=>T.contains e&&decide (0<P.cellsOf e)
  |some (.struct fs)=>fs.all (fun f=>T.contains f.type)&&zx7 P 0 fs.toList (P.cellsOf t)
  |_=>false)=true:=by
 unfold okT at hT
 rw[List.all_eq_true]at hT
 exact hT t h
inductive Sm (M:Nat):V→Prop
 |bool (b:Bool):Sm M (.bool b)
 |int (k:IntKind) (n:Int):Sm M (.int k n)
 |str {s:List UInt8}:s.length≤M→Sm M (.str s)
 |sl {g:Tag} {rows:List (List V)}:rows.length≤M→(∀r∈rows,∀v∈r,Sm M v)→Sm M (.sl g rows)
 |agg {cs:List V}:(∀v∈cs,Sm M v)→Sm M (.agg cs)
structure BulkOk {H:Type} (B:DataW H→Nat) (BA:List (DataW H)→Nat):Prop where
 str: ∀s:List UInt8,s.length≤B (.lit (.string s))
 sl: ∀es sp,BA es≤B (.slice es sp)
 agg: ∀ps,BA ps≤B (.agg ps)
 mem: ∀d l,d∈l→B d≤BA l
 len: ∀l:List (DataW H),l.length≤BA l
def SmD {H:Type} (d:DataW H) (vs:List V):Prop:= ∀(B:DataW H→Nat) (BA:List (DataW H)→Nat),BulkOk B BA→ ∀M,B d≤M→ ∀v∈vs,Sm M v
theorem zI1 {T:List TypeId} (hT:okT P T=true): ∀(fuel:Nat) (t:TypeId) (cs:List Value) (x:DataW H×List MemPlace),t∈T→DataW.trod enc P w base spare held fuel t cs=some x→
  ∃vs,Shp P t vs∧All2 (RdP w (lims w)) vs cs∧SmD x.1 vs
 |0,t,cs,x,_,h=>by simp[DataW.trod]at h
 |fuel+1,t,cs,x,ht,h=>by
  have hk:=yH4 hT ht
  split at hk
  ·rename_i hu
   obtain⟨b,rfl,_⟩:=DataW.trod_bool hu h
   exact⟨[.bool b],.bool b hu,⟨.bool b,trivial⟩,fun _ _ _ _ _ v hv=>by simp at hv;subst hv;exact .bool b⟩
  ·rename_i k hu
   obtain⟨n,rfl,_,hw⟩:=DataW.trod_int hu h
   exact⟨[.int k n],.int hu hw,⟨.int k n,trivial⟩,fun _ _ _ _ _ v hv=>by simp at hv;subst hv;exact .int k n⟩
  ·rename_i hu
   obtain⟨s,rfl,rfl,hs⟩:=DataW.trod_string hu h
   have hr:RdP w (lims w) (.str s.data.toList) (.string ⟨s.data.toList.toArray⟩):= .str _
   exact⟨[.str s.data.toList],.str hu (by simpa using hs),⟨hr,trivial⟩,fun B BA hB M hM v hv=>by simp at hv;subst hv;exact .str (by have:=hB.str s.data.toList;simp only at hM;simp at this hM⊢;omega)⟩
  ·rename_i e hu
   simp only[Bool.and_eq_true,decide_eq_true_eq,List.contains_iff_mem]at hk
   obtain⟨he,hpos⟩:=hk
   rcases DataW.trod_slice hu h with ⟨rfl,_⟩|⟨a,len,cap,elems,rest,n,hfu,rfl,hxe,hb,hl,hm,hlen,hel,_,_⟩
   ·exact⟨[.sl .ro []],.sl hu (Nat.zero_le _) .nil,⟨.sl0 _ _ _ (fun q=>by cases q) (fun _=>by simp),trivial⟩,fun _ _ _ _ _ v hv=>by simp at hv;subst hv;exact .sl (Nat.zero_le _) (by simp)⟩
   ·obtain rfl:fuel=n:=by omega
    have each: ∀i,i<len→ ∃(vs:List V) (cs':List Value),Shp P e vs∧All2 (RdP w (lims w)) vs cs'∧cs'.length=P.cellsOf e∧(∀j,j<P.cellsOf e→w.cell? ((a.add (i*P.cellsOf e)).add j)=cs'[j]?)∧ ∃d∈elems.map (·.1),SmD d vs:=by
     intro i hi
     have h1:=hel i hi
     rw[List.getElem?_eq_getElem (by omega)]at h1
     cases hc:w.cells? base (a.add (i*P.cellsOf e)) (P.cellsOf e)with
     |none=>rw[hc]at h1;cases h1
     |some cs'=>
      rw[hc]at h1
      obtain⟨_,hl',hcell⟩:=World.cells?_some hc
      obtain⟨vs,hs,hr,hsm⟩:=zI1 hT fuel e cs' _ he h1
      exact⟨vs,cs',hs,hr,hl',hcell,_,List.mem_map.2 ⟨_,List.getElem_mem _,rfl⟩,hsm⟩
    rcases Nat.eq_zero_or_pos len with rfl|hlp
    ·exact⟨[.sl .ro []],.sl hu (Nat.zero_le _) .nil,⟨.sl0 _ _ _ (fun q=>by cases q) (fun _=>by simp),trivial⟩,fun _ _ _ _ _ v hv=>by simp at hv;subst hv;exact .sl (Nat.zero_le _) (by simp)⟩
    ·obtain⟨b,o,spot⟩:=a
     have hspot:spot=none:=by
      obtain⟨vs,cs',_,_,hl',hcell,_⟩:=each 0 hlp
      have h0:=hcell 0 hpos
      rw[List.getElem?_eq_getElem (by omega)]at h0
      simp only[Nat.zero_mul,Addr.add,if_true]at h0
      cases spot with
      |none=>rfl
      |some _=>
       exfalso
       unfold World.cell? at h0
       split at h0
       ·simp at h0
       ·cases h0
     subst hspot
     have hadd: ∀i j,((⟨b,o,none⟩:Addr).add (i*P.cellsOf e)).add j=⟨b,o+i*P.cellsOf e+j,none⟩:=by
      intro i j;rw[xP,xP]
     have key: ∀m,m≤len→ ∃rows:List (List V),rows.length=m∧ShpR P e rows∧(∀r∈rows,r.length=P.cellsOf e)∧(∀r∈rows,∃d∈elems.map (·.1),SmD d r)∧
       ∀i j (hi:i<rows.length) (hj:j<rows[i].length),∃x,w.cell? ⟨b,o+(len - m+i)*P.cellsOf e+j,none⟩=some x∧RdP w (lims w) (rows[i][j]) x:=by
      intro m
      induction m with
      |zero=>exact fun _=>⟨[],rfl,.nil,fun _ q=>by simp at q,fun _ q=>by simp at q,fun i j hi=>by simp at hi⟩
      |succ m ih=>
       intro hm
       obtain⟨rows,h1,h2,h3,h3b,h4⟩:=ih (by omega)
       obtain⟨vs,cs',hs,hr,hl',hcell,hsm⟩:=each (len - (m+1)) (by omega)
       refine⟨vs::rows,by simp[h1],.cons hs h2,fun r hr'=> ?_,fun r hr'=> ?_,fun i j hi hj=> ?_⟩
       ·rcases List.mem_cons.1 hr' with rfl|hr'
        ·rw[hr.length,hl']
        ·exact h3 r hr'
       ·rcases List.mem_cons.1 hr' with rfl|hr'
        ·exact hsm
        ·exact h3b r hr'
       ·cases i with
        |zero=>
         simp only[List.getElem_cons_zero]at hj⊢
         obtain⟨x,hx,hrx⟩:=hr.get j _ (List.getElem?_eq_getElem hj)
         refine⟨x, ?_,hrx⟩
         have:=hcell j (by rw[←hl',←hr.length];exact hj)
         rw[hadd,hx]at this
         simpa using this
        |succ i=>
         simp only[List.getElem_cons_succ]at hj⊢
         obtain⟨x,hx,hrx⟩:=h4 i j (by simpa using hi) hj
         refine⟨x, ?_,hrx⟩
         rw[show len - (m+1)+(i+1)=len - m+i by omega]
         exact hx
     obtain⟨rows,h1,h2,h3,h3b,h4⟩:=key len (Nat.le_refl _)
     have hsub:len - len=0:=by omega
     rw[hsub]at h4
     simp only[Nat.zero_add]at h4
     subst h1
     refine⟨[.sl .ro rows],.sl hu (by omega) h2,⟨?_,trivial⟩,fun B BA hB M hM v hv=>by
      simp at hv;subst hv
      rw[hxe]at hM
      have q1:=hB.sl (elems.map (·.1)) (rest.map (·.1))
      have q2:=hB.len (elems.map (·.1))
      rw[List.length_map]at q2
      simp only at hM
      refine .sl (by omega) fun r hr v hv=> ?_
      obtain⟨d,hd,hsd⟩:=h3b r hr
      have q3:=hB.mem _ _ hd
      exact hsd B BA hB M (by omega) v hv⟩
     let c:Nat→Nat→Value:=fun i j=>(w.cell? ⟨b,o+i*P.cellsOf e+j,none⟩).getD undef
     refine .sl .ro rows (P.cellsOf e) b o cap c (fun _=>by simp) hpos h3 ?_ hl (fun q=>by cases q) (fun i j hi hj=> ?_) (fun i j hi hj=> ?_)
     ·obtain⟨x,hx,_⟩:=h4 (rows.length - 1) (P.cellsOf e - 1) (by omega) (by rw[h3 _ (List.getElem_mem _)];omega)
      have hlt:=yG0 hx
      have h5:(rows.length - 1)*P.cellsOf e+P.cellsOf e=rows.length*P.cellsOf e:=by
       rw[←Nat.succ_mul];congr 1;omega
      omega
     ·obtain⟨x,hx,_⟩:=h4 i j hi (by rw[h3 _ (List.getElem_mem _)];exact hj)
      simp[c,hx]
     ·obtain⟨x,hx,hr⟩:=h4 i j hi hj
      simp only[c,hx,Option.getD_some]
      exact hr
  ·rename_i fs hu
   simp only[Bool.and_eq_true,Array.all_eq_true_iff_forall_mem,List.contains_iff_mem]at hk
   obtain⟨hmem,hrow⟩:=hk
   obtain⟨xs,n,hfu,hxe,hlen,hxl,hat⟩:=DataW.trod_struct hu h
   obtain rfl:fuel=n:=by omega
   have key: ∀(l:List Field) (pre:List Field) (off:Nat),fs.toList=pre++l→zx7 P off l (P.cellsOf t)=true→off≤cs.length→
     ∃vs,ShpF P (l.map (·.type)) vs∧All2 (RdP w (lims w)) vs (cs.drop off)∧SmD (.agg (xs.map (·.1))) vs:=by
    intro l
    induction l with
    |nil=>
     intro pre off _ hr _
     unfold zx7 at hr
     have:off=P.cellsOf t:=by simpa using hr
     refine⟨[],.nil, ?_,fun _ _ _ _ _ v hv=>by simp at hv⟩
     rw[List.drop_eq_nil_of_le (by omega)]
     trivial
    |cons f l ih=>
     intro pre off hfs hr hle
     unfold zx7 at hr
     simp only[Bool.and_eq_true,beq_iff_eq]at hr
     obtain⟨hoff,hr⟩:=hr
     have hf:fs[pre.length]? =some f:=by
      have:fs.toList[pre.length]? =some f:=by rw[hfs];simp
      simpa using this
     have hx:=hat pre.length f hf
     have hpl:pre.length<xs.length:=by
      rw[hxl];exact(Array.getElem?_eq_some_iff.1 hf).1
     rw[List.getElem?_eq_getElem hpl,hoff]at hx
     obtain⟨vs1,hs1,hr1,hm1⟩:=zI1 hT fuel f.type _ _ (hmem f (Array.mem_of_getElem? hf)) hx
     have hle2:off+P.cellsOf f.type≤cs.length:=by
      rw[hlen]
      clear ih hx hat hs1 hr1 hm1
      revert hr
      generalize off+P.cellsOf f.type=o2
      intro hr
      have: ∀(l:List Field) (o:Nat),zx7 P o l (P.cellsOf t)=true→o≤P.cellsOf t:=by
       intro l
       induction l with
       |nil=>intro o h;unfold zx7 at h;simp at h;omega
       |cons f l ih=>intro o h;unfold zx7 at h;simp at h;have:=ih _ h.2;omega
      exact this l o2 hr
     obtain⟨vs2,hs2,hr2,hm2⟩:=ih (pre++ [f]) (off+P.cellsOf f.type) (by rw[hfs];simp) hr hle2
     refine⟨vs1++vs2,.cons hs1 hs2, ?_,fun B BA hB M hM v hv=>by
      rcases List.mem_append.1 hv with hv|hv
      ·have q1:=hB.agg (xs.map (·.1))
       have q2:=hB.mem (xs[pre.length]'hpl).1 (xs.map (·.1)) (List.mem_map.2 ⟨_,List.getElem_mem _,rfl⟩)
       exact hm1 B BA hB M (by omega) v hv
      ·exact hm2 B BA hB M hM v hv⟩
     have e:cs.drop off=(cs.drop off).take (P.cellsOf f.type)++cs.drop (off+P.cellsOf f.type):=by
      rw[←List.drop_drop];exact(List.take_append_drop _ _).symm
     rw[e]
     exact hr1.append hr2
   obtain⟨vs,h1,h2,h3⟩:=key fs.toList [] 0 rfl hrow (Nat.zero_le _)
   exact⟨vs,.struct hu h1,by simpa using h2,by rw[hxe];exact h3⟩
  ·cases hk
def zG4 (P:Program) (t:TypeId) (vs:List V):V:=match P.underlying t with|some (.struct _)=> .agg vs|_=>vs.headD .u
inductive ShpA (P:Program):List TypeId→List V→Prop
 |nil:ShpA P [] []
 |cons {t:TypeId} {ts:List TypeId} {vs:List V} {xs:List V}:Shp P t vs→ShpA P ts xs→ShpA P (t::ts) (zG4 P t vs::xs)
theorem yz0 {W:World} {r:Reach} {b:Nat} {t:TypeId} {v:Value} {T:List TypeId} (hT:okT P T=true) (ht:t∈T) (h:Value.okWide P W r b t v):(∃fs cs,P.underlying t=some (.struct fs)∧v= .agg cs)∨((∀fs,P.underlying t≠some (.struct fs))∧v.oneCell'=true):=by
 have hk:=yH4 hT ht
 split at hk
 ·rename_i hu
  refine .inr ⟨fun fs q=>(by rw[hu]at q;cases q), ?_⟩
  cases v<;>simp[Value.okWide,hu,Cell.okWide,Cell.ok]at h<;>rfl
 ·rename_i k hu
  refine .inr ⟨fun fs q=>(by rw[hu]at q;cases q), ?_⟩
  cases v<;>simp[Value.okWide,hu,Cell.okWide,Cell.ok]at h<;>rfl
 ·rename_i hu
  refine .inr ⟨fun fs q=>(by rw[hu]at q;cases q), ?_⟩
  cases v<;>simp[Value.okWide,hu,Cell.okWide,Cell.ok]at h<;>rfl
 ·rename_i e hu
  refine .inr ⟨fun fs q=>(by rw[hu]at q;cases q), ?_⟩
  cases v<;>simp[Value.okWide,hu,Cell.okWide,Cell.ok]at h<;>rfl
 ·rename_i fs hu
  refine .inl ⟨fs, ?_⟩
  simp only[Value.okWide,hu]at h
  obtain⟨cs,rfl,_⟩:=h
  exact⟨cs,hu,rfl⟩
 ·cases hk
theorem zG5 {T:List TypeId} (hT:okT P T=true): ∀(ts:List TypeId) (vals:List Value) (ds:List (DataW H)) (ps:List MemPlace),(∀t∈ts,t∈T)→(∀(j:Nat) t v,ts[j]? =some t→vals[j]? =some v→Value.okWide P w .any base t v)→
  DataW.TrodAll enc P w 0 spare held ts vals ds ps→ ∃xs,ShpA P ts xs∧All2 (RdS w (lims w) [] []) xs vals∧ ∀(B:DataW H→Nat) (BA:List (DataW H)→Nat),BulkOk B BA→ ∀M,(∀d∈ds,B d≤M)→ ∀v∈xs,Sm M v
 | [],[],_,_,_,_,_=>⟨[],.nil,trivial,fun _ _ _ _ _ v hv=>by simp at hv⟩
 |t::ts,v::vals,ds,ps,hm,hok,h=>by
  obtain⟨v',vs',d,ds',p,q,hv,rfl,rfl,h1,h2⟩:=ChangeShapes.trodAll_cons h
  cases hv
  obtain⟨xs,hx1,hx2,hx3⟩:=zG5 hT ts vals ds' q (fun t ht=>hm t (by simp[ht])) (fun j t' v' h1 h2=>hok (j+1) t' v' (by simpa using h1) (by simpa using h2)) h2
  obtain⟨fuel,hf⟩:=h1
  obtain⟨vs,hs,hr,hsm⟩:=zI1 hT fuel t _ _ (hm t (by simp)) hf
  suffices hall:RdS w (lims w) [] [] (zG4 P t vs) v∧ ∀M,(∀v∈vs,Sm M v)→Sm M (zG4 P t vs) from
   ⟨zG4 P t vs::xs,.cons hs hx1,⟨hall.1,hx2⟩,fun B BA hB M hM v' hv'=>by
    rcases List.mem_cons.1 hv' with rfl|hv'
    ·exact hall.2 M fun v hv=>hsm B BA hB M (hM _ (by simp)) v hv
    ·exact hx3 B BA hB M (fun d hd=>hM d (by simp[hd])) v' hv'⟩
  rcases yz0 hT (hm t (by simp)) (hok 0 t v rfl rfl)with ⟨fs,cs,hu,rfl⟩|⟨hno,hone⟩
  ·unfold zG4
   rw[hu]
   exact⟨⟨cs.toList,by simp,hr.imp fun _ _ r=>RdC.of_pure r⟩,fun M hM=> .agg hM⟩
  ·rw[zv0 hone]at hr
   have:zG4 P t vs=vs.headD .u:=by
    unfold zG4
    split
    ·rename_i fs hu;exact absurd hu (hno fs)
    ·rfl
   rw[this]
   cases vs with
   |nil=>exact hr.elim
   |cons x vs=>exact⟨RdS.of_cell (RdC.of_pure hr.1),fun M hM=>hM _ (by simp)⟩
 | [],_::_,_,_,_,_,h=>by cases (ChangeShapes.trodAll_nil h).1
 |_::_,[],ds,_,_,_,h=>by cases ds<;>simp[DataW.TrodAll]at h
theorem zu9 {w':World} {sp':Nat→Bool} (hl:laidOutB P=true): ∀(ts:List TypeId) (vals:List Value) (ds:List (DataW H)) (ps:List MemPlace),(∀t∈ts,P.readableRec t=true∧t<P.types.size)→
  DataW.TrodAll enc P w 0 (fun _=>true) true ts vals ds ps→(∀x∈ps,w.sameAt w' x)→(∀x∈ps,sp' x.block=true)→DataW.TrodAll enc P w' 0 sp' true ts vals ds ps
 | [],_,_,_,_,h,_,_=>by
  obtain⟨rfl,rfl,rfl⟩:=ChangeShapes.trodAll_nil h
  rfl
 |t::ts,vals,ds,ps,hr,h,hs,hp=>by
  obtain⟨v,vs',d,ds',p,q,rfl,rfl,rfl,h1,h2⟩:=ChangeShapes.trodAll_cons h
  exact⟨p,q,WideElems.Trod_stays hl (hr t (by simp)).1 (hr t (by simp)).2 h1 (fun x hx=>hs x (by simp[hx])) (fun x hx=>hp x (by simp[hx])),
   zu9 hl ts vs' ds' q (fun t ht=>hr t (by simp[ht])) h2 (fun x hx=>hs x (by simp[hx])) (fun x hx=>hp x (by simp[hx])),rfl⟩
theorem yO0 (w:World) (ht:GlobOk w (lims w)):Mem (zn3 w (lims w) [] []) w (lims w) [] []:=
 ⟨rfl,fun i o x h=>by simp at h,fun i j o o' x x' b _ h=>by simp at h,fun i o x b h=>by simp at h,fun b hb hx=>⟨rfl,rfl⟩,Le.refl _ _,Nat.le_refl _,rfl,rfl,rfl,
  fun b hb=>by
   have hb:w.heap.size≤b:=hb
   unfold lims
   rw[Array.getElem?_eq_none hb],Ext.refl _ _,ht⟩
theorem yN2 {f:FuncId} {fn:Func} {s:ChangeSpec} {apart fresh handsOn again:Bool} (T ts:List TypeId) (tb:TypeId) (hps:fn.params=ts.toArray) (hrt:fn.resultTypes= #[tb]) (hb:P.underlying tb=some .bool) (hT:okT P T=true) (hts:ts.all (T.contains ·)=true)
  (hrd:ts.all (fun t=>P.readableRec t&&decide (t<P.types.size))=true) (hl:laidOutB P=true) (hvars:s.vars= [])
  (hspec: ∀(H:Type) (ds:List (DataW H)),ds.length=ts.length→s.fn H ds={results:= [.lit (.bool true)],args:=ds})
  (Lim:List V→Prop) (hw: ∀xs,ShpA P ts xs→Lim xs→VCalls P f xs [] fun r _=>r= .bool true) (H:Type) (enc:TypeId×Value→H) (W:World) (base:Nat) (args:Array Value) (ds gs:List (DataW H)) (before:List MemPlace)
  (hval: ∀(j:Nat) t v,fn.params[j]? =some t→args[j]? =some v→Value.okWide P W .any base t v)
  (hW:DataW.Whole enc P fn.params.toList s.vars apart W args.toList ds gs before) (hglob:GlobOk W (lims W))
  (hlim: ∀xs,(∀(B:DataW H→Nat) (BA:List (DataW H)→Nat),BulkOk B BA→ ∀M,(∀d∈ds++gs,B d≤M)→ ∀v∈xs,Sm M v)→Lim xs):
  Calls P f args W fun e W'=> ∃v,e= .returned v∧s.post enc P fn apart fresh handsOn again W args v W':=by
 have hW':=hW
 obtain⟨p,q,hA,hV,rfl,hfz,hnd⟩:=hW
 rw[hvars]at hV
 obtain⟨rfl,rfl⟩:=ChangeShapes.trodVars_none hV
 have hpl:fn.params.toList=ts:=by rw[hps]
 rw[hpl]at hA
 rw[List.all_eq_true]at hts hrd
 obtain⟨xs,hx,hr,hsm⟩:=zG5 (base:=base) hT ts args.toList ds p (fun t ht=>by simpa using hts t ht) (fun j t v h1 h2=>hval j t v (by rw[hps];simpa using h1) (by simpa using h2)) hA
 have hlen:ds.length=ts.length:=by
  have: ∀(ts:List TypeId) (vals:List Value) (ds:List (DataW H)) (p:List MemPlace),DataW.TrodAll enc P W 0 (fun _=>true) true ts vals ds p→ds.length=ts.length:=by
   intro ts
   induction ts with
   |nil=>intro vals ds p h;obtain⟨_,rfl,_⟩:=ChangeShapes.trodAll_nil h;rfl
   |cons t ts ih=>intro vals ds p h;obtain⟨_,_,_,ds',_,_,_,rfl,_,_,h2⟩:=ChangeShapes.trodAll_cons h;simp[ih _ _ _ h2]
  exact this ts _ _ _ hA
 have hcall:=hw xs hx (hlim xs fun B BA hB M hM=>hsm B BA hB M fun d hd=>hM d (by simp[hd])) W (lims W) [] args.toList (yO0 W hglob) hr
 have harr:args.toList.toArray=args:=by simp
 rw[harr]at hcall
 refine hcall.mono ?_
 rintro e W' ⟨v,r,L',σ',β',rfl,rfl,_,hm,hrd'⟩
 have hvb:v= .bool true:=zb2 hrd'
 subst hvb
 have hbel:RowKit.Below W.heap.size W W':=⟨hm.os,hm.tape,hm.output,hm.size,fun k hk=>(hm.same k hk (by simp[zn3,zk0])).1⟩
 have hlt:=hW'.lt
 simp only[List.append_nil]at hlt hW' hfz hnd
 have hsp:s.fn H ds={results:= [.lit (.bool true)],args:=ds}:=hspec H ds hlen
 refine⟨_,rfl,ds,[],p,[],p,[],hW', ?_, ?_, ?_, ?_,fun _=>⟨?_, ?_⟩⟩
 ·rw[List.append_nil,hsp,hrt]
  exact ChangeShapes.trodAll_mk1 (RowKit.shut_bool hb _)
 ·rw[List.append_nil,hsp,hpl]
  exact zu9 hl ts _ _ _ (fun t ht=>by simpa using hrd t ht) hA (fun x hx=>hbel.same (hlt x hx)) (fun x hx=>by simpa using hlt x hx)
 ·rw[List.append_nil,hsp,hvars]
  rfl
 ·exact hbel.frame _
 ·exact RowKit.ok_one hrt rfl (RowKit.okWide_bool_mk hb _)
 ·rw[hpl,hrt]
  refine⟨[.lit (.bool true)]++ds,[],p,⟨[]++p,[],ChangeShapes.trodAll_append (zu9 (sp':=fun _=>true) hl ts _ _ _ (fun t ht=>by simpa using hrd t ht) hA (fun x hx=>hbel.same (hlt x hx)) (fun x hx=>rfl)) ?_,by rw[hvars];rfl,by simp, ?_,hnd⟩,fun x hx _=>hx⟩
  ·exact ChangeShapes.trodAll_mk1 (RowKit.shut_bool hb _)
  ·intro b off hp
   rw[hbel.frozen (p:=⟨b,off,none⟩) (hlt _ hp)]
   exact hfz b off hp
theorem yX4 {f:FuncId} {fn:Func} {s:ChangeSpec} {apart fresh handsOn again:Bool} (T ts:List TypeId) (tb:TypeId) (hps:fn.params=ts.toArray) (hrt:fn.resultTypes= #[tb]) (hb:P.underlying tb=some .bool) (hT:okT P T=true) (hts:ts.all (T.contains ·)=true)
  (hrd:ts.all (fun t=>P.readableRec t&&decide (t<P.types.size))=true) (hl:laidOutB P=true) (hvars:s.vars= [])
  (hspec: ∀(H:Type) (ds:List (DataW H)),ds.length=ts.length→s.fn H ds={results:= [.lit (.bool true)],args:=ds})
  (hw: ∀xs,ShpA P ts xs→VCalls P f xs [] fun r _=>r= .bool true) (H:Type) (enc:TypeId×Value→H) (W:World) (base:Nat) (args:Array Value) (ds gs:List (DataW H)) (before:List MemPlace)
  (hval: ∀(j:Nat) t v,fn.params[j]? =some t→args[j]? =some v→Value.okWide P W .any base t v)
  (hW:DataW.Whole enc P fn.params.toList s.vars apart W args.toList ds gs before) (hglob:GlobOk W (lims W)):
  Calls P f args W fun e W'=> ∃v,e= .returned v∧s.post enc P fn apart fresh handsOn again W args v W':=
 yN2 T ts tb hps hrt hb hT hts hrd hl hvars hspec (fun _=>True) (fun xs h _=>hw xs h) H enc W base args ds gs before hval hW hglob fun _ _=>trivial
variable {t:TypeId} {vs:List V}
theorem ShpA.cons_inv {ts:List TypeId} {xs:List V} (h:ShpA P (t::ts) xs): ∃vs xs',xs=zG4 P t vs::xs'∧Shp P t vs∧ShpA P ts xs':=by
 cases h with
 |cons h1 h2=>exact⟨_,_,rfl,h1,h2⟩
theorem ShpA.nil_inv {xs:List V} (h:ShpA P [] xs):xs= []:=by cases h;rfl
theorem Shp.int_inv {k:IntKind} (hu:P.underlying t=some (.int k)) (h:Shp P t vs): ∃n,vs= [.int k n]∧(Lit.int k n).wf=true:=by
 cases h with
 |int h1 h2=>rw[hu]at h1;cases h1;exact⟨_,rfl,h2⟩
 |bool b h1=>rw[hu]at h1;cases h1
 |str h1 _=>rw[hu]at h1;cases h1
 |sl h1 _ _=>rw[hu]at h1;cases h1
 |struct h1 _=>rw[hu]at h1;cases h1
theorem Shp.bool_inv (hu:P.underlying t=some .bool) (h:Shp P t vs): ∃b,vs= [.bool b]:=by
 cases h with
 |int h1 h2=>rw[hu]at h1;cases h1
 |bool b h1=>exact⟨b,rfl⟩
 |str h1 _=>rw[hu]at h1;cases h1
 |sl h1 _ _=>rw[hu]at h1;cases h1
 |struct h1 _=>rw[hu]at h1;cases h1
theorem Shp.str_inv (hu:P.underlying t=some .string) (h:Shp P t vs): ∃s,vs= [.str s]∧s.length≤maxLen:=by
 cases h with
 |int h1 h2=>rw[hu]at h1;cases h1
 |bool b h1=>rw[hu]at h1;cases h1
 |str h1 h2=>exact⟨_,rfl,h2⟩
 |sl h1 _ _=>rw[hu]at h1;cases h1
 |struct h1 _=>rw[hu]at h1;cases h1
theorem Shp.sl_inv {e:TypeId} (hu:P.underlying t=some (.slice e)) (h:Shp P t vs): ∃rows,vs= [.sl .ro rows]∧rows.length≤maxLen∧ShpR P e rows:=by
 cases h with
 |int h1 h2=>rw[hu]at h1;cases h1
 |bool b h1=>rw[hu]at h1;cases h1
 |str h1 h2=>rw[hu]at h1;cases h1
 |sl h1 h2 h3=>rw[hu]at h1;cases h1;exact⟨_,rfl,h2,h3⟩
 |struct h1 _=>rw[hu]at h1;cases h1
theorem Shp.struct_inv {fs:Array Field} (hu:P.underlying t=some (.struct fs)) (h:Shp P t vs):ShpF P (fs.toList.map (·.type)) vs:=by
 cases h with
 |int h1 h2=>rw[hu]at h1;cases h1
 |bool b h1=>rw[hu]at h1;cases h1
 |str h1 h2=>rw[hu]at h1;cases h1
 |sl h1 h2 h3=>rw[hu]at h1;cases h1
 |struct h1 h2=>rw[hu]at h1;cases h1;exact h2
theorem ShpF.cons_inv {ts:List TypeId} (h:ShpF P (t::ts) vs): ∃a b,vs=a++b∧Shp P t a∧ShpF P ts b:=by
 cases h with
 |cons h1 h2=>exact⟨_,_,rfl,h1,h2⟩
theorem ShpF.nil_inv (h:ShpF P [] vs):vs= []:=by cases h;rfl
theorem ShpR.map_inv {α:Type} {f:α→List V} {ok:α→Prop} (h: ∀r,Shp P t r→ ∃x,r=f x∧ok x): ∀{rows:List (List V)},ShpR P t rows→ ∃xs:List α,rows=xs.map f∧ ∀x∈xs,ok x
 | [],_=>⟨[],rfl,fun _ q=>by simp at q⟩
 |r::rows,hr=>by
  cases hr with
  |cons h1 h2=>
   obtain⟨x,rfl,hx⟩:=h r h1
   obtain⟨xs,rfl,hxs⟩:=ShpR.map_inv h h2
   exact⟨x::xs,rfl,fun y hy=>by(rcases List.mem_cons.1 hy with rfl|hy<;>first|exact hx|exact hxs y hy)⟩
theorem yd8 {v:V} (h:(match P.underlying t with|some (.struct _)=>false|_=>true)=true):zG4 P t [v]=v:=by
 unfold zG4
 split
 ·rename_i hu;rw[hu]at h;cases h
 ·rfl
theorem zd3 {n:Int} (h:(Lit.int .i64 n).wf=true): -9223372036854775808≤n∧n≤9223372036854775807:=by
 simpa[Lit.wf,IntKind.min,IntKind.max,IntKind.signed,IntKind.bits]using h
end
end Go.Vx
namespace Go.Vx
open Go
theorem xi1 {j:Nat} (h:j≤9223372036854775807):IntKind.i64.wrap (j:Int)=j:=IntWalk.i64_in _ (by omega)
theorem i64_id {n:Int} (h: -9223372036854775808≤n) (h2:n≤9223372036854775807):IntKind.i64.wrap n=n:=IntWalk.i64_in _ (by omega)
theorem u64_id {n:Int} (h:0≤n) (h2:n≤18446744073709551615):IntKind.u64.wrap n=n:=by
 unfold IntKind.wrap
 simp[IntKind.bits,IntKind.signed]
 omega
@[go_sem] theorem i64_lit (n:Nat) (h:n≤9223372036854775807):IntKind.i64.wrap (no_index (OfNat.ofNat n))=OfNat.ofNat n:=by
 rw[show(OfNat.ofNat n:Int)=((n:Nat):Int) from rfl]
 exact xi1 h
@[go_sem] theorem i64_lit0:IntKind.i64.wrap 0=0:=by decide+kernel
@[go_sem] theorem i64_lit1:IntKind.i64.wrap 1=1:=by decide+kernel
@[go_sem] theorem evBin_shl {k k':IntKind} {x y:Int} {ek:Nat} {es:Option (List Pk)} (h:k≠k'):zk2 .shl ek es (.int k x) (.int k' y)= .need (0≤y) (.int k (k.wrap (x*2^(min y.toNat k.bits)))):=by simp[zk2,h]
@[go_sem] theorem evBin_shr {k k':IntKind} {x y:Int} {ek:Nat} {es:Option (List Pk)} (h:k≠k'):zk2 .shr ek es (.int k x) (.int k' y)= .need (0≤y) (.int k (x.fdiv (2^(min y.toNat k.bits)))):=by simp[zk2,h]
theorem zU {i n:Nat} (h:i<n) (hn:n≤9223372036854775807):IntKind.i64.wrap ((i:Int)+1)=((i+1:Nat):Int):=by
 rw[IntWalk.i64_in _ (by omega)];rfl
theorem zS7 {α:Type} {f:α→List V} {s:Nat} {l:List α} (h: ∀x,(f x).length=s):uni s (l.map f):=fun r hr=>by
 obtain⟨x,_,rfl⟩:=List.mem_map.1 hr
 exact h x
theorem xD {s:Nat} {r:List V} (h:r.length=s):uni s [r]:=fun x hx=>by simp at hx;subst hx;exact h
theorem zm3 (k:Nat) {n0:Nat} {R:V→St→Prop} {σ s:St} {v r:V} (hs:σ.take k=s) (hl:s.length=k) (hok:s.all (ltOb k)=true) (hn:n0≤k) (hr:argS (ren (List.range k) σ.length) r v) (hR:R r s):wret (some v) n0 R σ:=by
 subst hs;exact zO9 k hl hok hn hr hR
def i64R (n:Int):Prop:= -9223372036854775808≤n∧n≤9223372036854775807
instance (n:Int):Decidable (i64R n):=inferInstanceAs (Decidable (_∧_))
@[go_sem] def yS (n:Int):List V:= [.int .i64 n]
theorem zI9 {ρ:Nat→Nat} {vs' vs:List V} (h:All2 (argA ρ) vs' vs):argS ρ (.tup vs') (.tup vs):= .inr (.inr (.inr (.inr ⟨vs',vs,rfl,rfl,h⟩)))
theorem yg3 {ρ:Nat→Nat} {g:Tag} {rows:List (List V)}:argA ρ (.sl .ro rows) (.sl g rows):= .inr (.inl ⟨g,rows,rfl,rfl⟩)
theorem zI8 {ρ:Nat→Nat} {v:V} (h:noA v=true):argA ρ v v:= .inl (yj4 h).symm
theorem wD {ρ:Nat→Nat} {g:Tag} {rows:List (List V)}:argC ρ (.sl .ro rows) (.sl g rows):= .inr ⟨g,rows,rfl,rfl⟩
theorem zZ {ρ:Nat→Nat} {v:V} (h:noC v=true):argC ρ v v:= .inl (zK7 h).symm
theorem zn0 {ρ:Nat→Nat} {cs' cs:List V} (h:All2 (argC ρ) cs' cs):argS ρ (.agg cs') (.agg cs):= .inr (.inr (.inr (.inl ⟨cs',cs,rfl,rfl,h⟩)))
theorem yS6 {ρ:Nat→Nat} {cs' cs:List V} (h:All2 (argC ρ) cs' cs):argA ρ (.agg cs') (.agg cs):= .inr (.inr ⟨cs',cs,rfl,rfl,h⟩)
def yv2 (p:Prop) (r:V):Prop:= ∃b,r= .bool b∧(b=true→p)
theorem yW5 {p:Prop}:yv2 p (.bool false):=⟨false,rfl,fun h=>by cases h⟩
theorem xi2 {p:Prop} (h:p):yv2 p (.bool true):=⟨true,rfl,fun _=>h⟩
theorem yK0 {P:Program} {c:Ctx} {σ:St} {f:FuncId} {caps args args':List V} {KV:V→St→Prop} {R:V→Prop} (hc:VCalls P f args' [] fun r s=>R r∧s= []) (hb:zK P f=true) (hargs:All2 (argS (ren [] σ.length)) args' (args++caps))
  (hn: ∀r,R r→noS r=true) (hk: ∀r,R r→KV r σ):wVC P c (.fn f caps) args σ KV fx:=by
 refine VC.of hc hb [] List.nodup_nil rfl (fun i j o h=>by simp at h) hargs ?_
 rintro r σ' ⟨hR,rfl⟩ _
 rw[zu0 (hn r hR)]
 have:xV [] σ []=σ:=by simp[xV,mset]
 rw[this];exact hk r hR
theorem yq8 {k:Nat} {σ s:St} (hk:k≤σ.length) (hs:s.length=k) (hok:s.all (ltOb k)=true):xV (List.range k) σ s=s++σ.drop k:=by
 have e1:(s.take (List.range k).length).map (yF (ren (List.range k) σ.length))=s:=by
  rw[List.length_range,List.take_of_length_le (by omega)]
  exact wY (fun o h=>zg3 (n:=k) (fun i hi=>zc7 hi) h) hok
 have e2:(s.drop (List.range k).length).map (yF (ren (List.range k) σ.length))= []:=by
  rw[List.length_range,List.drop_of_length_le (by omega)];rfl
 unfold xV
 rw[e1,e2,List.append_nil]
 apply List.ext_getElem?
 intro i
 by_cases hi:i<k
 ·rw[zS3 (List.range k) σ s i i List.nodup_range (fun q hq=>by have:=List.mem_range.1 hq;omega) (by rw[List.length_range];omega) (by rw[List.getElem?_range hi]),List.getElem?_append_left (by omega)]
 ·rw[zd9 _ _ _ _ (fun h=>hi (List.mem_range.1 h)),List.getElem?_append_right (by omega),List.getElem?_drop,hs]
  congr 1;omega
theorem yk7 {P:Program} {c:Ctx} {σ:St} (k:Nat) {f:FuncId} {caps args args':List V} {σin:St} {KV:V→St→Prop} {R:V→St→Prop} (hc:VCalls P f args' σin R) (hb:zK P f=true) (hk:σ.take k=σin) (hl:σin.length=k) (hok:σin.all (ltOb k)=true)
  (hargs:All2 (argS (ren (List.range k) σ.length)) args' (args++caps)) (hR: ∀r s,R r s→s.length=k∧s.all (ltOb k)=true∧ltS k r=true) (hK: ∀r s,R r s→KV r (s++σ.drop k)):wVC P c (.fn f caps) args σ KV fx:=by
 have hkl:k≤σ.length:=by rw[←hl,←hk];simp;exact Nat.min_le_right _ _
 refine VC.of hc hb (List.range k) List.nodup_range (by simp[hl]) (fun i j o h1 h2=> ?_) hargs fun r s h _=> ?_
 ·obtain⟨h3,h4⟩:=List.getElem?_eq_some_iff.1 h1
  simp at h3 h4
  subst h4
  have ho:ltOb k o=true:=by
   rw[List.all_eq_true]at hok
   exact hok o (List.mem_iff_getElem?.2 ⟨i,h2⟩)
  rw[zg3 (n:=k) (fun i hi=>zc7 hi) ho]
  rw[←hk,List.getElem?_take,if_pos h3]at h2
  exact h2
 ·obtain⟨h1,h2,h3⟩:=hR r s h
  rw[yj5 (n:=k) (fun i hi=>zc7 hi) h3,yq8 hkl h1 h2]
  exact hK r s h
theorem zm1 {P:Program} {c:Ctx} {σ:St} (i:Nat) {o:Ob} {f:FuncId} {caps args args':List V} {KV:V→St→Prop} {R:V→St→Prop} (hc:VCalls P f args' [o] R) (hb:zK P f=true) (ho:σ[i]? =some o) (hok:ltOb 0 o=true)
  (hargs:All2 (argS (ren [i] σ.length)) args' (args++caps)) (hR: ∀r s,R r s→ ∃o2,s= [o2]∧ltOb 0 o2=true) (hK: ∀r o2,R r [o2]→KV (renS (ren [i] σ.length) r) (σ.set i o2)):wVC P c (.fn f caps) args σ KV fx:=by
 refine xm7 hc hb ho hok hargs fun r s h _=> ?_
 obtain⟨o2,rfl,h2⟩:=hR r s h
 have e:xV [i] σ [o2]=σ.set i o2:=by
  simp only[xV,List.length_singleton,List.take_succ_cons,List.take_zero,List.drop_succ_cons,List.drop_zero,List.map_cons,List.map_nil,mset,List.append_nil]
  rw[zg3 (n:=0) (fun _ h=>absurd h (Nat.not_lt_zero _)) h2]
 rw[e];exact hK r o2 h
theorem xk9 {i N:Nat}:ren [i] N 0=i:=rfl
attribute [go_sem] renS renA renC renK xk9
section
variable {ρ:Nat→Nat} (hρ: ∀i,ρ i=i)
include hρ
theorem xk7 (v:V):renK ρ v=v:=by
 cases v with
 |sl g rows=>cases g<;>simp[renK,hρ]
 |_=>simp[renK,hρ]
theorem yI4 (v:V):renC ρ v=v:=by
 have h:renK ρ=fun v=>v:=funext fun v=>xk7 hρ v
 cases v with
 |fn f caps=>simp only[renC,h,List.map_id']
 |_=>simp only[renC,h]
theorem yI3 (v:V):renA ρ v=v:=by
 have h:renC ρ=fun v=>v:=funext fun v=>yI4 hρ v
 cases v with
 |agg cs=>simp only[renA,h,List.map_id']
 |_=>simp only[renA,h]
theorem zy7 (v:V):renS ρ v=v:=by
 have h:renA ρ=fun v=>v:=funext fun v=>yI3 hρ v
 cases v with
 |tup vs=>simp only[renS,h,List.map_id']
 |_=>simp only[renS,h]
theorem zs2 (o:Ob):yF ρ o=o:=by
 have h:renC ρ=fun v=>v:=funext fun v=>yI4 hρ v
 cases o with
 |box cells=>simp only[yF,h,List.map_id']
 |lst rows s=>simp only[yF,h,List.map_id']
 |mp kvs borns clk=>
  have h:renA ρ=fun v=>v:=funext fun v=>yI3 hρ v
  simp only[yF,h,List.map_id']
 |it m since seen last=>cases m<;>simp[yF,hρ]
 |_=>rfl
end
theorem xd7 {P:Program} {c:Ctx} {f:FuncId} {caps args args':List V} {KV:V→St→Prop} {R:V→St→Prop} (hc:VCalls P f args' [] R) (hb:zK P f=true)
  (hargs:All2 (argS (ren [] 0)) args' (args++caps)) (hK: ∀r s,R r s→KV r s):wVC P c (.fn f caps) args [] KV fx:=by
 have hid: ∀i,ren [] 0 i=i:=fun i=>by simp[ren]
 refine VC.of hc hb [] List.nodup_nil rfl (fun i j o h=>by simp at h) hargs fun r s h _=> ?_
 have e:xV [] [] s=s:=by
  have h2:yF (ren [] 0)=fun o=>o:=funext fun o=>zs2 hid o
  simp[xV,mset,h2]
 show KV (renS (ren [] 0) r) (xV [] [] s)
 rw[e,zy7 hid]
 exact hK r s h
theorem xC {P:Program} {c:Ctx} {nt:Nat} {id:Nat} {ops:List Oper} {Q:QT} {e:Env} {σ:St} (q:List (Nat×Nat)) (n0:Nat) (hn:n0≤σ.length) (hm:P.follows .mixedOrders=true) (hd:(zx1 ops q&&zc2 ops)=true) (h:wtr P c nt (Kp.pre n0) ops q 0 ops (Q .normal) fx fx fx e σ):wVW P c nt (.region id ops.toArray true) Q fx fx e σ:=by
 simp only[Bool.and_eq_true]at hd
 obtain⟨tr,ht,hK⟩:=zq5 ops 0 (Q .normal) e σ h
 exact VW.draw (n0:=Kp.pre n0) hm hn hd.1 hd.2 ht hK
theorem wT {P:Program} {c:Ctx} {nt:Nat} {id:Nat} {ops:List Oper} {Q:QT} {e:Env} {σ:St} (q:List (Nat×Nat)) (x n0:Nat) (hn:n0≤σ.length) (hm:P.follows .mixedOrders=true) (hd:(zx1 ops q&&zc2 ops)=true) (h:wtr P c nt (Kp.mk x n0) ops q 0 ops (Q .normal) fx fx fx e σ):wVW P c nt (.region id ops.toArray true) Q fx fx e σ:=by
 simp only[Bool.and_eq_true]at hd
 obtain⟨tr,ht,hK⟩:=zq5 ops 0 (Q .normal) e σ h
 exact VW.draw (n0:=Kp.mk x n0) hm hn hd.1 hd.2 ht hK
theorem zu4 (t s:Nat) {P:Program} {c:Ctx} {nt:Nat} {e:Env} {σ:St} {Q:QT} {y:Code} (h0:0<s) (ht:e t= .sl .full []) (hy:wVW P c nt y Q fx fx (upd e t (.sl (.app σ.length) [])) (σ++ [.app 0 s])):wVW P c nt y Q fx fx e σ:=by
 intro a w L β hs
 have hr:=hs.env t
 rw[ht]at hr
 obtain⟨ad,hx⟩: ∃ad,a.tmps.getD t undef= .slice ad 0 0:=by
  have hr:RdP w L (.sl .full []) (a.tmps.getD t undef):=hr
  generalize a.tmps.getD t undef=x at hr
  cases hr with
  |sl0 g ad cap hg ha=>have:=hg rfl;subst this;exact⟨ad,rfl⟩
  |sl g rows s b o cap c ha hs hlen hlim hcap hg hc hr=>have:=hg rfl;subst this;exact⟨_,rfl⟩
 have hext:=Ext.push σ β hs.mem.len (.app 0 s) (.slice ad 0 0)
 refine hy a w L (β++ [.slice ad 0 0]) ⟨hs.mem.own h0,hs.size,hs.defs,fun k=> ?_⟩
 simp only[upd]
 split
 ·rename_i hk
  subst hk
  rw[hx]
  exact⟨.sl0 .ro ad 0 (fun h=>by cases h) (fun _ h=>by cases h),0,s,by simp,Nat.zero_le _,fun _=>by rw[←hs.mem.len];simp,fun r h=>by simp at h⟩
 ·exact(hs.env k).mono (Le.refl _ _) hext
theorem zZ3 (id off s:Nat) (cells:List V) {P:Program} {c:Ctx} {nt:Nat} {e:Env} {σ:St} {Q:QT} {y:Code} (h0:0<s) (hσ:σ[id]? =some (.box cells)) (hc:cells[off]? =some (.sl .full []))
  (hy:wVW P c nt y Q fx fx e (σ.set id (.box (cells.set off (.sl (.app σ.length) [])))++ [.app 0 s])):wVW P c nt y Q fx fx e σ:=by
 intro a w L β hs
 obtain⟨x,h1,h2⟩:=xg0 hs.mem h0 hσ hc
 exact hy a w L (β++ [x]) ⟨h1,hs.size,hs.defs,fun k=>(hs.env k).mono (Le.refl _ _) h2⟩
theorem xn1 (t s:Nat) {P:Program} {c:Ctx} {nt:Nat} {e:Env} {σ:St} {Q:QT} {y:Code} (h0:0<s) (ht:e t= .sl .full []) (hy:wVW P c nt y Q fx fx (upd e t (.lsv σ.length s 0 0 0)) (σ++ [.lst [] s])):wVW P c nt y Q fx fx e σ:=by
 intro a w L β hs
 have hr:=hs.env t
 rw[ht]at hr
 obtain⟨ad,hx⟩: ∃ad,a.tmps.getD t undef= .slice ad 0 0:=by
  have hr:RdP w L (.sl .full []) (a.tmps.getD t undef):=hr
  generalize a.tmps.getD t undef=x at hr
  cases hr with
  |sl0 g ad cap hg ha=>have:=hg rfl;subst this;exact⟨ad,rfl⟩
  |sl g rows s b o cap c ha hs hlen hlim hcap hg hc hr=>have:=hg rfl;subst this;exact⟨_,rfl⟩
 have hext:=Ext.push σ β hs.mem.len (.lst [] s) (.slice ad 0 0)
 refine hy a w L (β++ [.slice ad 0 0]) ⟨hs.mem.lstNil h0,hs.size,hs.defs,fun k=> ?_⟩
 simp only[upd]
 split
 ·rename_i hk
  subst hk
  rw[hx]
  exact zK2 (w':=w) (L':=L) (s:=s) (rows:= []) (cap:=0) (a0:=ad) hs.mem.len (Nat.le_refl _) (fun h=>absurd h (by omega))
 ·exact(hs.env k).mono (Le.refl _ _) hext
theorem yq9 {σ s:St} (h:σ.length≤s.length):xV (List.range σ.length) σ s=s:=by
 have ra: ∀i,ren (List.range σ.length) σ.length i=i:=fun i=>by
  by_cases h:i<σ.length
  ·exact zc7 h
  ·rw[zo5 (by simp;omega)];simp;omega
 have hid:yF (ren (List.range σ.length) σ.length)=fun o=>o:=funext fun o=>zs2 ra o
 apply List.ext_getElem?
 intro i
 by_cases hi:i<s.length
 ·have:=zl8 (sel:=List.range σ.length) (σc:=σ) (σ':=s) List.nodup_range (fun q hq=>List.mem_range.1 hq) (by simpa using h) (List.getElem?_eq_getElem hi)
  rw[ra,hid]at this
  rw[this,List.getElem?_eq_getElem hi]
 ·have hl:(xV (List.range σ.length) σ s).length=s.length:=by rw[zp7];simp;omega
  rw[List.getElem?_eq_none (by omega),List.getElem?_eq_none (by omega)]
theorem zw2 {P:Program} {c:Ctx} {σ:St} {f:FuncId} {caps args:List V} {KV:V→St→Prop} {R:V→St→Prop} (hc:VCalls P f (args++caps) σ R) (hb:zK P f=true)
  (hk: ∀r s,R r s→σ.length≤s.length→KV r s):wVC P c (.fn f caps) args σ KV fx:=by
 have ra: ∀i,ren (List.range σ.length) σ.length i=i:=fun i=>by
  by_cases h:i<σ.length
  ·exact zc7 h
  ·rw[zo5 (by simp;omega)];simp;omega
 refine VC.of hc hb (List.range σ.length) List.nodup_range (by simp) (fun i j o hi ho=> ?_) ?_ ?_
 ·obtain⟨h3,h4⟩:=List.getElem?_eq_some_iff.1 hi
  simp at h3 h4
  subst h4
  rw[zs2 ra];exact ho
 ·have: ∀l:List V,All2 (argS (ren (List.range σ.length) σ.length)) l l:=by
   intro l
   induction l with
   |nil=>trivial
   |cons a l ih=>exact⟨.inl (zy7 ra a).symm,ih⟩
  exact this _
 ·intro r s hr hl
  rw[zy7 ra,yq9 (by simpa using hl)]
  exact hk r s hr (by simpa using hl)
theorem yu6 {n0:Nat} {R:V→St→Prop} {σ:St} {r:V} (hn:n0≤σ.length) (hR:R r σ):wret (some r) n0 R σ:=by
 have ra: ∀i,ren (List.range σ.length) σ.length i=i:=fun i=>by
  by_cases h:i<σ.length
  ·exact zc7 h
  ·rw[zo5 (by simp;omega)];simp;omega
 refine⟨r,rfl,r,σ,List.range σ.length,σ,r,.refl _ _,⟨by simp,List.nodup_range,fun i j o hi ho=> ?_,fun i hi=>by rw[List.getElem?_range (by omega)]⟩,.inl (zy7 ra r).symm,hR⟩
 obtain⟨h1,h2⟩:=List.getElem?_eq_some_iff.1 hi
 simp at h1 h2
 subst h2
 rw[zs2 ra]
 exact ho
end Go.Vx
