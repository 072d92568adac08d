/-
  The code of a function at the level of trees: operations one behind the other, branches, blocks, loops, the call itself.
  No condition: a library text; nothing of the program is named.
-/
import Derived.Test.YtefbicjgbaaieaaGreatJAB
import Derived.Maps.RangeRun
set_option maxHeartbeats 8000000
namespace Go.Vx
open Go
theorem Ext.setOther {σ:St} {β:List Value} {i:Nat} {o0:Ob} (hi:σ[i]? =some o0) (h1: ∀n s,o0≠ .app n s) (h2: ∀r s,o0≠ .lst r s) (h3:o0≠ .dead) (o:Ob):Ext σ β (σ.set i o) β:=by
 refine⟨sM,(by grind),(by grind),(by grind)⟩
 all_goals grind
section
variable {c:Ctx} {w:World} {L:Nat->Nat} {σ:St} {β:List Value}
theorem Mem.newOb (h:Mem c w L σ β) (ob:Go.Obj) (o:Ob)
  (ho:Le w L (w.alloc ob) L->Ext σ β (σ++ [o]) (β++ [.pointer (some ⟨w.heap.size,0,none⟩)])->ObOk (w.alloc ob) L (σ++ [o]) (β++ [.pointer (some ⟨w.heap.size,0,none⟩)]) o (.pointer (some ⟨w.heap.size,0,none⟩)))
  (hex: ∀b,excl o (.pointer (some ⟨w.heap.size,0,none⟩))=some b->b=w.heap.size):
  Mem c (w.alloc ob) L (σ++ [o]) (β++ [.pointer (some ⟨w.heap.size,0,none⟩)])/\Le w L (w.alloc ob) L:=by
 have h1:=h.alloc ob 0
 rw[zF1 h]at h1
 refine⟨h1.1.push _ _ (ho h1.2 (Ext.push σ β h.len _ _)) ?_ ?_,h1.2⟩
 .intro i o' x' b hi hx hb e
  have h2:=(h.objs i o' x' hi hx).excl_lt hb
  grind
 .intro b hb
  rw[hex b hb]
  exact .inl h.size
theorem Mem.setOb (h:Mem c w L σ β) {i b:Nat} {o0 o:Ob} (hi:σ[i]? =some o0) (hβ:β[i]? =some (.pointer (some ⟨b,0,none⟩))) (aa:excl o0 (.pointer (some ⟨b,0,none⟩))=some b) (h0:L b=0)
  (ob:Go.Obj) (ae:Ext σ β (σ.set i o) β) (hex: ∀k,excl o (.pointer (some ⟨b,0,none⟩))=some k->k=b)
  (hok:Le w L (yM w b ob) L->ObOk (yM w b ob) L (σ.set i o) β o (.pointer (some ⟨b,0,none⟩))):
  Mem c (yM w b ob) L (σ.set i o) β/\Le w L (yM w b ob) L:=by
 have hle:Le w L (yM w b ob) L:=by
  refine⟨om,fun k o ho=>zd7 (zd4 w b k _ fun q=> ?_) o⟩
  grind
 refine⟨?_,hle⟩
 have af:=yI β i _ hβ
 have key:=h.upd (w':=yM w b ob) (L':=L) i o (.pointer (some ⟨b,0,none⟩)) hle (by grind) (fun k=>k=b)
  (fun j o' x' k hj ab ad hk e=>by subst e;exact h.apart j i o' _ x' _ k hj ab ad hi hβ hk aa)
  (fun k e=>by subst e;exact h.mine i _ _ k hi hβ aa)
  (fun k hk=>⟨zd4 w b k _ hk,rfl⟩) (by simp[yM]) rfl rfl rfl h.lim (by grind) om
 grind
end
theorem All2.mem_r {α β:Type} {R:α->β->Prop}: ∀{l:List α} {m:List β} {b:β},All2 R l m->b∈m-> ∃a∈l,R a b
 |a::l,b'::m,b,h,hb=>by
  rcases Af.1 hb with rfl|hb
  .exact⟨a,sM,h.1⟩
  .obtain⟨a',ha,r⟩:=All2.mem_r h.2 hb
   grind
 | [],[],_,_,hb=>by grind
 | [],_::_,_,h,_=>h.elim
 |_::_,[],_,h,_=>h.elim
section
variable {P:Program} {c:Ctx} {nt:Nat} {e:Env} {σ:St} {a:Act} {w:World} {L:Nat->Nat} {β:List Value} {o:Oper}
variable {x:Value}{dst:Option Tmp}{ty:TypeId}{aft:Array Edge}{g:Option (Nat×Bool)}{p:V}{kt:TypeId}{t:TypeId}{y:Value}{k:Pk}{kvs:List V}
theorem yu6 {v:V} (r:RdS w L σ β v x) (h:za6 v=true):RdA w L σ β v x:=by
 cases v<;>first|exact r|simp[za6]at h
def keyD:TypeDesc->Option Pk
 | .bool=>some .b
 | .int k=>some (.i k)
 | .string=>some .s
 |_=>none
inductive Kk where
 |one (k:Pk)
 |st (ks:List Pk)
def ys5 (P:Program):Nat->List Field->Option (List Pk)
 |_,[]=>some []
 |i,f::fs=>if f.name≠ "_" /\f.offset=i/\aggT P f.type=some false then((P.underlying f.type).bind keyD).bind fun k=>(ys5 P (i+1) fs).map (k:: ·)else none
def kkT (P:Program) (kt:TypeId):Option Kk:=
 match P.underlying kt with
 |some (.struct fs)=>(ys5 P 0 fs.toList).bind fun ks=>if zt7 P 10 kt=some ks then some (.st ks)else none
 |some d=>(keyD d).map .one
 |none=>none
def zvT (P:Program) (t:TypeId):Option V:=
 match (P.info? t).bind (·.zero)with
 |some (.agg cs)=>if cs.all (·.oneCell')=true then some (.agg (cs.toList.map zc5))else none
 |some v=>if v.oneCell'=true then some (zc5 v)else none
 |none=>none
def mapT (P:Program) (t:TypeId):Option (Kk×V):=
 match P.underlying t with
 |some (.map kt et)=>(kkT P kt).bind fun k=>(zvT P et).map fun z=>(k,z)
 |_=>none
theorem xI8 {z:V} (h:zvT P t=some z): ∃i zv,P.info? t=some i/\i.zero=some zv/\za6 z=true/\ ∀(w:World) L σ β,RdA w L σ β z zv:=by
 unfold zvT at h
 cases hi:P.info? t with
 |none=>grind
 |some i=>
  cases hz:i.zero with
  |none=>grind
  |some zv=>
   simp only[hi,hz,Ar]at h
   refine⟨i,zv,rfl,hz, ?_⟩
   split at h
   .rename_i cs aa
    cases aa
    split at h
    .rename_i ha
     simp only[Option.some.injEq]at h
     subst h
     refine⟨rfl,fun w L σ β=>⟨cs.toList,sM,(zY1 fun v hv=> ?_).imp fun _ _=>RdC.of_pure⟩⟩
     exact Ce.1 ha v (by grind)
    grind
   .rename_i v ab hv
    cases hv
    split at h
    .rename_i h1
     simp only[Option.some.injEq]at h
     subst h
     have hc:zI4 (zc5 zv)=true:=(zw4 (w:=default) (L:=fun _=>0) zv h1).2
     refine⟨?_,(by grind[RdA.of_cell,RdC.of_pure,zw4])⟩
     revert hc
     generalize zc5 zv=q0
     cases q0<;>simp[zI4,za6]
    grind
   grind
theorem zB9 {k:Kk} {z:V} (h:mapT P t=some (k,z)): ∃kt et i zv,P.underlying t=some (.map kt et)/\kkT P kt=some k/\P.info? et=some i/\i.zero=some zv/\za6 z=true/\ ∀(w:World) L σ β,RdA w L σ β z zv:=by
 unfold mapT at h
 split at h
 .rename_i kt et hu
  cases hk:kkT P kt with
  |none=>grind
  |some k'=>
   cases hz:zvT P et with
   |none=>grind
   |some z'=>
    simp only[hk,hz,Ar,Bg,Option.some.injEq,Prod.mk.injEq]at h
    obtain⟨rfl,rfl⟩:=h
    grind[xI8]
 grind
def ze5:Pk->V->Bool
 | .b,.bool _=>true
 | .i k,.int k' _=>decide (k'=k)
 | .s,.str _=>true
 |_,_=>false
def zd8:List Pk->List V->Bool
 | [],[]=>true
 |k::ks,v::vs=>ze5 k v&&zd8 ks vs
 |_,_=>false
def zo9:Kk->V->Bool
 | .one k,v=>ze5 k v
 | .st ks,.agg vs=>zd8 ks vs
 |_,_=>false
theorem zr5 {d:TypeDesc} {v:V} (hk:keyD d=some k) (h:ze5 k v=true) (r:RdS w L σ β v x):MapKept.IsKey d x:=by
 cases k<;>cases v<;>simp[ze5]at h
 .rw[zd3 r];cases d<;>simp[keyD]at hk<;>trivial
 .rw[yK r];cases d<;>simp[keyD]at hk;subst hk;exact h
 .rw[za3 r];cases d<;>simp[keyD]at hk<;>trivial
theorem ys6 (em:Bool) (xs:List Value) (w:World): ∀(fs:List Field) (i:Nat) (ks:List Pk) (vs:List V),ys5 P i fs=some ks->zd8 ks vs=true->All2 (RdC w L σ β) vs (xs.drop i)->
  ∀f∈fs,f.name≠ "_" /\ ∃x,(part f.type xs.toArray f.offset).run P w= .ok x w/\(Instr.checkKey em 9999 f.type x).run P w= .ok () w
 | [],_,_,_,_,_,_,_,hf=>by cases hf
 |f::fs,i,ks,vs,h,hko,ha,f',hf'=>by
  unfold ys5 at h
  split at h
  .rename_i hc
   obtain⟨h1,h2,h3⟩:=hc
   cases hu:P.underlying f.type with
   |none=>grind
   |some d=>
    cases hk:keyD d with
    |none=>grind
    |some k=>
     simp only[hu,hk,Ar,Ao]at h
     obtain⟨ks',h4,rfl⟩:=h
     cases vs with
     |nil=>trivial
     |cons v vs=>
      simp only[zd8,A1]at hko
      have hlen:=ha.length
      have hlt:i<xs.length:=by grind
      rw[A5 hlt]at ha
      rcases Af.1 hf' with rfl|hf'
      .have hp:(part f'.type xs.toArray f'.offset).run P w= .ok xs[i] w:=by
        simp_all[part,zl1]
       exact⟨h1,_,hp,MapKept.run_checkKey (P:=P) (w:=w) hu (zr5 hk hko.1 (RdS.of_cell ha.1)) em 9998⟩
      .exact ys6 em xs w fs (i+1) ks' vs h4 hko.2 ha.2 f' hf'
  grind
theorem zB4 {kk:Kk} (hk:kkT P kt=some kk) (aa:zo9 kk p=true) (hx:RdS w L σ β p x) (em:Bool):(Instr.checkKey em 10000 kt x).run P w= .ok () w:=by
 unfold kkT at hk
 split at hk
 .rename_i fs hu
  cases hf:ys5 P 0 fs.toList with
  |none=>grind
  |some ks=>
   simp only[hf,Ar]at hk
   split at hk
   .simp only[Option.some.injEq]at hk
    subst hk
    cases p<;>simp[zo9]at aa
    obtain⟨xs,rfl,ha⟩:=hx
    have each:=ys6 (P:=P) em xs w fs.toList 0 ks _ hf aa ha
    rw[show(10000:Nat)=9999+1 from rfl,Instr.checkKey]
    simp only[Sem.run_bind,run_underlying hu,Result.andThen_ok]
    rw[<-Array.forIn_toList]
    clear hf hu
    generalize fs.toList=M at each
    induction M with
    |nil=>simp
    |cons f M ih=>
     obtain⟨hn,x,p1,p2⟩:=each f sM
     simp_all
   grind
 .rename_i d ab hu
  cases hd:keyD d with
  |none=>grind
  |some k=>
   simp only[hd,Bg,Option.some.injEq]at hk
   subst hk
   exact MapKept.run_checkKey hu (zr5 hd aa hx) em 9999
 grind
def eqKk:Kk->V->V->Option Bool
 | .one k,x,y=>eqPk k x y
 | .st ks,.agg x,.agg y=>eqVs ks x y
 |_,_,_=>none
def zj8 (k:Kk) (x:V):List V->Nat->Option (Option (Nat×V))
 |kk::vv::rest,i=>(match eqKk k x kk with
  |some true=>some (some (i,vv))
  |some false=>zj8 k x rest (i+1)
  |none=>none)
 | [],_=>some none
 | [_],_=>none
theorem yH6 {d:TypeDesc} {v:V} {r:Bool} (hk:keyD d=some k) (hx:RdS w L σ β p x) (hy:RdS w L σ β v y) (h:eqPk k p v=some r):Instr.sameNow d x y=some r:=by
 cases k
 .cases p<;>cases v<;>simp[eqPk]at h
  subst h
  rw[zd3 hx,zd3 hy]
  cases d<;>simp[keyD]at hk
  rfl
 .cases p<;>cases v<;>simp[eqPk]at h
  obtain⟨⟨rfl,rfl⟩,rfl⟩:=h
  rw[yK hx,yK hy]
  cases d<;>simp[keyD]at hk
  simp[Instr.sameNow]
 .cases p<;>cases v<;>simp[eqPk]at h
  subst h
  rename_i s1 s2
  rw[za3 hx,za3 hy]
  cases d<;>simp[keyD]at hk
  simp only[Instr.sameNow,Option.some.injEq]
  have e1:((⟨s1.toArray⟩:ByteArray)==⟨s2.toArray⟩)=(s1.toArray==s2.toArray):=rfl
  grind
theorem yi5 {k:Kk} {p:V} (M:List MapEntry->Nat->Option (Nat×Value)->Prop) (h0: ∀i,M [] i none)
  (hT: ∀v (e:MapEntry) es i,RdA w L σ β v e.key->eqKk k p v=some true->M (e::es) i (some (i,e.val)))
  (hF: ∀v (e:MapEntry) es i r,RdA w L σ β v e.key->eqKk k p v=some false->M es (i+1) r->M (e::es) i r):
  ∀(kvs:List V) (es:List MapEntry) (i:Nat) (q:Option (Nat×V)),All2 (RdA w L σ β) kvs (es.flatMap fun e=> [e.key,e.val])->zj8 k p kvs i=some q->
  (q=none/\M es i none)∨ ∃(j:Nat) (v:V) (e:MapEntry),q=some (i+j,v)/\M es i (some (i+j,e.val))/\es[j]? =some e/\kvs[2*j+1]? =some v/\RdA w L σ β v e.val/\(∃kk,kvs[2*j]? =some kk/\eqKk k p kk=some true)
 | [],[],i,q,_,h=>by grind[zj8]
 | [],e::es,_,_,ha,_=>by trivial
 | [_],[],_,_,ha,_=>by trivial
 | [_],e::es,_,_,_,h=>by trivial
 |_::_::_,[],_,_,ha,_=>by trivial
 |kk::vv::kvs,e::es,i,q,ha,h=>by
  simp only[C8,Ax,Bi,All2]at ha
  obtain⟨h1,h2,h3⟩:=ha
  rw[zj8]at h
  split at h
  .rename_i he
   simp only[Option.some.injEq]at h
   exact .inr ⟨0,vv,e,h.symm,(by grind),rfl,rfl,h2,kk,rfl,he⟩
  .rename_i he
   rcases yi5 M h0 hT hF kvs es (i+1) q h3 h with ⟨e1,e2⟩|⟨j,v,e',e1,e2,e3,e4,e5,aa,e6,e7⟩
   .grind
   .rw[show i+1+j=i+(j+1) by omega]at e1 e2
    refine .inr ⟨j+1,v,e',e1,(by grind),by grind, ?_,e5,aa, ?_,e7⟩
    all_goals grind
  grind
theorem zJ2 {fs:Array Field} {es:List MapEntry} {r:Option (Nat×Value)} (hu:P.underlying kt=some (.struct fs)) (h:(Instr.findAsking kt x es 0).run P w= .ok r w):(Instr.findKey kt x es).run P w= .ok r w:=by
 cases es<;>simp_all[Instr.findAsking,Instr.findKey,run_underlying,Instr.findNow,Instr.sameNow]
theorem zr3 {kk:Kk} (hk:kkT P kt=some kk) (ab:zo9 kk p=true) (hx:RdS w L σ β p x) {es:List MapEntry} {q:Option (Nat×V)} (ha:All2 (RdA w L σ β) kvs (es.flatMap fun e=> [e.key,e.val])) (hf:zj8 kk p kvs 0=some q):
  (q=none/\(Instr.findKey kt x es).run P w= .ok none w)∨ ∃(j:Nat) (v:V) (e:MapEntry),q=some (j,v)/\(Instr.findKey kt x es).run P w= .ok (some (j,e.val)) w/\es[j]? =some e/\kvs[2*j+1]? =some v/\RdA w L σ β v e.val/\(∃k',kvs[2*j]? =some k'/\eqKk kk p k'=some true):=by
 unfold kkT at hk
 split at hk
 .rename_i fs hu
  cases ad:ys5 P 0 fs.toList with
  |none=>grind
  |some ks=>
   simp only[ad,Ar]at hk
   split at hk
   .rename_i ae
    simp only[Option.some.injEq]at hk
    subst hk
    cases p<;>simp[zo9]at ab
    rename_i vs
    obtain⟨xs,rfl,af⟩:=hx
    have ah: ∀(us:List V) (ys:List Value),All2 (RdC w L σ β) us ys-> ∀z∈ys,z.oneCell'=true:=fun us ys h z hz=>by
     obtain⟨i,hi,rfl⟩:=List.mem_iff_getElem.1 hz
     obtain⟨a,_,r⟩:=All2.mem_r h om
     exact r.oneCell
    have aa: ∀ys:Array Value,zv5 P kt (.agg ys):=fun ys=>by
     unfold zv5
     rw[if_pos (by unfold aggT;rw[hu];rfl)]
     simp
    have heq: ∀(v:V) (y:Value) (r:Bool),RdA w L σ β v y->eqKk (.st ks) (.agg vs) v=some r->(Op.equal kt (.agg xs.toArray) y).run P w= .ok r w:=by
     intro v y r hr he
     cases v<;>simp[eqKk]at he
     rename_i us
     obtain⟨ys,rfl,ag⟩:=hr
     have ai:=zV3 ks vs us xs ys r af ag he
     exact zJ0 10 kt ks ae 10000 om _ _ r (aa _) (aa _) (by grind[Value.cells]) (by grind[Value.cells]) (by simpa) w
    rcases yi5 (w:=w) (L:=L) (σ:=σ) (β:=β) (k:= .st ks) (p:= .agg vs) (fun es i r=>(Instr.findAsking kt (.agg xs.toArray) es i).run P w= .ok r w) (by simp[Instr.findAsking])
     (fun v e es i h1 h2=>by simp[Instr.findAsking,heq v _ _ h1 h2]) (fun v e es i r h1 h2 h3=>by simp[Instr.findAsking,heq v _ _ h1 h2,h3]) kvs es 0 q ha hf with ⟨e1,e2⟩|⟨j,v,e',e1,e2,e3⟩
    .grind[zJ2]
    .rw[Ae]at e1 e2
     grind[zJ2]
   grind
 .rename_i d aj hu
  cases hd:keyD d with
  |none=>grind
  |some k=>
   simp only[hd,Bg,Option.some.injEq]at hk
   subst hk
   rcases yi5 (w:=w) (L:=L) (σ:=σ) (β:=β) (k:= .one k) (p:=p) (fun es i r=>Instr.findNow d x es i=some r) (fun i=>rfl)
    (fun v e es i h1 h2=>by simp[Instr.findNow,yH6 hd hx (RdS.of_a h1) h2]) (fun v e es i r h1 h2 h3=>by simp[Instr.findNow,yH6 hd hx (RdS.of_a h1) h2,h3]) kvs es 0 q ha hf with ⟨e1,e2⟩|⟨j,v,e',e1,e2,e3⟩
   .grind[MapKept.run_findKey]
   .rw[Ae]at e1 e2
    grind[MapKept.run_findKey]
 grind
theorem yr9 {v:V} (hx:RdS w L σ β p x) (hy:RdS w L σ β v y) (h:eqPk k p v=some true):x=y:=by
 cases k<;>cases p<;>cases v<;>simp[eqPk]at h
 .rw[zd3 hx,zd3 hy,h]
 .obtain⟨⟨rfl,rfl⟩,rfl⟩:=h
  rw[yK hx,yK hy]
 .rw[za3 hx,za3 hy,h]
theorem ys0: ∀(ks:List Pk) (us vs:List V) (xs ys:List Value),All2 (RdC w L σ β) us xs->All2 (RdC w L σ β) vs ys->eqVs ks us vs=some true->xs=ys
 | [],[],[],[],[],_,_,_=>rfl
 |k::ks,u'::us,v::vs,x::xs,y::ys,h1,h2,h=>by
  unfold eqVs at h
  cases hk:eqPk k u' v with
  |none=>grind
  |some r0=>
   simp only[hk,Ar,Ao]at h
   obtain⟨r',h3,h4⟩:=h
   simp only[A1]at h4
   obtain⟨rfl,rfl⟩:=h4
   rw[yr9 (RdS.of_cell h1.1) (RdS.of_cell h2.1) hk,ys0 ks us vs xs ys h1.2 h2.2 h3]
 | [],[],[],[],_::_,_,h2,_=>h2.elim
 | [],[],[],_::_,_,h1,_,_=>h1.elim
 | [],[],_::_,_,_,_,_,h=>by cases h
 | [],_::_,_,_,_,_,_,h=>by cases h
 |_::_,[],_,_,_,_,_,h=>by cases h
 |_::_,_::_,[],_,_,_,_,h=>by cases h
 |_::_,_::_,_::_,[],_,h1,_,_=>h1.elim
 |_::_,_::_,_::_,_::_,[],_,h2,_=>h2.elim
theorem yr8 {k:Kk} {v:V} (hx:RdS w L σ β p x) (hy:RdS w L σ β v y) (h:eqKk k p v=some true):x=y:=by
 cases k with
 |one k=>exact yr9 hx hy h
 |st ks=>
  cases p<;>cases v<;>simp[eqKk]at h
  obtain⟨xs,rfl,h1⟩:=hx
  obtain⟨ys,rfl,h2⟩:=hy
  grind[ys0]
theorem xl8 {ks:List Pk}: ∀{vs:List V} {xs:List Value},zd8 ks vs=true->All2 (RdC w L σ β) vs xs-> ∀z∈xs,∃d,MapKept.IsKey d z:=by
 induction ks with
 |nil=>
  intro vs xs h ha
  cases vs with
  |nil=>cases xs with
   |nil=>simp
   |cons _ _=>trivial
  |cons _ _=>trivial
 |cons k ks ih=>
  intro vs xs h ha z hz
  cases vs with
  |nil=>trivial
  |cons v vs=>
   cases xs with
   |nil=>grind
   |cons x xs=>
    simp only[zd8,A1]at h
    rcases Af.1 hz with rfl|hz
    .have hr:=RdS.of_cell (σ:=σ) (β:=β) ha.1
     cases k
     .exact⟨.bool,zr5 rfl h.1 hr⟩
     .exact⟨.int _,zr5 rfl h.1 hr⟩
     .exact⟨.string,zr5 rfl h.1 hr⟩
    .exact ih h.2 ha.2 z hz
theorem yt6 {kk:Kk} (aa:zo9 kk p=true) (hx:RdS w L σ β p x):(Instr.keyThatStays x x).run P w= .ok x w:=by
 cases kk with
 |one k=>
  cases k
  .exact MapKept.run_keyThatStays (zr5 (d:= .bool) rfl aa hx)
  .exact MapKept.run_keyThatStays (zr5 (d:= .int _) rfl aa hx)
  .exact MapKept.run_keyThatStays (zr5 (d:= .string) rfl aa hx)
 |st ks=>
  cases p<;>simp[zo9]at aa
  obtain⟨xs,rfl,ha⟩:=hx
  have hs:Instr.sameBits 10000 (.agg xs.toArray) (.agg xs.toArray)=true:=by
   show Instr.sameBits (9999+1) (.agg xs.toArray) (.agg xs.toArray)=true
   simp only[Instr.sameBits,beq_self_eq_true,Au,Aj]
   rintro⟨a,b⟩ hp
   obtain⟨i,hi,e⟩:=List.mem_iff_getElem.1 hp
   simp only[List.getElem_zip,Prod.mk.injEq]at e
   obtain⟨rfl,rfl⟩:=e
   grind[xl8,Ab,MapKept.sameBits_self]
  simp_all[Instr.keyThatStays]
def zm7 (σ:St) (m:Bool) (r:Option V):R:=
 match m,r with
 |_,none=> .st (.mp σ.length) (σ++ [.mp [] [] 0])
 |true,some (.int _ _)=> .st (.mp σ.length) (σ++ [.mp [] [] 0])
 |_,_=> .fail
def zi3 (P:Program) (t:TypeId):Bool:=match P.underlying t with|some (.map _ _)=>true|_=>false
theorem xN8 (h:Mem c w L σ β):Mem c (w.alloc (.map #[] 0)) L (σ++ [.mp [] [] 0]) (β++ [.pointer (some ⟨w.heap.size,0,none⟩)])/\Le w L (w.alloc (.map #[] 0)) L:=
 h.newOb _ _ (fun hle _=>⟨w.heap.size, #[],rfl,yJ _ _,by have:=h.lim _ (A4 _);omega,by trivial,rfl⟩) (by grind[excl])
theorem yV9 {pos:String} (t:TypeId) (r:Option Operand) (h:Sim c nt e σ a w L β):
  ROk (zm7 σ (zi3 P t) (r.map (zD e))) σ (Yield P c ⟨dst,.makeMap t r,ty,pos,aft,g⟩ a w L σ β):=by
 have aa:=xN8 h.mem
 have ab:RdS (w.alloc (.map #[] 0)) L (σ++ [.mp [] [] 0]) (β++ [.pointer (some ⟨w.heap.size,0,none⟩)]) (.mp σ.length) (.map (some w.heap.size)):=⟨w.heap.size,by rw[<-h.mem.len];simp,rfl⟩
 cases r with
 |none=>exact⟨_,_,L,_,(by simp[execOp,Instr.makeMap]),aa.1,aa.2,Ext.push σ β h.mem.len _ _,ab⟩
 |some p=>
  have hp:=h.eval p
  simp only[Bg]
  unfold zm7
  split
  .grind
  .rename_i k n hm hq
   simp only[Option.some.injEq]at hq
   rw[hq]at hp
   have hp:=yK hp
   unfold zi3 at hm
   split at hm
   .rename_i kt et hu
    exact⟨_,_,L,_,(by simp_all[execOp,Instr.makeMap,run_underlying,asInt,asIntOf]),aa.1,aa.2,Ext.push σ β h.mem.len _ _,ab⟩
   grind
  trivial
def xV (m:Option (Kk×V)) (σ:St) (x k:V) (ok:Bool):R:=
 match m with
 |some (kd,z)=>if zo9 kd k=true then(match x with
  | .mp id=>(match σ[id]? with
   |some (.mp kvs _ _)=>(match zj8 kd k kvs 0 with
    |some (some (_,v))=> .ok (if ok then .tup [v,.bool true]else v)
    |some none=> .ok (if ok then .tup [z,.bool false]else z)
    |none=> .fail)
   |_=> .fail)
  | .raw (.map none)=> .ok (if ok then .tup [z,.bool false]else z)
  |_=> .fail)else .fail
 |none=> .fail
theorem zP2 {id:Nat} (r:RdS w L σ β (.mp id) x): ∃b,β[id]? =some (.pointer (some ⟨b,0,none⟩))/\x= .map (some b):=r
theorem zF2 (r:RdS w L σ β (.raw (.map none)) x):x= .map none:=by
 have r':RdP w L (.raw (.map none)) x:=r
 cases r';rfl
theorem yl6 {v:V} (b:Bool) (r:RdA w L σ β v x) (ok:Bool):RdS w L σ β (if ok then .tup [v,.bool b]else v) (if ok then .tuple #[x,.bool b]else x):=by
 cases ok
 .grind[RdS.of_a]
 .exact⟨[x,.bool b],rfl,r,RdA.of_cell (RdC.of_pure (.bool b)),tV⟩
theorem xo6 {pos:String} (t:TypeId) (x k:Operand) (ok:Bool) (h:Sim c nt e σ a w L β):
  ROk (xV (mapT P t) σ (zD e x) (zD e k) ok) σ (Yield P c ⟨dst,.lookup t x k ok,ty,pos,aft,g⟩ a w L σ β):=by
 have hx:=h.eval x
 have hk:=h.eval k
 unfold xV
 split
 .rename_i kd z hm
  obtain⟨kt,et,i,zv,hu,ad,hi,hz,ah,ai⟩:=zB9 hm
  split
  .rename_i ae
   have af: ∀em,(Instr.checkKey em 10000 kt (a.eval k)).run P w= .ok () w:=(by grind[zB4])
   have ag:(zeroValue et).run P w= .ok zv w:=by simp_all[zeroValue,typeInfo]
   split
   .rename_i id hid
    rw[hid]at hx
    obtain⟨b,hβ,hv⟩:=zP2 hx
    split
    .rename_i kvs bs clk hσ
     obtain⟨b',es,e1,hh,hl,aa,aj⟩:=h.mem.objs _ _ _ hσ hβ
     cases e1
     have aa:All2 (RdA w L σ β) kvs (es.toList.flatMap fun e=> [e.key,e.val]):=aa
     split
     .rename_i i0 v hf
      rcases zr3 ad ae hk aa hf with ⟨e1,_⟩|⟨j,v',e',e1,e2,_,_,e5,_⟩
      .cases e1
      .cases e1
       refine Yield.pure h (x:=if ok then .tuple #[e'.val,.bool true]else e'.val) ?_ (yl6 true e5 ok)
       have ab:=e2
       simp[execOp,Instr.lookup,run_underlying hu,hv,MapKept.run_getObj_map hh,af,ab]
     .rename_i hf
      rcases zr3 ad ae hk aa hf with ⟨_,e2⟩|⟨j,v',e',e1,_⟩
      .refine Yield.pure h (x:=if ok then .tuple #[zv,.bool false]else zv) ?_ (by simp_all[yl6])
       have ab:=e2
       simp[execOp,Instr.lookup,run_underlying hu,hv,MapKept.run_getObj_map hh,af,ab,ag]
      grind
     trivial
    trivial
   .rename_i hid
    rw[hid]at hx
    have hv:=zF2 hx
    refine Yield.pure h (x:=if ok then .tuple #[zv,.bool false]else zv) ?_ (by simp_all[yl6])
    have ab:(Instr.findKey kt (a.eval k) []).run P w= .ok none w:=by
     rcases zr3 (es:= []) ad ae hk (show All2 (RdA w L σ β) [] _ from trivial) rfl with ⟨_,e2⟩|⟨j,v',e',e1,_⟩
     all_goals grind
    simp_all[execOp,Instr.lookup,run_underlying]
   trivial
  trivial
 trivial
def zC3 (kvs:List V) (i:Nat) (k v:V):List V:=(kvs.set (2*i) k).set (2*i+1) v
theorem zv4 (l:List MapEntry): ∀(i:Nat),(l.flatMap fun e=> [e.key,e.val])[2*i]? =(l[i]?).map (·.key)/\(l.flatMap fun e=> [e.key,e.val])[2*i+1]? =(l[i]?).map (·.val):=by
 induction l with
 |nil=>simp
 |cons e l ih=>
  intro i
  cases i with
  |zero=>simp
  |succ i=>
   grind
theorem yi7 (l:List MapEntry):(l.flatMap fun e=> [e.key,e.val]).length=2*l.length:=by
 induction l<;>grind
theorem xd0 {es:Array MapEntry} {i:Nat} {k v:V} (h:All2 (RdA w L σ β) kvs (zz0 es)) (hk:RdA w L σ β k x) (hv:RdA w L σ β v y) (hi:i<es.size):
  All2 (RdA w L σ β) (zC3 kvs i k v) (zz0 (es.modify i fun e=>{e with key:=x,val:=y})):=by
 have hl:=h.length
 unfold zz0 at h hl⊢
 rw[yi7]at hl
 simp only[Cl]at hl
 refine All2.of ?_ fun j p q hp hq=> ?_
 .grind[zC3,yi7]
 .unfold zC3 at hp
  obtain⟨m,hm⟩: ∃m,j=2*m∨j=2*m+1:=⟨j/2,om⟩
  rcases hm with rfl|rfl
  .rw[(zv4 _ m).1]at hq
   rw[Dc om]at hp
   rw[Aq,Array.getElem?_modify]at hq
   by_cases e1:i=m
   .grind
   .rw[if_neg e1]at hq
    rw[Dc om]at hp
    obtain⟨y',aa,r⟩:=h.get _ _ hp
    grind[zv4]
  .rw[(zv4 _ m).2]at hq
   rw[Aq,Array.getElem?_modify]at hq
   by_cases e1:i=m
   .grind
   .rw[if_neg e1]at hq
    rw[Dc om,Dc om]at hp
    obtain⟨y',aa,r⟩:=h.get _ _ hp
    rw[(zv4 _ m).2,Aq]at aa
    grind
theorem yq9 (es:Array MapEntry) (i:Nat) (x y:Value):(es.modify i fun e=>{e with key:=x,val:=y}).toList.map (·.born)=es.toList.map (·.born):=by
 apply Bn
 grind
def xQ (m:Option (Kk×V)) (σ:St) (x k v:V):R:=
 match m,x with
 |some (kd,_),.mp id=>if zo9 kd k=true/\za6 v=true then(match σ[id]? with
  |some (.mp kvs bs clk)=>(match zj8 kd k kvs 0 with
   |some (some (i,_))=> .st .u (σ.set id (.mp (zC3 kvs i k v) bs clk))
   |some none=> .st .u (σ.set id (.mp (kvs++ [k,v]) (bs++ [clk]) (clk+1)))
   |none=> .fail)
  |_=> .fail)else .fail
 |_,_=> .fail
theorem yj3 {k:Kk} {v:V} (h:zo9 k v=true):za6 v=true:=by
 cases k with
 |one k=>cases k<;>cases v<;>first|rfl|simp[zo9,ze5]at h
 |st ks=>cases v<;>first|rfl|simp[zo9]at h
theorem xe2 {k v:Value} {et:TypeId} {kd:Kk} {bs:List Nat} {clk id:Nat} {kv vv:V} (hm:Mem c w L σ β) (hu:P.underlying t=some (.map kt et)) (ai:kkT P kt=some kd)
  (hx:RdS w L σ β (.mp id) x) (af:zo9 kd kv=true) (hk:RdS w L σ β kv k) (hv:RdA w L σ β vv v) (hσ:σ[id]? =some (.mp kvs bs clk)) {q:Option (Nat×V)} (hf:zj8 kd kv kvs 0=some q):
  ∃w',(Instr.mapUpdate t x k v).run P w= .ok () w'/\Le w L w' L/\(match q with
   |some (i,_)=>Mem c w' L (σ.set id (.mp (zC3 kvs i kv vv) bs clk)) β/\Ext σ β (σ.set id (.mp (zC3 kvs i kv vv) bs clk)) β
   |none=>Mem c w' L (σ.set id (.mp (kvs++ [kv,vv]) (bs++ [clk]) (clk+1))) β/\Ext σ β (σ.set id (.mp (kvs++ [kv,vv]) (bs++ [clk]) (clk+1))) β):=by
 have aj:RdA w L σ β kv k:=yu6 hk (yj3 af)
 have ag: ∀em,(Instr.checkKey em 10000 kt k).run P w= .ok () w:=(by grind[zB4])
 obtain⟨b,hβ,rfl⟩:=zP2 hx
 obtain⟨b',es,e1,hh,hl,aa,an⟩:=hm.objs _ _ _ hσ hβ
 cases e1
 have ah:b<w.heap.size:=(by grind)
 have ad: ∀o,Ext σ β (σ.set id o) β:=(by simp_all[Ext.setOther])
 have ae: ∀ob:Go.Obj,(setObj b ob).run P w= .ok () (yM w b ob):=fun ob=>by rw[MapKept.run_setObj_map ob hh];rfl
 rcases zr3 ai af hk aa hf with ⟨rfl,e2⟩|⟨j,v',e',rfl,e2,e3,_,_,kk,e6,e7⟩
 .have ab:=e2
  refine⟨yM w b (.map (es.push {key:=k,val:=v,born:=clk}) (clk+1)), ?_, ?_⟩
  .simp[Instr.mapUpdate,run_underlying hu,MapKept.run_getObj_map hh,ag,ab,ae]
  .have key:=hm.setOb (o:= .mp (kvs++ [kv,vv]) (bs++ [clk]) (clk+1)) hσ hβ rfl hl (.map (es.push {key:=k,val:=v,born:=clk}) (clk+1)) (ad _) (by grind[excl]) fun hle=>by
    refine⟨b,_,rfl,xT _ _ _ ah,hl, ?_,by grind⟩
    have:All2 (RdA w L σ β) (kvs++ [kv,vv]) (zz0 (es.push {key:=k,val:=v,born:=clk})):=by
     simp only[zz0,Array.toList_push,List.flatMap_append]
     exact All2.append aa (by trivial)
    exact this.imp (by grind[RdA.mono])
   grind
 .have ab:=e2
  have hj:es[j]? =some e':=by grind
  have ak:j<es.size:=(by grind)
  have al:e'.key=k:=by
   obtain⟨y,hy,r⟩:=aa.get _ _ e6
   unfold zz0 at hy
   rw[(zv4 _ j).1,e3]at hy
   simp at hy
   subst hy
   exact(yr8 hk (RdS.of_a r) e7).symm
  refine⟨yM w b (.map (es.modify j fun e=>{e with key:=k,val:=v}) clk), ?_, ?_⟩
  .simp[Instr.mapUpdate,run_underlying hu,MapKept.run_getObj_map hh,ag,ab,ae,hj,al,yt6 af hk]
  .have key:=hm.setOb (o:= .mp (zC3 kvs j kv vv) bs clk) hσ hβ rfl hl (.map (es.modify j fun e=>{e with key:=k,val:=v}) clk) (ad _) (by grind[excl]) fun hle=>by
    refine⟨b,_,rfl,xT _ _ _ ah,hl,(xd0 aa aj hv ak).imp (by grind[RdA.mono]),by rw[yq9];omega⟩
   grind
theorem zN5 {o:Oper} (t:TypeId) (x k v:Operand) (h:Sim c nt e σ a w L β) (ho:execOp a.eval o=(do Instr.mapUpdate t (a.eval x) (a.eval k) (a.eval v);pure .skip)):
  ROk (xQ (mapT P t) σ (zD e x) (zD e k) (zD e v)) σ (Yield P c o a w L σ β):=by
 have hx:=h.eval x
 have hk:=h.eval k
 have hv:=h.eval v
 unfold xQ
 split
 .rename_i kd z id hm hid
  obtain⟨kt,et,i,zv,hu,ad,_⟩:=zB9 hm
  rw[hid]at hx
  split
  .rename_i hc
   split
   .rename_i kvs bs clk hσ
    split
    .rename_i i0 v0 hf
     obtain⟨w',ae,hle,ab,aa⟩:=xe2 h.mem hu ad hx hc.1 hk (yu6 hv hc.2) hσ hf
     exact⟨undef,w',L,β,(by simp_all),ab,hle,aa,tV⟩
    .rename_i hf
     obtain⟨w',ae,hle,ab,aa⟩:=xe2 h.mem hu ad hx hc.1 hk (yu6 hv hc.2) hσ hf
     exact⟨undef,w',L,β,(by simp_all),ab,hle,aa,tV⟩
    trivial
   trivial
  trivial
 trivial
theorem yB0 {pos:String} (t:TypeId) (x k v:Operand) (h:Sim c nt e σ a w L β):
  ROk (xQ (mapT P t) σ (zD e x) (zD e k) (zD e v)) σ (Yield P c ⟨dst,.mapUpdate t x k v,ty,pos,aft,g⟩ a w L σ β):=zN5 t x k v h rfl
theorem xo4 {pos:String} (t:TypeId) (x k v:Operand) (h:Sim c nt e σ a w L β):
  ROk (xQ (mapT P t) σ (zD e x) (zD e k) (zD e v)) σ (Yield P c ⟨dst,.insert t x k v,ty,pos,aft,g⟩ a w L σ β):=zN5 t x k v h rfl
theorem zM9 {α β:Type} (f:α->β): ∀(l:List α) (i:Nat),(l.eraseIdx i).map f=(l.map f).eraseIdx i
 | [],_=>rfl
 |_::_,0=>rfl
 |x::l,i+1=>by simp[zM9 f l i]
def zY8 (kvs:List V) (i:Nat):List V:=kvs.take (2*i)++kvs.drop (2*i+2)
def zq8 (m:Option (Kk×V)) (σ:St) (x k:V):R:=
 match m,x with
 |some (kd,_),.mp id=>if zo9 kd k=true then(match σ[id]? with
  |some (.mp kvs bs clk)=>(match zj8 kd k kvs 0 with
   |some (some (i,_))=> .st (.tup []) (σ.set id (.mp (zY8 kvs i) (bs.eraseIdx i) clk))
   |some none=> .st (.tup []) (σ.set id (.mp kvs bs clk))
   |none=> .fail)
  |_=> .fail)else .fail
 |some (kd,_),.raw (.map none)=>if zo9 kd k=true then .ok (.tup [])else .fail
 |_,_=> .fail
theorem yT3 (l:List MapEntry): ∀(i:Nat),i<l.length->(l.eraseIdx i).flatMap (fun e=> [e.key,e.val])=(l.flatMap fun e=> [e.key,e.val]).take (2*i)++(l.flatMap fun e=> [e.key,e.val]).drop (2*i+2):=by
 induction l with
 |nil=>simp
 |cons e l ih=>
  intro i h
  cases i<;>grind
theorem xo3 {pos:String} (t t':TypeId) (x k:Operand) (h:Sim c nt e σ a w L β):
  ROk (zq8 (mapT P t) σ (zD e x) (zD e k)) σ (Yield P c ⟨dst,.call ⟨.builtin .delete, #[x,k], #[t,t']⟩,ty,pos,aft,g⟩ a w L σ β):=by
 have hx:=h.eval x
 have hk:=h.eval k
 unfold zq8
 split
 .rename_i kd z id hm hid
  obtain⟨kt,et,i,zv,hu,ag,_⟩:=zB9 hm
  rw[hid]at hx
  split
  .rename_i ah
   have ai: ∀em,(Instr.checkKey em 10000 kt (a.eval k)).run P w= .ok () w:=(by grind[zB4])
   obtain⟨b,hβ,hv⟩:=zP2 hx
   split
   .rename_i kvs bs clk hσ
    obtain⟨b',es,e1,hh,hl,aa,ak⟩:=h.mem.objs _ _ _ hσ hβ
    cases e1
    have aj:b<w.heap.size:=(by grind)
    have ab: ∀o,Ext σ β (σ.set id o) β:=(by simp_all[Ext.setOther])
    have af: ∀ob:Go.Obj,(setObj b ob).run P w= .ok () (yM w b ob):=fun ob=>by rw[MapKept.run_setObj_map ob hh];rfl
    split
    .rename_i i0 v0 hf
     rcases zr3 ag ah hk aa hf with ⟨e1,_⟩|⟨j,v',e',e1,e2,e3,_,_,kk,e6,e7⟩
     .cases e1
     .cases e1
      have ad:=e2
      have al:i0<es.toList.length:=(by grind)
      have an:i0<es.size:=om
      have ae:(es.eraseIdxIfInBounds i0).toList=es.toList.eraseIdx i0:=by
       simp
      have key:=h.mem.setOb (o:= .mp (zY8 kvs i0) (bs.eraseIdx i0) clk) hσ hβ rfl hl (.map (es.eraseIdxIfInBounds i0) clk) (ab _) (by grind[excl]) fun hle=>by
       refine⟨b,_,rfl,xT _ _ _ aj,hl, ?_,by grind[zM9]⟩
       have:All2 (RdA w L σ β) (zY8 kvs i0) (zz0 (es.eraseIdxIfInBounds i0)):=by
        unfold zz0 zY8
        rw[ae,yT3 _ _ al]
        exact(All2.take _ aa).append (All2.drop _ aa)
       exact this.imp (by grind[RdA.mono])
      refine⟨.tuple #[],_,L,β,.inl ?_,key.1,key.2,ab _,[],rfl,tV⟩
      simp[execOp,resolve,invoke,builtin,Builtin.delete_,run_underlying hu,hv,MapKept.run_getObj_map hh,ai,ad,af]
    .rename_i hf
     rcases zr3 ag ah hk aa hf with ⟨_,e2⟩|⟨j,v',e',e1,_⟩
     .have ad:=e2
      have key:=h.mem.setOb (o:= .mp kvs bs clk) hσ hβ rfl hl (.map es clk) (ab _) (by grind[excl]) fun hle=>by
       exact⟨b,_,rfl,xT _ _ _ aj,hl,aa.imp (by grind[RdA.mono]),ak⟩
      refine⟨.tuple #[],_,L,β,.inl ?_,key.1,key.2,ab _,[],rfl,tV⟩
      simp[execOp,resolve,invoke,builtin,Builtin.delete_,run_underlying hu,hv,MapKept.run_getObj_map hh,ai,ad,af]
     grind
    trivial
   trivial
  trivial
 .rename_i kd z hm hid
  obtain⟨kt,et,i,zv,hu,ag,_⟩:=zB9 hm
  rw[hid]at hx
  have hv:=zF2 hx
  split
  .rename_i ah
   have ai: ∀em,(Instr.checkKey em 10000 kt (a.eval k)).run P w= .ok () w:=(by grind[zB4])
   refine Yield.pure h (x:= .tuple #[]) ?_ ⟨[],rfl,tV⟩
   simp_all[execOp,resolve,invoke,builtin,Builtin.delete_,run_underlying]
  trivial
 trivial
theorem zq4 {et:TypeId} (hb:P.underlying t=some (.map kt et)) (m:Option Nat) (w:World):(Op.equal t (.map m) (.map none)).run P w= .ok m.isNone w:=by
 have key: ∀d,(Op.equalIn (d+1) t (.map m) (.map none)).run P w= .ok m.isNone w:=fun d=>by
  cases m<;>simp[Op.equalIn,run_underlying hb]
 exact key 9999
def zg4:Operand->Bool
 | .const (.map none)=>true
 |_=>false
def zq9 (op:BinOp) (m:Bool) (x:V):R:=
 match m,x with
 |true,.mp _=>(match op with| .eql=> .ok (.bool false)| .neq=> .ok (.bool true)|_=> .fail)
 |true,.raw (.map none)=>(match op with| .eql=> .ok (.bool true)| .neq=> .ok (.bool false)|_=> .fail)
 |_,_=> .fail
theorem xo7 {pos:String} (op:BinOp) (t t':TypeId) (x y:Operand) (hy:zg4 y=true) (h:Sim c nt e σ a w L β):
  ROk (zq9 op (zi3 P t) (zD e x)) σ (Yield P c ⟨dst,.binOp op t x y t',ty,pos,aft,g⟩ a w L σ β):=by
 have hx:=h.eval x
 have aa:a.eval y= .map none:=by
  unfold zg4 at hy
  split at hy
  all_goals trivial
 unfold zq9
 split
 .rename_i id hm hid
  unfold zi3 at hm
  split at hm
  .rename_i kt et hu
   rw[hid]at hx
   obtain⟨b,hβ,hv⟩:=zP2 hx
   split
   .refine Yield.pure h (x:= .bool false) ?_ (RdP.bool _)
    simp[execOp,eqGuard,binOp,zq4 hu,hv,aa]
   .refine Yield.pure h (x:= .bool true) ?_ (RdP.bool _)
    simp[execOp,eqGuard,binOp,zq4 hu,hv,aa]
   trivial
  grind
 .rename_i hm hid
  unfold zi3 at hm
  split at hm
  .rename_i kt et hu
   rw[hid]at hx
   have hv:=zF2 hx
   split
   .refine Yield.pure h (x:= .bool true) ?_ (RdP.bool _)
    simp[execOp,eqGuard,binOp,zq4 hu,hv,aa]
   .refine Yield.pure h (x:= .bool false) ?_ (RdP.bool _)
    simp[execOp,eqGuard,binOp,zq4 hu,hv,aa]
   trivial
  grind
 trivial
def zy6 (m:Bool) (σ:St) (x:V):R:=
 match m,x with
 |true,.mp id=>(match σ[id]? with|some (.mp _ _ clk)=> .st (.ptr σ.length 0) (σ++ [.it (some id) clk [] clk])|_=> .fail)
 |true,.raw (.map none)=> .st (.ptr σ.length 0) (σ++ [.it none 0 [] 0])
 |_,_=> .fail
theorem xC2 {pos:String} (t:TypeId) (x:Operand) (h:Sim c nt e σ a w L β):
  ROk (zy6 (zi3 P t) σ (zD e x)) σ (Yield P c ⟨dst,.range t x,ty,pos,aft,g⟩ a w L σ β):=by
 have hx:=h.eval x
 have rd: ∀(o:Ob) (w':World),RdS w' L (σ++ [o]) (β++ [.pointer (some ⟨w.heap.size,0,none⟩)]) (.ptr σ.length 0) (.pointer (some ⟨w.heap.size,0,none⟩)):=fun o w'=>⟨w.heap.size,by rw[<-h.mem.len];simp,rfl⟩
 unfold zy6
 split
 .rename_i id hm hid
  unfold zi3 at hm
  split at hm
  .rename_i kt et hu
   rw[hid]at hx
   obtain⟨b,hβ,hv⟩:=zP2 hx
   split
   .rename_i kvs bs clk hσ
    obtain⟨b',es,e1,hh,hl,ad,ae⟩:=h.mem.objs _ _ _ hσ hβ
    cases e1
    have key:=h.mem.newOb (.mapIter (some b) clk #[] clk) (.it (some id) clk [] clk) (fun hle aa=>⟨w.heap.size,some b,rfl,yJ _ _,h.mem.lim _ om,b,(by grind),rfl⟩) (by grind[excl])
    refine⟨_,_,L,_,.inl ?_,key.1,key.2,Ext.push σ β h.mem.len _ _,rd _ _⟩
    have ab:=run_range_map (P:=P) w t kt et b es clk hu hh
    simp_all[execOp]
   trivial
  grind
 .rename_i hm hid
  unfold zi3 at hm
  split at hm
  .rename_i kt et hu
   rw[hid]at hx
   have hv:=zF2 hx
   have key:=h.mem.newOb (.mapIter none 0 #[] 0) (.it none 0 [] 0) (fun hle aa=>⟨w.heap.size,none,rfl,yJ _ _,h.mem.lim _ om,rfl⟩) (by grind[excl])
   refine⟨_,_,L,_,.inl ?_,key.1,key.2,Ext.push σ β h.mem.len _ _,rd _ _⟩
   have ab:=run_range_nilMap (P:=P) w t kt et hu
   simp_all[execOp]
  grind
 trivial
def zI5 (seen:List Nat):List V->List Nat->List (V×V×Nat)
 |k::v::kvs,b::bs=>if seen.contains b then zI5 seen kvs bs else(k,v,b)::zI5 seen kvs bs
 |_,_=> []
def zi0 (open_:Bool) (σ:St) (x:V):R:=
 match x with
 | .ptr i 0=>(match σ[i]? with
  |some (.it none _ _ _)=> .ok (.tup [.bool false])
  |some (.it (some id) since seen last)=>(match σ[id]? with
   |some (.mp kvs bs clk)=>if(bs.all fun b=>decide (b<since))=true/\since<=last then(match zI5 seen kvs bs with
    | []=> .ok (.tup [.bool false])
    | [(k,v,b)]=> .st (.tup [.bool true,k,v]) (σ.set i (.it (some id) since (seen++ [b]) clk))
    |l=>if open_ then .any (l.map fun p=>(.tup [.bool true,p.1,p.2.1],σ.set i (.it (some id) since (seen++ [p.2.2]) clk)))else .fail)else .fail
   |_=> .fail)
  |_=> .fail)
 |_=> .fail
theorem xd2: ∀(kvs:List V) (bs:List Nat) (es:List MapEntry) (seen:List Nat),All2 (RdA w L σ β) kvs (es.flatMap fun e=> [e.key,e.val])->es.map (·.born)=bs->
  All2 (fun p (e:MapEntry)=>RdA w L σ β p.1 e.key/\RdA w L σ β p.2.1 e.val/\e.born=p.2.2) (zI5 seen kvs bs) (es.filter fun e=> !seen.contains e.born)
 | [],bs,[],seen,_,hb=>by simpa
 | [],_,e::es,_,ha,_=>by trivial
 | [_],_,[],_,ha,_=>by trivial
 | [_],_,e::es,_,ha,_=>by grind[All2]
 |_::_::_,_,[],_,ha,_=>by trivial
 |k::v::kvs,bs,e::es,seen,ha,hb=>by
  simp only[C8,Ax,Bi,All2]at ha
  obtain⟨h1,h2,h3⟩:=ha
  cases bs with
  |nil=>grind
  |cons b bs=>
   simp only[Ai,List.cons.injEq]at hb
   obtain⟨rfl,hb⟩:=hb
   have ih:=xd2 kvs bs es seen h3 hb
   rw[zI5,C4]
   by_cases hc:seen.contains e.born=true
   .grind
   .rw[if_neg hc,if_pos (sU hc)];trivial
theorem xL2 {w1:World} (h:w1=w∨w1=w.drew) (hm:Mem c w L σ β):Mem c w1 L σ β/\Le w L w1 L:=by
 rcases h with rfl|rfl
 .grind[Le.refl]
 .exact hm.drew
theorem xf3 {pos:String} (open_:Bool) (x:Operand) (h:Sim c nt e σ a w L β):
  ROk (zi0 open_ σ (zD e x)) σ (Yield P c ⟨dst,.next x false,ty,pos,aft,g⟩ a w L σ β):=by
 have hx:=h.eval x
 unfold zi0
 split
 .rename_i i hid
  rw[hid]at hx
  obtain⟨r,hβ,hv⟩:=hx
  split
  .rename_i since seen last hσ
   obtain⟨r',mo,e1,hh,hl,ai⟩:=h.mem.objs _ _ _ hσ hβ
   cases e1
   simp only at ai
   subst ai
   refine Yield.pure h (x:= .tuple #[.bool false]) ?_ ⟨[.bool false],rfl,RdA.of_cell (RdC.of_pure (.bool _)),tV⟩
   simp[execOp,hv,Instr.next,getObj,Sem.run,hh]
  .rename_i id since seen last hσ
   obtain⟨r',mo,e1,hh,hl,b,aj,rfl⟩:=h.mem.objs _ _ _ hσ hβ
   cases e1
   split
   .rename_i kvs bs clk an
    obtain⟨b',es,e1,ao,az,ak,al⟩:=h.mem.objs _ _ _ an aj
    cases e1
    split
    .rename_i hc
     have a1:r<w.heap.size:=(by grind)
     have aa:=xd2 kvs bs es.toList seen ak al
     have aq:(leftOf es seen.toArray).toList=es.toList.filter fun e=> !seen.contains e.born:=by
      simp[leftOf]
     rw[<-aq]at aa
     have hold: ∀x∈es.toList,x.born<since:=fun x hx=>by
      have:=Aj.1 hc.1 x.born (by rw[<-al];exact Ad.2 ⟨x,hx,rfl⟩)
      grind
     have ad:=run_next_at (P:=P) w ty r b since last seen.toArray es clk hh ao hold hc.2
     have ae: ∀o,Ext σ β (σ.set i o) β:=(by simp_all[Ext.setOther])
     have step: ∀(q:V×V×Nat) (en:MapEntry) (w1:World),(w1=w∨w1=w.drew)->RdA w L σ β q.1 en.key->RdA w L σ β q.2.1 en.val->en.born=q.2.2->
       (Instr.next (.pointer (some ⟨r,0,none⟩)) false ty).run P w= .ok (.tuple #[.bool true,en.key,en.val]) (ChangeMaps.setBlock w1 r (.mapIter (some b) since (seen.toArray.push en.born) clk))->
       Yield P c ⟨dst,.next x false,ty,pos,aft,g⟩ a w L σ β (.tup [.bool true,q.1,q.2.1]) (σ.set i (.it (some id) since (seen++ [q.2.2]) clk)):=by
      intro q en w1 af h1 h2 h3 ab
      obtain⟨ar,ag⟩:=xL2 af h.mem
      have a6:w1.heap[r]? =some (.mapIter (some b) since seen.toArray last):=by rcases af with rfl|rfl<;>exact hh
      have aw:r<w1.heap.size:=(by grind)
      have key:=ar.setOb (o:= .it (some id) since (seen++ [q.2.2]) clk) hσ hβ rfl hl (.mapIter (some b) since (seen.toArray.push en.born) clk) (ae _) (by grind[excl]) fun hle=>by
       refine⟨r,some b,rfl, ?_,hl,b,aj,rfl⟩
       grind[xT]
      refine⟨.tuple #[.bool true,en.key,en.val],yM w1 r (.mapIter (some b) since (seen.toArray.push en.born) clk),L,β,.inl ?_,key.1,ag.trans key.2,ae _, ?_⟩
      .simp only[execOp,hv,Sem.run_bind,ab,Result.andThen_ok,Sem.run_pure]
       rfl
      .exact⟨[.bool true,en.key,en.val],rfl,RdA.of_cell (RdC.of_pure (.bool _)),h1.mono (ag.trans key.2) (ae _),h2.mono (ag.trans key.2) (ae _),tV⟩
     split
     .rename_i au
      rw[au]at aa
      have h0:(leftOf es seen.toArray).size=0:=by
       have:=aa.length
       grind
      rcases ad with ⟨_,ab⟩|⟨en,ah,_⟩
      .refine Yield.pure h (x:= .tuple #[.bool false]) ?_ ⟨[.bool false],rfl,RdA.of_cell (RdC.of_pure (.bool _)),tV⟩
       grind[execOp,Sem.run_bind,Result.andThen_ok,Sem.run_pure]
      grind
     .rename_i k v b0 av
      rw[av]at aa
      have h0:(leftOf es seen.toArray).size=1:=by
       have:=aa.length
       grind
      rcases ad with ⟨hz,_⟩|⟨en,ah,w1,af,ab⟩
      .omega
      .obtain⟨q,hq,h1,h2,h3⟩:=All2.mem_r aa ah
       simp at hq
       subst hq
       exact step _ en w1 af h1 h2 h3 ab
     .rename_i l ax ay
      split
      case isFalse=>trivial
      rcases ad with ⟨hz,_⟩|⟨en,ah,w1,af,ab⟩
      .have:=aa.length
       grind
      .obtain⟨q,hq,h1,h2,h3⟩:=All2.mem_r aa ah
       exact⟨_,Ad.2 ⟨q,hq,rfl⟩,(by grind)⟩
    trivial
   trivial
  trivial
 trivial
def xY (m:Option (Kk×V)) (σ:St) (x k:V):R:=
 match m,x with
 |some (kd,z),.mp id=>if zo9 kd k=true then(match σ[id]? with
  |some (.mp kvs bs clk)=>(match zj8 kd k kvs 0 with
   |some (some (i,v))=>(match bs[i]? with|some b=> .ok (.tup [v,.int .i64 (b:Int)])|none=> .fail)
   |some none=> .st (.tup [z,.int .i64 (clk:Int)]) (σ.set id (.mp (kvs++ [k,z]) (bs++ [clk]) (clk+1)))
   |none=> .fail)
  |_=> .fail)else .fail
 |_,_=> .fail
theorem yL4 (es:Array MapEntry) (i:Nat) (f:MapEntry->MapEntry) (h: ∀e,es[i]? =some e->f e=e):es.modify i f=es:=by
 grind
theorem yM2 {pos:String} (t:TypeId) (x k:Operand) (h:Sim c nt e σ a w L β):
  ROk (xY (mapT P t) σ (zD e x) (zD e k)) σ (Yield P c ⟨dst,.mapEntry t x k,ty,pos,aft,g⟩ a w L σ β):=by
 have hx:=h.eval x
 have hk:=h.eval k
 unfold xY
 split
 .rename_i kd z id hm hid
  obtain⟨kt,et,i,zv,hu,ag,hi,hz,au,ah⟩:=zB9 hm
  rw[hid]at hx
  split
  .rename_i ad
   have ai: ∀em,(Instr.checkKey em 10000 kt (a.eval k)).run P w= .ok () w:=(by grind[zB4])
   have al:(zeroValue et).run P w= .ok zv w:=by simp_all[zeroValue,typeInfo]
   obtain⟨b,hβ,hv⟩:=zP2 hx
   split
   .rename_i kvs bs clk hσ
    obtain⟨b',es,e1,hh,hl,aa,an⟩:=h.mem.objs _ _ _ hσ hβ
    cases e1
    have aj:b<w.heap.size:=(by grind)
    have ab: ∀o,Ext σ β (σ.set id o) β:=(by simp_all[Ext.setOther])
    have ae: ∀ob:Go.Obj,(setObj b ob).run P w= .ok () (yM w b ob):=fun ob=>by rw[MapKept.run_setObj_map ob hh];rfl
    split
    .rename_i i0 v0 hf
     split
     .rename_i b0 av
      rcases zr3 ag ad hk aa hf with ⟨e1,_⟩|⟨j,v',e',e1,e2,e3,_,e5,kk,e6,e7⟩
      .cases e1
      .simp only[Option.some.injEq,Prod.mk.injEq]at e1
       obtain⟨rfl,rfl⟩:=e1
       have hj:es[i0]? =some e':=by grind
       have ak:e'.key=a.eval k:=by
        obtain⟨y,hy,r⟩:=aa.get _ _ e6
        unfold zz0 at hy
        rw[(zv4 _ i0).1,e3]at hy
        simp at hy
        subst hy
        exact(yr8 hk (RdS.of_a r) e7).symm
       have ao:e'.born=b0:=by
        grind
       have af:(es.modify i0 fun e=>{e with key:=a.eval k})=es:=yL4 es i0 _ fun e he=>by
        rw[hj]at he;cases he;rw[<-ak]
       have aq:σ.set id (.mp kvs bs clk)=σ:=yI σ id _ hσ
       have key:=h.mem.setOb (o:= .mp kvs bs clk) hσ hβ rfl hl (.map es clk) (ab _) (by grind[excl]) fun hle=>by
        exact⟨b,_,rfl,xT _ _ _ aj,hl,aa.imp (by grind[RdA.mono]),an⟩
       rw[aq]at key
       refine⟨.tuple #[e'.val,.int .i64 (b0:Int)],_,L,β,.inl ?_,key.1,key.2,Ext.refl _ _,[e'.val,.int .i64 (b0:Int)],rfl,e5.mono key.2 (by grind),RdA.of_cell (RdC.of_pure (.int _ _)),tV⟩
       simp[execOp,Instr.mapEntry,run_underlying hu,hv,MapKept.run_getObj_map hh,ai,e2,ae,hj,ak,yt6 ad hk,af,ao,goInt]
     trivial
    .rename_i hf
     rcases zr3 ag ad hk aa hf with ⟨_,e2⟩|⟨j,v',e',e1,_⟩
     .have ar:RdA w L σ β (zD e k) (a.eval k):=yu6 hk (yj3 ad)
      have key:=h.mem.setOb (o:= .mp (kvs++ [zD e k,z]) (bs++ [clk]) (clk+1)) hσ hβ rfl hl (.map (es.push {key:=a.eval k,val:=zv,born:=clk}) (clk+1)) (ab _) (by grind[excl]) fun hle=>by
       refine⟨b,_,rfl,xT _ _ _ aj,hl, ?_,by grind⟩
       have:All2 (RdA w L σ β) (kvs++ [zD e k,z]) (zz0 (es.push {key:=a.eval k,val:=zv,born:=clk})):=by
        simp only[zz0,Array.toList_push,List.flatMap_append]
        exact All2.append aa ⟨ar,ah _ _ _ _,tV⟩
       exact this.imp (by grind[RdA.mono])
      refine⟨.tuple #[zv,.int .i64 (clk:Int)],_,L,β,.inl ?_,key.1,key.2,ab _,[zv,.int .i64 (clk:Int)],rfl,ah _ _ _ _,RdA.of_cell (RdC.of_pure (.int _ _)),tV⟩
      simp[execOp,Instr.mapEntry,run_underlying hu,hv,MapKept.run_getObj_map hh,ai,e2,ae,al,goInt]
     grind
    trivial
   trivial
  trivial
 trivial
def xL (σ:St) (x s v:V):R:=
 match x,s with
 | .mp id,.int _ n=>if za6 v=true then(match σ[id]? with
  |some (.mp kvs bs clk)=>(match bs.findIdx? fun(b:Nat)=>(b:Int)==n with
   |some i=> .st .u (σ.set id (.mp (kvs.set (2*i+1) v) bs clk))
   |none=> .fail)
  |_=> .fail)else .fail
 |_,_=> .fail
theorem yq0 {pos:String} (t:TypeId) (x s v:Operand) (h:Sim c nt e σ a w L β):
  ROk (xL σ (zD e x) (zD e s) (zD e v)) σ (Yield P c ⟨dst,.entryStore t x s v,ty,pos,aft,g⟩ a w L σ β):=by
 have hx:=h.eval x
 have hs:=h.eval s
 have hv:=h.eval v
 unfold xL
 split
 .rename_i id k n hid ah
  rw[hid]at hx
  rw[ah]at hs
  have hs:=yK hs
  split
  .rename_i hc
   obtain⟨b,hβ,ai⟩:=zP2 hx
   split
   .rename_i kvs bs clk hσ
    obtain⟨b',es,e1,hh,hl,aa,aj⟩:=h.mem.objs _ _ _ hσ hβ
    cases e1
    have ak:b<w.heap.size:=(by grind)
    have ab: ∀o,Ext σ β (σ.set id o) β:=(by simp_all[Ext.setOther])
    have ad: ∀ob:Go.Obj,(setObj b ob).run P w= .ok () (yM w b ob):=fun ob=>by rw[MapKept.run_setObj_map ob hh];rfl
    split
    .rename_i i hf
     have ae:(es.findIdx? fun e=>(e.born:Int)==n)=some i:=by
      rw[<-aj,List.findIdx?_map]at hf
      have hq:es.findIdx? (fun e=>(e.born:Int)==n)=es.toList.findIdx? fun e=>(e.born:Int)==n:=by
       obtain⟨l⟩:=es
       simp
      rw[hq]
      exact hf
     have hi:i<es.size:=by
      obtain⟨h1,_⟩:=Array.findIdx?_eq_some_iff_getElem.1 ae
      exact h1
     have al:RdA w L σ β (zD e v) (a.eval v):=yu6 hv hc
     have hlen:=aa.length
     unfold zz0 at hlen
     rw[yi7]at hlen
     simp only[Cl]at hlen
     have an:2*i<kvs.length:=om
     have af:RdA w L σ β kvs[2*i] es[i].key:=by
      obtain⟨y,hy,r⟩:=aa.get (2*i) _ (A0 an)
      grind[zz0,zv4]
     have ao:zC3 kvs i kvs[2*i] (zD e v)=kvs.set (2*i+1) (zD e v):=by
      grind[zC3,List.set_getElem_self]
     have ag:(es.modify i fun e=>{e with val:=a.eval v})=es.modify i fun e=>{e with key:=es[i].key,val:=a.eval v}:=by
      rfl
     have key:=h.mem.setOb (o:= .mp (zC3 kvs i kvs[2*i] (zD e v)) bs clk) hσ hβ rfl hl (.map (es.modify i fun e=>{e with key:=es[i].key,val:=a.eval v}) clk) (ab _) (by grind[excl]) fun hle=>by
      refine⟨b,_,rfl,xT _ _ _ ak,hl,(xd0 aa af al hi).imp (by grind[RdA.mono]),by rw[yq9];omega⟩
     rw[ao,<-ag]at key
     refine⟨undef,_,L,β,.inr ⟨?_,rfl⟩,key.1,key.2,ab _,tV⟩
     simp[execOp,Instr.entryStore,ai,hs,MapKept.run_getObj_map hh,asInt,asIntOf,ae,ad]
    trivial
   trivial
  trivial
 trivial
def yr7 (b:Nat):List V->List Nat->Option (V×V)
 |k::v::kvs,b'::bs=>if b'=b then some (k,v)else yr7 b kvs bs
 |_,_=>none
def zi9 (σ:St) (x:V):R:=
 match x with
 | .ptr i 0=>(match σ[i]? with
  |some (.it (some id) _ seen last)=>(match σ[id]?,seen.getLast? with
   |some (.mp kvs bs clk),some b=>if clk=last then(match yr7 b kvs bs with|some (k,v)=> .ok (.tup [k,v])|none=> .fail)else .fail
   |_,_=> .fail)
  |_=> .fail)
 |_=> .fail
theorem ent_ok (b:Nat): ∀(kvs:List V) (bs:List Nat) (es:List MapEntry) (k v:V),All2 (RdA w L σ β) kvs (es.flatMap fun e=> [e.key,e.val])->es.map (·.born)=bs->yr7 b kvs bs=some (k,v)->
  ∃e,es.find? (·.born==b)=some e/\RdA w L σ β k e.key/\RdA w L σ β v e.val
 | [],_,_,_,_,_,_,h=>by trivial
 | [_],_,_,_,_,_,_,h=>by trivial
 |_::_::_,_,[],_,_,ha,_,_=>by simpa
 |k0::v0::kvs,bs,e::es,k,v,ha,hb,h=>by
  simp only[C8,Ax,Bi,All2]at ha
  obtain⟨h1,h2,h3⟩:=ha
  cases bs with
  |nil=>grind
  |cons b' bs=>
   simp only[Ai,List.cons.injEq]at hb
   obtain⟨rfl,hb⟩:=hb
   rw[yr7]at h
   by_cases q:e.born=b
   .grind
   .rw[if_neg q]at h
    obtain⟨e',g1,g2,g3⟩:=ent_ok b kvs bs es k v h3 hb h
    have qb:(e.born==b)=false:=sU q
    exact⟨e',by rw[List.find?_cons,qb];exact g1,g2,g3⟩
theorem xB7 {pos:String} (x:Operand) (h:Sim c nt e σ a w L β):
  ROk (zi9 σ (zD e x)) σ (Yield P c ⟨dst,.entry x,ty,pos,aft,g⟩ a w L σ β):=by
 have hx:=h.eval x
 unfold zi9
 split
 .rename_i i hid
  rw[hid]at hx
  obtain⟨r,hβ,hv⟩:=hx
  split
  .rename_i id since seen last hσ
   obtain⟨r',mo,e1,hh,hl,b,ab,rfl⟩:=h.mem.objs _ _ _ hσ hβ
   cases e1
   split
   .rename_i kvs bs clk b0 ad af
    obtain⟨b',es,e1,ag,ah,aa,ae⟩:=h.mem.objs _ _ _ ad ab
    cases e1
    split
    .rename_i hc
     subst hc
     split
     .rename_i k v he
      obtain⟨en,g1,g2,g3⟩:=ent_ok b0 kvs bs es.toList k v aa ae he
      have ai:es.find? (·.born==b0)=some en:=by
       grind
      have aj:seen.toArray.back? =some b0:=by
       grind
      refine Yield.pure h (x:= .tuple #[en.key,en.val]) ?_ ⟨[en.key,en.val],rfl,g2,g3,tV⟩
      simp_all[execOp,Instr.entry,getObj,Sem.run]
     trivial
    trivial
   trivial
  trivial
 trivial
def yt2 (P:Program) (t:TypeId):Bool:=match P.underlying t with|some (.slice _)=>true|_=>false
def zZ2 (b:Bool) (t:TypeId) (x:V):R:=
 match b,x with
 |true,.lsv id s n lo m=> .ok (.ifc t [.lsv id s n lo m])
 |true,.sl g rows=> .ok (.ifc t [.sl g rows])
 |_,_=> .fail
theorem xZ9 {pos:String} (t:TypeId) (x:Operand) (h:Sim c nt e σ a w L β):
  ROk (zZ2 (yt2 P t) t (zD e x)) σ (Yield P c ⟨dst,.makeInterface t x,ty,pos,aft,g⟩ a w L σ β):=by
 have hx:=h.eval x
 have hu:yt2 P t=true->(Instr.makeInterface t (a.eval x)).run P w= .ok (.iface t (a.eval x)) w:=fun hb=>by
  unfold yt2 at hb
  split at hb
  all_goals simp_all[Instr.makeInterface,run_underlying]
 unfold zZ2
 split
 .rename_i id s n lo m hb hid
  rw[hid]at hx
  exact Yield.pure h (x:= .iface t (a.eval x)) (by simp_all[execOp]) ⟨a.eval x,rfl,hx,tV⟩
 .rename_i g rows hb hid
  rw[hid]at hx
  exact Yield.pure h (x:= .iface t (a.eval x)) (by simp_all[execOp]) ⟨a.eval x,rfl,hx,tV⟩
 trivial
end
def renK (ρ:Nat->Nat):V->V
 | .ptr id off=> .ptr (ρ id) off
 | .sl (.app id) rows=> .sl (.app (ρ id)) rows
 | .lsv id s n lo m=> .lsv (ρ id) s n lo m
 | .lsp id s n k j=> .lsp (ρ id) s n k j
 | .bsv id s off n=> .bsv (ρ id) s off n
 | .mp id=> .mp (ρ id)
 |v=>v
def renC (ρ:Nat->Nat):V->V
 | .fn f caps=> .fn f (caps.map (renK ρ))
 | .ifc t vs=> .ifc t (vs.map (renK ρ))
 |v=>renK ρ v
def renA (ρ:Nat->Nat):V->V
 | .agg cs=> .agg (cs.map (renC ρ))
 |v=>renC ρ v
def renS (ρ:Nat->Nat):V->V
 | .tup vs=> .tup (vs.map (renA ρ))
 |v=>renA ρ v
def yS (ρ:Nat->Nat):Ob->Ob
 | .box cells=> .box (cells.map (renC ρ))
 | .lst rows s=> .lst (rows.map fun r=>r.map (renC ρ)) s
 | .mp kvs borns clk=> .mp (kvs.map (renA ρ)) borns clk
 | .it m since seen last=> .it (m.map ρ) since seen last
 |o=>o
theorem All2.map_l {α β γ:Type} {R:α->β->Prop} {S:γ->β->Prop} {f:α->γ} (h: ∀a b,R a b->S (f a) b): ∀{l:List α} {m:List β},All2 R l m->All2 S (l.map f) m
 | [],[],_=>trivial
 |_::_,_::_,q=>⟨h _ _ q.1,All2.map_l h q.2⟩
 | [],_::_,q=>q.elim
 |_::_,[],q=>q.elim
theorem All2.unmap_l {α β γ:Type} {R:α->β->Prop} {S:γ->β->Prop} {f:α->γ} (h: ∀a b,S (f a) b->R a b): ∀{l:List α} {m:List β},All2 S (l.map f) m->All2 R l m
 | [],[],_=>trivial
 |_::_,_::_,q=>⟨h _ _ q.1,All2.unmap_l h q.2⟩
 | [],_::_,q=>q.elim
 |_::_,[],q=>q.elim
structure Emb (ρ:Nat->Nat) (σ:St) (β:List Value) (σc:St) (βc:List Value):Prop where
 val: ∀(id:Nat) x,β[id]? =some x->βc[ρ id]? =some x
 app: ∀(id:Nat) n s,σ[id]? =some (.app n s)->σc[ρ id]? =some (.app n s)
 lst: ∀(id:Nat) rows s,σ[id]? =some (.lst rows s)-> ∃rows',σc[ρ id]? =some (.lst rows' s)/\rows'.length=rows.length
 dead: ∀(id:Nat),σ[id]? =some .dead->σc[ρ id]? =some .dead
structure Bak (ρ:Nat->Nat) (σ:St) (β:List Value) (σc:St) (βc:List Value):Prop where
 val: ∀(id:Nat) x,βc[ρ id]? =some x->β[id]? =some x
 app: ∀(id:Nat) n s,σc[ρ id]? =some (.app n s)->σ[id]? =some (.app n s)
 lst: ∀(id:Nat) rows s,σc[ρ id]? =some (.lst rows s)-> ∃rows',σ[id]? =some (.lst rows' s)/\rows'.length=rows.length
 dead: ∀(id:Nat),σc[ρ id]? =some .dead->σ[id]? =some .dead
section
variable {ρ:Nat->Nat} {w:World} {L:Nat->Nat} {σ σc:St} {β βc:List Value}
variable {x:Value}
theorem RdK.emb (h:Emb ρ σ β σc βc) {v:V} (r:RdK w L σ β v x):RdK w L σc βc (renK ρ v) x:=by
 cases v with
 |ptr id off=>obtain⟨b,hb,hx⟩:=r;exact⟨b,h.val _ _ hb,hx⟩
 |sl g rows=>cases g with
  |app id=>obtain⟨hr,n,s,hσ,hle,hβ,hl⟩:=r;exact⟨hr,n,s,h.app _ _ _ hσ,hle,fun q=>h.val _ _ (hβ q),hl⟩
  |ro=>exact r
  |full=>exact r
 |lsv id s n lo m=>
  obtain⟨a,cap,hx,hm,ha,hc⟩:=r
  refine⟨a,cap,hx,hm,ha, ?_⟩
  rcases hc with hd|⟨rows,hσ,hn,hb⟩
  .exact .inl (h.dead id hd)
  .obtain⟨r2,e2,l2⟩:=h.lst id rows s hσ
   refine .inr ⟨r2,e2,om,fun q=> ?_⟩
   obtain⟨b,c0,q1,q2⟩:=hb om
   exact⟨b,c0,h.val _ _ q1,q2⟩
 |lsp id s n i j=>
  obtain⟨b,o,hx,hc⟩:=r
  refine⟨b,o,hx, ?_⟩
  rcases hc with hd|⟨rows,hσ,hn,hb⟩
  .exact .inl (h.dead id hd)
  .obtain⟨r2,e2,l2⟩:=h.lst id rows s hσ
   refine .inr ⟨r2,e2,om,fun q q'=> ?_⟩
   obtain⟨c0,q1,q2⟩:=hb om q'
   exact⟨c0,h.val _ _ q1,q2⟩
 |bsv id s off n=>obtain⟨b,hb,hx⟩:=r;exact⟨b,h.val _ _ hb,hx⟩
 |mp id=>obtain⟨b,hb,hx⟩:=r;exact⟨b,h.val _ _ hb,hx⟩
 |_=>exact r
theorem RdK.bak (h:Bak ρ σ β σc βc) {v:V} (r:RdK w L σc βc (renK ρ v) x):RdK w L σ β v x:=by
 cases v with
 |ptr id off=>obtain⟨b,hb,hx⟩:=r;exact⟨b,h.val _ _ hb,hx⟩
 |sl g rows=>cases g with
  |app id=>obtain⟨hr,n,s,hσ,hle,hβ,hl⟩:=r;exact⟨hr,n,s,h.app _ _ _ hσ,hle,fun q=>h.val _ _ (hβ q),hl⟩
  |ro=>exact r
  |full=>exact r
 |lsv id s n lo m=>
  obtain⟨a,cap,hx,hm,ha,hc⟩:=r
  refine⟨a,cap,hx,hm,ha, ?_⟩
  rcases hc with hd|⟨rows,hσ,hn,hb⟩
  .exact .inl (h.dead id hd)
  .obtain⟨r2,e2,l2⟩:=h.lst id rows s hσ
   refine .inr ⟨r2,e2,om,fun q=> ?_⟩
   obtain⟨b,c0,q1,q2⟩:=hb om
   exact⟨b,c0,h.val _ _ q1,q2⟩
 |lsp id s n i j=>
  obtain⟨b,o,hx,hc⟩:=r
  refine⟨b,o,hx, ?_⟩
  rcases hc with hd|⟨rows,hσ,hn,hb⟩
  .exact .inl (h.dead id hd)
  .obtain⟨r2,e2,l2⟩:=h.lst id rows s hσ
   refine .inr ⟨r2,e2,om,fun q q'=> ?_⟩
   obtain⟨c0,q1,q2⟩:=hb om q'
   exact⟨c0,h.val _ _ q1,q2⟩
 |bsv id s off n=>obtain⟨b,hb,hx⟩:=r;exact⟨b,h.val _ _ hb,hx⟩
 |mp id=>obtain⟨b,hb,hx⟩:=r;exact⟨b,h.val _ _ hb,hx⟩
 |_=>exact r
theorem RdC.emb (h:Emb ρ σ β σc βc) {v:V} (r:RdC w L σ β v x):RdC w L σc βc (renC ρ v) x:=by
 cases v with
 |fn f caps=>obtain⟨xs,hx,hc⟩:=r;exact⟨xs,hx,(by grind[All2.map_l,RdK.emb])⟩
 |ifc t v=>obtain⟨y,hx,hc⟩:=r;exact⟨y,hx,(by grind[All2.map_l,RdK.emb])⟩
 |sl g rows=>
  have r':RdK w L σ β (.sl g rows) x:=r
  have:=r'.emb h
  cases g<;>exact this
 |_=>simp only[RdC]at r;have q:=RdK.emb h r;exact q
theorem RdC.bak (h:Bak ρ σ β σc βc) {v:V} (r:RdC w L σc βc (renC ρ v) x):RdC w L σ β v x:=by
 cases v with
 |fn f caps=>obtain⟨xs,hx,hc⟩:=r;exact⟨xs,hx,(by grind[All2.unmap_l,RdK.bak])⟩
 |ifc t v=>obtain⟨y,hx,hc⟩:=r;exact⟨y,hx,(by grind[All2.unmap_l,RdK.bak])⟩
 |sl g rows=>
  have r':RdK w L σc βc (renK ρ (.sl g rows)) x:=by cases g<;>exact r
  exact r'.bak h
 |_=>simp only[RdC];refine RdK.bak h ?_;exact r
theorem RdA.emb (h:Emb ρ σ β σc βc) {v:V} (r:RdA w L σ β v x):RdA w L σc βc (renA ρ v) x:=by
 cases v with
 |agg cs=>obtain⟨xs,hx,hc⟩:=r;exact⟨xs,hx,(by grind[All2.map_l,RdC.emb])⟩
 |sl g rows=>
  have r':RdC w L σ β (.sl g rows) x:=r
  have:=r'.emb h
  cases g<;>exact this
 |_=>simp only[RdA]at r;have q:=RdC.emb h r;exact q
theorem RdA.bak (h:Bak ρ σ β σc βc) {v:V} (r:RdA w L σc βc (renA ρ v) x):RdA w L σ β v x:=by
 cases v with
 |agg cs=>obtain⟨xs,hx,hc⟩:=r;exact⟨xs,hx,(by grind[All2.unmap_l,RdC.bak])⟩
 |sl g rows=>
  have r':RdC w L σc βc (renC ρ (.sl g rows)) x:=by cases g<;>exact r
  exact r'.bak h
 |_=>simp only[RdA];refine RdC.bak h ?_;exact r
theorem RdS.emb (h:Emb ρ σ β σc βc) {v:V} (r:RdS w L σ β v x):RdS w L σc βc (renS ρ v) x:=by
 cases v with
 |u=>trivial
 |tup vs=>obtain⟨xs,hx,hc⟩:=r;exact⟨xs,hx,(by grind[All2.map_l,RdA.emb])⟩
 |sl g rows=>
  have r':RdA w L σ β (.sl g rows) x:=r
  have:=r'.emb h
  cases g<;>exact this
 |_=>simp only[RdS]at r;have q:=RdA.emb h r;exact q
theorem RdS.bak (h:Bak ρ σ β σc βc) {v:V} (r:RdS w L σc βc (renS ρ v) x):RdS w L σ β v x:=by
 cases v with
 |u=>trivial
 |tup vs=>obtain⟨xs,hx,hc⟩:=r;exact⟨xs,hx,(by grind[All2.unmap_l,RdA.bak])⟩
 |sl g rows=>
  have r':RdA w L σc βc (renA ρ (.sl g rows)) x:=by cases g<;>exact r
  exact r'.bak h
 |_=>simp only[RdS];refine RdA.bak h ?_;exact r
theorem ObOk.emb (h:Emb ρ σ β σc βc) {o:Ob} (r:ObOk w L σ β o x):ObOk w L σc βc (yS ρ o) x:=by
 cases o with
 |box cells=>obtain⟨b,arr,T,fz,hx,hh,hf,hl,hc⟩:=r;exact⟨b,arr,T,fz,hx,hh,hf,hl,(by grind[All2.map_l,RdC.emb])⟩
 |lst rows s=>
  obtain⟨a,cap,hx,hcap,hs,hu,hok⟩:=r
  refine⟨a,cap,by grind,by grind,hs,fun r hr=> ?_,fun h0=> ?_⟩
  .grind
  grind[All2.map_l,RdC.emb]
 |app n s=>exact r
 |dead=>trivial
 |mp kvs borns clk=>obtain⟨b,es,hx,hh,hl,hc,hb⟩:=r;exact⟨b,es,hx,hh,hl,(by grind[All2.map_l,RdA.emb]),hb⟩
 |it m since seen last=>
  obtain⟨b,mo,hx,hh,hl,hc⟩:=r
  refine⟨b,mo,hx,hh,hl, ?_⟩
  cases m with
  |none=>exact hc
  |some id=>obtain⟨q,hq,hm⟩:=hc;exact⟨q,h.val _ _ hq,hm⟩
theorem ObOk.bak (h:Bak ρ σ β σc βc) {o:Ob} (r:ObOk w L σc βc (yS ρ o) x):ObOk w L σ β o x:=by
 cases o with
 |box cells=>obtain⟨b,arr,T,fz,hx,hh,hf,hl,hc⟩:=r;exact⟨b,arr,T,fz,hx,hh,hf,hl,(by grind[All2.unmap_l,RdC.bak])⟩
 |lst rows s=>
  obtain⟨a,cap,hx,hcap,hs,hu,hok⟩:=r
  refine⟨a,cap,by grind,by grind,hs,fun r hr=> ?_,fun h0=> ?_⟩
  .simp_all
  grind[All2.unmap_l,RdC.bak]
 |app n s=>exact r
 |dead=>trivial
 |mp kvs borns clk=>obtain⟨b,es,hx,hh,hl,hc,hb⟩:=r;exact⟨b,es,hx,hh,hl,(by grind[All2.unmap_l,RdA.bak]),hb⟩
 |it m since seen last=>
  obtain⟨b,mo,hx,hh,hl,hc⟩:=r
  refine⟨b,mo,hx,hh,hl, ?_⟩
  cases m with
  |none=>exact hc
  |some id=>obtain⟨q,hq,hm⟩:=hc;exact⟨q,h.val _ _ hq,hm⟩
theorem zi1 (o:Ob) (x:Value):excl (yS ρ o) x=excl o x:=by
 cases o with
 |lst rows s=>cases x with
  |slice a n cap=>cases a<;>rfl
  |_=>rfl
 |_=>cases x<;>first|rfl|(rename_i q;cases q<;>rfl)
end
variable {σ:St}{P:Program}
def zk0 (σ:St) (β:List Value):List Nat:=(σ.zip β).filterMap fun p=>excl p.1 p.2
theorem mem_blocksOf {β:List Value} {b:Nat}:b∈zk0 σ β↔ ∃(i:Nat) (o:Ob) (x:Value),σ[i]? =some o/\β[i]? =some x/\excl o x=some b:=by
 unfold zk0
 rw[List.mem_filterMap]
 constructor
 .rintro⟨⟨o,x⟩,hm,he⟩
  obtain⟨i,hi⟩:=Av.1 hm
  grind[List.getElem?_zip_eq_some]
 .rintro⟨i,o,x,h1,h2,h3⟩
  exact⟨(o,x),Av.2 ⟨i,by grind⟩,h3⟩
def entry (w:World) (L:Nat->Nat) (σ:St) (β:List Value):Ctx:=⟨w,L,zk0 σ β,σ,β⟩
def ren (sel:List Nat) (N:Nat) (id:Nat):Nat:=if h:id<sel.length then sel[id]else N+(id - sel.length)
def VCalls (P:Program) (f:FuncId) (args:List V) (σ:St) (R:V->St->Prop):Prop:=
 ∀(w:World) (L:Nat->Nat) (β:List Value) (vals:List Value),Mem (entry w L σ β) w L σ β->All2 (RdS w L σ β) args vals->
  Calls P f vals.toArray w fun e w'=> ∃v r L' σ' β',e= .returned v/\R r σ'/\σ.length<=σ'.length/\Mem (entry w L σ β) w' L' σ' β'/\RdS w' L' σ' β' r v
theorem VCalls.mono {f:FuncId} {args:List V} {R R':V->St->Prop} (h:VCalls P f args σ R) (hR: ∀r σ',R r σ'->R' r σ'):VCalls P f args σ R':=
 fun w L β aa hm ha=>(h w L β aa hm ha).mono (by grind)
def VC (P:Program) (c:Ctx) (fv:V) (args:List V) (σ:St) (K:V->St->Prop):Prop:=
 ∃f caps,fv= .fn f caps/\(((∃fn,P.funcs[f]? =some fn/\(fn.name== "runtime.NumGoroutine")=false/\fn.body.isSome=true)/\
  ∀w L β vals,Mem c w L σ β->All2 (RdS w L σ β) (args++caps) vals->
   Calls P f vals.toArray w fun e w'=> ∃v r L' σ' β',e= .returned v/\K r σ'/\Mem c w' L' σ' β'/\Le w L w' L'/\Ext σ β σ' β'/\RdS w' L' σ' β' r v)∨
  ∀w L β vals,Mem c w L σ β->All2 (RdS w L σ β) (args++caps) vals->
   ∃v r w' L' σ' β',(callFunc f vals.toArray).run P w= .ok (.value v) w'/\K r σ'/\Mem c w' L' σ' β'/\Le w L w' L'/\Ext σ β σ' β'/\RdS w' L' σ' β' r v)
theorem VC.mono {c:Ctx} {fv:V} {az:List V} {K K':V->St->Prop} (h:VC P c fv az σ K) (hk: ∀v s,K v s->K' v s):VC P c fv az σ K':=by
 obtain⟨f,caps,h1,⟨h2,h3⟩|h3⟩:=h
 .refine⟨f,caps,h1,.inl ⟨h2,fun w L β aa hm ha=>(h3 w L β aa hm ha).mono ?_⟩⟩
  grind
 .refine⟨f,caps,h1,.inr fun w L β aa hm ha=> ?_⟩
  grind
def wL (P:Program) (f:FuncId):Bool:=match P.funcs[f]? with|some fn=> !(fn.name== "runtime.NumGoroutine")&&fn.body.isSome|none=>false
theorem zD7 {f:FuncId} (h:wL P f=true): ∃fn,P.funcs[f]? =some fn/\(fn.name== "runtime.NumGoroutine")=false/\fn.body.isSome=true:=by
 unfold wL at h
 grind
def argC (ρ:Nat->Nat) (a' a:V):Prop:=a=renC ρ a'∨ ∃g rows,a'= .sl .ro rows/\a= .sl g rows
def argA (ρ:Nat->Nat) (a' a:V):Prop:=a=renA ρ a'∨(∃g rows,a'= .sl .ro rows/\a= .sl g rows)∨ ∃cs' cs,a'= .agg cs'/\a= .agg cs/\All2 (argC ρ) cs' cs
def argS (ρ:Nat->Nat) (a' a:V):Prop:=a=renS ρ a'∨a'= .u∨(∃g rows,a'= .sl .ro rows/\a= .sl g rows)∨(∃cs' cs,a'= .agg cs'/\a= .agg cs/\All2 (argC ρ) cs' cs)∨ ∃vs' vs,a'= .tup vs'/\a= .tup vs/\All2 (argA ρ) vs' vs
def mset {α:Type}:List Nat->List α->List α->List α
 |i::sel,l,x::xs=>mset sel (l.set i x) xs
 |_,l,_=>l
theorem zb1 {α:Type}: ∀(sel:List Nat) (l xs:List α),(mset sel l xs).length=l.length
 | [],_,_=>by rfl
 |i::sel,l,[]=>by rfl
 |i::sel,l,x::xs=>by simp[mset,zb1 sel]
theorem zk7 {α:Type}: ∀(sel:List Nat) (l xs:List α) (j:Nat),j∉sel->(mset sel l xs)[j]? =l[j]?
 | [],_,_,_,_=>by rfl
 |i::sel,l,[],_,_=>by rfl
 |i::sel,l,x::xs,j,h=>by
  simp only[Af,not_or]at h
  rw[mset,zk7 sel _ xs j h.2,Dc (fun q=>h.1 q.symm)]
theorem yd0 {α:Type}: ∀(sel:List Nat) (l xs:List α) (i j:Nat),sel.Nodup->(∀q∈sel,q<l.length)->sel.length<=xs.length->sel[i]? =some j->(mset sel l xs)[j]? =xs[i]?
 | [],_,_,_,_,_,_,_,h=>by grind
 |i0::sel,l,[],_,_,_,_,hl,_=>by grind
 |i0::sel,l,x::xs,0,j,hn,aa,hl,h=>by
  simp at h
  subst h
  rw[Bw]at hn
  rw[mset,zk7 sel _ xs i0 hn.1,Bd (aa i0 sM)]
  rfl
 |i0::sel,l,x::xs,i+1,j,hn,aa,hl,h=>by
  rw[Bw]at hn
  rw[mset,yd0 sel _ xs i j hn.2 (fun q hq=>by simp;exact aa q (by simp[hq])) (sU hl) (sU h)]
  simp
def xX (sel:List Nat) (σc σ':St):St:=mset sel σc ((σ'.take sel.length).map (yS (ren sel σc.length)))++(σ'.drop sel.length).map (yS (ren sel σc.length))
def zw1 (sel:List Nat) (βc β':List Value):List Value:=mset sel βc (β'.take sel.length)++β'.drop sel.length
section
variable {P:Program} {c:Ctx}
variable {sel:List Nat}{i:Nat}
theorem wT {N:Nat} (h:i<sel.length):ren sel N i=sel[i]:=by grind[ren]
theorem zs5 {N:Nat} (h: ¬i<sel.length):ren sel N i=N+(i - sel.length):=by grind[ren]
theorem zu8 {σc σ':St} (hn:sel.Nodup) (aa: ∀q∈sel,q<σc.length) (hl:sel.length<=σ'.length) {o:Ob} (h:σ'[i]? =some o):
  (xX sel σc σ')[ren sel σc.length i]? =some (yS (ren sel σc.length) o):=by
 unfold xX
 by_cases hi:i<sel.length
 .rw[wT hi,Az (by rw[zb1];exact aa _ (Ab hi)),
   yd0 sel _ _ i _ hn aa (by simp;omega) (A0 hi),B6,Aw,if_pos hi,h]
  rfl
 .rw[zs5 hi,B8 (by rw[zb1];omega),zb1,B6,Bt,show sel.length+(σc.length+(i - sel.length) - σc.length)=i by omega,h]
  rfl
theorem yk1 {βc β':List Value} (hn:sel.Nodup) (aa: ∀q∈sel,q<βc.length) (hl:sel.length<=β'.length) {x:Value} (h:β'[i]? =some x):
  (zw1 sel βc β')[ren sel βc.length i]? =some x:=by
 unfold zw1
 by_cases hi:i<sel.length
 .rw[wT hi,Az (by rw[zb1];exact aa _ (Ab hi)),
   yd0 sel _ _ i _ hn aa (by simp;omega) (A0 hi),Aw,if_pos hi,h]
 grind[zs5,zb1]
theorem xn7 {sel:List Nat} {σc σ':St} {βc β':List Value} (hn:sel.Nodup) (aa: ∀q∈sel,q<σc.length) (ad:βc.length=σc.length) (ae:β'.length=σ'.length) (hl:sel.length<=σ'.length) {j:Nat} {o:Ob} {x:Value}
  (h1:(xX sel σc σ')[j]? =some o) (h2:(zw1 sel βc β')[j]? =some x):
  (∃(i:Nat) (o':Ob),j=ren sel σc.length i/\σ'[i]? =some o'/\o=yS (ren sel σc.length) o'/\β'[i]? =some x)∨(j∉sel/\j<σc.length/\σc[j]? =some o/\βc[j]? =some x):=by
 have ab: ∀q∈sel,q<βc.length:=by grind
 by_cases hj:j<σc.length
 .by_cases hm:j∈sel
  .obtain⟨i,hi⟩:=Av.1 hm
   obtain⟨af,ag⟩:=A6.1 hi
   have e1:=zu8 hn aa hl (A0 (show i<σ'.length by omega))
   grind[yk1,wT]
  grind[xX,zw1,zb1,zk7]
 grind[xX,zw1,zb1,zs5]
theorem zO1 {α β γ:Type} {A:α->β->Prop} {B:β->γ->Prop} {C:α->γ->Prop} (h: ∀a b c,A a b->B b c->C a c): ∀{l:List α} {m:List β} {n:List γ},All2 A l m->All2 B m n->All2 C l n
 | [],[],[],_,_=>trivial
 |_::_,_::_,_::_,p,q=>⟨h _ _ _ p.1 q.1,zO1 h p.2 q.2⟩
 | [],_::_,_,p,_=>p.elim
 |_::_,[],_,p,_=>p.elim
 | [],[],_::_,_,q=>q.elim
 |_::_,_::_,[],_,q=>q.elim
section
variable {ρ:Nat->Nat} {w:World} {L:Nat->Nat} {σ σc:St} {β βc:List Value}
variable {a':V}{a:V}{x:Value}
theorem xK0 (h:Bak ρ σ β σc βc) (ha:argC ρ a' a) (r:RdC w L σc βc a x):RdC w L σ β a' x:=by
 rcases ha with rfl|⟨g,rows,rfl,rfl⟩
 .exact r.bak h
 .exact zw9 (by simpa)
theorem xa2 (h:Bak ρ σ β σc βc) (ha:argA ρ a' a) (r:RdA w L σc βc a x):RdA w L σ β a' x:=by
 rcases ha with rfl|⟨g,rows,rfl,rfl⟩|⟨ab,cs,rfl,rfl,aa⟩
 .exact r.bak h
 .exact zw9 (RdS.of_a r)
 .obtain⟨xs,hx,hr⟩:=r
  exact⟨xs,hx,(by grind[zO1,xK0])⟩
theorem zx9 (h:Bak ρ σ β σc βc) (ha:argS ρ a' a) (r:RdS w L σc βc a x):RdS w L σ β a' x:=by
 rcases ha with rfl|rfl|⟨g,rows,rfl,rfl⟩|⟨ab,cs,rfl,rfl,aa⟩|⟨vs',vs,rfl,rfl,aa⟩
 .exact r.bak h
 .trivial
 .exact zw9 r
 .exact RdS.of_a (xa2 h (.inr (.inr ⟨ab,cs,rfl,rfl,aa⟩)) r)
 .obtain⟨xs,hx,hr⟩:=r
  exact⟨xs,hx,(by grind[zO1,xa2])⟩
end
theorem VC.of {f:FuncId} {caps args args':List V} {σc σin:St} {R:V->St->Prop} {K:V->St->Prop} (hc:VCalls P f args' σin R) (hb:wL P f=true) (sel:List Nat) (al:sel.Nodup) (hlen:σin.length=sel.length)
  (a8: ∀(i j:Nat) (o:Ob),sel[i]? =some j->σin[i]? =some o->σc[j]? =some (yS (ren sel σc.length) o)) (ai:All2 (argS (ren sel σc.length)) args' (args++caps))
  (hk: ∀r σ',R r σ'->sel.length<=σ'.length->K (renS (ren sel σc.length) r) (xX sel σc σ')):VC P c (.fn f caps) args σc K:=by
 refine⟨f,caps,rfl,.inl ⟨zD7 hb,fun w L βc af hm hv=> ?_⟩⟩
 have ag: ∀q∈sel,q<σc.length:=fun q hq=>by
  obtain⟨i,hi⟩:=Av.1 hq
  have ak:=(A6.1 hi).1
  have:=a8 i q _ hi (A0 (show i<σin.length by omega))
  grind
 let βin:=sel.map fun q=>βc.getD q undef
 have an: ∀(i j:Nat),sel[i]? =some j->βin[i]? =βc[j]? :=fun i j hi=>by
  simp only[βin,B6,hi,Bg]
  have hj:=ag j (by grind)
  rw[A8,A0 (by rw[hm.len];exact hj)]
  rfl
 have aj: ∀(id:Nat) O,σc[ren sel σc.length id]? =some O-> ∃o,σin[id]? =some o/\O=yS (ren sel σc.length) o:=(by grind[wT,zs5])
 have ah:Bak (ren sel σc.length) σin βin σc βc:=by
  refine⟨fun id x hx=> ?_,fun id n s hx=> ?_,fun id rows s hx=> ?_,fun id hx=> ?_⟩
  .by_cases hi:id<sel.length
   .grind[wT]
   .rw[zs5 hi]at hx
    have:=(A6.1 hx).1
    rw[hm.len]at this;omega
  .obtain⟨o,ho,he⟩:=aj id _ hx
   cases o<;>grind[yS]
  .obtain⟨o,ho,he⟩:=aj id _ hx
   cases o<;>grind[yS]
  .obtain⟨o,ho,he⟩:=aj id _ hx
   cases o with
   |dead=>exact ho
   |_=>simp[yS]at he
 have ae: ∀(i:Nat) (o:Ob) (x:Value),σin[i]? =some o->βin[i]? =some x-> ∃j,sel[i]? =some j/\σc[j]? =some (yS (ren sel σc.length) o)/\βc[j]? =some x:=by
  grind
 have aA:Mem (entry w L σin βin) w L σin βin:=by
  refine⟨by grind,fun i o x ho hx=> ?_,fun i j o o' x x' b a7 ho hx av aw he=> ?_,fun i o x b ho hx he=> ?_,fun b _ _=>(by trivial),Le.refl _ _,A4 _,rfl,rfl,rfl,A4 _,hm.lim,Ext.refl _ _,hm.tab.mono hm.le⟩
  .obtain⟨j,hj,h1,h2⟩:=ae i o x ho hx
   exact(hm.objs j _ x h1 h2).bak ah
  .obtain⟨p,hp,h1,h2⟩:=ae i o x ho hx
   obtain⟨q,hq,h3,h4⟩:=ae j o' x' av aw
   have aB:p≠q:=(by grind[Dh])
   have:=hm.apart p q _ _ x x' b aB h1 h2 h3 h4 (by grind[zi1])
   grind[zi1]
  .exact .inr (mem_blocksOf.2 (by grind))
 have aC:All2 (RdS w L σin βin) args' af:=by
  clear hk hc
  generalize args++caps=az at hv ai
  induction args' generalizing az af with
  |nil=>cases az with
   |nil=>cases af<;>simpa
   |cons _ _=>trivial
  |cons p args' ih=>cases az with
   |nil=>trivial
   |cons q az=>cases af with
    |nil=>simpa
    |cons y ys=>exact⟨zx9 ah ai.1 hv.1,ih _ _ hv.2 ai.2⟩
 refine(hc w L βin af aA aC).mono fun e w' ⟨v,r,L',σ',β',he,hR,aH,aa,aD⟩=> ?_
 have ax:sel.length<=σ'.length:=om
 have aE: ∀q∈sel,q<βc.length:=by rw[hm.len];omega
 have ad:Emb (ren sel σc.length) σ' β' (xX sel σc σ') (zw1 sel βc β'):=by
  refine⟨fun id x hx=> ?_,fun id n s hx=>zu8 al ag ax hx,fun id rows s hx=>⟨_,zu8 al ag ax hx,sM⟩,fun id hx=>zu8 al ag ax hx⟩
  have:=yk1 al aE (by rw[aa.len];omega) hx
  rw[hm.len]at this;omega
 have ao: ∀(j:Nat) (o:Ob) (x:Value) (b:Nat),j∉sel->σc[j]? =some o->βc[j]? =some x->excl o x=some b->b∉zk0 σin βin:=by
  intro j o x b hj ho hx he hb
  obtain⟨i,o',x',h1,h2,h3⟩:=mem_blocksOf.1 hb
  obtain⟨p,hp,h4,h5⟩:=ae i o' x' h1 h2
  have aF:j≠p:=(by grind)
  exact hm.apart j p o _ x x' b aF ho hx h4 h5 he (by grind[zi1])
 have ay: ∀b,b∈zk0 σin βin->c.w0.heap.size<=b∨b∈c.X0:=by
  intro b hb
  obtain⟨i,o',x',h1,h2,h3⟩:=mem_blocksOf.1 hb
  obtain⟨p,hp,h4,h5⟩:=ae i o' x' h1 h2
  exact hm.mine p _ x' b h4 h5 (by grind[zi1])
 have aq:Ext σc βc (xX sel σc σ') (zw1 sel βc β'):=by
  refine⟨fun id a ha=> ?_,fun id n s ha=> ?_,fun id rows s ha=> ?_,fun id ha=> ?_⟩
  .have ar:id<βc.length:=(by grind)
   by_cases hs:id∈sel
   .obtain⟨i,hi⟩:=Av.1 hs
    have h1:=an i id hi
    rw[ha]at h1
    have h2:=aa.ext.ptr i a h1
    have h3:=ad.val i _ h2
    grind[wT]
   grind[zw1,zb1,zk7]
  .have ar:id<σc.length:=(by grind)
   by_cases hs:id∈sel
   .obtain⟨i,hi⟩:=Av.1 hs
    obtain⟨ak,au⟩:=A6.1 hi
    have h1:=ah.app i n s (by grind[wT])
    obtain⟨n',h2,h3,h4⟩:=aa.ext.app i n s h1
    have h5:=ad.app i n' s h2
    rw[wT ak,au]at h5
    refine⟨n',h5,h3,fun e=> ?_⟩
    have h6:=h4 e
    rw[show(entry w L σin βin).β0=βin from rfl,an i id hi]at h6
    have a1:i<β'.length:=by grind
    have h7:=ad.val i _ (A0 a1)
    grind[wT]
   .refine⟨n, ?_,om,fun _=> ?_⟩
    .grind[xX,zb1,zk7]
    .unfold zw1
     rw[Az (by rw[zb1,hm.len];omega),zk7 _ _ _ _ hs]
  .have ar:id<σc.length:=(by grind)
   by_cases hs:id∈sel
   .obtain⟨i,hi⟩:=Av.1 hs
    obtain⟨ak,au⟩:=A6.1 hi
    obtain⟨r0,h1,l1⟩:=ah.lst i rows s (by grind[wT])
    rcases aa.ext.lst i r0 s h1 with h2|⟨r2,h2,h3,h4⟩
    .have h5:=ad.dead i h2
     grind[wT]
    .obtain⟨r3,h5,l5⟩:=ad.lst i r2 s h2
     rw[wT ak,au]at h5
     refine .inr ⟨r3,h5,om,fun e=> ?_⟩
     have h6:=h4 om
     rw[show(entry w L σin βin).β0=βin from rfl,an i id hi]at h6
     have a1:i<β'.length:=by grind
     have h7:=ad.val i _ (A0 a1)
     rw[wT ak,au]at h7
     grind
   .refine .inr ⟨rows, ?_,om,fun _=> ?_⟩
    .grind[xX,zb1,zk7]
    .unfold zw1
     rw[Az (by rw[zb1,hm.len];omega),zk7 _ _ _ _ hs]
  .have ar:id<σc.length:=(by grind)
   by_cases hs:id∈sel
   .obtain⟨i,hi⟩:=Av.1 hs
    obtain⟨ak,au⟩:=A6.1 hi
    have h1:=ah.dead i (by grind[wT])
    have h5:=ad.dead i (aa.ext.dead i h1)
    grind[wT]
   grind[xX,zb1,zk7]
 have hinv:= @xn7 sel σc σ' βc β' al ag hm.len aa.len ax
 refine⟨v,renS (ren sel σc.length) r,L',_,_,he,(by grind), ?_,aa.le,aq,aD.emb ad⟩
 refine⟨?_,fun j o x ho hx=> ?_,fun j j' o o' x x' b a7 ho hx av aw ab=> ?_,fun j o x b ho hx ab=> ?_,fun b ab hx=> ?_,hm.le.trans aa.le,B3 hm.size aa.size,aa.os.trans hm.os,aa.tape.trans hm.tape,aa.output.trans hm.output,B3 hm.drawn aa.drawn,aa.lim,hm.ext.trans aq,hm.tab⟩
 .simp[xX,zw1,zb1,hm.len,aa.len]
 .rcases hinv ho hx with ⟨i,o',rfl,h1,rfl,h2⟩|⟨h0,a6,h1,h2⟩
  .exact(aa.objs i o' x h1 h2).emb ad
  .refine(hm.objs j o x h1 h2).step aa.le aq fun b ab=>aa.same b ?_ (ao j o x b h0 h1 h2 ab)
   exact(hm.objs j o x h1 h2).excl_lt ab
 .rcases hinv ho hx with ⟨i,o1,rfl,h1,rfl,h2⟩|⟨h0,a6,h1,h2⟩
  .rw[zi1]at ab
   rcases hinv av aw with ⟨i',o2,rfl,h3,rfl,h4⟩|⟨h0,a6,h3,h4⟩
   .rw[zi1]
    exact aa.apart i i' o1 o2 x x' b (by grind) h1 h2 h3 h4 ab
   .intro q
    rcases aa.mine i o1 x b h1 h2 ab with h5|h5
    .have:=(hm.objs j' o' x' h3 h4).excl_lt q
     have h6:w.heap.size<=b:=h5
     omega
    .exact ao j' o' x' b h0 h3 h4 q h5
  .rcases hinv av aw with ⟨i',o2,rfl,h3,rfl,h4⟩|⟨aJ,aI,h3,h4⟩
   .rw[zi1]
    intro q
    rcases aa.mine i' o2 x' b h3 h4 q with h5|h5
    .have:=(hm.objs j o x h1 h2).excl_lt ab
     have h6:w.heap.size<=b:=h5
     omega
    .exact ao j o x b h0 h1 h2 ab h5
   .exact hm.apart j j' o o' x x' b a7 h1 h2 h3 h4 ab
 .rcases hinv ho hx with ⟨i,o1,rfl,h1,rfl,h2⟩|⟨h0,a6,h1,h2⟩
  .rw[zi1]at ab
   rcases aa.mine i o1 x b h1 h2 ab with h5|h5
   .exact .inl (B3 hm.size h5)
   .exact ay b h5
  .exact hm.mine j o x b h1 h2 ab
 .have aG:b∉zk0 σin βin:=(by grind)
  obtain⟨e1,e2⟩:=aa.same b (Dj ab hm.size) aG
  obtain⟨e3,e4⟩:=hm.same b ab hx
  exact⟨e1.trans e3,e2.trans e4⟩
structure Picks (n0:Nat) (pick:List Nat) (σ σ':St):Prop where
 len:σ'.length=pick.length
 nodup:pick.Nodup
 ob: ∀(i j:Nat) (o:Ob),pick[i]? =some j->σ'[i]? =some o->σ[j]? =some (yS (ren pick σ.length) o)
 id: ∀i,i<n0->pick[i]? =some i
theorem Picks.back {n0:Nat} {pick:List Nat} {σ σ':St} (h:Picks n0 pick σ σ') (id:Nat) (O:Ob) (hx:σ[ren pick σ.length id]? =some O): ∃o,σ'[id]? =some o/\O=yS (ren pick σ.length) o:=by
 by_cases hi:id<pick.length
 .rw[wT hi]at hx
  have hq:=A0 (show id<σ'.length by rw[h.len];exact hi)
  have:=h.ob id _ _ (A0 hi) hq
  grind
 grind[zs5]
theorem Picks.bak {n0:Nat} {pick:List Nat} {σ σ':St} {β:List Value} (h:Picks n0 pick σ σ') (hl:β.length=σ.length):Bak (ren pick σ.length) σ' (pick.map fun q=>β.getD q undef) σ β:=by
 refine⟨fun id x hx=> ?_,fun id n s hx=> ?_,fun id rows s hx=> ?_,fun id hx=> ?_⟩
 .grind[wT,zs5]
 .obtain⟨o,ho,he⟩:=h.back id _ hx
  cases o<;>grind[yS]
 .obtain⟨o,ho,he⟩:=h.back id _ hx
  cases o<;>grind[yS]
 .obtain⟨o,ho,he⟩:=h.back id _ hx
  cases o with
  |dead=>exact ho
  |_=>simp[yS]at he
theorem Mem.pick {w:World} {L:Nat->Nat} {σ σ':St} {β:List Value} {pick:List Nat} (h:Mem c w L σ β) (hp:Picks c.σ0.length pick σ σ') (hc:c.β0.length=c.σ0.length):Mem c w L σ' (pick.map fun q=>β.getD q undef):=by
 have ab:=hp.bak h.len
 have aa: ∀(i:Nat) (o:Ob) (x:Value),σ'[i]? =some o->(pick.map fun q=>β.getD q undef)[i]? =some x-> ∃j,pick[i]? =some j/\σ[j]? =some (yS (ren pick σ.length) o)/\β[j]? =some x:=by
  intro i o x ho hx
  have hi:i<pick.length:=by grind
  have hs:=A0 hi
  have h1:=hp.ob i _ o hs ho
  refine⟨_,hs,h1, ?_⟩
  have al:pick[i]<β.length:=by rw[h.len];grind
  grind
 refine⟨by simp[hp.len],fun i o x ho hx=> ?_,fun i j o o' x x' b ah ho hx ai aj he=> ?_,fun i o x b ho hx he=> ?_,h.same,h.le,h.size,h.os,h.tape,h.output,h.drawn,h.lim, ?_,h.tab⟩
 .obtain⟨j,hj,h1,h2⟩:=aa i o x ho hx
  exact(h.objs j _ x h1 h2).bak ab
 .obtain⟨p,ag,h1,h2⟩:=aa i o x ho hx
  obtain⟨q,hq,h3,h4⟩:=aa j o' x' ai aj
  have ak:p≠q:=fun e=>by
   subst e
   obtain⟨hi,e1⟩:=A6.1 ag
   obtain⟨hj,e2⟩:=A6.1 hq
   exact ah ((Dh hp.nodup).1 om)
  have:=h.apart p q _ _ x x' b ak h1 h2 h3 h4 (by grind[zi1])
  grind[zi1]
 .obtain⟨p,ag,h1,h2⟩:=aa i o x ho hx
  exact h.mine p _ x b h1 h2 (by grind[zi1])
 .refine⟨fun id a ha=> ?_,fun id n s ha=> ?_,fun id rows s ha=> ?_,fun id ha=> ?_⟩
  .have hid:id<c.σ0.length:=by grind
   have h1:=h.ext.ptr id a ha
   rw[B6,hp.id id hid]
   grind
  .have hid:id<c.σ0.length:=(by grind)
   obtain⟨n',h1,h2,h3⟩:=h.ext.app id n s ha
   have ad:=hp.id id hid
   obtain⟨ae,af⟩:=A6.1 ad
   refine⟨n',ab.app id n' s (by grind[wT]),h2,fun e=> ?_⟩
   grind
  .have hid:id<c.σ0.length:=(by grind)
   have ad:=hp.id id hid
   obtain⟨ae,af⟩:=A6.1 ad
   rcases h.ext.lst id rows s ha with h1|⟨r2,h1,h2,h3⟩
   .exact .inl (ab.dead id (by grind[wT]))
   .obtain⟨r3,h5,l5⟩:=ab.lst id r2 s (by grind[wT])
    grind
  .have hid:id<c.σ0.length:=(by grind)
   have ad:=hp.id id hid
   obtain⟨ae,af⟩:=A6.1 ad
   exact ab.dead id (by rw[wT ae,af];exact h.ext.dead id ha)
end
def frzK (id:Nat) (rows:List (List V)):V->V
 | .lsv i s n lo m=>if i=id/\n=rows.length/\lo+m<=n then .sl .ro (zb7 rows lo m)else .lsv i s n lo m
 |v=>v
def frzC (id:Nat) (rows:List (List V)):V->V
 | .fn f caps=> .fn f (caps.map (frzK id rows))
 | .ifc t vs=> .ifc t (vs.map (frzK id rows))
 |v=>frzK id rows v
def frzA (id:Nat) (rows:List (List V)):V->V
 | .agg cs=> .agg (cs.map (frzC id rows))
 |v=>frzC id rows v
def frzS (id:Nat) (rows:List (List V)):V->V
 | .tup vs=> .tup (vs.map (frzA id rows))
 |v=>frzA id rows v
def zR5 (id:Nat) (rows:List (List V)):Ob->Ob
 | .box cells=> .box (cells.map (frzC id rows))
 | .lst rs s=> .lst (rs.map fun r=>r.map (frzC id rows)) s
 | .mp kvs borns clk=> .mp (kvs.map (frzA id rows)) borns clk
 |o=>o
def zm9 (id:Nat) (rows:List (List V)) (σ:St):St:=(σ.set id .dead).map (zR5 id rows)
structure Like (σ σ':St):Prop where
 app: ∀(id:Nat) n s,σ[id]? =some (.app n s)->σ'[id]? =some (.app n s)
 lst: ∀(id:Nat) rows s,σ[id]? =some (.lst rows s)-> ∃rows',σ'[id]? =some (.lst rows' s)/\rows'.length=rows.length
 dead: ∀(id:Nat),σ[id]? =some .dead->σ'[id]? =some .dead
section
variable {w:World} {L:Nat->Nat} {σ σ':St} {β:List Value}
theorem RdK.like (h:Like σ σ') {v:V} {x:Value} (r:RdK w L σ β v x):RdK w L σ' β v x:=by
 cases v with
 |sl g rows=>cases g with
  |app id=>obtain⟨hr,n,s,hσ,hle,hβ,hl⟩:=r;exact⟨hr,n,s,h.app _ _ _ hσ,hle,hβ,hl⟩
  |ro=>exact r
  |full=>exact r
 |lsv id s n lo m=>
  obtain⟨a,cap,hx,hm,ha,hc⟩:=r
  refine⟨a,cap,hx,hm,ha, ?_⟩
  rcases hc with hd|⟨rows,hσ,hn,hb⟩
  .exact .inl (h.dead id hd)
  .obtain⟨r2,e2,l2⟩:=h.lst id rows s hσ
   grind
 |lsp id s n i j=>
  obtain⟨b,o,hx,hc⟩:=r
  refine⟨b,o,hx, ?_⟩
  rcases hc with hd|⟨rows,hσ,hn,hb⟩
  .exact .inl (h.dead id hd)
  .obtain⟨r2,e2,l2⟩:=h.lst id rows s hσ
   grind
 |_=>exact r
theorem Like.frz {id:Nat} {rows:List (List V)} (σ:St):Like σ (σ.map (zR5 id rows)):=by
 refine⟨fun i n s h=> ?_,fun i rs s h=>⟨_,by rw[B6,h];rfl,sM⟩,fun i h=> ?_⟩
 .rw[B6,h];rfl
 .rw[B6,h];rfl
theorem xZ0 {c:Ctx} {L':Nat->Nat} {id s n lo m:Nat} {rows:List (List V)} {x:Value} (hm:Mem c w L σ β) (hσ:σ[id]? =some (.lst rows s)) (hp:wE rows=true) (hL: ∀b n' cap,β[id]? =some (.slice (some ⟨b,0,none⟩) n' cap)->0<cap->rows.length*s<=L' b)
  (hle:Le w L w L') (r:RdK w L σ β (.lsv id s n lo m) x) (hn:n=rows.length) (av:lo+m<=n):RdP w L' (.sl .ro (zb7 rows lo m)) x:=by
 obtain⟨a,cap,rfl,aw,ab,hc⟩:=r
 have aj:(zb7 rows lo m).length=m:=by grind[zb7]
 by_cases h0:m=0
 .subst h0
  have:zb7 rows lo 0= []:=by rfl
  rw[this]
  exact .sl0 _ _ _ sM sM
 rcases hc with hd|⟨rows2,ad,ax,hb⟩
 .grind
 .rw[hσ]at ad;cases ad
  obtain⟨b0,c0,hβ,hcap,ay,aa⟩:=hb hn
  clear hb ab
  have az:0<m:=om
  have ak:lo<c0:=om
  obtain⟨k0,rfl,rfl⟩:=aa ak
  clear aa
  have ae:0<c0:=om
  have a1:=hL _ _ _ hβ ae
  obtain⟨a2,ar,e1,au,af,al,hok⟩:=hm.objs id _ _ hσ hβ
  cases e1
  obtain⟨b',arr,T,fz,e2,hh,_,a6,_,ag⟩:=hok ae
  cases e2
  clear hok
  have hu:uni s (zb7 rows lo m):=fun q hq=>by
   obtain⟨q0,a7,rfl⟩:=Ad.1 hq
   grind
  have an:=yA hu
  rw[aj]at an
  have ao:(lo+m)*s<=rows.length*s:=Ah _ om
  rw[B2]at ao
  have key:RdP w L' (.sl .ro (zb7 rows lo m)) (.slice (some ⟨k0,lo*s,none⟩) (zb7 rows lo m).length cap):=by
   refine .of_flat af hu (by grind) om sM sM fun k v hk=> ?_
   have a8:k<m*s:=by grind
   have hi:k/s<m:=by simp_all[Bz]
   have hj:k%s<s:=Cn _ af
   have aq:k=k/s*s+k%s:=by grind[Cz]
   rw[aq,yN _ _ hu hj]at hk
   simp only[zb7,B6,Aw,if_pos hi,Bt]at hk
   have ah:lo+k/s<rows.length:=om
   rw[A0 ah]at hk
   simp only[Bg,Ar,B6,Ao]at hk
   obtain⟨v0,aA,rfl⟩:=hk
   have hf:rows.flatten[(lo+k/s)*s+k%s]? =some v0:=by
    rw[yN _ _ al hj,A0 ah];grind
   obtain⟨z,hz,rz⟩:=ag.get _ _ hf
   have ai:(lo+k/s)*s+k%s=lo*s+k:=by grind
   rw[ai,Aw,if_pos om,Aq]at hz
   refine⟨z,by simp only[World.cell?,hh];grind, ?_⟩
   refine(RdC.dem rz ?_).mono hle
   unfold wE at hp
   grind
  grind
def frzL (β:List Value) (id k:Nat) (L:Nat->Nat):Nat->Nat:=
 match β[id]? with
 |some (.slice (some a) _ cap)=>if 0<cap then xC L a.block k else L
 |_=>L
theorem xc4 {c:Ctx} {id s:Nat} {rows:List (List V)} (hm:Mem c w L σ β) (hσ:σ[id]? =some (.lst rows s)) (hp:wE rows=true):
  Mem c w (frzL β id (rows.length*s) L) (zm9 id rows σ) β/\Le w L w (frzL β id (rows.length*s) L)/\Ext σ β (zm9 id rows σ) β/\(∀v x,RdS w L σ β v x->RdS w (frzL β id (rows.length*s) L) (zm9 id rows σ) β (frzS id rows v) x):=by
 have ao:id<σ.length:=(by grind)
 obtain⟨x0,hβ⟩: ∃x0,β[id]? =some x0:=⟨_,A0 (by rw[hm.len];exact ao)⟩
 obtain⟨a,cap,rfl,hcap,hs,aB,hok⟩:=hm.objs id _ _ hσ hβ
 have aC:rows.length*s<=cap*s:=Ah _ hcap
 have hle:Le w L w (frzL β id (rows.length*s) L):=by
  refine⟨fun b=> ?_,sM⟩
  unfold frzL
  rw[hβ]
  cases a with
  |none=>simp
  |some a=>
   by_cases h0:0<cap
   .obtain⟨b',arr,T,fz,e,hh,hf,ah,hl,a8⟩:=hok h0
    cases e
    simp only[h0,if_true,xC]
    grind
   grind
 have ad:Ext σ β (σ.set id .dead) β:=by
  refine⟨sM,(by grind),(by grind),(by grind)⟩
  all_goals grind
 have ab:Like (σ.set id .dead) (zm9 id rows σ):=Like.frz _
 have ae:Ext (σ.set id .dead) β (zm9 id rows σ) β:=
  ⟨sM,fun i n s' h=>⟨n,ab.app i n s' h,om,fun _=>rfl⟩,fun i rs s' h=>by
   obtain⟨r2,h2,l2⟩:=ab.lst i rs s' h
   grind,fun i h=>ab.dead i h⟩
 have aq: ∀b n' aa,β[id]? =some (.slice (some ⟨b,0,none⟩) n' aa)->0<aa->rows.length*s<=frzL β id (rows.length*s) L b:=(by simp_all[frzL,xC])
 have al: ∀v x,RdK w L σ β v x->RdK w (frzL β id (rows.length*s) L) (zm9 id rows σ) β (frzK id rows v) x:=fun v x r=>by
  have ar:RdK w (frzL β id (rows.length*s) L) (zm9 id rows σ) β v x:=RdK.like ab (r.mono hle ad)
  cases v with
  |lsv i s' n lo m=>
   simp only[frzK]
   split
   .rename_i hc
    obtain⟨rfl,hn,au⟩:=hc
    have af:s'=s:=by
     obtain⟨_,_,_,_,_,hc⟩:=r
     grind
    subst af
    exact xZ0 hm hσ hp aq hle r hn au
   omega
  |_=>exact ar
 have av: ∀v x,RdC w L σ β v x->RdC w (frzL β id (rows.length*s) L) (zm9 id rows σ) β (frzC id rows v) x:=fun v x r=>by
  cases v with
  |fn f caps=>obtain⟨xs,hx,hc⟩:=r;exact⟨xs,hx,(by grind[All2.map_l])⟩
  |ifc t v=>obtain⟨y,hx,hc⟩:=r;exact⟨y,hx,(by grind[All2.map_l])⟩
  |lsv i s' n lo m=>
   have h2:=al (.lsv i s' n lo m) x r
   show RdC w _ _ β (frzK id rows (.lsv i s' n lo m)) x
   simp only[frzK]at h2⊢
   split
   .rename_i hc;rw[if_pos hc]at h2;exact h2
   .rename_i hc;rw[if_neg hc]at h2;exact h2
  |_=>simp only[RdC]at r;have h2:=al _ _ r;exact h2
 have aw: ∀v x,RdA w L σ β v x->RdA w (frzL β id (rows.length*s) L) (zm9 id rows σ) β (frzA id rows v) x:=fun v x r=>by
  cases v with
  |agg cs=>obtain⟨xs,hx,hc⟩:=r;exact⟨xs,hx,(by grind[All2.map_l])⟩
  |_=>simp only[RdA]at r;have h2:=av _ _ r;exact RdA.of_cell h2
 have ax: ∀v x,RdS w L σ β v x->RdS w (frzL β id (rows.length*s) L) (zm9 id rows σ) β (frzS id rows v) x:=fun v x r=>by
  cases v with
  |u=>trivial
  |tup vs=>obtain⟨xs,hx,hc⟩:=r;exact⟨xs,hx,(by grind[All2.map_l])⟩
  |_=>simp only[RdS]at r;have h2:=aw _ _ r;exact RdS.of_a h2
 refine⟨?_,hle,ad.trans ae,ax⟩
 have ai: ∀b,excl (.lst rows s) (.slice a rows.length cap)≠some b->frzL β id (rows.length*s) L b=L b:=fun b h=>by
  unfold frzL
  rw[hβ]
  cases a with
  |none=>rfl
  |some a=>
   by_cases h0:0<cap
   .simp_all[excl,xC];omega
   grind
 have aD: ∀i o x,i≠id->σ[i]? =some o->β[i]? =some x->ObOk w (frzL β id (rows.length*s) L) (zm9 id rows σ) β (zR5 id rows o) x:=fun i o x hi ho hx=>by
  have hr:=hm.objs i o x ho hx
  have aj: ∀b,excl o x=some b->frzL β id (rows.length*s) L b=L b:=fun b hb=>ai b fun q=>hm.apart i id o _ x _ b hi ho hx hσ hβ hb q
  cases o with
  |box cells=>
   obtain⟨b,arr,T,fz,rfl,hh,hf,hl,hc⟩:=hr
   exact⟨b,arr,T,fz,rfl,hh,hf,(aj b rfl).trans hl,(by grind[All2.map_l])⟩
  |app n s'=>
   obtain⟨a',aa,rfl,hn,af,ag⟩:=hr
   refine⟨a',aa,rfl,hn,af,fun ay=> ?_⟩
   obtain⟨b,o',arr,T,fz,rfl,hh,hf,ah,hl⟩:=ag ay
   exact⟨b,o',arr,T,fz,rfl,hh,hf,ah,(by grind[excl])⟩
  |lst rs s'=>
   obtain⟨a',aa,rfl,hn,af,aE,ag⟩:=hr
   refine⟨a',aa,sM,by grind,af,fun r hr=> ?_,fun h0=> ?_⟩
   .grind
   .obtain⟨b,arr,T,fz,rfl,hh,hf,ah,hl,hc⟩:=ag h0
    refine⟨b,arr,T,fz,rfl,hh,hf,ah,(by grind[excl]), ?_⟩
    grind[All2.map_l]
  |dead=>trivial
  |mp kvs borns clk=>
   obtain⟨b,es,rfl,hh,hl,hc,az⟩:=hr
   exact⟨b,es,rfl,hh,(aj b rfl).trans hl,(by grind[All2.map_l]),az⟩
  |it m since seen last=>
   obtain⟨b,mo,rfl,hh,hl,hc⟩:=hr
   exact⟨b,mo,rfl,hh,(aj b rfl).trans hl,hc⟩
 have inv: ∀i o,(zm9 id rows σ)[i]? =some o->(i=id/\o= .dead)∨(i≠id/\ ∃o',σ[i]? =some o'/\o=zR5 id rows o'):=fun i o h=>by
  unfold zm9 at h
  rw[B6,Ao]at h
  obtain⟨o',h1,rfl⟩:=h
  rcases zg0 h1 with ⟨rfl,rfl,_⟩|⟨ak,h2⟩
  .exact .inl (by trivial)
  grind
 have an: ∀o x,excl (zR5 id rows o) x=excl o x:=fun o x=>by
  cases o with
  |lst rs s'=>cases x with
   |slice a n cap=>cases a<;>rfl
   |_=>rfl
  |_=>cases x<;>first|rfl|(rename_i q;cases q<;>rfl)
 refine⟨by simp[zm9,hm.len],fun i o x ho hx=> ?_,fun i j o o' x x' b a1 ho hx a6 a7 hb=> ?_,fun i o x b ho hx hb=> ?_,fun b hb hx=> ?_,hm.le.trans hle,hm.size,hm.os,hm.tape,hm.output,hm.drawn,fun b hb=> ?_,hm.ext.trans (ad.trans ae),hm.tab⟩
 .rcases inv i o ho with ⟨_,rfl⟩|⟨ak,o',h2,rfl⟩
  .trivial
  grind
 .rcases inv i o ho with ⟨_,rfl⟩|⟨ak,o1,h2,rfl⟩
  .trivial
  .rcases inv j o' a6 with ⟨_,rfl⟩|⟨aA,o2,h3,rfl⟩
   .simp[excl]
   .rw[an]at hb⊢
    exact hm.apart i j o1 o2 x x' b a1 h2 hx h3 a7 hb
 .rcases inv i o ho with ⟨_,rfl⟩|⟨ak,o1,h2,rfl⟩
  .trivial
  .rw[an]at hb
   exact hm.mine i o1 x b h2 hx hb
 .obtain⟨e1,e2⟩:=hm.same b hb hx
  refine⟨e1, ?_⟩
  rw[ai b fun q=> ?_]
  .exact e2
  .rcases hm.mine id _ _ b hσ hβ q with h|h
   all_goals grind
 .rw[ai b fun q=> ?_]
  .exact hm.lim b hb
  .have:=(hm.objs id _ _ hσ hβ).excl_lt q
   omega
end
variable {c:Ctx}{w:World}{σ:St}{cells:List V}{L:Nat->Nat}{β:List Value}{off:Nat}
theorem xe7 {id s:Nat} (hm:Mem c w L σ β) (hs:0<s) (hσ:σ[id]? =some (.box cells)) (hc:cells[off]? =some (.sl .full [])):
  ∃x,Mem c w L (σ.set id (.box (cells.set off (.lsv σ.length s 0 0 0)))++ [.lst [] s]) (β++ [x])/\Ext σ β (σ.set id (.box (cells.set off (.lsv σ.length s 0 0 0)))++ [.lst [] s]) (β++ [x]):=by
 have ag:id<σ.length:=(by grind)
 obtain⟨x0,hβ⟩: ∃x0,β[id]? =some x0:=⟨_,A0 (by rw[hm.len];exact ag)⟩
 obtain⟨b,arr,T,fz,rfl,hh,hf,hl,ab⟩:=hm.objs id _ _ hσ hβ
 obtain⟨y,hy,ry⟩:=ab.get _ _ hc
 have al:RdP w L (.sl .full []) y:=ry
 obtain⟨a,cap,aj,_,hcap⟩:=al.len
 have ad:=hcap rfl
 simp only[Db]at ad aj
 subst ad
 have h1:=hm.lstNil (s:=s) (a:=a) hs
 have ae:=Ext.push σ β hm.len (.lst [] s) (.slice a 0 0)
 have ah:(σ++ [Ob.lst [] s])[id]? =some (.box cells):=by grind
 have ai:(β++ [Value.slice a 0 0])[id]? =some (.pointer (some ⟨b,0,none⟩)):=by grind
 have aa:Ext (σ++ [Ob.lst [] s]) (β++ [Value.slice a 0 0]) ((σ++ [Ob.lst [] s]).set id (.box (cells.set off (.lsv σ.length s 0 0 0)))) (β++ [Value.slice a 0 0]):=Ext.setBox ah _
 have af:=yI _ _ _ ai
 have key:=h1.upd (w':=w) (L':=L) id (.box (cells.set off (.lsv σ.length s 0 0 0))) (.pointer (some ⟨b,0,none⟩)) (Le.refl _ _) (by grind) (fun k=>k=b)
  (fun j o' x' k hj an ao hk e=>by subst e;exact h1.apart j id o' _ x' _ k hj an ao ah ai hk rfl)
  (fun k e=>by subst e;exact h1.mine id _ _ k ah ai rfl)
  sM rfl rfl rfl rfl h1.lim ?_ (fun k hk=>by simpa[excl]using hk.symm)
 .rw[af,Dr _ _ ag]at key
  rw[Dr _ _ ag]at aa
  exact⟨_,key,ae.trans aa⟩
 .rw[af]
  refine⟨b,arr,T,fz,rfl,hh,hf,hl, ?_⟩
  refine All2.of (by rw[List.length_set];exact ab.length) fun k p z hp hz=> ?_
  rcases zg0 hp with ⟨rfl,rfl,_⟩|⟨ar,aq⟩
  .rw[hy]at hz;cases hz
   rw[aj]
   refine⟨a,0,rfl,om,om,.inr ⟨[], ?_,om,fun _=>⟨a,0, ?_,rfl,om,om⟩⟩⟩
   .grind
   .rw[<-hm.len];simp
  .obtain⟨z',ak,rz⟩:=ab.get _ _ aq
   rw[hz]at ak;cases ak
   exact rz.mono (Le.refl _ _) (ae.trans aa)
theorem xJ9 {id s:Nat} (hm:Mem c w L σ β) (hs:0<s) (hσ:σ[id]? =some (.box cells)) (hc:cells[off]? =some (.sl .full [])):
  ∃x,Mem c w L (σ.set id (.box (cells.set off (.sl (.app σ.length) [])))++ [.app 0 s]) (β++ [x])/\Ext σ β (σ.set id (.box (cells.set off (.sl (.app σ.length) [])))++ [.app 0 s]) (β++ [x]):=by
 have ag:id<σ.length:=(by grind)
 obtain⟨x0,hβ⟩: ∃x0,β[id]? =some x0:=⟨_,A0 (by rw[hm.len];exact ag)⟩
 obtain⟨b,arr,T,fz,rfl,hh,hf,hl,ab⟩:=hm.objs id _ _ hσ hβ
 obtain⟨y,hy,ry⟩:=ab.get _ _ hc
 have al:RdP w L (.sl .full []) y:=ry
 obtain⟨a,cap,aj,_,hcap⟩:=al.len
 have ad:=hcap rfl
 simp only[Db]at ad aj
 subst ad
 have h1:=hm.own (n:=0) (a:=a) hs
 have ae:=Ext.push σ β hm.len (.app 0 s) (.slice a 0 0)
 have ah:(σ++ [Ob.app 0 s])[id]? =some (.box cells):=by grind
 have ai:(β++ [Value.slice a 0 0])[id]? =some (.pointer (some ⟨b,0,none⟩)):=by grind
 have aa:Ext (σ++ [Ob.app 0 s]) (β++ [Value.slice a 0 0]) ((σ++ [Ob.app 0 s]).set id (.box (cells.set off (.sl (.app σ.length) [])))) (β++ [Value.slice a 0 0]):=Ext.setBox ah _
 have af:=yI _ _ _ ai
 have key:=h1.upd (w':=w) (L':=L) id (.box (cells.set off (.sl (.app σ.length) []))) (.pointer (some ⟨b,0,none⟩)) (Le.refl _ _) (by grind) (fun k=>k=b)
  (fun j o' x' k hj an ao hk e=>by subst e;exact h1.apart j id o' _ x' _ k hj an ao ah ai hk rfl)
  (fun k e=>by subst e;exact h1.mine id _ _ k ah ai rfl)
  sM rfl rfl rfl rfl h1.lim ?_ (fun k hk=>by simpa[excl]using hk.symm)
 .rw[af,Dr _ _ ag]at key
  rw[Dr _ _ ag]at aa
  exact⟨_,key,ae.trans aa⟩
 .rw[af]
  refine⟨b,arr,T,fz,rfl,hh,hf,hl, ?_⟩
  refine All2.of (by rw[List.length_set];exact ab.length) fun k p z hp hz=> ?_
  rcases zg0 hp with ⟨rfl,rfl,_⟩|⟨ar,aq⟩
  .rw[hy]at hz;cases hz
   rw[aj]
   refine⟨.sl0 .ro a 0 om sM,0,s, ?_,om,fun _=> ?_,sM⟩
   .grind
   .rw[<-hm.len];simp
  .obtain⟨z',ak,rz⟩:=ab.get _ _ aq
   rw[hz]at ak;cases ak
   exact rz.mono (Le.refl _ _) (ae.trans aa)
def zD6 (cells:List V) (s off n:Nat):List (List V):=(List.range n).map fun i=>((cells.drop (off+i*s)).take s).map dem
def frzB (id:Nat) (cells:List V):V->V
 | .bsv i s off n=>if i=id/\0<s/\off+n*s<=cells.length/\((cells.drop off).take (n*s)).all zC2=true then .sl .ro (zD6 cells s off n)else .bsv i s off n
 |v=>v
theorem yG1 {s n:Nat} (h:off+n*s<=cells.length):uni s (zD6 cells s off n):=fun r hr=>by
 obtain⟨i,hi,rfl⟩:=Ad.1 hr
 have hi:=Ci.1 hi
 have:(i+1)*s<=n*s:=Ah _ hi
 grind
theorem xK3 {id:Nat} (hm:Mem c w L σ β) (hσ:σ[id]? =some (.box cells)):
  ∃L',Mem c w L' (σ.set id .dead) β/\Le w L w L'/\Ext σ β (σ.set id .dead) β/\(∀v x,RdS w L σ β v x->RdS w L' (σ.set id .dead) β (frzB id cells v) x):=by
 have aj:id<σ.length:=(by grind)
 obtain⟨x0,hβ⟩: ∃x0,β[id]? =some x0:=⟨_,A0 (by rw[hm.len];exact aj)⟩
 obtain⟨b,arr,T,fz,rfl,hh,hf,hl,ae⟩:=hm.objs id _ _ hσ hβ
 have hle:Le w L w (xC L b cells.length):=by
  refine⟨fun k=> ?_,sM⟩
  simp only[xC]
  grind
 have aa:Ext σ β (σ.set id .dead) β:=by
  refine⟨sM,(by grind),(by grind),(by grind)⟩
  all_goals grind
 have ab: ∀k,k≠b->xC L b cells.length k=L k:=fun k h=>if_neg h
 have inv: ∀i o,(σ.set id .dead)[i]? =some o->(i=id/\o= .dead)∨(i≠id/\σ[i]? =some o):=(by grind)
 refine⟨xC L b cells.length,⟨by simp[hm.len],fun i o x ho hx=> ?_,fun i j o o' x x' k ak ho hx al an hb=> ?_,fun i o x k ho hx hb=> ?_,fun k hb hx=> ?_,hm.le.trans hle,hm.size,hm.os,hm.tape,hm.output,hm.drawn,fun k hb=> ?_,hm.ext.trans aa,hm.tab⟩,hle,aa,fun v x r=> ?_⟩
 .rcases inv i o ho with ⟨_,rfl⟩|⟨ad,h2⟩
  .trivial
  .exact(hm.objs i o x h2 hx).step hle aa fun k hk=>⟨rfl,ab k fun e=>by subst e;exact hm.apart i id o _ x _ k ad h2 hx hσ hβ hk rfl⟩
 .rcases inv i o ho with ⟨_,rfl⟩|⟨ad,h2⟩
  .trivial
  .rcases inv j o' al with ⟨_,rfl⟩|⟨ar,h3⟩
   .simp[excl]
   .exact hm.apart i j o o' x x' k ak h2 hx h3 an hb
 .rcases inv i o ho with ⟨_,rfl⟩|⟨ad,h2⟩
  .trivial
  .exact hm.mine i o x k h2 hx hb
 .obtain⟨e1,e2⟩:=hm.same k hb hx
  refine⟨e1, ?_⟩
  rw[ab k fun q=> ?_]
  .exact e2
  .subst q
   rcases hm.mine id _ _ k hσ hβ rfl with h|h
   all_goals grind
 .rw[ab k fun q=> ?_]
  .exact hm.lim k hb
  grind
 .have ao:=r.mono hle aa
  cases v with
  |bsv i s off n=>
   simp only[frzB]
   split
   .rename_i hc
    obtain⟨rfl,hs,hlen,hp⟩:=hc
    obtain⟨b',af,rfl⟩:=r
    rw[hβ]at af;cases af
    have hu:=yG1 (s:=s) (off:=off) (n:=n) hlen
    have ag:(zD6 cells s off n).length=n:=by simp[zD6]
    have key:RdP w (xC L b cells.length) (.sl .ro (zD6 cells s off n)) (.slice (some ⟨b,off,none⟩) (zD6 cells s off n).length n):=by
     refine .of_flat hs hu (by grind[xC]) om sM om fun k v hk=> ?_
     have au:k<n*s:=by rw[<-ag,<-yA hu];grind
     have hi:k/s<n:=by simp_all[Bz]
     have hj:k%s<s:=Cn _ hs
     have aq:k=k/s*s+k%s:=by grind[Cz]
     rw[aq,yN _ _ hu hj]at hk
     simp only[zD6,B6,List.getElem?_range hi,Bg,Ar,Aw,if_pos hj,Bt,Ao]at hk
     obtain⟨v0,ah,rfl⟩:=hk
     have ai:off+k/s*s+k%s=off+k:=om
     rw[ai]at ah
     obtain⟨z,hz,rz⟩:=ae.get _ _ ah
     rw[Aq]at hz
     refine⟨z,by simp only[World.cell?,hh];grind,(RdC.dem rz ?_).mono hle⟩
     rw[Aj]at hp
     refine hp _ (Av.2 ⟨k, ?_⟩)
     grind
    rw[ag]at key
    simpa
   omega
  |_=>exact ao
inductive Frz:List V->St->List V->St->Prop
 |refl (vs:List V) (σ:St):Frz vs σ vs σ
 |step (id s:Nat) (rows:List (List V)) {vs vs':List V} {σ σ':St} (hσ:σ[id]? =some (.lst rows s)) (hp:wE rows=true) (h:Frz (vs.map (frzS id rows)) (zm9 id rows σ) vs' σ'):Frz vs σ vs' σ'
 |nil (id off s:Nat) (cells:List V) {vs vs':List V} {σ σ':St} (hs:0<s) (hσ:σ[id]? =some (.box cells)) (hc:cells[off]? =some (.sl .full [])) (h:Frz vs (σ.set id (.box (cells.set off (.lsv σ.length s 0 0 0)))++ [.lst [] s]) vs' σ'):Frz vs σ vs' σ'
 |box (id:Nat) (cells:List V) {vs vs':List V} {σ σ':St} (hσ:σ[id]? =some (.box cells)) (h:Frz (vs.map (frzB id cells)) (σ.set id .dead) vs' σ'):Frz vs σ vs' σ'
 |nilv (i s:Nat) {vs vs':List V} {σ σ':St} (hs:0<s) (hv:vs[i]? =some (.sl .full [])) (h:Frz (vs.set i (.lsv σ.length s 0 0 0)) (σ++ [.lst [] s]) vs' σ'):Frz vs σ vs' σ'
theorem Frz.ok {vs vs':List V} {σ':St} (h:Frz vs σ vs' σ'): ∀{L:Nat->Nat} {β xs:List Value},Mem c w L σ β->All2 (RdS w L σ β) vs xs->
  ∃L' β',Mem c w L' σ' β'/\Le w L w L'/\Ext σ β σ' β'/\All2 (RdS w L' σ' β') vs' xs:=by
 induction h with
 |refl vs σ=>grind[Le.refl,Ext.refl]
 |step id s rows hσ hp _ ih=>
  intro L β xs hm ha
  obtain⟨h1,h2,h3,h4⟩:=xc4 hm hσ hp
  obtain⟨L',β',h5,h6,h7,h8⟩:=ih h1 (All2.map_l (f:=frzS id rows) (fun _ _ q=>h4 _ _ q) ha)
  exact⟨L',β',h5,h2.trans h6,h3.trans h7,h8⟩
 |nil id off s cells hs hσ hc _ ih=>
  intro L β xs hm ha
  obtain⟨x,h1,h2⟩:=xe7 hm hs hσ hc
  obtain⟨L',β',h5,h6,h7,h8⟩:=ih h1 (ha.imp fun _ _ q=>q.mono (Le.refl _ _) h2)
  exact⟨L',β',h5,h6,h2.trans h7,h8⟩
 |box id cells hσ _ ih=>
  intro L β xs hm ha
  obtain⟨L1,h1,h2,h3,h4⟩:=xK3 hm hσ
  obtain⟨L',β',h5,h6,h7,h8⟩:=ih h1 (All2.map_l (f:=frzB id cells) (fun _ _ q=>h4 _ _ q) ha)
  exact⟨L',β',h5,h2.trans h6,h3.trans h7,h8⟩
 |nilv i s hs hv _ ih=>
  rename_i ab ae s0 s1 _
  intro L β xs hm ha
  obtain⟨x,hx,r⟩:=ha.get _ _ hv
  have hr:RdP w L (.sl .full []) x:=r
  obtain⟨ad,rfl⟩: ∃ad,x= .slice ad 0 0:=by
   cases hr<;>grind
  have h1:=hm.lstNil (a:=ad) hs
  have aa:=Ext.push _ _ hm.len (Ob.lst [] s) (.slice ad 0 0)
  have h2:All2 (RdS w L (s0++ [Ob.lst [] s]) (β++ [.slice ad 0 0])) (ab.set i (.lsv s0.length s 0 0 0)) xs:=by
   refine All2.of (by rw[List.length_set];exact ha.length) fun j p y hp hy=> ?_
   rcases zg0 hp with ⟨rfl,rfl,_⟩|⟨_,hp⟩
   .rw[hx]at hy;cases hy
    exact zR9 (w':=w) (L':=L) (s:=s) (rows:= []) (cap:=0) (a0:=ad) hm.len sM om
   .obtain⟨z,hz,rz⟩:=ha.get _ _ hp
    rw[hy]at hz;cases hz
    exact rz.mono (Le.refl _ _) aa
  obtain⟨L',β',h5,h6,h7,h8⟩:=ih h1 h2
  exact⟨L',β',h5,h6,aa.trans h7,h8⟩
def flatK:V->Bool
 | .bool _| .int _ _| .str _| .nilp| .u=>true
 | .raw _=>true
 | .sl _ rows=>rows.isEmpty
 |_=>false
def xc3:V->Bool
 | .agg cs=>cs.all flatK
 |v=>flatK v
def yI5:V->Bool
 | .tup vs=>vs.all xc3
 |v=>xc3 v
section
variable {w w':World} {L L':Nat->Nat} {σ σ':St} {β β':List Value}
variable {x:Value}
theorem yI4 {v:V} (h:flatK v=true) (r:RdC w L [] [] v x):RdC w' L' σ' β' v x:=by
 cases v with
 |sl g rows=>
  have hr:rows= []:=by grind[flatK]
  subst hr
  cases g with
  |app id=>obtain⟨_,n,s,h,_⟩:=r;grind
  |ro=>
   cases r with
   |sl0 _ a cap hg ha=>exact RdP.sl0 _ _ _ hg ha
   |sl _ _ s b o cap c ha hs hlen hlim hcap hg hc hr=>exact RdP.sl0 _ _ _ om om
  |full=>
   cases r with
   |sl0 _ a cap hg ha=>exact RdP.sl0 _ _ _ hg ha
   |sl _ _ s b o cap c ha hs hlen hlim hcap hg hc hr=>exact RdP.sl0 _ _ _ hg om
 |bool b=>cases r;exact RdP.bool _
 |int k n=>cases r;exact RdP.int _ _
 |str s=>cases r;exact RdP.str _
 |nilp=>cases r;exact RdP.nilp
 |raw v=>cases r with|raw _ h=>exact RdP.raw _ h
 |u=>exact r
 |_=>simp[flatK]at h
theorem yI3 {v:V} (h:xc3 v=true) (r:RdA w L [] [] v x):RdA w' L' σ' β' v x:=by
 cases v with
 |agg cs=>
  obtain⟨xs,hx,hc⟩:=r
  refine⟨xs,hx, ?_⟩
  clear hx
  simp only[xc3]at h
  induction cs generalizing xs with
  |nil=>cases xs<;>simpa
  |cons c cs ih=>cases xs with
   |nil=>simpa
   |cons y ys=>
    simp only[Ac,A1]at h
    exact⟨yI4 h.1 hc.1,ih h.2 _ hc.2⟩
 |tup vs=>simpa
 |fn f c=>trivial
 |ifc t c=>trivial
 |_=>exact RdA.of_cell (yI4 (w:=w) (L:=L) h r)
theorem xx4 {v:V} (h:yI5 v=true) (r:RdS w L [] [] v x):RdS w' L' σ' β' v x:=by
 cases v with
 |tup vs=>
  obtain⟨xs,hx,hc⟩:=r
  refine⟨xs,hx, ?_⟩
  clear hx
  simp only[yI5]at h
  induction vs generalizing xs with
  |nil=>cases xs<;>simpa
  |cons c cs ih=>cases xs with
   |nil=>simpa
   |cons y ys=>
    simp only[Ac,A1]at h
    exact⟨yI3 h.1 hc.1,ih h.2 _ hc.2⟩
 |u=>trivial
 |_=>exact RdS.of_a (yI3 (w:=w) (L:=L) h r)
end
theorem VC.view {P:Program} {c:Ctx} {f:FuncId} {caps args args' af:List V} {σc σ1:St} {R:V->St->Prop} {K:V->St->Prop} (hc:VCalls P f args' [] R) (hb:wL P f=true) (hf:Frz (args++caps) σc af σ1)
  (aa:All2 (argS (ren [] σ1.length)) args' af) (hR: ∀r s,R r s->s= []/\yI5 r=true) (hk: ∀r,R r []->K r σc):VC P c (.fn f caps) args σc K:=by
 refine⟨f,caps,rfl,.inl ⟨zD7 hb,fun w L βc ab hm hv=> ?_⟩⟩
 obtain⟨L1,β1,ai,a1,ar,aj⟩:=hf.ok hm hv
 have ak:Bak (ren [] σ1.length) [] [] σ1 β1:=by
  have ao: ∀id,σ1.length<=ren [] σ1.length id:=fun id=>by simp[ren]
  refine⟨fun id x hx=> ?_,fun id n s hx=> ?_,fun id rows s hx=> ?_,fun id hx=> ?_⟩
  .have h1:=(A6.1 hx).1;have h2:=ao id;rw[ai.len]at h1;omega
  all_goals
   have h1:=(A6.1 hx).1;have h2:=ao id;omega
 have au:Mem (entry w L1 [] []) w L1 [] []:=
  ⟨rfl,fun i o x ho _=>by simp at ho,fun i j o o' x x' b _ ho _ _ _ _=>by simp at ho,fun i o x b ho _ _=>by simp at ho,fun b _ _=>⟨rfl,rfl⟩,Le.refl _ _,A4 _,rfl,rfl,rfl,A4 _,ai.lim,Ext.refl _ _,ai.tab.mono ai.le⟩
 have av:All2 (RdS w L1 [] []) args' ab:=by
  clear hf hc hk
  induction args' generalizing af ab with
  |nil=>cases af with
   |nil=>cases ab with
    |nil=>trivial
    |cons _ _=>exact aj.elim
   |cons _ _=>exact aa.elim
  |cons p args' ih=>cases af with
   |nil=>exact aa.elim
   |cons q az=>cases ab with
    |nil=>exact aj.elim
    |cons y ys=>
     refine⟨zx9 ak aa.1 aj.1, ?_⟩
     clear ih
     have key: ∀(args' az:List V) (ys:List Value),All2 (argS (ren [] σ1.length)) args' az->All2 (RdS w L1 σ1 β1) az ys->All2 (RdS w L1 [] []) args' ys:=by
      intro args'
      induction args' with
      |nil=>intro az ys h1 h2;cases az with
       |nil=>cases ys with
        |nil=>trivial
        |cons _ _=>exact h2.elim
       |cons _ _=>exact h1.elim
      |cons p l ih=>intro az ys h1 h2;cases az with
       |nil=>exact h1.elim
       |cons q az=>cases ys with
        |nil=>exact h2.elim
        |cons y ys=>exact⟨zx9 ak h1.1 h2.1,ih az ys h1.2 h2.2⟩
     exact key _ _ _ aa.2 aj.2
 refine(hc w L1 [] ab au av).mono fun e w' ⟨v,r,L2,σ',β',he,aq,a6,ad,aw⟩=> ?_
 obtain⟨rfl,al⟩:=hR r σ' aq
 have ax:β'= []:=B4 (by rw[ad.len];rfl)
 subst ax
 have ae: ∀b,b<w.heap.size->w'.heap[b]? =w.heap[b]? :=fun b hb=>(ad.same b hb (by show b∉zk0 [] [];simp[zk0])).1
 have ay:w.heap.size<=w'.heap.size:=ad.size
 let L3:Nat->Nat:=fun b=>if b<w.heap.size then L b else L2 b
 have an: ∀b,b<w.heap.size->L3 b=L b:=fun b hb=>if_pos hb
 have ag:Le w L w' L3:=by
  refine⟨fun b=> ?_,fun b o ho=> ?_⟩
  .by_cases hb:b<w.heap.size
   .rw[an b hb];exact A4 _
   .rw[hm.lim b om];exact A3 _
  .have hb:b<w.heap.size:=by
    rcases C1 b w.heap.size with hb|hb
    .exact hb
    .rw[hm.lim b hb]at ho;omega
   exact zd7 (ae b hb) o
 refine⟨v,r,L3,σc,βc,he,hk r aq, ?_,ag,Ext.refl _ _,xx4 al aw⟩
 refine⟨hm.len,fun i o x ho hx=>(hm.objs i o x ho hx).step ag (Ext.refl _ _) fun b hb=> ?_,hm.apart,hm.mine,fun b hb hx=> ?_,hm.le.trans ag,B3 hm.size ay,ad.os.trans hm.os,ad.tape.trans hm.tape,ad.output.trans hm.output,B3 hm.drawn ad.drawn,fun b hb=> ?_,hm.ext,hm.tab⟩
 .have ah:=(hm.objs i o x ho hx).excl_lt hb
  exact⟨ae b ah,an b ah⟩
 .have ah:=Dj hb hm.size
  rw[ae b ah,an b ah]
  exact hm.same b hb hx
 .show(if b<w.heap.size then L b else L2 b)=0
  rw[if_neg om]
  exact ad.lim b hb
def evOp (P:Program) (e:Env) (σ:St):Op->R
 | .move x=> .ok (zD e x)
 | .assign x=> .ok (zD e x)
 | .pick x y z=>zH7 (zD e x) (zD e y) (zD e z)
 | .alloc t=>zl3 P t σ
 | .box _ x=>zQ8 σ (zD e x)
 | .build t ps=>zy3 (zb0 P t) (plcT P t) (ps.toList.map fun p=>(p.1,zD e p.2))
 | .buildSlice t n ps=>zb4 ((elT P t).map (·.1)) n (ps.toList.map fun p=>(p.1,zD e p.2))
 | .load t x=>zh9 P t σ (zD e x)
 | .store t x y=>zu1 P t σ (zD e x) (zD e y)
 | .nilCheck x=>zZ4 (zD e x)
 | .binOp op t x y _=>if zh5 y=true then zu0 op (eqK P t) (zD e x)else if zg4 y=true then zq9 op (zi3 P t) (zD e x)else zt0 op (eqK P t) (eqS P t) (zD e x) (zD e y)
 | .unOp op _ x=>evUn op (zD e x)
 | .convert t t' x=>zD8 (kdT P t) (kdT P t') (zD e x)
 | .slice t x lo hi none=>zn3 (arrT P t) (lenT P t) ((elT P t).map (·.1)) (zD e x) (lo.map (zD e)) (hi.map (zD e))
 | .slice t x (some lo) (some hi) (some mx)=>zr0 ((elT P t).map (·.1)) (zD e x) (zD e lo) (zD e hi) (zD e mx)
 | .fieldAddr t x f=>zf4 P t (zD e x) f
 | .field t x f=>zy5 (fldT P t f) (zD e x)
 | .indexAddr t x i=>zj0 (slcT P t) (arrT P t) (zD e x) (zD e i)
 | .index t x i=>zQ9 (zD e x) (zD e i) (strT P t) (arrT P t)
 | .extract x i=>zm6 (zD e x) i
 | .makeFunc fn first caps=>zH6 fn first.size (caps.toList.map (zD e))
 | .makeSlice t l m=>zE0 (elT P t) (zelT P t) σ (zD e l) (zD e m)
 | .call ⟨.builtin .len,⟨[x]⟩,⟨[t]⟩⟩=>zZ3 (lenT P t) (zD e x)
 | .call ⟨.builtin .append,⟨[x,y]⟩,⟨[t,t']⟩⟩=>zh8 (elT P t) (lenT P t') σ (zD e x) (zD e y)
 | .call ⟨.builtin .clear,⟨[x]⟩,⟨[t]⟩⟩=>zt8 ((elT P t).map (·.1)) (zelT P t) σ (zD e x)
 | .call ⟨.builtin .min,⟨xs⟩,_⟩=>zB0 false (xs.map (zD e))
 | .call ⟨.builtin .max,⟨xs⟩,_⟩=>zB0 true (xs.map (zD e))
 | .call ⟨.builtin .delete,⟨[x,k]⟩,⟨[t,_]⟩⟩=>zq8 (mapT P t) σ (zD e x) (zD e k)
 | .makeMap t r=>zm7 σ (zi3 P t) (r.map (zD e))
 | .lookup t x k ok=>xV (mapT P t) σ (zD e x) (zD e k) ok
 | .mapUpdate t x k v=>xQ (mapT P t) σ (zD e x) (zD e k) (zD e v)
 | .insert t x k v=>xQ (mapT P t) σ (zD e x) (zD e k) (zD e v)
 | .mapEntry t x k=>xY (mapT P t) σ (zD e x) (zD e k)
 | .entryStore _ x s v=>xL σ (zD e x) (zD e s) (zD e v)
 | .range t x=>zy6 (zi3 P t) σ (zD e x)
 | .entry x=>zi9 σ (zD e x)
 | .makeInterface t x=>zZ2 (yt2 P t) t (zD e x)
 | .next x false=>zi0 false σ (zD e x)
 |_=> .fail
def za5 (P:Program) (e:Env) (σ:St):Op->R
 | .buildSlice t n ps=>za2 ((elT P t).map (·.1)) n σ (ps.toList.map fun p=>(p.1,zD e p.2))
 | .makeSlice t l m=>zt9 (elT P t) (zelT P t) σ (zD e l) (zD e m)
 | .convert t t' x=>zy4 (kdT P t) (kdT P t') σ (zD e x)
 | .slice t x (some lo) none none=>zr1 (lenT P t) ((elT P t).map (·.1)) σ (zD e x) (zD e lo)
 | .call ⟨.builtin .append,⟨[x,y]⟩,⟨[t,t']⟩⟩=>ze1 (elT P t) (lenT P t') σ (zD e x) (zD e y)
 | .next x false=>zi0 true σ (zD e x)
 |op=>evOp P e σ op
def ze3 (e:Env) (d:Option Tmp):Bool:=match d with|some t=>(match e (100000+t)with| .tup []=>true|_=>false)|none=>false
def xR (P:Program) (d:Option Tmp) (e:Env) (σ:St) (op:Op):R:=if ze3 e d=true then za5 P e σ op else evOp P e σ op
section
variable {P:Program} {c:Ctx} {nt:Nat} {e:Env} {σ:St} {a:Act} {w:World} {L:Nat->Nat} {β:List Value}
theorem xb8 (o:Oper) (h:Sim c nt e σ a w L β):ROk (evOp P e σ o.op) σ (Yield P c o a w L σ β):=by
 obtain⟨dst,op,ty,pos,aft,g⟩:=o
 show ROk (evOp P e σ op) σ _
 unfold evOp
 split
 .grind[xO6]
 .grind[xo2]
 .grind[xO7]
 .grind[xB3]
 .grind[xZ7]
 .grind[xB4]
 .grind[yp9]
 .grind[xO4]
 .grind[xC4]
 .grind[yM3]
 .grind[xC1,xo7,xZ6]
 .grind[wf5]
 .grind[xO2]
 .grind[xC3]
 .grind[xo8]
 .grind[yA9]
 .grind[xB8]
 .grind[yV8]
 .grind[xZ8]
 .grind[yV7]
 .grind[xO3]
 .grind[xO5]
 .grind[wa0]
 .grind[xo1]
 .grind[xB5]
 .grind[xC0]
 .grind[xC0]
 .grind[xo3]
 .grind[yV9]
 .grind[xo6]
 .grind[yB0]
 .grind[xo4]
 .grind[yM2]
 .grind[yq0]
 .grind[xC2]
 .grind[xB7]
 .grind[xZ9]
 .grind[xf3]
 .trivial
theorem xw5 (o:Oper) (h:Sim c nt e σ a w L β):ROk (xR P o.dst e σ o.op) σ (Yield P c o a w L σ β):=by
 unfold xR
 split
 .obtain⟨dst,op,ty,pos,aft,g⟩:=o
  show ROk (za5 P e σ op) σ _
  unfold za5
  split
  .grind[yk9]
  .grind[xB9]
  .grind[xB6]
  .grind[xo9]
  .grind[yV6]
  .grind[xf3]
  .exact xb8 ⟨dst,op,ty,pos,aft,g⟩ h
 grind[xb8]
def vput (nt:Nat) (d:Option Tmp) (v:V) (K:Env->St->Prop) (e:Env) (σ:St):Prop:=
 match d with
 |some t=>t<nt/\K (upd e t v) σ
 |none=>K e σ
def xi7 (p q:Prop):Prop:=p/\q
def vfin (nt:Nat) (d:Option Tmp) (r:R) (K:Env->St->Prop) (e:Env) (σ:St):Prop:=
 match r with
 | .fail=>False
 | .ok v=>vput nt d v K e σ
 | .need p v=>xi7 p (vput nt d v K e σ)
 | .st v σ'=>vput nt d v K e σ'
 | .needst p v σ'=>xi7 p (vput nt d v K e σ')
 | .all f=> ∀b,vput nt d (f b) K e σ
 | .any l=> ∀p∈l,vput nt d p.1 K e p.2
def vop (P:Program) (c:Ctx) (nt:Nat) (d:Option Tmp) (op:Op) (K:Env->St->Prop) (e:Env) (σ:St):Prop:=
 match op with
 | .call ⟨.value f,args,_⟩=>VC P c (zD e f) (args.toList.map (zD e)) σ (fun v σ'=>vput nt d v K e σ')
 |op=>vfin nt d (xR P d e σ op) K e σ
def vgrd (x:V) (want:Bool) (A B:Prop):Prop:=
 match x with
 | .bool b=>(b=want->A)/\(b≠want->B)
 | .tup []=>B
 |_=>False
def gdst (ops:List Oper) (j:Nat):Option Tmp:=(ops[j]?).bind (·.dst)
def vgd (g:Option (Nat×Bool)) (ops:List Oper) (e:Env) (A B:Prop):Prop:=
 match g with
 |none=>A
 |some (j,want)=>(match gdst ops j with|some t=>vgrd (e t) want A B|none=>False)
def vrun (P:Program) (c:Ctx) (nt:Nat) (ops:List Oper):List Oper->(Env->St->Prop)->Env->St->Prop
 | [],K,e,σ=>K e σ
 |o::rest,K,e,σ=>vgd o.guard ops e (vop P c nt o.dst o.op (vrun P c nt ops rest K) e σ) (vput nt o.dst (.tup []) (vrun P c nt ops rest K) e σ)
theorem Sim.put (h:Sim c nt e σ a w L β) {w':World} {L':Nat->Nat} {σ':St} {β':List Value} {v:V} {x:Value} (hm:Mem c w' L' σ' β') (hle:Le w L w' L') (aa:Ext σ β σ' β') (r:RdS w' L' σ' β' v x) (d:Option Tmp) (hd: ∀t,d=some t->t<nt):
  Sim c nt (match d with|some t=>upd e t v|none=>e) σ' (a.put d x) w' L' β':=by
 cases d with
 |none=>exact⟨hm,h.size,h.defs,fun t=>(h.env t).mono hle aa⟩
 |some d=>
  refine⟨hm,by simp[Act.put,h.size],by simp[Act.put,h.defs],fun t=> ?_⟩
  have ab:=hd d rfl
  simp only[upd,Act.put]
  by_cases ht:t=d
  .subst ht
   rw[if_pos rfl]
   have:(a.tmps.setIfInBounds t x).getD t undef=x:=by
    simp[Array.getD,h.size,ab]
   grind
  .rw[if_neg ht]
   have:(a.tmps.setIfInBounds d x).getD t undef=a.tmps.getD t undef:=by
    have ad: ¬d=t:=(by grind)
    simp_all
   rw[this];exact(h.env t).mono hle aa
def Lift (c:Ctx) (nt:Nat) (Q:Exit->Env->St->Prop):Exit->Act->World->Prop
 | .panic _,_,_| .outgrown,_,_| .goto _,_,_=>False
 |x,a,w=> ∃e σ L β,Sim c nt e σ a w L β/\Q x e σ
def VW (P:Program) (c:Ctx) (nt:Nat) (code:Code) (Q:Exit->Env->St->Prop) (e:Env) (σ:St):Prop:=
 ∀a w L β,Sim c nt e σ a w L β->code.wp P (Lift c nt Q) a w
theorem zD1 (h:Sim c nt e σ a w L β) {w':World} {L':Nat->Nat} {σ':St} {β':List Value} {v:V} {x:Value} (hm:Mem c w' L' σ' β') (hle:Le w L w' L') (aa:Ext σ β σ' β') (r:RdS w' L' σ' β' v x) {d:Option Tmp} {K:Env->St->Prop} (hK:vput nt d v K e σ'):
  ∃e',Sim c nt e' σ' (a.put d x) w' L' β'/\K e' σ':=by
 cases d with
 |none=>exact⟨e,h.put hm hle aa r none sM,hK⟩
 |some t=>exact⟨upd e t v,h.put hm hle aa r (some t) (fun t' q=>by cases q;exact hK.1),hK.2⟩
theorem yD6 (o:Oper) {K:Env->St->Prop} {next:Act->World->Prop} {Q:Exit->Act->World->Prop} (h:Sim c nt e σ a w L β) (hK:vop P c nt o.dst o.op K e σ)
  (hn: ∀e' σ' a' w' L' β',Sim c nt e' σ' a' w' L' β'->K e' σ'->next a' w'):o.wp P a w next Q:=by
 have fin: ∀{r:R},ROk r σ (Yield P c o a w L σ β)->vfin nt o.dst r K e σ->o.wp P a w next Q:=by
  intro r hr hv
  have done: ∀{v σ'},Yield P c o a w L σ β v σ'->vput nt o.dst v K e σ'->o.wp P a w next Q:=by
   rintro v σ' ⟨x,w',L',β',hrun,hm,hle,hext,hrd⟩ hp
   obtain⟨e',hs,hk⟩:=zD1 h hm hle hext hrd hp
   unfold Oper.wp
   rcases hrun with hrun|⟨hrun,rfl⟩
   .rw[hrun];exact hn _ _ _ _ _ _ hs hk
   .rw[hrun];exact hn _ _ _ _ _ _ hs hk
  cases r with
  |fail=>exact hv.elim
  |ok v=>exact done hr hv
  |need p v=>exact done (hr hv.1) hv.2
  |st v σ'=>exact done hr hv
  |needst p v σ'=>exact done (hr hv.1) hv.2
  |all f=>obtain⟨b,hr⟩:=hr;exact done hr (hv b)
  |any l=>obtain⟨p,hp,hr⟩:=hr;exact done hr (hv p hp)
 unfold vop at hK
 split at hK
 .rename_i f args ts hop
  obtain⟨fid,caps,hf,hK⟩:=hK
  have hfv:=h.eval f
  rw[hf]at hfv
  obtain⟨xs,hx,hcaps⟩:=hfv
  have hargs:All2 (RdS w L σ β) (args.toList.map (zD e)++caps) (args.toList.map a.eval++xs):=by
   refine All2.append ?_ (hcaps.imp fun p q r=> ?_)
   .generalize args.toList=l
    induction l with
    |nil=>trivial
    |cons p l ih=>exact⟨h.eval p,ih⟩
   .exact RdS.of_cell (by cases p<;>first|exact r|exact r.elim)
  rcases hK with ⟨⟨fn,hfn,hname,hbody⟩,hcall⟩|hcall
  .have hrun:(execOp a.eval o).run P w= .ok (.enter fid (args.toList.map a.eval++xs).toArray) w:=by
    obtain⟨dst,op,ty,pos,aft,g⟩:=o
    simp only at hop
    subst hop
    have hbn: ¬fn.body=none:=by intro q;simp[q]at hbody
    have hne: ¬fn.name= "runtime.NumGoroutine" :=sU hname
    have hsz:(Array.map a.eval args++xs.toArray)=(args.toList.map a.eval++xs).toArray:=by
     apply Array.ext';simp
    simp[execOp,resolve,hx,Deferred.ofValue,invoke,callFunc,hfn,hne,hbn,hsz]
   unfold Oper.wp
   rw[hrun]
   show Calls P fid _ w _
   refine(hcall w L β _ h.mem hargs).mono ?_
   rintro en w' ⟨v,r,L',σ',β',rfl,hp,hm,hle,hext,hrd⟩
   obtain⟨e',hs,hk⟩:=zD1 h hm hle hext hrd hp
   exact hn _ _ _ _ _ _ hs hk
  .obtain⟨v,r,w',L',σ',β',hrv,hp,hm,hle,hext,hrd⟩:=hcall w L β _ h.mem hargs
   have hrun:(execOp a.eval o).run P w= .ok (.value v) w':=by
    obtain⟨dst,op,ty,pos,aft,g⟩:=o
    simp only at hop
    subst hop
    have hsz:(Array.map a.eval args++xs.toArray)=(args.toList.map a.eval++xs).toArray:=by
     apply Array.ext';simp
    simp[execOp,resolve,hx,Deferred.ofValue,invoke,hsz,hrv]
   obtain⟨e',hs,hk⟩:=zD1 h hm hle hext hrd hp
   unfold Oper.wp
   rw[hrun]
   exact hn _ _ _ _ _ _ hs hk
 .exact fin (xw5 o h) hK
theorem yb3 {ops:List Oper} {j:Nat} {t:Tmp} (ht:gdst ops j=some t) (hv:RdS w L σ β (.tup []) (a.tmps.getD t undef)):yielded ops.toArray a.tmps j=none:=by
 obtain⟨xs,hx,ab⟩:=hv
 have ad:xs= []:=by
  cases xs with
  |nil=>rfl
  |cons x xs=>exact ab.elim
 subst ad
 unfold yielded
 unfold gdst at ht
 have ae:(ops.toArray[j]?).bind (·.dst)=some t:=sU ht
 rw[ae]
 simp only[Ar]
 by_cases aa:t<a.tmps.size
 .rw[B0 aa]
  simp[Array.getD,aa]at hx
  rw[hx]
 .rw[Array.getElem?_eq_none (Nat.le_of_not_lt aa)]
theorem yD7 {ops:List Oper} {Q:Exit->Act->World->Prop}: ∀(l:List Oper) (K:Env->St->Prop) (e:Env) (σ:St) (a:Act) (w:World) (L:Nat->Nat) (β:List Value),Sim c nt e σ a w L β->vrun P c nt ops l K e σ->
  (∀e' σ' a' w' L' β',Sim c nt e' σ' a' w' L' β'->K e' σ'->Q .normal a' w')->wpList P ops.toArray Q l a w
 | [],K,e,σ,a,w,L,β,h,hK,hn=>hn _ _ _ _ _ _ h hK
 |o::rest,K,e,σ,a,w,L,β,h,hK,hn=>by
  have ih:=yD7 (ops:=ops) (Q:=Q) rest K
  have yes:vop P c nt o.dst o.op (vrun P c nt ops rest K) e σ->o.wp P a w (wpList P ops.toArray Q rest) Q∨(o.asks P a w/\LetsOut Q):=fun hv=>
   .inl (yD6 o h hv fun e' σ' a' w' L' β' hs hk=>ih e' σ' a' w' L' β' hs hk hn)
  have no:vput nt o.dst (.tup []) (vrun P c nt ops rest K) e σ->wpList P ops.toArray Q rest (a.put o.dst undef) w:=fun hv=>by
   obtain⟨e',hs,hk⟩:=zD1 h h.mem (Le.refl _ _) (Ext.refl _ _) (show RdS w L σ β (.tup []) undef from⟨[],rfl,tV⟩) hv
   exact ih e' σ _ _ _ _ hs hk hn
  unfold vrun at hK
  unfold wpList
  unfold vgd at hK
  split at hK
  .rename_i hg
   rw[if_pos (by simp[Region.wanted,hg])]
   exact yes hK
  .rename_i j want hg
   split at hK
   .rename_i t ht
    have hv:=h.env t
    unfold vgrd at hK
    split at hK
    .rename_i b hb
     rw[hb]at hv
     have hv:=zd3 hv
     have hy:yielded ops.toArray a.tmps j=some b:=by
      unfold yielded
      unfold gdst at ht
      have ad:(ops.toArray[j]?).bind (·.dst)=some t:=sU ht
      rw[ad]
      simp only[Ar]
      have ab:t<a.tmps.size:=by
       rcases C1 t a.tmps.size with q|q
       .exact q
       .simp[Array.getD,Nat.not_lt.2 q,undef]at hv
      rw[B0 ab]
      simp[Array.getD,ab]at hv
      rw[hv]
     by_cases aa:b=want
     .rw[if_pos (by simp[Region.wanted,hg,hy,aa])]
      exact yes (hK.1 aa)
     .rw[if_neg (by simp[Region.wanted,hg,hy,aa])]
      exact no (hK.2 aa)
    .rename_i hb
     rw[hb]at hv
     rw[if_neg (by simp[Region.wanted,hg,yb3 ht hv])]
     exact no hK
    .exact hK.elim
   .exact hK.elim
def yQ1 (x:V) (A B:Prop):Prop:=
 match x with
 | .bool b=>(b=true->A)/\(b=false->B)
 |_=>False
def xF9 (K:Env->St->Prop) (Q:Exit->Env->St->Prop):Exit->Env->St->Prop
 | .normal,e,σ=>K e σ
 |x,e,σ=>Q x e σ
def blkV (id:Nat) (Q:Exit->Env->St->Prop):Exit->Env->St->Prop
 | .exit id',e,σ=>if id'=id then Q .normal e σ else Q (.exit id') e σ
 |x,e,σ=>Q x e σ
def zD0 (P:Program) (c:Ctx) (nt:Nat):Code->(Exit->Env->St->Prop)->Env->St->Prop
 | .skip,Q,e,σ=>Q .normal e σ
 | .seq x y,Q,e,σ=>zD0 P c nt x (xF9 (zD0 P c nt y Q) Q) e σ
 | .cond x t f,Q,e,σ=>yQ1 (zD e x) (zD0 P c nt t Q e σ) (zD0 P c nt f Q e σ)
 | .block id b,Q,e,σ=>zD0 P c nt b (blkV id Q) e σ
 | .exit id,Q,e,σ=>Q (.exit id) e σ
 | .ret,Q,e,σ=>Q .ret e σ
 | .label _,Q,e,σ=>Q .normal e σ
 | .region id ops draw,Q,e,σ=>if draw then VW P c nt (.region id ops true) Q e σ else vrun P c nt ops.toList ops.toList (Q .normal) e σ
 | .loop b,Q,e,σ=>VW P c nt (.loop b) Q e σ
 |_,_,_,_=>False
theorem zg7: ∀(code:Code) (Q:Exit->Env->St->Prop) (e:Env) (σ:St),zD0 P c nt code Q e σ->VW P c nt code Q e σ
 | .skip,Q,e,σ,h=>fun a w L β hs=>wp_skip ⟨e,σ,L,β,hs,h⟩
 | .seq x y,Q,e,σ,h=>fun a w L β hs=>by
  refine wp_seq (wp_mono (zg7 x _ e σ h a w L β hs) fun ex a' w' q=> ?_)
  cases ex with
  |normal=>obtain⟨e',σ',L',β',aa,hq⟩:=q;exact zg7 y Q e' σ' hq a' w' L' β' aa
  |exit id=>exact q
  |goto l=>exact q
  |ret=>exact q
  |panic ch=>exact q
  |outgrown=>exact q
 | .cond x t f,Q,e,σ,h=>fun a w L β hs=>by
  unfold zD0 yQ1 at h
  split at h
  .rename_i b hb
   have hv:=hs.eval x
   rw[hb]at hv
   exact wp_cond_split (zd3 hv) (fun ad=>zg7 t Q e σ (h.1 ad) a w L β hs) (fun ae=>zg7 f Q e σ (h.2 ae) a w L β hs)
  .exact h.elim
 | .block id b,Q,e,σ,h=>fun a w L β hs=>by
  refine wp_block (wp_mono (zg7 b _ e σ h a w L β hs) fun ex a' w' q=> ?_)
  cases ex with
  |exit ab=>
   obtain⟨e',σ',L',β',aa,hq⟩:=q
   change (if ab=id then Q .normal e' σ' else Q (.exit ab) e' σ')at hq
   change (if ab=id then Lift c nt Q .normal a' w' else Lift c nt Q (.exit ab) a' w')
   split
   .rename_i hid
    rw[if_pos hid]at hq
    exact⟨e',σ',L',β',aa,hq⟩
   .rename_i hid
    rw[if_neg hid]at hq
    exact⟨e',σ',L',β',aa,hq⟩
  |normal=>exact q
  |goto l=>exact q
  |ret=>exact q
  |panic ch=>exact q
  |outgrown=>exact q
 | .exit id,Q,e,σ,h=>fun a w L β hs=>wp_exit ⟨e,σ,L,β,hs,h⟩
 | .ret,Q,e,σ,h=>fun a w L β hs=>wp_ret ⟨e,σ,L,β,hs,h⟩
 | .label _,Q,e,σ,h=>fun a w L β hs=>wp_label ⟨e,σ,L,β,hs,h⟩
 | .region id ops draw,Q,e,σ,h=>fun a w L β hs=>by
  unfold zD0 at h
  cases draw with
  |true=>exact h a w L β hs
  |false=>
   refine wp_region_list (ops:=ops) ?_
   have:=yD7 (P:=P) (ops:=ops.toList) (Q:=Lift c nt Q) ops.toList (Q .normal) e σ a w L β hs (sU h) fun e' σ' a' w' L' β' aa hk=>⟨e',σ',L',β',aa,hk⟩
   simpa using this
 | .loop b,Q,e,σ,h=>h
 | .rangeFunc _ _ _ _,_,_,_,h=>h.elim
 | .scope _,_,_,_,h=>h.elim
 | .goto _,_,_,_,h=>h.elim
 | .refuse _,_,_,_,h=>h.elim
end
end Go.Vx
