/-
  Operations over trees: maps, and loops over them.
  No condition: a library text; nothing of the program is named.
-/
import Derived.Test.YtajjjghohakniaaGreatLAG
import Derived.Maps.RangeRun
namespace Go.Vx
open Go
theorem Ext.setOther {σ:St} {β:List Value} {i:Nat} {o0:Ob} (hi:σ[i]? =some o0) (h1: ∀n s,o0≠ .app n s) (h2: ∀r s,o0≠ .lst r s) (h3:o0≠ .dead) (o:Ob):Ext σ β (σ.set i o) β:=by
 refine⟨fun _ _ e=>e,fun id n s e=>⟨n, ?_,Nat.le_refl _,fun _=>rfl⟩,fun id rows s e=> .inr ⟨rows, ?_,Nat.le_refl _,fun _=>rfl⟩,fun id e=> ?_⟩
 all_goals
  have:i≠id:=fun q=>by
   subst q;rw[hi]at e
   first|exact h1 _ _ (Option.some.inj e)|exact h2 _ _ (Option.some.inj e)|exact h3 (Option.some.inj e)
  rw[List.getElem?_set_ne this];exact e
section
variable {c:Ctx} {w:World} {L:Nat→Nat} {σ:St} {β:List Value}
theorem Mem.newOb (h:Mem c w L σ β) (ob:Go.Obj) (o:Ob)
  (ho:Le w L (w.alloc ob) L→Ext σ β (σ++ [o]) (β++ [.pointer (some ⟨w.heap.size,0,none⟩)])→ObOk (w.alloc ob) L (σ++ [o]) (β++ [.pointer (some ⟨w.heap.size,0,none⟩)]) o (.pointer (some ⟨w.heap.size,0,none⟩)))
  (hex: ∀b,excl o (.pointer (some ⟨w.heap.size,0,none⟩))=some b→b=w.heap.size):
  Mem c (w.alloc ob) L (σ++ [o]) (β++ [.pointer (some ⟨w.heap.size,0,none⟩)])∧Le w L (w.alloc ob) L:=by
 have h1:=h.alloc ob 0
 rw[zy1 h]at h1
 refine⟨h1.1.push _ _ (ho h1.2 (Ext.push σ β h.len _ _)) ?_ ?_,h1.2⟩
 ·intro i o' x' b hi hx hb e
  have h2:=(h.objs i o' x' hi hx).excl_lt hb
  have h3:=hex b e
  omega
 ·intro b hb
  rw[hex b hb]
  exact .inl h.size
theorem Mem.setOb (h:Mem c w L σ β) {i b:Nat} {o0 o:Ob} (hi:σ[i]? =some o0) (hβ:β[i]? =some (.pointer (some ⟨b,0,none⟩))) (he0:excl o0 (.pointer (some ⟨b,0,none⟩))=some b) (h0:L b=0)
  (ob:Go.Obj) (hext:Ext σ β (σ.set i o) β) (hex: ∀k,excl o (.pointer (some ⟨b,0,none⟩))=some k→k=b)
  (hok:Le w L (yD w b ob) L→ObOk (yD w b ob) L (σ.set i o) β o (.pointer (some ⟨b,0,none⟩))):
  Mem c (yD w b ob) L (σ.set i o) β∧Le w L (yD w b ob) L:=by
 have hle:Le w L (yD w b ob) L:=by
  refine⟨fun _=>Nat.le_refl _,fun k o ho=>ze3 (wM w b k _ fun q=> ?_) o⟩
  subst q;rw[h0]at ho;omega
 refine⟨?_,hle⟩
 have hset:=xK β i _ hβ
 have key:=h.upd (w':=yD w b ob) (L':=L) i o (.pointer (some ⟨b,0,none⟩)) hle (by rw[hset];exact hext) (fun k=>k=b)
  (fun j o' x' k hj ho' hx' hk e=>by subst e;exact h.apart j i o' _ x' _ k hj ho' hx' hi hβ hk he0)
  (fun k e=>by subst e;exact h.mine i _ _ k hi hβ he0)
  (fun k hk=>⟨wM w b k _ hk,rfl⟩) (by simp[yD]) rfl rfl rfl h.lim (by rw[hset];exact hok hle) (fun k hk=>hex k hk)
 rw[hset]at key;exact key
end
section
variable {P:Program} {c:Ctx} {nt:Nat} {e:Env} {σ:St} {a:Act} {w:World} {L:Nat→Nat} {β:List Value} {o:Oper}
theorem yI0 {v:V} {x:Value} (r:RdS w L σ β v x) (h:wN v=true):RdA w L σ β v x:=by
 cases v<;>first|exact r|simp[wN]at h
def keyD:TypeDesc→Option Pk
 | .bool=>some .b
 | .int k=>some (.i k)
 | .string=>some .s
 |_=>none
def zvT (P:Program) (t:TypeId):Option V:=
 match (P.info? t).bind (·.zero)with
 |some (.agg cs)=>if cs.all (·.oneCell')=true then some (.agg (cs.toList.map za5))else none
 |some v=>if v.oneCell'=true then some (za5 v)else none
 |none=>none
def mapT (P:Program) (t:TypeId):Option (Pk×V):=
 match P.underlying t with
 |some (.map kt et)=>(P.underlying kt).bind fun d=>(keyD d).bind fun k=>(zvT P et).map fun z=>(k,z)
 |_=>none
theorem xf2 {t:TypeId} {z:V} (h:zvT P t=some z): ∃i zv,P.info? t=some i∧i.zero=some zv∧wN z=true∧ ∀(w:World) L σ β,RdA w L σ β z zv:=by
 unfold zvT at h
 cases hi:P.info? t with
 |none=>simp[hi]at h
 |some i=>
  cases hz:i.zero with
  |none=>simp[hi,hz]at h
  |some zv=>
   simp only[hi,hz,Option.bind_some]at h
   refine⟨i,zv,rfl,hz, ?_⟩
   split at h
   ·rename_i cs hcs
    cases hcs
    split at h
    ·rename_i ha
     simp only[Option.some.injEq]at h
     subst h
     refine⟨rfl,fun w L σ β=>⟨cs.toList,by simp,(zP2 fun v hv=> ?_).imp fun _ _=>RdC.of_pure⟩⟩
     exact Array.all_eq_true_iff_forall_mem.1 ha v (Array.mem_toList_iff.1 hv)
    ·cases h
   ·rename_i v hno hv
    cases hv
    split at h
    ·rename_i h1
     simp only[Option.some.injEq]at h
     subst h
     have hc:zB2 (za5 zv)=true:=(zr7 (w:=default) (L:=fun _=>0) zv h1).2
     refine⟨?_,fun w L σ β=>RdA.of_cell (RdC.of_pure (zr7 zv h1).1)⟩
     revert hc
     generalize za5 zv=q0
     cases q0<;>simp[zB2,wN]
    ·cases h
   ·rename_i hv;cases hv
theorem zE4 {t:TypeId} {k:Pk} {z:V} (h:mapT P t=some (k,z)): ∃kt et d i zv,P.underlying t=some (.map kt et)∧P.underlying kt=some d∧keyD d=some k∧P.info? et=some i∧i.zero=some zv∧wN z=true∧(∀(w:World) L σ β,RdA w L σ β z zv):=by
 unfold mapT at h
 split at h
 ·rename_i kt et hu
  cases hd:P.underlying kt with
  |none=>simp[hd]at h
  |some d=>
   cases hk:keyD d with
   |none=>simp[hd,hk]at h
   |some k'=>
    cases hz:zvT P et with
    |none=>simp[hd,hz]at h
    |some z'=>
     simp only[hd,hk,hz,Option.bind_some,Option.map_some,Option.some.injEq,Prod.mk.injEq]at h
     obtain⟨rfl,rfl⟩:=h
     obtain⟨i,zv,h1,h2,h3,h4⟩:=xf2 hz
     exact⟨kt,et,d,i,zv,hu,hd,hk,h1,h2,h3,h4⟩
 ·cases h
def zG0:Pk→V→Bool
 | .b,.bool _=>true
 | .i k,.int k' _=>decide (k'=k)
 | .s,.str _=>true
 |_,_=>false
theorem zK0 {k:Pk} {d:TypeDesc} {v:V} {x:Value} (hk:keyD d=some k) (h:zG0 k v=true) (r:RdS w L σ β v x):MapKept.IsKey d x:=by
 cases k<;>cases v<;>simp[zG0]at h
 ·rw[zb2 r];cases d<;>simp[keyD]at hk<;>trivial
 ·rw[yQ r];cases d<;>simp[keyD]at hk;subst hk;exact h
 ·rw[wL r];cases d<;>simp[keyD]at hk<;>trivial
def zu7 (k:Pk) (x:V):List V→Nat→Option (Option (Nat×V))
 |kk::vv::rest,i=>(match eqPk k x kk with
  |some true=>some (some (i,vv))
  |some false=>zu7 k x rest (i+1)
  |none=>none)
 | [],_=>some none
 | [_],_=>none
theorem yn7 {k:Pk} {d:TypeDesc} {p v:V} {x y:Value} {r:Bool} (hk:keyD d=some k) (hx:RdS w L σ β p x) (hy:RdS w L σ β v y) (h:eqPk k p v=some r):Instr.sameNow d x y=some r:=by
 cases k
 ·cases p<;>cases v<;>simp[eqPk]at h
  subst h
  rw[zb2 hx,zb2 hy]
  cases d<;>simp[keyD]at hk
  rfl
 ·cases p<;>cases v<;>simp[eqPk]at h
  obtain⟨⟨rfl,rfl⟩,rfl⟩:=h
  rw[yQ hx,yQ hy]
  cases d<;>simp[keyD]at hk
  simp[Instr.sameNow]
 ·cases p<;>cases v<;>simp[eqPk]at h
  subst h
  rename_i s1 s2
  rw[wL hx,wL hy]
  cases d<;>simp[keyD]at hk
  simp only[Instr.sameNow,Option.some.injEq]
  have e1:((⟨s1.toArray⟩:ByteArray)==⟨s2.toArray⟩)=(s1.toArray==s2.toArray):=rfl
  rw[e1]
  simp
theorem zD9 {k:Pk} {d:TypeDesc} {p:V} {x:Value} (hk:keyD d=some k) (hx:RdS w L σ β p x): ∀(kvs:List V) (es:List MapEntry) (i:Nat) (q:Option (Nat×V)),All2 (RdA w L σ β) kvs (es.flatMap fun e=> [e.key,e.val])→zu7 k p kvs i=some q→
  (q=none∧Instr.findNow d x es i=some none)∨ ∃(j:Nat) (v:V) (e:MapEntry),q=some (i+j,v)∧Instr.findNow d x es i=some (some (i+j,e.val))∧es[j]? =some e∧kvs[2*j+1]? =some v∧RdA w L σ β v e.val∧(∃kk,kvs[2*j]? =some kk∧eqPk k p kk=some true)
 | [],[],i,q,_,h=>by simp[zu7]at h;exact .inl ⟨h.symm,rfl⟩
 | [],e::es,_,_,ha,_=>by simp[All2]at ha
 | [_],[],_,_,ha,_=>by simp[All2]at ha
 | [_],e::es,_,_,_,h=>by simp[zu7]at h
 |_::_::_,[],_,_,ha,_=>by simp[All2]at ha
 |kk::vv::kvs,e::es,i,q,ha,h=>by
  simp only[List.flatMap_cons,List.cons_append,List.nil_append,All2]at ha
  obtain⟨h1,h2,h3⟩:=ha
  rw[zu7]at h
  split at h
  ·rename_i he
   have:=yn7 hk hx (RdS.of_a h1) he
   simp only[Option.some.injEq]at h
   exact .inr ⟨0,vv,e,h.symm,by simp[Instr.findNow,this],rfl,rfl,h2,kk,rfl,he⟩
  ·rename_i he
   have:=yn7 hk hx (RdS.of_a h1) he
   rcases zD9 hk hx kvs es (i+1) q h3 h with ⟨e1,e2⟩|⟨j,v,e',e1,e2,e3,e4,e5,kk',e6,e7⟩
   ·exact .inl ⟨e1,by simp[Instr.findNow,this,e2]⟩
   ·refine .inr ⟨j+1,v,e',by rw[e1];congr 2;omega,by simp[Instr.findNow,this,e2];omega,by simpa using e3, ?_,e5,kk', ?_,e7⟩
    ·rw[show 2*(j+1)+1=(2*j+1)+2 by omega];simpa using e4
    ·rw[show 2*(j+1)=(2*j)+2 by omega];simpa using e6
  ·cases h
theorem yM2 {k:Pk} {p v:V} {x y:Value} (hx:RdS w L σ β p x) (hy:RdS w L σ β v y) (h:eqPk k p v=some true):x=y:=by
 cases k<;>cases p<;>cases v<;>simp[eqPk]at h
 ·rw[zb2 hx,zb2 hy,h]
 ·obtain⟨⟨rfl,rfl⟩,rfl⟩:=h
  rw[yQ hx,yQ hy]
 ·rw[wL hx,wL hy,h]
def zj6 (σ:St) (m:Bool) (r:Option V):R:=
 match m,r with
 |_,none=> .st (.mp σ.length) (σ++ [.mp [] [] 0])
 |true,some (.int _ _)=> .st (.mp σ.length) (σ++ [.mp [] [] 0])
 |_,_=> .fail
def zj1 (P:Program) (t:TypeId):Bool:=match P.underlying t with|some (.map _ _)=>true|_=>false
theorem xj4 (h:Mem c w L σ β):Mem c (w.alloc (.map #[] 0)) L (σ++ [.mp [] [] 0]) (β++ [.pointer (some ⟨w.heap.size,0,none⟩)])∧Le w L (w.alloc (.map #[] 0)) L:=
 h.newOb _ _ (fun hle _=>⟨w.heap.size, #[],rfl,yJ _ _,by have:=h.lim _ (Nat.le_refl _);exact this,by simp[zG1,All2],rfl⟩) fun b hb=>by simp[excl]at hb;exact hb.symm
theorem yz4 {dst:Option Tmp} {ty:TypeId} {pos:String} {aft:Array Edge} {g:Option (Nat×Bool)} (t:TypeId) (r:Option Operand) (h:Sim c nt e σ a w L β):
  ROk (zj6 σ (zj1 P t) (r.map (zF e))) σ (Yield P c ⟨dst,.makeMap t r,ty,pos,aft,g⟩ a w L σ β):=by
 have hnew:=xj4 h.mem
 have hrd:RdS (w.alloc (.map #[] 0)) L (σ++ [.mp [] [] 0]) (β++ [.pointer (some ⟨w.heap.size,0,none⟩)]) (.mp σ.length) (.map (some w.heap.size)):=⟨w.heap.size,by rw[←h.mem.len];simp,rfl⟩
 cases r with
 |none=>exact⟨_,_,L,_,.inl (by simp[execOp,Instr.makeMap]),hnew.1,hnew.2,Ext.push σ β h.mem.len _ _,hrd⟩
 |some p=>
  have hp:=h.eval p
  simp only[Option.map_some]
  unfold zj6
  split
  ·rename_i hq;cases hq
  ·rename_i k n hm hq
   simp only[Option.some.injEq]at hq
   rw[hq]at hp
   have hp:=yQ hp
   unfold zj1 at hm
   split at hm
   ·rename_i kt et hu
    exact⟨_,_,L,_,.inl (by simp[execOp,Instr.makeMap,run_underlying hu,hp,asInt,asIntOf]),hnew.1,hnew.2,Ext.push σ β h.mem.len _ _,hrd⟩
   ·cases hm
  ·trivial
def zn5 (m:Option (Pk×V)) (σ:St) (x k:V) (ok:Bool):R:=
 match m with
 |some (kd,z)=>if zG0 kd k=true then(match x with
  | .mp id=>(match σ[id]? with
   |some (.mp kvs _ _)=>(match zu7 kd k kvs 0 with
    |some (some (_,v))=> .ok (if ok then .tup [v,.bool true]else v)
    |some none=> .ok (if ok then .tup [z,.bool false]else z)
    |none=> .fail)
   |_=> .fail)
  | .raw (.map none)=> .ok (if ok then .tup [z,.bool false]else z)
  |_=> .fail)else .fail
 |none=> .fail
theorem zX5 {id:Nat} {x:Value} (r:RdS w L σ β (.mp id) x): ∃b,β[id]? =some (.pointer (some ⟨b,0,none⟩))∧x= .map (some b):=r
theorem zy3 {x:Value} (r:RdS w L σ β (.raw (.map none)) x):x= .map none:=by
 have r':RdP w L (.raw (.map none)) x:=r
 cases r';rfl
theorem zX7 {v:V} {x:Value} (b:Bool) (r:RdA w L σ β v x) (ok:Bool):RdS w L σ β (if ok then .tup [v,.bool b]else v) (if ok then .tuple #[x,.bool b]else x):=by
 cases ok
 ·exact RdS.of_a r
 ·exact⟨[x,.bool b],rfl,r,RdA.of_cell (RdC.of_pure (.bool b)),trivial⟩
theorem yP1 {dst:Option Tmp} {ty:TypeId} {pos:String} {aft:Array Edge} {g:Option (Nat×Bool)} (t:TypeId) (x k:Operand) (ok:Bool) (h:Sim c nt e σ a w L β):
  ROk (zn5 (mapT P t) σ (zF e x) (zF e k) ok) σ (Yield P c ⟨dst,.lookup t x k ok,ty,pos,aft,g⟩ a w L σ β):=by
 have hx:=h.eval x
 have hk:=h.eval k
 unfold zn5
 split
 ·rename_i kd z hm
  obtain⟨kt,et,d,i,zv,hu,hd,hkd,hi,hz,hhas,hzr⟩:=zE4 hm
  split
  ·rename_i hko
   have hik:=zK0 hkd hko hk
   have hck: ∀em,(Instr.checkKey em 10000 kt (a.eval k)).run P w= .ok () w:=fun em=>MapKept.run_checkKey hd hik em 9999
   have hzv:(zeroValue et).run P w= .ok zv w:=by simp[zeroValue,typeInfo,hi,hz]
   split
   ·rename_i id hid
    rw[hid]at hx
    obtain⟨b,hβ,hv⟩:=zX5 hx
    split
    ·rename_i kvs bs clk hσ
     obtain⟨b',es,e1,hh,hl,hall,hbn⟩:=h.mem.objs _ _ _ hσ hβ
     cases e1
     have hall:All2 (RdA w L σ β) kvs (es.toList.flatMap fun e=> [e.key,e.val]):=hall
     split
     ·rename_i i0 v hf
      rcases zD9 hkd hk kvs es.toList 0 _ hall hf with ⟨e1,_⟩|⟨j,v',e',e1,e2,_,_,e5,_⟩
      ·cases e1
      ·cases e1
       refine Yield.pure h (x:=if ok then .tuple #[e'.val,.bool true]else e'.val) ?_ (zX7 true e5 ok)
       have hrun:=MapKept.run_findKey (P:=P) (w:=w) hd e2
       simp[execOp,Instr.lookup,run_underlying hu,hv,MapKept.run_getObj_map hh,hck,hrun]
     ·rename_i hf
      rcases zD9 hkd hk kvs es.toList 0 _ hall hf with ⟨_,e2⟩|⟨j,v',e',e1,_⟩
      ·refine Yield.pure h (x:=if ok then .tuple #[zv,.bool false]else zv) ?_ (zX7 false (hzr _ _ _ _) ok)
       have hrun:=MapKept.run_findKey (P:=P) (w:=w) hd e2
       simp[execOp,Instr.lookup,run_underlying hu,hv,MapKept.run_getObj_map hh,hck,hrun,hzv]
      ·cases e1
     ·trivial
    ·trivial
   ·rename_i hid
    rw[hid]at hx
    have hv:=zy3 hx
    refine Yield.pure h (x:=if ok then .tuple #[zv,.bool false]else zv) ?_ (zX7 false (hzr _ _ _ _) ok)
    have hrun:=MapKept.run_findKey (P:=P) (w:=w) (kt:=kt) (k:=a.eval k) (l:= []) (a:=none) hd rfl
    simp[execOp,Instr.lookup,run_underlying hu,hv,hck,hrun,hzv]
   ·trivial
  ·trivial
 ·trivial
def zQ8 (kvs:List V) (i:Nat) (k v:V):List V:=(kvs.set (2*i) k).set (2*i+1) v
theorem zA9 (l:List MapEntry): ∀(i:Nat),(l.flatMap fun e=> [e.key,e.val])[2*i]? =(l[i]?).map (·.key)∧(l.flatMap fun e=> [e.key,e.val])[2*i+1]? =(l[i]?).map (·.val):=by
 induction l with
 |nil=>intro i;simp
 |cons e l ih=>
  intro i
  cases i with
  |zero=>simp
  |succ i=>
   obtain⟨h1,h2⟩:=ih i
   rw[List.flatMap_cons,show 2*(i+1)=2*i+1+1 by omega]
   simp[h1,h2]
theorem yo8 (l:List MapEntry):(l.flatMap fun e=> [e.key,e.val]).length=2*l.length:=by
 induction l with
 |nil=>rfl
 |cons e l ih=>rw[List.flatMap_cons];simp[ih];omega
theorem xi8 {kvs:List V} {es:Array MapEntry} {i:Nat} {k v:V} {x y:Value} (h:All2 (RdA w L σ β) kvs (zG1 es)) (hk:RdA w L σ β k x) (hv:RdA w L σ β v y) (hi:i<es.size):
  All2 (RdA w L σ β) (zQ8 kvs i k v) (zG1 (es.modify i fun e=>{e with key:=x,val:=y})):=by
 have hl:=h.length
 unfold zG1 at h hl⊢
 rw[yo8]at hl
 simp only[Array.length_toList]at hl
 refine All2.of ?_ fun j p q hp hq=> ?_
 ·unfold zQ8;rw[yo8];simp[hl]
 ·unfold zQ8 at hp
  obtain⟨m,hm⟩: ∃m,j=2*m∨j=2*m+1:=⟨j/2,by omega⟩
  rcases hm with rfl|rfl
  ·rw[(zA9 _ m).1]at hq
   rw[List.getElem?_set_ne (by omega)]at hp
   rw[Array.getElem?_toList,Array.getElem?_modify]at hq
   by_cases e1:i=m
   ·subst e1
    rw[if_pos rfl]at hq
    rw[List.getElem?_set_self (by omega)]at hp
    cases hp
    rw[Array.getElem?_eq_getElem hi]at hq
    simp at hq
    subst hq;exact hk
   ·rw[if_neg e1]at hq
    rw[List.getElem?_set_ne (by omega)]at hp
    obtain⟨y',hy',r⟩:=h.get _ _ hp
    rw[(zA9 _ m).1,Array.getElem?_toList]at hy'
    rw[hq]at hy';cases hy';exact r
  ·rw[(zA9 _ m).2]at hq
   rw[Array.getElem?_toList,Array.getElem?_modify]at hq
   by_cases e1:i=m
   ·subst e1
    rw[if_pos rfl]at hq
    rw[List.getElem?_set_self (by simp;omega)]at hp
    cases hp
    rw[Array.getElem?_eq_getElem hi]at hq
    simp at hq
    subst hq;exact hv
   ·rw[if_neg e1]at hq
    rw[List.getElem?_set_ne (by omega),List.getElem?_set_ne (by omega)]at hp
    obtain⟨y',hy',r⟩:=h.get _ _ hp
    rw[(zA9 _ m).2,Array.getElem?_toList]at hy'
    rw[hq]at hy';cases hy';exact r
theorem yL0 (es:Array MapEntry) (i:Nat) (x y:Value):(es.modify i fun e=>{e with key:=x,val:=y}).toList.map (·.born)=es.toList.map (·.born):=by
 apply List.ext_getElem?
 intro j
 simp only[List.getElem?_map,Array.getElem?_toList,Array.getElem?_modify]
 by_cases hij:i=j
 ·subst hij
  cases he:es[i]? with
  |none=>simp
  |some e=>simp
 ·simp[hij]
def xI (m:Option (Pk×V)) (σ:St) (x k v:V):R:=
 match m,x with
 |some (kd,_),.mp id=>if zG0 kd k=true∧wN v=true then(match σ[id]? with
  |some (.mp kvs bs clk)=>(match zu7 kd k kvs 0 with
   |some (some (i,_))=> .st .u (σ.set id (.mp (zQ8 kvs i k v) bs clk))
   |some none=> .st .u (σ.set id (.mp (kvs++ [k,v]) (bs++ [clk]) (clk+1)))
   |none=> .fail)
  |_=> .fail)else .fail
 |_,_=> .fail
theorem yx4 {k:Pk} {v:V} (h:zG0 k v=true):wN v=true:=by
 cases k<;>cases v<;>first|rfl|simp[zG0]at h
theorem yG5 {x k v:Value} {t kt et:TypeId} {d:TypeDesc} {kd:Pk} {kvs:List V} {bs:List Nat} {clk id:Nat} {kv vv:V} (hm:Mem c w L σ β) (hu:P.underlying t=some (.map kt et)) (hd:P.underlying kt=some d) (hkd:keyD d=some kd)
  (hx:RdS w L σ β (.mp id) x) (hko:zG0 kd kv=true) (hk:RdS w L σ β kv k) (hv:RdA w L σ β vv v) (hσ:σ[id]? =some (.mp kvs bs clk)) {q:Option (Nat×V)} (hf:zu7 kd kv kvs 0=some q):
  ∃w',(Instr.mapUpdate t x k v).run P w= .ok () w'∧Le w L w' L∧(match q with
   |some (i,_)=>Mem c w' L (σ.set id (.mp (zQ8 kvs i kv vv) bs clk)) β∧Ext σ β (σ.set id (.mp (zQ8 kvs i kv vv) bs clk)) β
   |none=>Mem c w' L (σ.set id (.mp (kvs++ [kv,vv]) (bs++ [clk]) (clk+1))) β∧Ext σ β (σ.set id (.mp (kvs++ [kv,vv]) (bs++ [clk]) (clk+1))) β):=by
 have hik:=zK0 hkd hko hk
 have hka:RdA w L σ β kv k:=yI0 hk (yx4 hko)
 have hck: ∀em,(Instr.checkKey em 10000 kt k).run P w= .ok () w:=fun em=>MapKept.run_checkKey hd hik em 9999
 obtain⟨b,hβ,rfl⟩:=zX5 hx
 obtain⟨b',es,e1,hh,hl,hall,hbn⟩:=hm.objs _ _ _ hσ hβ
 cases e1
 have hlt:b<w.heap.size:=(Array.getElem?_eq_some_iff.1 hh).1
 have hext: ∀o,Ext σ β (σ.set id o) β:=fun o=>Ext.setOther hσ (fun _ _ q=>by cases q) (fun _ _ q=>by cases q) (fun q=>by cases q) o
 have hset: ∀ob:Go.Obj,(setObj b ob).run P w= .ok () (yD w b ob):=fun ob=>by rw[MapKept.run_setObj_map ob hh];rfl
 rcases zD9 hkd hk kvs es.toList 0 _ hall hf with ⟨rfl,e2⟩|⟨j,v',e',rfl,e2,e3,_,_,kk,e6,e7⟩
 ·have hrun:=MapKept.run_findKey (P:=P) (w:=w) hd e2
  refine⟨yD w b (.map (es.push {key:=k,val:=v,born:=clk}) (clk+1)), ?_, ?_⟩
  ·simp[Instr.mapUpdate,run_underlying hu,MapKept.run_getObj_map hh,hck,hrun,hset]
  ·have key:=hm.setOb (o:= .mp (kvs++ [kv,vv]) (bs++ [clk]) (clk+1)) hσ hβ rfl hl (.map (es.push {key:=k,val:=v,born:=clk}) (clk+1)) (hext _) (fun k h=>by simpa[excl]using h.symm) fun hle=>by
    refine⟨b,_,rfl,xR _ _ _ hlt,hl, ?_,by simp[hbn]⟩
    have:All2 (RdA w L σ β) (kvs++ [kv,vv]) (zG1 (es.push {key:=k,val:=v,born:=clk})):=by
     simp only[zG1,Array.toList_push,List.flatMap_append]
     exact All2.append hall ⟨hka,hv,trivial⟩
    exact this.imp fun _ _=>RdA.mono hle (hext _)
   exact⟨key.2,key.1,hext _⟩
 ·have hrun:=MapKept.run_findKey (P:=P) (w:=w) hd e2
  have hj:es[j]? =some e':=by simpa using e3
  have hjl:j<es.size:=(Array.getElem?_eq_some_iff.1 hj).1
  have hkk:e'.key=k:=by
   obtain⟨y,hy,r⟩:=hall.get _ _ e6
   unfold zG1 at hy
   rw[(zA9 _ j).1,e3]at hy
   simp at hy
   subst hy
   exact(yM2 hk (RdS.of_a r) e7).symm
  refine⟨yD w b (.map (es.modify j fun e=>{e with key:=k,val:=v}) clk), ?_, ?_⟩
  ·simp[Instr.mapUpdate,run_underlying hu,MapKept.run_getObj_map hh,hck,hrun,hset,hj,hkk,MapKept.run_keyThatStays hik]
  ·have key:=hm.setOb (o:= .mp (zQ8 kvs j kv vv) bs clk) hσ hβ rfl hl (.map (es.modify j fun e=>{e with key:=k,val:=v}) clk) (hext _) (fun k h=>by simpa[excl]using h.symm) fun hle=>by
    refine⟨b,_,rfl,xR _ _ _ hlt,hl,(xi8 hall hka hv hjl).imp fun _ _=>RdA.mono hle (hext _),by rw[yL0];exact hbn⟩
   simp only[Nat.zero_add]
   exact⟨key.2,key.1,hext _⟩
theorem zG3 {o:Oper} (t:TypeId) (x k v:Operand) (h:Sim c nt e σ a w L β) (ho:execOp a.eval o=(do Instr.mapUpdate t (a.eval x) (a.eval k) (a.eval v);pure .skip)):
  ROk (xI (mapT P t) σ (zF e x) (zF e k) (zF e v)) σ (Yield P c o a w L σ β):=by
 have hx:=h.eval x
 have hk:=h.eval k
 have hv:=h.eval v
 unfold xI
 split
 ·rename_i kd z id hm hid
  obtain⟨kt,et,d,i,zv,hu,hd,hkd,_⟩:=zE4 hm
  rw[hid]at hx
  split
  ·rename_i hc
   split
   ·rename_i kvs bs clk hσ
    split
    ·rename_i i0 v0 hf
     obtain⟨w',hrun,hle,hm',hext⟩:=yG5 h.mem hu hd hkd hx hc.1 hk (yI0 hv hc.2) hσ hf
     exact⟨undef,w',L,β,.inr ⟨by simp[ho,hrun],rfl⟩,hm',hle,hext,trivial⟩
    ·rename_i hf
     obtain⟨w',hrun,hle,hm',hext⟩:=yG5 h.mem hu hd hkd hx hc.1 hk (yI0 hv hc.2) hσ hf
     exact⟨undef,w',L,β,.inr ⟨by simp[ho,hrun],rfl⟩,hm',hle,hext,trivial⟩
    ·trivial
   ·trivial
  ·trivial
 ·trivial
theorem yj0 {dst:Option Tmp} {ty:TypeId} {pos:String} {aft:Array Edge} {g:Option (Nat×Bool)} (t:TypeId) (x k v:Operand) (h:Sim c nt e σ a w L β):
  ROk (xI (mapT P t) σ (zF e x) (zF e k) (zF e v)) σ (Yield P c ⟨dst,.mapUpdate t x k v,ty,pos,aft,g⟩ a w L σ β):=zG3 t x k v h rfl
theorem yO9 {dst:Option Tmp} {ty:TypeId} {pos:String} {aft:Array Edge} {g:Option (Nat×Bool)} (t:TypeId) (x k v:Operand) (h:Sim c nt e σ a w L β):
  ROk (xI (mapT P t) σ (zF e x) (zF e k) (zF e v)) σ (Yield P c ⟨dst,.insert t x k v,ty,pos,aft,g⟩ a w L σ β):=zG3 t x k v h rfl
theorem zF7 {α β:Type} (f:α→β): ∀(l:List α) (i:Nat),(l.eraseIdx i).map f=(l.map f).eraseIdx i
 | [],_=>rfl
 |_::_,0=>rfl
 |x::l,i+1=>by simp[zF7 f l i]
def yn6 (kvs:List V) (i:Nat):List V:=kvs.take (2*i)++kvs.drop (2*i+2)
def zn4 (m:Option (Pk×V)) (σ:St) (x k:V):R:=
 match m,x with
 |some (kd,_),.mp id=>if zG0 kd k=true then(match σ[id]? with
  |some (.mp kvs bs clk)=>(match zu7 kd k kvs 0 with
   |some (some (i,_))=> .st (.tup []) (σ.set id (.mp (yn6 kvs i) (bs.eraseIdx i) clk))
   |some none=> .st (.tup []) (σ.set id (.mp kvs bs clk))
   |none=> .fail)
  |_=> .fail)else .fail
 |some (kd,_),.raw (.map none)=>if zG0 kd k=true then .ok (.tup [])else .fail
 |_,_=> .fail
theorem yw9 (l:List MapEntry): ∀(i:Nat),i<l.length→(l.eraseIdx i).flatMap (fun e=> [e.key,e.val])=(l.flatMap fun e=> [e.key,e.val]).take (2*i)++(l.flatMap fun e=> [e.key,e.val]).drop (2*i+2):=by
 induction l with
 |nil=>intro i h;simp at h
 |cons e l ih=>
  intro i h
  cases i with
  |zero=>simp
  |succ i=>
   rw[List.eraseIdx_cons_succ,List.flatMap_cons,List.flatMap_cons,ih i (by simpa using h)]
   rw[show 2*(i+1)=2*i+1+1 by omega]
   simp
theorem yO8 {dst:Option Tmp} {ty:TypeId} {pos:String} {aft:Array Edge} {g:Option (Nat×Bool)} (t t':TypeId) (x k:Operand) (h:Sim c nt e σ a w L β):
  ROk (zn4 (mapT P t) σ (zF e x) (zF e k)) σ (Yield P c ⟨dst,.call ⟨.builtin .delete, #[x,k], #[t,t']⟩,ty,pos,aft,g⟩ a w L σ β):=by
 have hx:=h.eval x
 have hk:=h.eval k
 unfold zn4
 split
 ·rename_i kd z id hm hid
  obtain⟨kt,et,d,i,zv,hu,hd,hkd,_⟩:=zE4 hm
  rw[hid]at hx
  split
  ·rename_i hko
   have hik:=zK0 hkd hko hk
   have hck: ∀em,(Instr.checkKey em 10000 kt (a.eval k)).run P w= .ok () w:=fun em=>MapKept.run_checkKey hd hik em 9999
   obtain⟨b,hβ,hv⟩:=zX5 hx
   split
   ·rename_i kvs bs clk hσ
    obtain⟨b',es,e1,hh,hl,hall,hbn⟩:=h.mem.objs _ _ _ hσ hβ
    cases e1
    have hlt:b<w.heap.size:=(Array.getElem?_eq_some_iff.1 hh).1
    have hext: ∀o,Ext σ β (σ.set id o) β:=fun o=>Ext.setOther hσ (fun _ _ q=>by cases q) (fun _ _ q=>by cases q) (fun q=>by cases q) o
    have hset: ∀ob:Go.Obj,(setObj b ob).run P w= .ok () (yD w b ob):=fun ob=>by rw[MapKept.run_setObj_map ob hh];rfl
    split
    ·rename_i i0 v0 hf
     rcases zD9 hkd hk kvs es.toList 0 _ hall hf with ⟨e1,_⟩|⟨j,v',e',e1,e2,e3,_,_,kk,e6,e7⟩
     ·cases e1
     ·cases e1
      have hrun:=MapKept.run_findKey (P:=P) (w:=w) hd e2
      have hjl:j<es.toList.length:=(List.getElem?_eq_some_iff.1 e3).1
      have hjs:j<es.size:=by simpa using hjl
      have herase:(es.eraseIdxIfInBounds j).toList=es.toList.eraseIdx j:=by
       unfold Array.eraseIdxIfInBounds
       rw[dif_pos hjs];simp
      simp only[Nat.zero_add]
      have key:=h.mem.setOb (o:= .mp (yn6 kvs j) (bs.eraseIdx j) clk) hσ hβ rfl hl (.map (es.eraseIdxIfInBounds j) clk) (hext _) (fun k h=>by simpa[excl]using h.symm) fun hle=>by
       refine⟨b,_,rfl,xR _ _ _ hlt,hl, ?_,by rw[herase,←hbn,zF7]⟩
       have:All2 (RdA w L σ β) (yn6 kvs j) (zG1 (es.eraseIdxIfInBounds j)):=by
        unfold zG1 yn6
        rw[herase,yw9 _ _ hjl]
        exact(All2.take _ hall).append (All2.drop _ hall)
       exact this.imp fun _ _=>RdA.mono hle (hext _)
      refine⟨.tuple #[],_,L,β,.inl ?_,key.1,key.2,hext _,[],rfl,trivial⟩
      simp[execOp,resolve,invoke,builtin,Builtin.delete_,run_underlying hu,hv,MapKept.run_getObj_map hh,hck,hrun,hset]
    ·rename_i hf
     rcases zD9 hkd hk kvs es.toList 0 _ hall hf with ⟨_,e2⟩|⟨j,v',e',e1,_⟩
     ·have hrun:=MapKept.run_findKey (P:=P) (w:=w) hd e2
      have key:=h.mem.setOb (o:= .mp kvs bs clk) hσ hβ rfl hl (.map es clk) (hext _) (fun k h=>by simpa[excl]using h.symm) fun hle=>by
       exact⟨b,_,rfl,xR _ _ _ hlt,hl,hall.imp fun _ _=>RdA.mono hle (hext _),hbn⟩
      refine⟨.tuple #[],_,L,β,.inl ?_,key.1,key.2,hext _,[],rfl,trivial⟩
      simp[execOp,resolve,invoke,builtin,Builtin.delete_,run_underlying hu,hv,MapKept.run_getObj_map hh,hck,hrun,hset]
     ·cases e1
    ·trivial
   ·trivial
  ·trivial
 ·rename_i kd z hm hid
  obtain⟨kt,et,d,i,zv,hu,hd,hkd,_⟩:=zE4 hm
  rw[hid]at hx
  have hv:=zy3 hx
  split
  ·rename_i hko
   have hik:=zK0 hkd hko hk
   have hck: ∀em,(Instr.checkKey em 10000 kt (a.eval k)).run P w= .ok () w:=fun em=>MapKept.run_checkKey hd hik em 9999
   refine Yield.pure h (x:= .tuple #[]) ?_ ⟨[],rfl,trivial⟩
   simp[execOp,resolve,invoke,builtin,Builtin.delete_,run_underlying hu,hv,hck]
  ·trivial
 ·trivial
theorem zm8 {t kt et:TypeId} (hb:P.underlying t=some (.map kt et)) (m:Option Nat) (w:World):(Op.equal t (.map m) (.map none)).run P w= .ok m.isNone w:=by
 have key: ∀d,(Op.equalIn (d+1) t (.map m) (.map none)).run P w= .ok m.isNone w:=fun d=>by
  cases m<;>simp[Op.equalIn,run_underlying hb]
 exact key 9999
def zd6:Operand→Bool
 | .const (.map none)=>true
 |_=>false
def zn6 (op:BinOp) (m:Bool) (x:V):R:=
 match m,x with
 |true,.mp _=>(match op with| .eql=> .ok (.bool false)| .neq=> .ok (.bool true)|_=> .fail)
 |true,.raw (.map none)=>(match op with| .eql=> .ok (.bool true)| .neq=> .ok (.bool false)|_=> .fail)
 |_,_=> .fail
theorem yP2 {dst:Option Tmp} {ty:TypeId} {pos:String} {aft:Array Edge} {g:Option (Nat×Bool)} (op:BinOp) (t t':TypeId) (x y:Operand) (hy:zd6 y=true) (h:Sim c nt e σ a w L β):
  ROk (zn6 op (zj1 P t) (zF e x)) σ (Yield P c ⟨dst,.binOp op t x y t',ty,pos,aft,g⟩ a w L σ β):=by
 have hx:=h.eval x
 have hyv:a.eval y= .map none:=by
  unfold zd6 at hy
  split at hy
  ·rfl
  ·cases hy
 unfold zn6
 split
 ·rename_i id hm hid
  unfold zj1 at hm
  split at hm
  ·rename_i kt et hu
   rw[hid]at hx
   obtain⟨b,hβ,hv⟩:=zX5 hx
   split
   ·refine Yield.pure h (x:= .bool false) ?_ (RdP.bool _)
    simp[execOp,eqGuard,binOp,zm8 hu,hv,hyv]
   ·refine Yield.pure h (x:= .bool true) ?_ (RdP.bool _)
    simp[execOp,eqGuard,binOp,zm8 hu,hv,hyv]
   ·trivial
  ·cases hm
 ·rename_i hm hid
  unfold zj1 at hm
  split at hm
  ·rename_i kt et hu
   rw[hid]at hx
   have hv:=zy3 hx
   split
   ·refine Yield.pure h (x:= .bool true) ?_ (RdP.bool _)
    simp[execOp,eqGuard,binOp,zm8 hu,hv,hyv]
   ·refine Yield.pure h (x:= .bool false) ?_ (RdP.bool _)
    simp[execOp,eqGuard,binOp,zm8 hu,hv,hyv]
   ·trivial
  ·cases hm
 ·trivial
def zt4 (m:Bool) (σ:St) (x:V):R:=
 match m,x with
 |true,.mp id=>(match σ[id]? with|some (.mp _ _ clk)=> .st (.ptr σ.length 0) (σ++ [.it (some id) clk [] clk])|_=> .fail)
 |true,.raw (.map none)=> .st (.ptr σ.length 0) (σ++ [.it none 0 [] 0])
 |_,_=> .fail
theorem yZ9 {dst:Option Tmp} {ty:TypeId} {pos:String} {aft:Array Edge} {g:Option (Nat×Bool)} (t:TypeId) (x:Operand) (h:Sim c nt e σ a w L β):
  ROk (zt4 (zj1 P t) σ (zF e x)) σ (Yield P c ⟨dst,.range t x,ty,pos,aft,g⟩ a w L σ β):=by
 have hx:=h.eval x
 have rd: ∀(o:Ob) (w':World),RdS w' L (σ++ [o]) (β++ [.pointer (some ⟨w.heap.size,0,none⟩)]) (.ptr σ.length 0) (.pointer (some ⟨w.heap.size,0,none⟩)):=fun o w'=>⟨w.heap.size,by rw[←h.mem.len];simp,rfl⟩
 unfold zt4
 split
 ·rename_i id hm hid
  unfold zj1 at hm
  split at hm
  ·rename_i kt et hu
   rw[hid]at hx
   obtain⟨b,hβ,hv⟩:=zX5 hx
   split
   ·rename_i kvs bs clk hσ
    obtain⟨b',es,e1,hh,hl,hall,hbn⟩:=h.mem.objs _ _ _ hσ hβ
    cases e1
    have key:=h.mem.newOb (.mapIter (some b) clk #[] clk) (.it (some id) clk [] clk) (fun hle hext=>⟨w.heap.size,some b,rfl,yJ _ _,h.mem.lim _ (Nat.le_refl _),b,hext.ptr _ _ hβ,rfl⟩) fun b hb=>by simp[excl]at hb;exact hb.symm
    refine⟨_,_,L,_,.inl ?_,key.1,key.2,Ext.push σ β h.mem.len _ _,rd _ _⟩
    have hrun:=run_range_map (P:=P) w t kt et b es clk hu hh
    simp[execOp,hv,hrun]
   ·trivial
  ·cases hm
 ·rename_i hm hid
  unfold zj1 at hm
  split at hm
  ·rename_i kt et hu
   rw[hid]at hx
   have hv:=zy3 hx
   have key:=h.mem.newOb (.mapIter none 0 #[] 0) (.it none 0 [] 0) (fun hle hext=>⟨w.heap.size,none,rfl,yJ _ _,h.mem.lim _ (Nat.le_refl _),rfl⟩) fun b hb=>by simp[excl]at hb;exact hb.symm
   refine⟨_,_,L,_,.inl ?_,key.1,key.2,Ext.push σ β h.mem.len _ _,rd _ _⟩
   have hrun:=run_range_nilMap (P:=P) w t kt et hu
   simp[execOp,hv,hrun]
  ·cases hm
 ·trivial
def zN5 (seen:List Nat):List V→List Nat→List (V×V×Nat)
 |k::v::kvs,b::bs=>if seen.contains b then zN5 seen kvs bs else(k,v,b)::zN5 seen kvs bs
 |_,_=> []
def zo4 (open_:Bool) (σ:St) (x:V):R:=
 match x with
 | .ptr i 0=>(match σ[i]? with
  |some (.it none _ _ _)=> .ok (.tup [.bool false])
  |some (.it (some id) since seen last)=>(match σ[id]? with
   |some (.mp kvs bs clk)=>if(bs.all fun b=>decide (b<since))=true∧since≤last then(match zN5 seen kvs bs with
    | []=> .ok (.tup [.bool false])
    | [(k,v,b)]=> .st (.tup [.bool true,k,v]) (σ.set i (.it (some id) since (seen++ [b]) clk))
    |l=>if open_ then .any (l.map fun p=>(.tup [.bool true,p.1,p.2.1],σ.set i (.it (some id) since (seen++ [p.2.2]) clk)))else .fail)else .fail
   |_=> .fail)
  |_=> .fail)
 |_=> .fail
theorem yF6: ∀(kvs:List V) (bs:List Nat) (es:List MapEntry) (seen:List Nat),All2 (RdA w L σ β) kvs (es.flatMap fun e=> [e.key,e.val])→es.map (·.born)=bs→
  All2 (fun p (e:MapEntry)=>RdA w L σ β p.1 e.key∧RdA w L σ β p.2.1 e.val∧e.born=p.2.2) (zN5 seen kvs bs) (es.filter fun e=> !seen.contains e.born)
 | [],bs,[],seen,_,hb=>by simp at hb;subst hb;trivial
 | [],_,e::es,_,ha,_=>by simp[All2]at ha
 | [_],_,[],_,ha,_=>by simp[All2]at ha
 | [_],_,e::es,_,ha,_=>by simp[All2]at ha
 |_::_::_,_,[],_,ha,_=>by simp[All2]at ha
 |k::v::kvs,bs,e::es,seen,ha,hb=>by
  simp only[List.flatMap_cons,List.cons_append,List.nil_append,All2]at ha
  obtain⟨h1,h2,h3⟩:=ha
  cases bs with
  |nil=>simp at hb
  |cons b bs=>
   simp only[List.map_cons,List.cons.injEq]at hb
   obtain⟨rfl,hb⟩:=hb
   have ih:=yF6 kvs bs es seen h3 hb
   rw[zN5,List.filter_cons]
   by_cases hc:seen.contains e.born=true
   ·rw[if_pos hc,if_neg (by rw[hc];simp)];exact ih
   ·rw[if_neg hc,if_pos (by simpa using hc)];exact⟨⟨h1,h2,rfl⟩,ih⟩
theorem xh1 {w1:World} (h:w1=w∨w1=w.drew) (hm:Mem c w L σ β):Mem c w1 L σ β∧Le w L w1 L:=by
 rcases h with rfl|rfl
 ·exact⟨hm,Le.refl _ _⟩
 ·exact hm.drew
theorem All2.mem_r {α β:Type} {R:α→β→Prop}: ∀{l:List α} {m:List β} {b:β},All2 R l m→b∈m→ ∃a∈l,R a b
 |a::l,b'::m,b,h,hb=>by
  rcases List.mem_cons.1 hb with rfl|hb
  ·exact⟨a,by simp,h.1⟩
  ·obtain⟨a',ha,r⟩:=All2.mem_r h.2 hb
   exact⟨a',by simp[ha],r⟩
 | [],[],_,_,hb=>by simp at hb
 | [],_::_,_,h,_=>h.elim
 |_::_,[],_,h,_=>h.elim
theorem yH5 {dst:Option Tmp} {ty:TypeId} {pos:String} {aft:Array Edge} {g:Option (Nat×Bool)} (open_:Bool) (x:Operand) (h:Sim c nt e σ a w L β):
  ROk (zo4 open_ σ (zF e x)) σ (Yield P c ⟨dst,.next x false,ty,pos,aft,g⟩ a w L σ β):=by
 have hx:=h.eval x
 unfold zo4
 split
 ·rename_i i hid
  rw[hid]at hx
  obtain⟨r,hβ,hv⟩:=hx
  split
  ·rename_i since seen last hσ
   obtain⟨r',mo,e1,hh,hl,hmo⟩:=h.mem.objs _ _ _ hσ hβ
   cases e1
   simp only at hmo
   subst hmo
   refine Yield.pure h (x:= .tuple #[.bool false]) ?_ ⟨[.bool false],rfl,RdA.of_cell (RdC.of_pure (.bool _)),trivial⟩
   simp[execOp,hv,Instr.next,getObj,Sem.run,hh]
  ·rename_i id since seen last hσ
   obtain⟨r',mo,e1,hh,hl,b,hβm,rfl⟩:=h.mem.objs _ _ _ hσ hβ
   cases e1
   split
   ·rename_i kvs bs clk hσm
    obtain⟨b',es,e1,hhm,hlm,hall,hbn⟩:=h.mem.objs _ _ _ hσm hβm
    cases e1
    split
    ·rename_i hc
     have hlt:r<w.heap.size:=(Array.getElem?_eq_some_iff.1 hh).1
     have hlk:=yF6 kvs bs es.toList seen hall hbn
     have hfl:(leftOf es seen.toArray).toList=es.toList.filter fun e=> !seen.contains e.born:=by
      unfold leftOf;simp
     rw[←hfl]at hlk
     have hold: ∀x∈es.toList,x.born<since:=fun x hx=>by
      have:=List.all_eq_true.1 hc.1 x.born (by rw[←hbn];exact List.mem_map.2 ⟨x,hx,rfl⟩)
      simpa using this
     have hnext:=run_next_at (P:=P) w ty r b since last seen.toArray es clk hh hhm hold hc.2
     have hext: ∀o,Ext σ β (σ.set i o) β:=fun o=>Ext.setOther hσ (fun _ _ q=>by cases q) (fun _ _ q=>by cases q) (fun q=>by cases q) o
     have step: ∀(q:V×V×Nat) (en:MapEntry) (w1:World),(w1=w∨w1=w.drew)→RdA w L σ β q.1 en.key→RdA w L σ β q.2.1 en.val→en.born=q.2.2→
       (Instr.next (.pointer (some ⟨r,0,none⟩)) false ty).run P w= .ok (.tuple #[.bool true,en.key,en.val]) (ChangeMaps.setBlock w1 r (.mapIter (some b) since (seen.toArray.push en.born) clk))→
       Yield P c ⟨dst,.next x false,ty,pos,aft,g⟩ a w L σ β (.tup [.bool true,q.1,q.2.1]) (σ.set i (.it (some id) since (seen++ [q.2.2]) clk)):=by
      intro q en w1 hw1 h1 h2 h3 hrun
      obtain⟨hm1,hle1⟩:=xh1 hw1 h.mem
      have hh1:w1.heap[r]? =some (.mapIter (some b) since seen.toArray last):=by rcases hw1 with rfl|rfl<;>exact hh
      have hlt1:r<w1.heap.size:=(Array.getElem?_eq_some_iff.1 hh1).1
      have key:=hm1.setOb (o:= .it (some id) since (seen++ [q.2.2]) clk) hσ hβ rfl hl (.mapIter (some b) since (seen.toArray.push en.born) clk) (hext _) (fun k h=>by simpa[excl]using h.symm) fun hle=>by
       refine⟨r,some b,rfl, ?_,hl,b,hβm,rfl⟩
       rw[xR _ _ _ hlt1,h3]
       simp
      refine⟨.tuple #[.bool true,en.key,en.val],yD w1 r (.mapIter (some b) since (seen.toArray.push en.born) clk),L,β,.inl ?_,key.1,hle1.trans key.2,hext _, ?_⟩
      ·simp only[execOp,hv,Sem.run_bind,hrun,Result.andThen_ok,Sem.run_pure]
       rfl
      ·exact⟨[.bool true,en.key,en.val],rfl,RdA.of_cell (RdC.of_pure (.bool _)),h1.mono (hle1.trans key.2) (hext _),h2.mono (hle1.trans key.2) (hext _),trivial⟩
     split
     ·rename_i hl0
      rw[hl0]at hlk
      have h0:(leftOf es seen.toArray).size=0:=by
       have:=hlk.length
       simpa using this.symm
      rcases hnext with ⟨_,hrun⟩|⟨en,hen,_⟩
      ·refine Yield.pure h (x:= .tuple #[.bool false]) ?_ ⟨[.bool false],rfl,RdA.of_cell (RdC.of_pure (.bool _)),trivial⟩
       simp only[execOp,hv,Sem.run_bind,hrun,Result.andThen_ok,Sem.run_pure]
      ·obtain⟨_,hq,_⟩:=All2.mem_r hlk hen
       simp at hq
     ·rename_i k v b0 hl1
      rw[hl1]at hlk
      have h0:(leftOf es seen.toArray).size=1:=by
       have:=hlk.length
       simpa using this.symm
      rcases hnext with ⟨hz,_⟩|⟨en,hen,w1,hw1,hrun⟩
      ·omega
      ·obtain⟨q,hq,h1,h2,h3⟩:=All2.mem_r hlk hen
       simp at hq
       subst hq
       exact step _ en w1 hw1 h1 h2 h3 hrun
     ·rename_i l hne0 hne1
      split
      case isFalse=>trivial
      rcases hnext with ⟨hz,_⟩|⟨en,hen,w1,hw1,hrun⟩
      ·have:=hlk.length
       simp[hz]at this
       exact absurd this hne0
      ·obtain⟨q,hq,h1,h2,h3⟩:=All2.mem_r hlk hen
       exact⟨_,List.mem_map.2 ⟨q,hq,rfl⟩,step q en w1 hw1 h1 h2 h3 hrun⟩
    ·trivial
   ·trivial
  ·trivial
 ·trivial
end
end Go.Vx
