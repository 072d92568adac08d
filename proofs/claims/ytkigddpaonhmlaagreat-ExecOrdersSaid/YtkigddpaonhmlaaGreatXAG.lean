/-
  Operations over trees: maps, and loops over them.
  No condition: a library text; nothing of the program is named.
-/
import Derived.Test.YtkigddpaonhmlaaGreatXAF
import Derived.Maps.RangeRun
set_option maxHeartbeats 8000000
namespace Go.Vx
open Go
theorem Ext.setOther {σ:St} {β:List Value} {i:Nat} {o0:Ob} (hi:σ[i]? =some o0) (h1: ∀n s,o0≠ .app n s) (h2: ∀r s,o0≠ .lst r s) (h3:o0≠ .dead) (o:Ob):Ext σ β (σ.set i o) β:=by
 refine⟨fun _ _ e=>e,fun id n s e=>⟨n, ?_,A2 _,fun _=>rfl⟩,fun id rows s e=> .inr ⟨rows, ?_,A2 _,fun _=>rfl⟩,fun id e=> ?_⟩
 all_goals
  have:i≠id:=fun q=>by
   subst q;rw[hi]at e
   first|exact h1 _ _ (Option.some.inj e)|exact h2 _ _ (Option.some.inj e)|exact h3 (Option.some.inj e)
  rw[Ad this];exact e
section
variable {c:Ctx} {w:World} {L:Nat->Nat} {σ:St} {β:List Value}
theorem Mem.newOb (h:Mem c w L σ β) (ob:Go.Obj) (o:Ob)
  (ho:Le w L (w.alloc ob) L->Ext σ β (σ++ [o]) (β++ [.pointer (some ⟨w.heap.size,0,none⟩)])->ObOk (w.alloc ob) L (σ++ [o]) (β++ [.pointer (some ⟨w.heap.size,0,none⟩)]) o (.pointer (some ⟨w.heap.size,0,none⟩)))
  (hex: ∀b,excl o (.pointer (some ⟨w.heap.size,0,none⟩))=some b->b=w.heap.size):
  Mem c (w.alloc ob) L (σ++ [o]) (β++ [.pointer (some ⟨w.heap.size,0,none⟩)])/\Le w L (w.alloc ob) L:=by
 have h1:=h.alloc ob 0
 rw[zC9 h]at h1
 refine⟨h1.1.push _ _ (ho h1.2 (Ext.push σ β h.len _ _)) ?_ ?_,h1.2⟩
 .intro i o' x' b hi hx hb e
  have h2:=(h.objs i o' x' hi hx).excl_lt hb
  have h3:=hex b e
  omega
 .intro b hb
  rw[hex b hb]
  exact .inl h.size
theorem Mem.setOb (h:Mem c w L σ β) {i b:Nat} {o0 o:Ob} (hi:σ[i]? =some o0) (hβ:β[i]? =some (.pointer (some ⟨b,0,none⟩))) (he0:excl o0 (.pointer (some ⟨b,0,none⟩))=some b) (h0:L b=0)
  (ob:Go.Obj) (hext:Ext σ β (σ.set i o) β) (hex: ∀k,excl o (.pointer (some ⟨b,0,none⟩))=some k->k=b)
  (hok:Le w L (yK w b ob) L->ObOk (yK w b ob) L (σ.set i o) β o (.pointer (some ⟨b,0,none⟩))):
  Mem c (yK w b ob) L (σ.set i o) β/\Le w L (yK w b ob) L:=by
 have hle:Le w L (yK w b ob) L:=by
  refine⟨fun _=>A2 _,fun k o ho=>za9 (zc9 w b k _ fun q=> ?_) o⟩
  subst q;rw[h0]at ho;omega
 refine⟨?_,hle⟩
 have hset:=yF β i _ hβ
 have key:=h.upd (w':=yK w b ob) (L':=L) i o (.pointer (some ⟨b,0,none⟩)) hle (by rw[hset];exact hext) (fun k=>k=b)
  (fun j o' x' k hj ho' hx' hk e=>by subst e;exact h.apart j i o' _ x' _ k hj ho' hx' hi hβ hk he0)
  (fun k e=>by subst e;exact h.mine i _ _ k hi hβ he0)
  (fun k hk=>⟨zc9 w b k _ hk,rfl⟩) (by simp[yK]) rfl rfl rfl h.lim (by rw[hset];exact hok hle) (fun k hk=>hex k hk)
 rw[hset]at key;exact key
end
theorem All2.mem_r {α β:Type} {R:α->β->Prop}: ∀{l:List α} {m:List β} {b:β},All2 R l m->b∈m-> ∃a∈l,R a b
 |a::l,b'::m,b,h,hb=>by
  rcases Ag.1 hb with rfl|hb
  .exact⟨a,by simp,h.1⟩
  .obtain⟨a',ha,r⟩:=All2.mem_r h.2 hb
   exact⟨a',by simp[ha],r⟩
 | [],[],_,_,hb=>by simp at hb
 | [],_::_,_,h,_=>h.elim
 |_::_,[],_,h,_=>h.elim
section
variable {P:Program} {c:Ctx} {nt:Nat} {e:Env} {σ:St} {a:Act} {w:World} {L:Nat->Nat} {β:List Value} {o:Oper}
theorem yq5 {v:V} {x:Value} (r:RdS w L σ β v x) (h:wC v=true):RdA w L σ β v x:=by
 cases v<;>first|exact r|simp[wC]at h
def keyD:TypeDesc->Option Pk
 | .bool=>some .b
 | .int k=>some (.i k)
 | .string=>some .s
 |_=>none
inductive Kk where
 |one (k:Pk)
 |st (ks:List Pk)
def yo3 (P:Program):Nat->List Field->Option (List Pk)
 |_,[]=>some []
 |i,f::fs=>if f.name≠ "_" /\f.offset=i/\aggT P f.type=some false then((P.underlying f.type).bind keyD).bind fun k=>(yo3 P (i+1) fs).map (k:: ·)else none
def kkT (P:Program) (kt:TypeId):Option Kk:=
 match P.underlying kt with
 |some (.struct fs)=>(yo3 P 0 fs.toList).bind fun ks=>if zs1 P 10 kt=some ks then some (.st ks)else none
 |some d=>(keyD d).map .one
 |none=>none
def zvT (P:Program) (t:TypeId):Option V:=
 match (P.info? t).bind (·.zero)with
 |some (.agg cs)=>if cs.all (·.oneCell')=true then some (.agg (cs.toList.map zc1))else none
 |some v=>if v.oneCell'=true then some (zc1 v)else none
 |none=>none
def mapT (P:Program) (t:TypeId):Option (Kk×V):=
 match P.underlying t with
 |some (.map kt et)=>(kkT P kt).bind fun k=>(zvT P et).map fun z=>(k,z)
 |_=>none
theorem xB0 {t:TypeId} {z:V} (h:zvT P t=some z): ∃i zv,P.info? t=some i/\i.zero=some zv/\wC z=true/\ ∀(w:World) L σ β,RdA w L σ β z zv:=by
 unfold zvT at h
 cases hi:P.info? t with
 |none=>simp[hi]at h
 |some i=>
  cases hz:i.zero with
  |none=>simp[hi,hz]at h
  |some zv=>
   simp only[hi,hz,As]at h
   refine⟨i,zv,rfl,hz, ?_⟩
   split at h
   .rename_i cs hcs
    cases hcs
    split at h
    .rename_i ha
     simp only[Option.some.injEq]at h
     subst h
     refine⟨rfl,fun w L σ β=>⟨cs.toList,by simp,(zU5 fun v hv=> ?_).imp fun _ _=>RdC.of_pure⟩⟩
     exact D3.1 ha v (Array.mem_toList_iff.1 hv)
    .cases h
   .rename_i v hno hv
    cases hv
    split at h
    .rename_i h1
     simp only[Option.some.injEq]at h
     subst h
     have hc:zG1 (zc1 zv)=true:=(zu7 (w:=default) (L:=fun _=>0) zv h1).2
     refine⟨?_,fun w L σ β=>RdA.of_cell (RdC.of_pure (zu7 zv h1).1)⟩
     revert hc
     generalize zc1 zv=q0
     cases q0<;>simp[zG1,wC]
    .cases h
   .rename_i hv;cases hv
theorem zA0 {t:TypeId} {k:Kk} {z:V} (h:mapT P t=some (k,z)): ∃kt et i zv,P.underlying t=some (.map kt et)/\kkT P kt=some k/\P.info? et=some i/\i.zero=some zv/\wC z=true/\ ∀(w:World) L σ β,RdA w L σ β z zv:=by
 unfold mapT at h
 split at h
 .rename_i kt et hu
  cases hk:kkT P kt with
  |none=>simp[hk]at h
  |some k'=>
   cases hz:zvT P et with
   |none=>simp[hk,hz]at h
   |some z'=>
    simp only[hk,hz,As,B3,Option.some.injEq,Prod.mk.injEq]at h
    obtain⟨rfl,rfl⟩:=h
    obtain⟨i,zv,h1,h2,h3,h4⟩:=xB0 hz
    exact⟨kt,et,i,zv,hu,hk,h1,h2,h3,h4⟩
 .cases h
def zd2:Pk->V->Bool
 | .b,.bool _=>true
 | .i k,.int k' _=>decide (k'=k)
 | .s,.str _=>true
 |_,_=>false
def za2:List Pk->List V->Bool
 | [],[]=>true
 |k::ks,v::vs=>zd2 k v&&za2 ks vs
 |_,_=>false
def zm4:Kk->V->Bool
 | .one k,v=>zd2 k v
 | .st ks,.agg vs=>za2 ks vs
 |_,_=>false
theorem zp8 {k:Pk} {d:TypeDesc} {v:V} {x:Value} (hk:keyD d=some k) (h:zd2 k v=true) (r:RdS w L σ β v x):MapKept.IsKey d x:=by
 cases k<;>cases v<;>simp[zd2]at h
 .rw[zc8 r];cases d<;>simp[keyD]at hk<;>trivial
 .rw[yI r];cases d<;>simp[keyD]at hk;subst hk;exact h
 .rw[wK r];cases d<;>simp[keyD]at hk<;>trivial
theorem yo4 (em:Bool) (xs:List Value) (w:World): ∀(fs:List Field) (i:Nat) (ks:List Pk) (vs:List V),yo3 P i fs=some ks->za2 ks vs=true->All2 (RdC w L σ β) vs (xs.drop i)->
  ∀f∈fs,f.name≠ "_" /\ ∃x,(part f.type xs.toArray f.offset).run P w= .ok x w/\(Instr.checkKey em 9999 f.type x).run P w= .ok () w
 | [],_,_,_,_,_,_,_,hf=>by cases hf
 |f::fs,i,ks,vs,h,hko,ha,f',hf'=>by
  unfold yo3 at h
  split at h
  .rename_i hc
   obtain⟨h1,h2,h3⟩:=hc
   cases hu:P.underlying f.type with
   |none=>simp[hu]at h
   |some d=>
    cases hk:keyD d with
    |none=>simp[hu,hk]at h
    |some k=>
     simp only[hu,hk,As,B6]at h
     obtain⟨ks',h4,rfl⟩:=h
     cases vs with
     |nil=>simp[za2]at hko
     |cons v vs=>
      simp only[za2,A4]at hko
      have hlen:=ha.length
      have hlt:i<xs.length:=by simp at hlen;omega
      rw[A6 hlt]at ha
      rcases Ag.1 hf' with rfl|hf'
      .have hp:(part f'.type xs.toArray f'.offset).run P w= .ok xs[i] w:=by
        have hlt':i<xs.toArray.size:=by simpa using hlt
        rw[h2]
        simp only[part,Sem.run_bind,zj8 h3,Result.andThen_ok,Bf,if_false,Ar hlt',Sem.run_pure]
        simp
       exact⟨h1,_,hp,MapKept.run_checkKey (P:=P) (w:=w) hu (zp8 hk hko.1 (RdS.of_cell ha.1)) em 9998⟩
      .exact yo4 em xs w fs (i+1) ks' vs h4 hko.2 ha.2 f' hf'
  .cases h
theorem zz7 {kt:TypeId} {kk:Kk} {p:V} {x:Value} (hk:kkT P kt=some kk) (hko:zm4 kk p=true) (hx:RdS w L σ β p x) (em:Bool):(Instr.checkKey em 10000 kt x).run P w= .ok () w:=by
 unfold kkT at hk
 split at hk
 .rename_i fs hu
  cases hf:yo3 P 0 fs.toList with
  |none=>simp[hf]at hk
  |some ks=>
   simp only[hf,As]at hk
   split at hk
   .simp only[Option.some.injEq]at hk
    subst hk
    cases p<;>simp[zm4]at hko
    obtain⟨xs,rfl,ha⟩:=hx
    have each:=yo4 (P:=P) em xs w fs.toList 0 ks _ hf hko ha
    rw[show(10000:Nat)=9999+1 from rfl,Instr.checkKey]
    simp only[Sem.run_bind,run_underlying hu,Result.andThen_ok]
    rw[<-Array.forIn_toList]
    clear hf hu
    generalize fs.toList=M at each
    induction M with
    |nil=>simp
    |cons f M ih=>
     obtain⟨hn,x,p1,p2⟩:=each f (by simp)
     simp only[List.forIn_cons,Sem.run_bind,hn,ne_eq,not_false_eq_true,if_true,Result.andThen_ok,p1,p2,Sem.run_pure]
     exact ih fun y hy=>each y (by simp[hy])
   .cases hk
 .rename_i d hns hu
  cases hd:keyD d with
  |none=>simp[hd]at hk
  |some k=>
   simp only[hd,B3,Option.some.injEq]at hk
   subst hk
   exact MapKept.run_checkKey hu (zp8 hd hko hx) em 9999
 .cases hk
def eqKk:Kk->V->V->Option Bool
 | .one k,x,y=>eqPk k x y
 | .st ks,.agg x,.agg y=>eqVs ks x y
 |_,_,_=>none
def zh3 (k:Kk) (x:V):List V->Nat->Option (Option (Nat×V))
 |kk::vv::rest,i=>(match eqKk k x kk with
  |some true=>some (some (i,vv))
  |some false=>zh3 k x rest (i+1)
  |none=>none)
 | [],_=>some none
 | [_],_=>none
theorem yD1 {k:Pk} {d:TypeDesc} {p v:V} {x y:Value} {r:Bool} (hk:keyD d=some k) (hx:RdS w L σ β p x) (hy:RdS w L σ β v y) (h:eqPk k p v=some r):Instr.sameNow d x y=some r:=by
 cases k
 .cases p<;>cases v<;>simp[eqPk]at h
  subst h
  rw[zc8 hx,zc8 hy]
  cases d<;>simp[keyD]at hk
  rfl
 .cases p<;>cases v<;>simp[eqPk]at h
  obtain⟨⟨rfl,rfl⟩,rfl⟩:=h
  rw[yI hx,yI hy]
  cases d<;>simp[keyD]at hk
  simp[Instr.sameNow]
 .cases p<;>cases v<;>simp[eqPk]at h
  subst h
  rename_i s1 s2
  rw[wK hx,wK hy]
  cases d<;>simp[keyD]at hk
  simp only[Instr.sameNow,Option.some.injEq]
  have e1:((⟨s1.toArray⟩:ByteArray)==⟨s2.toArray⟩)=(s1.toArray==s2.toArray):=rfl
  rw[e1]
  simp
theorem ye5 {k:Kk} {p:V} (M:List MapEntry->Nat->Option (Nat×Value)->Prop) (h0: ∀i,M [] i none)
  (hT: ∀v (e:MapEntry) es i,RdA w L σ β v e.key->eqKk k p v=some true->M (e::es) i (some (i,e.val)))
  (hF: ∀v (e:MapEntry) es i r,RdA w L σ β v e.key->eqKk k p v=some false->M es (i+1) r->M (e::es) i r):
  ∀(kvs:List V) (es:List MapEntry) (i:Nat) (q:Option (Nat×V)),All2 (RdA w L σ β) kvs (es.flatMap fun e=> [e.key,e.val])->zh3 k p kvs i=some q->
  (q=none/\M es i none)∨ ∃(j:Nat) (v:V) (e:MapEntry),q=some (i+j,v)/\M es i (some (i+j,e.val))/\es[j]? =some e/\kvs[2*j+1]? =some v/\RdA w L σ β v e.val/\(∃kk,kvs[2*j]? =some kk/\eqKk k p kk=some true)
 | [],[],i,q,_,h=>by simp[zh3]at h;exact .inl ⟨h.symm,h0 i⟩
 | [],e::es,_,_,ha,_=>by simp[All2]at ha
 | [_],[],_,_,ha,_=>by simp[All2]at ha
 | [_],e::es,_,_,_,h=>by simp[zh3]at h
 |_::_::_,[],_,_,ha,_=>by simp[All2]at ha
 |kk::vv::kvs,e::es,i,q,ha,h=>by
  simp only[Bl,Bo,Ce,All2]at ha
  obtain⟨h1,h2,h3⟩:=ha
  rw[zh3]at h
  split at h
  .rename_i he
   simp only[Option.some.injEq]at h
   exact .inr ⟨0,vv,e,h.symm,hT _ _ _ _ h1 he,rfl,rfl,h2,kk,rfl,he⟩
  .rename_i he
   rcases ye5 M h0 hT hF kvs es (i+1) q h3 h with ⟨e1,e2⟩|⟨j,v,e',e1,e2,e3,e4,e5,kk',e6,e7⟩
   .exact .inl ⟨e1,hF _ _ _ _ _ h1 he e2⟩
   .rw[show i+1+j=i+(j+1) by omega]at e1 e2
    refine .inr ⟨j+1,v,e',e1,hF _ _ _ _ _ h1 he e2,by simpa using e3, ?_,e5,kk', ?_,e7⟩
    .rw[show 2*(j+1)+1=(2*j+1)+2 by omega];simpa using e4
    .rw[show 2*(j+1)=(2*j)+2 by omega];simpa using e6
  .cases h
theorem zH0 {kt:TypeId} {fs:Array Field} {x:Value} {es:List MapEntry} {r:Option (Nat×Value)} (hu:P.underlying kt=some (.struct fs)) (h:(Instr.findAsking kt x es 0).run P w= .ok r w):(Instr.findKey kt x es).run P w= .ok r w:=by
 cases es with
 |nil=>simp[Instr.findAsking]at h;subst h;simp[Instr.findKey,run_underlying hu,Instr.findNow]
 |cons e es=>
  have:Instr.findNow (.struct fs) x (e::es) 0=none:=by simp[Instr.findNow,Instr.sameNow]
  simp[Instr.findKey,run_underlying hu,this,h]
theorem zp7 {kt:TypeId} {kk:Kk} {p:V} {x:Value} (hk:kkT P kt=some kk) (hko:zm4 kk p=true) (hx:RdS w L σ β p x) {kvs:List V} {es:List MapEntry} {q:Option (Nat×V)} (ha:All2 (RdA w L σ β) kvs (es.flatMap fun e=> [e.key,e.val])) (hf:zh3 kk p kvs 0=some q):
  (q=none/\(Instr.findKey kt x es).run P w= .ok none w)∨ ∃(j:Nat) (v:V) (e:MapEntry),q=some (j,v)/\(Instr.findKey kt x es).run P w= .ok (some (j,e.val)) w/\es[j]? =some e/\kvs[2*j+1]? =some v/\RdA w L σ β v e.val/\(∃k',kvs[2*j]? =some k'/\eqKk kk p k'=some true):=by
 unfold kkT at hk
 split at hk
 .rename_i fs hu
  cases hfl:yo3 P 0 fs.toList with
  |none=>simp[hfl]at hk
  |some ks=>
   simp only[hfl,As]at hk
   split at hk
   .rename_i hsh
    simp only[Option.some.injEq]at hk
    subst hk
    cases p<;>simp[zm4]at hko
    rename_i vs
    obtain⟨xs,rfl,hvs⟩:=hx
    have hone: ∀(us:List V) (ys:List Value),All2 (RdC w L σ β) us ys-> ∀z∈ys,z.oneCell'=true:=fun us ys h z hz=>by
     obtain⟨i,hi,rfl⟩:=List.mem_iff_getElem.1 hz
     obtain⟨a,_,r⟩:=All2.mem_r h (A8 hi)
     exact r.oneCell
    have hform: ∀ys:Array Value,zt8 P kt (.agg ys):=fun ys=>by
     unfold zt8
     rw[if_pos (by unfold aggT;rw[hu];rfl)]
     exact⟨_,rfl⟩
    have heq: ∀(v:V) (y:Value) (r:Bool),RdA w L σ β v y->eqKk (.st ks) (.agg vs) v=some r->(Op.equal kt (.agg xs.toArray) y).run P w= .ok r w:=by
     intro v y r hr he
     cases v<;>simp[eqKk]at he
     rename_i us
     obtain⟨ys,rfl,hus⟩:=hr
     have hxs:=zS0 ks vs us xs ys r hvs hus he
     exact zG8 10 kt ks hsh 10000 (by omega) _ _ r (hform _) (hform _) (by simpa[Value.cells]using hone _ _ hvs) (by simpa[Value.cells]using hone _ _ hus) (by simpa[Value.cells]using hxs) w
    rcases ye5 (w:=w) (L:=L) (σ:=σ) (β:=β) (k:= .st ks) (p:= .agg vs) (fun es i r=>(Instr.findAsking kt (.agg xs.toArray) es i).run P w= .ok r w) (fun i=>by simp[Instr.findAsking])
     (fun v e es i h1 h2=>by simp[Instr.findAsking,heq v _ _ h1 h2]) (fun v e es i r h1 h2 h3=>by simp[Instr.findAsking,heq v _ _ h1 h2,h3]) kvs es 0 q ha hf with ⟨e1,e2⟩|⟨j,v,e',e1,e2,e3⟩
    .exact .inl ⟨e1,zH0 hu e2⟩
    .rw[Aa]at e1 e2
     exact .inr ⟨j,v,e',e1,zH0 hu e2,e3⟩
   .cases hk
 .rename_i d hns hu
  cases hd:keyD d with
  |none=>simp[hd]at hk
  |some k=>
   simp only[hd,B3,Option.some.injEq]at hk
   subst hk
   rcases ye5 (w:=w) (L:=L) (σ:=σ) (β:=β) (k:= .one k) (p:=p) (fun es i r=>Instr.findNow d x es i=some r) (fun i=>rfl)
    (fun v e es i h1 h2=>by simp[Instr.findNow,yD1 hd hx (RdS.of_a h1) h2]) (fun v e es i r h1 h2 h3=>by simp[Instr.findNow,yD1 hd hx (RdS.of_a h1) h2,h3]) kvs es 0 q ha hf with ⟨e1,e2⟩|⟨j,v,e',e1,e2,e3⟩
   .exact .inl ⟨e1,MapKept.run_findKey hu e2⟩
   .rw[Aa]at e1 e2
    exact .inr ⟨j,v,e',e1,MapKept.run_findKey hu e2,e3⟩
 .cases hk
theorem yn7 {k:Pk} {p v:V} {x y:Value} (hx:RdS w L σ β p x) (hy:RdS w L σ β v y) (h:eqPk k p v=some true):x=y:=by
 cases k<;>cases p<;>cases v<;>simp[eqPk]at h
 .rw[zc8 hx,zc8 hy,h]
 .obtain⟨⟨rfl,rfl⟩,rfl⟩:=h
  rw[yI hx,yI hy]
 .rw[wK hx,wK hy,h]
theorem yn8: ∀(ks:List Pk) (us vs:List V) (xs ys:List Value),All2 (RdC w L σ β) us xs->All2 (RdC w L σ β) vs ys->eqVs ks us vs=some true->xs=ys
 | [],[],[],[],[],_,_,_=>rfl
 |k::ks,u'::us,v::vs,x::xs,y::ys,h1,h2,h=>by
  unfold eqVs at h
  cases hk:eqPk k u' v with
  |none=>simp[hk]at h
  |some r0=>
   simp only[hk,As,B6]at h
   obtain⟨r',h3,h4⟩:=h
   simp only[A4]at h4
   obtain⟨rfl,rfl⟩:=h4
   rw[yn7 (RdS.of_cell h1.1) (RdS.of_cell h2.1) hk,yn8 ks us vs xs ys h1.2 h2.2 h3]
 | [],[],[],[],_::_,_,h2,_=>h2.elim
 | [],[],[],_::_,_,h1,_,_=>h1.elim
 | [],[],_::_,_,_,_,_,h=>by cases h
 | [],_::_,_,_,_,_,_,h=>by cases h
 |_::_,[],_,_,_,_,_,h=>by cases h
 |_::_,_::_,[],_,_,_,_,h=>by cases h
 |_::_,_::_,_::_,[],_,h1,_,_=>h1.elim
 |_::_,_::_,_::_,_::_,[],_,h2,_=>h2.elim
theorem yn6 {k:Kk} {p v:V} {x y:Value} (hx:RdS w L σ β p x) (hy:RdS w L σ β v y) (h:eqKk k p v=some true):x=y:=by
 cases k with
 |one k=>exact yn7 hx hy h
 |st ks=>
  cases p<;>cases v<;>simp[eqKk]at h
  obtain⟨xs,rfl,h1⟩:=hx
  obtain⟨ys,rfl,h2⟩:=hy
  rw[yn8 ks _ _ _ _ h1 h2 h]
theorem xe8 {ks:List Pk}: ∀{vs:List V} {xs:List Value},za2 ks vs=true->All2 (RdC w L σ β) vs xs-> ∀z∈xs,∃d,MapKept.IsKey d z:=by
 induction ks with
 |nil=>
  intro vs xs h ha
  cases vs with
  |nil=>cases xs with
   |nil=>intro z hz;cases hz
   |cons _ _=>exact ha.elim
  |cons _ _=>simp[za2]at h
 |cons k ks ih=>
  intro vs xs h ha z hz
  cases vs with
  |nil=>simp[za2]at h
  |cons v vs=>
   cases xs with
   |nil=>exact ha.elim
   |cons x xs=>
    simp only[za2,A4]at h
    rcases Ag.1 hz with rfl|hz
    .have hr:=RdS.of_cell (σ:=σ) (β:=β) ha.1
     cases k
     .exact⟨.bool,zp8 rfl h.1 hr⟩
     .exact⟨.int _,zp8 rfl h.1 hr⟩
     .exact⟨.string,zp8 rfl h.1 hr⟩
    .exact ih h.2 ha.2 z hz
theorem yp5 {kk:Kk} {p:V} {x:Value} (hko:zm4 kk p=true) (hx:RdS w L σ β p x):(Instr.keyThatStays x x).run P w= .ok x w:=by
 cases kk with
 |one k=>
  cases k
  .exact MapKept.run_keyThatStays (zp8 (d:= .bool) rfl hko hx)
  .exact MapKept.run_keyThatStays (zp8 (d:= .int _) rfl hko hx)
  .exact MapKept.run_keyThatStays (zp8 (d:= .string) rfl hko hx)
 |st ks=>
  cases p<;>simp[zm4]at hko
  obtain⟨xs,rfl,ha⟩:=hx
  have hs:Instr.sameBits 10000 (.agg xs.toArray) (.agg xs.toArray)=true:=by
   show Instr.sameBits (9999+1) (.agg xs.toArray) (.agg xs.toArray)=true
   simp only[Instr.sameBits,beq_self_eq_true,B8,Af]
   rintro⟨a,b⟩ hp
   obtain⟨i,hi,e⟩:=List.mem_iff_getElem.1 hp
   simp only[List.getElem_zip,Prod.mk.injEq]at e
   obtain⟨rfl,rfl⟩:=e
   simp only[List.length_zip]at hi
   obtain⟨d,hd⟩:=xe8 hko ha xs[i] (A8 (by simpa using hi))
   simpa using MapKept.sameBits_self hd 9999
  simp[Instr.keyThatStays,hs]
def zl5 (σ:St) (m:Bool) (r:Option V):R:=
 match m,r with
 |_,none=> .st (.mp σ.length) (σ++ [.mp [] [] 0])
 |true,some (.int _ _)=> .st (.mp σ.length) (σ++ [.mp [] [] 0])
 |_,_=> .fail
def zh4 (P:Program) (t:TypeId):Bool:=match P.underlying t with|some (.map _ _)=>true|_=>false
theorem xF6 (h:Mem c w L σ β):Mem c (w.alloc (.map #[] 0)) L (σ++ [.mp [] [] 0]) (β++ [.pointer (some ⟨w.heap.size,0,none⟩)])/\Le w L (w.alloc (.map #[] 0)) L:=
 h.newOb _ _ (fun hle _=>⟨w.heap.size, #[],rfl,yH _ _,by have:=h.lim _ (A2 _);exact this,by simp[zu3,All2],rfl⟩) fun b hb=>by simp[excl]at hb;exact hb.symm
theorem yP9 {dst:Option Tmp} {ty:TypeId} {pos:String} {aft:Array Edge} {g:Option (Nat×Bool)} (t:TypeId) (r:Option Operand) (h:Sim c nt e σ a w L β):
  ROk (zl5 σ (zh4 P t) (r.map (zF e))) σ (Yield P c ⟨dst,.makeMap t r,ty,pos,aft,g⟩ a w L σ β):=by
 have hnew:=xF6 h.mem
 have hrd:RdS (w.alloc (.map #[] 0)) L (σ++ [.mp [] [] 0]) (β++ [.pointer (some ⟨w.heap.size,0,none⟩)]) (.mp σ.length) (.map (some w.heap.size)):=⟨w.heap.size,by rw[<-h.mem.len];simp,rfl⟩
 cases r with
 |none=>exact⟨_,_,L,_,.inl (by simp[execOp,Instr.makeMap]),hnew.1,hnew.2,Ext.push σ β h.mem.len _ _,hrd⟩
 |some p=>
  have hp:=h.eval p
  simp only[B3]
  unfold zl5
  split
  .rename_i hq;cases hq
  .rename_i k n hm hq
   simp only[Option.some.injEq]at hq
   rw[hq]at hp
   have hp:=yI hp
   unfold zh4 at hm
   split at hm
   .rename_i kt et hu
    exact⟨_,_,L,_,.inl (by simp[execOp,Instr.makeMap,run_underlying hu,hp,asInt,asIntOf]),hnew.1,hnew.2,Ext.push σ β h.mem.len _ _,hrd⟩
   .cases hm
  .trivial
def xO (m:Option (Kk×V)) (σ:St) (x k:V) (ok:Bool):R:=
 match m with
 |some (kd,z)=>if zm4 kd k=true then(match x with
  | .mp id=>(match σ[id]? with
   |some (.mp kvs _ _)=>(match zh3 kd k kvs 0 with
    |some (some (_,v))=> .ok (if ok then .tup [v,.bool true]else v)
    |some none=> .ok (if ok then .tup [z,.bool false]else z)
    |none=> .fail)
   |_=> .fail)
  | .raw (.map none)=> .ok (if ok then .tup [z,.bool false]else z)
  |_=> .fail)else .fail
 |none=> .fail
theorem zM4 {id:Nat} {x:Value} (r:RdS w L σ β (.mp id) x): ∃b,β[id]? =some (.pointer (some ⟨b,0,none⟩))/\x= .map (some b):=r
theorem zD0 {x:Value} (r:RdS w L σ β (.raw (.map none)) x):x= .map none:=by
 have r':RdP w L (.raw (.map none)) x:=r
 cases r';rfl
theorem yh9 {v:V} {x:Value} (b:Bool) (r:RdA w L σ β v x) (ok:Bool):RdS w L σ β (if ok then .tup [v,.bool b]else v) (if ok then .tuple #[x,.bool b]else x):=by
 cases ok
 .exact RdS.of_a r
 .exact⟨[x,.bool b],rfl,r,RdA.of_cell (RdC.of_pure (.bool b)),trivial⟩
theorem xh3 {dst:Option Tmp} {ty:TypeId} {pos:String} {aft:Array Edge} {g:Option (Nat×Bool)} (t:TypeId) (x k:Operand) (ok:Bool) (h:Sim c nt e σ a w L β):
  ROk (xO (mapT P t) σ (zF e x) (zF e k) ok) σ (Yield P c ⟨dst,.lookup t x k ok,ty,pos,aft,g⟩ a w L σ β):=by
 have hx:=h.eval x
 have hk:=h.eval k
 unfold xO
 split
 .rename_i kd z hm
  obtain⟨kt,et,i,zv,hu,hkd,hi,hz,hhas,hzr⟩:=zA0 hm
  split
  .rename_i hko
   have hck: ∀em,(Instr.checkKey em 10000 kt (a.eval k)).run P w= .ok () w:=fun em=>zz7 hkd hko hk em
   have hzv:(zeroValue et).run P w= .ok zv w:=by simp[zeroValue,typeInfo,hi,hz]
   split
   .rename_i id hid
    rw[hid]at hx
    obtain⟨b,hβ,hv⟩:=zM4 hx
    split
    .rename_i kvs bs clk hσ
     obtain⟨b',es,e1,hh,hl,hall,hbn⟩:=h.mem.objs _ _ _ hσ hβ
     cases e1
     have hall:All2 (RdA w L σ β) kvs (es.toList.flatMap fun e=> [e.key,e.val]):=hall
     split
     .rename_i i0 v hf
      rcases zp7 hkd hko hk hall hf with ⟨e1,_⟩|⟨j,v',e',e1,e2,_,_,e5,_⟩
      .cases e1
      .cases e1
       refine Yield.pure h (x:=if ok then .tuple #[e'.val,.bool true]else e'.val) ?_ (yh9 true e5 ok)
       have hrun:=e2
       simp[execOp,Instr.lookup,run_underlying hu,hv,MapKept.run_getObj_map hh,hck,hrun]
     .rename_i hf
      rcases zp7 hkd hko hk hall hf with ⟨_,e2⟩|⟨j,v',e',e1,_⟩
      .refine Yield.pure h (x:=if ok then .tuple #[zv,.bool false]else zv) ?_ (yh9 false (hzr _ _ _ _) ok)
       have hrun:=e2
       simp[execOp,Instr.lookup,run_underlying hu,hv,MapKept.run_getObj_map hh,hck,hrun,hzv]
      .cases e1
     .trivial
    .trivial
   .rename_i hid
    rw[hid]at hx
    have hv:=zD0 hx
    refine Yield.pure h (x:=if ok then .tuple #[zv,.bool false]else zv) ?_ (yh9 false (hzr _ _ _ _) ok)
    have hrun:(Instr.findKey kt (a.eval k) []).run P w= .ok none w:=by
     rcases zp7 (es:= []) hkd hko hk (show All2 (RdA w L σ β) [] _ from trivial) rfl with ⟨_,e2⟩|⟨j,v',e',e1,_⟩
     .exact e2
     .cases e1
    simp[execOp,Instr.lookup,run_underlying hu,hv,hck,hrun,hzv]
   .trivial
  .trivial
 .trivial
def zv3 (kvs:List V) (i:Nat) (k v:V):List V:=(kvs.set (2*i) k).set (2*i+1) v
theorem zt7 (l:List MapEntry): ∀(i:Nat),(l.flatMap fun e=> [e.key,e.val])[2*i]? =(l[i]?).map (·.key)/\(l.flatMap fun e=> [e.key,e.val])[2*i+1]? =(l[i]?).map (·.val):=by
 induction l with
 |nil=>intro i;simp
 |cons e l ih=>
  intro i
  cases i with
  |zero=>simp
  |succ i=>
   obtain⟨h1,h2⟩:=ih i
   rw[Bl,show 2*(i+1)=2*i+1+1 by omega]
   simp[h1,h2]
theorem ye8 (l:List MapEntry):(l.flatMap fun e=> [e.key,e.val]).length=2*l.length:=by
 induction l with
 |nil=>rfl
 |cons e l ih=>rw[Bl];simp[ih];omega
theorem yW8 {kvs:List V} {es:Array MapEntry} {i:Nat} {k v:V} {x y:Value} (h:All2 (RdA w L σ β) kvs (zu3 es)) (hk:RdA w L σ β k x) (hv:RdA w L σ β v y) (hi:i<es.size):
  All2 (RdA w L σ β) (zv3 kvs i k v) (zu3 (es.modify i fun e=>{e with key:=x,val:=y})):=by
 have hl:=h.length
 unfold zu3 at h hl⊢
 rw[ye8]at hl
 simp only[Bz]at hl
 refine All2.of ?_ fun j p q hp hq=> ?_
 .unfold zv3;rw[ye8];simp[hl]
 .unfold zv3 at hp
  obtain⟨m,hm⟩: ∃m,j=2*m∨j=2*m+1:=⟨j/2,by omega⟩
  rcases hm with rfl|rfl
  .rw[(zt7 _ m).1]at hq
   rw[Ad (by omega)]at hp
   rw[Aj,Dx]at hq
   by_cases e1:i=m
   .subst e1
    rw[if_pos rfl]at hq
    rw[Ak (by omega)]at hp
    cases hp
    rw[Ar hi]at hq
    simp at hq
    subst hq;exact hk
   .rw[if_neg e1]at hq
    rw[Ad (by omega)]at hp
    obtain⟨y',hy',r⟩:=h.get _ _ hp
    rw[(zt7 _ m).1,Aj]at hy'
    rw[hq]at hy';cases hy';exact r
  .rw[(zt7 _ m).2]at hq
   rw[Aj,Dx]at hq
   by_cases e1:i=m
   .subst e1
    rw[if_pos rfl]at hq
    rw[Ak (by simp;omega)]at hp
    cases hp
    rw[Ar hi]at hq
    simp at hq
    subst hq;exact hv
   .rw[if_neg e1]at hq
    rw[Ad (by omega),Ad (by omega)]at hp
    obtain⟨y',hy',r⟩:=h.get _ _ hp
    rw[(zt7 _ m).2,Aj]at hy'
    rw[hq]at hy';cases hy';exact r
theorem ym8 (es:Array MapEntry) (i:Nat) (x y:Value):(es.modify i fun e=>{e with key:=x,val:=y}).toList.map (·.born)=es.toList.map (·.born):=by
 apply C4
 intro j
 simp only[Az,Aj,Dx]
 by_cases hij:i=j
 .subst hij
  cases he:es[i]? with
  |none=>simp
  |some e=>simp
 .simp[hij]
def xK (m:Option (Kk×V)) (σ:St) (x k v:V):R:=
 match m,x with
 |some (kd,_),.mp id=>if zm4 kd k=true/\wC v=true then(match σ[id]? with
  |some (.mp kvs bs clk)=>(match zh3 kd k kvs 0 with
   |some (some (i,_))=> .st .u (σ.set id (.mp (zv3 kvs i k v) bs clk))
   |some none=> .st .u (σ.set id (.mp (kvs++ [k,v]) (bs++ [clk]) (clk+1)))
   |none=> .fail)
  |_=> .fail)else .fail
 |_,_=> .fail
theorem yf2 {k:Kk} {v:V} (h:zm4 k v=true):wC v=true:=by
 cases k with
 |one k=>cases k<;>cases v<;>first|rfl|simp[zm4,zd2]at h
 |st ks=>cases v<;>first|rfl|simp[zm4]at h
theorem yX9 {x k v:Value} {t kt et:TypeId} {kd:Kk} {kvs:List V} {bs:List Nat} {clk id:Nat} {kv vv:V} (hm:Mem c w L σ β) (hu:P.underlying t=some (.map kt et)) (hkd:kkT P kt=some kd)
  (hx:RdS w L σ β (.mp id) x) (hko:zm4 kd kv=true) (hk:RdS w L σ β kv k) (hv:RdA w L σ β vv v) (hσ:σ[id]? =some (.mp kvs bs clk)) {q:Option (Nat×V)} (hf:zh3 kd kv kvs 0=some q):
  ∃w',(Instr.mapUpdate t x k v).run P w= .ok () w'/\Le w L w' L/\(match q with
   |some (i,_)=>Mem c w' L (σ.set id (.mp (zv3 kvs i kv vv) bs clk)) β/\Ext σ β (σ.set id (.mp (zv3 kvs i kv vv) bs clk)) β
   |none=>Mem c w' L (σ.set id (.mp (kvs++ [kv,vv]) (bs++ [clk]) (clk+1))) β/\Ext σ β (σ.set id (.mp (kvs++ [kv,vv]) (bs++ [clk]) (clk+1))) β):=by
 have hka:RdA w L σ β kv k:=yq5 hk (yf2 hko)
 have hck: ∀em,(Instr.checkKey em 10000 kt k).run P w= .ok () w:=fun em=>zz7 hkd hko hk em
 obtain⟨b,hβ,rfl⟩:=zM4 hx
 obtain⟨b',es,e1,hh,hl,hall,hbn⟩:=hm.objs _ _ _ hσ hβ
 cases e1
 have hlt:b<w.heap.size:=(Ap.1 hh).1
 have hext: ∀o,Ext σ β (σ.set id o) β:=fun o=>Ext.setOther hσ (fun _ _ q=>by cases q) (fun _ _ q=>by cases q) (fun q=>by cases q) o
 have hset: ∀ob:Go.Obj,(setObj b ob).run P w= .ok () (yK w b ob):=fun ob=>by rw[MapKept.run_setObj_map ob hh];rfl
 rcases zp7 hkd hko hk hall hf with ⟨rfl,e2⟩|⟨j,v',e',rfl,e2,e3,_,_,kk,e6,e7⟩
 .have hrun:=e2
  refine⟨yK w b (.map (es.push {key:=k,val:=v,born:=clk}) (clk+1)), ?_, ?_⟩
  .simp[Instr.mapUpdate,run_underlying hu,MapKept.run_getObj_map hh,hck,hrun,hset]
  .have key:=hm.setOb (o:= .mp (kvs++ [kv,vv]) (bs++ [clk]) (clk+1)) hσ hβ rfl hl (.map (es.push {key:=k,val:=v,born:=clk}) (clk+1)) (hext _) (fun k h=>by simpa[excl]using h.symm) fun hle=>by
    refine⟨b,_,rfl,xN _ _ _ hlt,hl, ?_,by simp[hbn]⟩
    have:All2 (RdA w L σ β) (kvs++ [kv,vv]) (zu3 (es.push {key:=k,val:=v,born:=clk})):=by
     simp only[zu3,Array.toList_push,E4]
     exact All2.append hall ⟨hka,hv,trivial⟩
    exact this.imp fun _ _=>RdA.mono hle (hext _)
   exact⟨key.2,key.1,hext _⟩
 .have hrun:=e2
  have hj:es[j]? =some e':=by simpa using e3
  have hjl:j<es.size:=(Ap.1 hj).1
  have hkk:e'.key=k:=by
   obtain⟨y,hy,r⟩:=hall.get _ _ e6
   unfold zu3 at hy
   rw[(zt7 _ j).1,e3]at hy
   simp at hy
   subst hy
   exact(yn6 hk (RdS.of_a r) e7).symm
  refine⟨yK w b (.map (es.modify j fun e=>{e with key:=k,val:=v}) clk), ?_, ?_⟩
  .simp[Instr.mapUpdate,run_underlying hu,MapKept.run_getObj_map hh,hck,hrun,hset,hj,hkk,yp5 hko hk]
  .have key:=hm.setOb (o:= .mp (zv3 kvs j kv vv) bs clk) hσ hβ rfl hl (.map (es.modify j fun e=>{e with key:=k,val:=v}) clk) (hext _) (fun k h=>by simpa[excl]using h.symm) fun hle=>by
    refine⟨b,_,rfl,xN _ _ _ hlt,hl,(yW8 hall hka hv hjl).imp fun _ _=>RdA.mono hle (hext _),by rw[ym8];exact hbn⟩
   simp only[Aa]
   exact⟨key.2,key.1,hext _⟩
theorem zK7 {o:Oper} (t:TypeId) (x k v:Operand) (h:Sim c nt e σ a w L β) (ho:execOp a.eval o=(do Instr.mapUpdate t (a.eval x) (a.eval k) (a.eval v);pure .skip)):
  ROk (xK (mapT P t) σ (zF e x) (zF e k) (zF e v)) σ (Yield P c o a w L σ β):=by
 have hx:=h.eval x
 have hk:=h.eval k
 have hv:=h.eval v
 unfold xK
 split
 .rename_i kd z id hm hid
  obtain⟨kt,et,i,zv,hu,hkd,_⟩:=zA0 hm
  rw[hid]at hx
  split
  .rename_i hc
   split
   .rename_i kvs bs clk hσ
    split
    .rename_i i0 v0 hf
     obtain⟨w',hrun,hle,hm',hext⟩:=yX9 h.mem hu hkd hx hc.1 hk (yq5 hv hc.2) hσ hf
     exact⟨undef,w',L,β,.inr ⟨by simp[ho,hrun],rfl⟩,hm',hle,hext,trivial⟩
    .rename_i hf
     obtain⟨w',hrun,hle,hm',hext⟩:=yX9 h.mem hu hkd hx hc.1 hk (yq5 hv hc.2) hσ hf
     exact⟨undef,w',L,β,.inr ⟨by simp[ho,hrun],rfl⟩,hm',hle,hext,trivial⟩
    .trivial
   .trivial
  .trivial
 .trivial
theorem yw7 {dst:Option Tmp} {ty:TypeId} {pos:String} {aft:Array Edge} {g:Option (Nat×Bool)} (t:TypeId) (x k v:Operand) (h:Sim c nt e σ a w L β):
  ROk (xK (mapT P t) σ (zF e x) (zF e k) (zF e v)) σ (Yield P c ⟨dst,.mapUpdate t x k v,ty,pos,aft,g⟩ a w L σ β):=zK7 t x k v h rfl
theorem xh1 {dst:Option Tmp} {ty:TypeId} {pos:String} {aft:Array Edge} {g:Option (Nat×Bool)} (t:TypeId) (x k v:Operand) (h:Sim c nt e σ a w L β):
  ROk (xK (mapT P t) σ (zF e x) (zF e k) (zF e v)) σ (Yield P c ⟨dst,.insert t x k v,ty,pos,aft,g⟩ a w L σ β):=zK7 t x k v h rfl
theorem zK2 {α β:Type} (f:α->β): ∀(l:List α) (i:Nat),(l.eraseIdx i).map f=(l.map f).eraseIdx i
 | [],_=>rfl
 |_::_,0=>rfl
 |x::l,i+1=>by simp[zK2 f l i]
def zN6 (kvs:List V) (i:Nat):List V:=kvs.take (2*i)++kvs.drop (2*i+2)
def zp3 (m:Option (Kk×V)) (σ:St) (x k:V):R:=
 match m,x with
 |some (kd,_),.mp id=>if zm4 kd k=true then(match σ[id]? with
  |some (.mp kvs bs clk)=>(match zh3 kd k kvs 0 with
   |some (some (i,_))=> .st (.tup []) (σ.set id (.mp (zN6 kvs i) (bs.eraseIdx i) clk))
   |some none=> .st (.tup []) (σ.set id (.mp kvs bs clk))
   |none=> .fail)
  |_=> .fail)else .fail
 |some (kd,_),.raw (.map none)=>if zm4 kd k=true then .ok (.tup [])else .fail
 |_,_=> .fail
theorem yO0 (l:List MapEntry): ∀(i:Nat),i<l.length->(l.eraseIdx i).flatMap (fun e=> [e.key,e.val])=(l.flatMap fun e=> [e.key,e.val]).take (2*i)++(l.flatMap fun e=> [e.key,e.val]).drop (2*i+2):=by
 induction l with
 |nil=>intro i h;simp at h
 |cons e l ih=>
  intro i h
  cases i with
  |zero=>simp
  |succ i=>
   rw[List.eraseIdx_cons_succ,Bl,Bl,ih i (by simpa using h)]
   rw[show 2*(i+1)=2*i+1+1 by omega]
   simp
theorem xh0 {dst:Option Tmp} {ty:TypeId} {pos:String} {aft:Array Edge} {g:Option (Nat×Bool)} (t t':TypeId) (x k:Operand) (h:Sim c nt e σ a w L β):
  ROk (zp3 (mapT P t) σ (zF e x) (zF e k)) σ (Yield P c ⟨dst,.call ⟨.builtin .delete, #[x,k], #[t,t']⟩,ty,pos,aft,g⟩ a w L σ β):=by
 have hx:=h.eval x
 have hk:=h.eval k
 unfold zp3
 split
 .rename_i kd z id hm hid
  obtain⟨kt,et,i,zv,hu,hkd,_⟩:=zA0 hm
  rw[hid]at hx
  split
  .rename_i hko
   have hck: ∀em,(Instr.checkKey em 10000 kt (a.eval k)).run P w= .ok () w:=fun em=>zz7 hkd hko hk em
   obtain⟨b,hβ,hv⟩:=zM4 hx
   split
   .rename_i kvs bs clk hσ
    obtain⟨b',es,e1,hh,hl,hall,hbn⟩:=h.mem.objs _ _ _ hσ hβ
    cases e1
    have hlt:b<w.heap.size:=(Ap.1 hh).1
    have hext: ∀o,Ext σ β (σ.set id o) β:=fun o=>Ext.setOther hσ (fun _ _ q=>by cases q) (fun _ _ q=>by cases q) (fun q=>by cases q) o
    have hset: ∀ob:Go.Obj,(setObj b ob).run P w= .ok () (yK w b ob):=fun ob=>by rw[MapKept.run_setObj_map ob hh];rfl
    split
    .rename_i i0 v0 hf
     rcases zp7 hkd hko hk hall hf with ⟨e1,_⟩|⟨j,v',e',e1,e2,e3,_,_,kk,e6,e7⟩
     .cases e1
     .cases e1
      have hrun:=e2
      have hjl:i0<es.toList.length:=(A1.1 e3).1
      have hjs:i0<es.size:=by simpa using hjl
      have herase:(es.eraseIdxIfInBounds i0).toList=es.toList.eraseIdx i0:=by
       unfold Array.eraseIdxIfInBounds
       rw[dif_pos hjs];simp
      have key:=h.mem.setOb (o:= .mp (zN6 kvs i0) (bs.eraseIdx i0) clk) hσ hβ rfl hl (.map (es.eraseIdxIfInBounds i0) clk) (hext _) (fun k h=>by simpa[excl]using h.symm) fun hle=>by
       refine⟨b,_,rfl,xN _ _ _ hlt,hl, ?_,by rw[herase,<-hbn,zK2]⟩
       have:All2 (RdA w L σ β) (zN6 kvs i0) (zu3 (es.eraseIdxIfInBounds i0)):=by
        unfold zu3 zN6
        rw[herase,yO0 _ _ hjl]
        exact(All2.take _ hall).append (All2.drop _ hall)
       exact this.imp fun _ _=>RdA.mono hle (hext _)
      refine⟨.tuple #[],_,L,β,.inl ?_,key.1,key.2,hext _,[],rfl,trivial⟩
      simp[execOp,resolve,invoke,builtin,Builtin.delete_,run_underlying hu,hv,MapKept.run_getObj_map hh,hck,hrun,hset]
    .rename_i hf
     rcases zp7 hkd hko hk hall hf with ⟨_,e2⟩|⟨j,v',e',e1,_⟩
     .have hrun:=e2
      have key:=h.mem.setOb (o:= .mp kvs bs clk) hσ hβ rfl hl (.map es clk) (hext _) (fun k h=>by simpa[excl]using h.symm) fun hle=>by
       exact⟨b,_,rfl,xN _ _ _ hlt,hl,hall.imp fun _ _=>RdA.mono hle (hext _),hbn⟩
      refine⟨.tuple #[],_,L,β,.inl ?_,key.1,key.2,hext _,[],rfl,trivial⟩
      simp[execOp,resolve,invoke,builtin,Builtin.delete_,run_underlying hu,hv,MapKept.run_getObj_map hh,hck,hrun,hset]
     .cases e1
    .trivial
   .trivial
  .trivial
 .rename_i kd z hm hid
  obtain⟨kt,et,i,zv,hu,hkd,_⟩:=zA0 hm
  rw[hid]at hx
  have hv:=zD0 hx
  split
  .rename_i hko
   have hck: ∀em,(Instr.checkKey em 10000 kt (a.eval k)).run P w= .ok () w:=fun em=>zz7 hkd hko hk em
   refine Yield.pure h (x:= .tuple #[]) ?_ ⟨[],rfl,trivial⟩
   simp[execOp,resolve,invoke,builtin,Builtin.delete_,run_underlying hu,hv,hck]
  .trivial
 .trivial
theorem zo8 {t kt et:TypeId} (hb:P.underlying t=some (.map kt et)) (m:Option Nat) (w:World):(Op.equal t (.map m) (.map none)).run P w= .ok m.isNone w:=by
 have key: ∀d,(Op.equalIn (d+1) t (.map m) (.map none)).run P w= .ok m.isNone w:=fun d=>by
  cases m<;>simp[Op.equalIn,run_underlying hb]
 exact key 9999
def zf0:Operand->Bool
 | .const (.map none)=>true
 |_=>false
def zp4 (op:BinOp) (m:Bool) (x:V):R:=
 match m,x with
 |true,.mp _=>(match op with| .eql=> .ok (.bool false)| .neq=> .ok (.bool true)|_=> .fail)
 |true,.raw (.map none)=>(match op with| .eql=> .ok (.bool true)| .neq=> .ok (.bool false)|_=> .fail)
 |_,_=> .fail
theorem xh4 {dst:Option Tmp} {ty:TypeId} {pos:String} {aft:Array Edge} {g:Option (Nat×Bool)} (op:BinOp) (t t':TypeId) (x y:Operand) (hy:zf0 y=true) (h:Sim c nt e σ a w L β):
  ROk (zp4 op (zh4 P t) (zF e x)) σ (Yield P c ⟨dst,.binOp op t x y t',ty,pos,aft,g⟩ a w L σ β):=by
 have hx:=h.eval x
 have hyv:a.eval y= .map none:=by
  unfold zf0 at hy
  split at hy
  .rfl
  .cases hy
 unfold zp4
 split
 .rename_i id hm hid
  unfold zh4 at hm
  split at hm
  .rename_i kt et hu
   rw[hid]at hx
   obtain⟨b,hβ,hv⟩:=zM4 hx
   split
   .refine Yield.pure h (x:= .bool false) ?_ (RdP.bool _)
    simp[execOp,eqGuard,binOp,zo8 hu,hv,hyv]
   .refine Yield.pure h (x:= .bool true) ?_ (RdP.bool _)
    simp[execOp,eqGuard,binOp,zo8 hu,hv,hyv]
   .trivial
  .cases hm
 .rename_i hm hid
  unfold zh4 at hm
  split at hm
  .rename_i kt et hu
   rw[hid]at hx
   have hv:=zD0 hx
   split
   .refine Yield.pure h (x:= .bool true) ?_ (RdP.bool _)
    simp[execOp,eqGuard,binOp,zo8 hu,hv,hyv]
   .refine Yield.pure h (x:= .bool false) ?_ (RdP.bool _)
    simp[execOp,eqGuard,binOp,zo8 hu,hv,hyv]
   .trivial
  .cases hm
 .trivial
def zw5 (m:Bool) (σ:St) (x:V):R:=
 match m,x with
 |true,.mp id=>(match σ[id]? with|some (.mp _ _ clk)=> .st (.ptr σ.length 0) (σ++ [.it (some id) clk [] clk])|_=> .fail)
 |true,.raw (.map none)=> .st (.ptr σ.length 0) (σ++ [.it none 0 [] 0])
 |_,_=> .fail
theorem xu4 {dst:Option Tmp} {ty:TypeId} {pos:String} {aft:Array Edge} {g:Option (Nat×Bool)} (t:TypeId) (x:Operand) (h:Sim c nt e σ a w L β):
  ROk (zw5 (zh4 P t) σ (zF e x)) σ (Yield P c ⟨dst,.range t x,ty,pos,aft,g⟩ a w L σ β):=by
 have hx:=h.eval x
 have rd: ∀(o:Ob) (w':World),RdS w' L (σ++ [o]) (β++ [.pointer (some ⟨w.heap.size,0,none⟩)]) (.ptr σ.length 0) (.pointer (some ⟨w.heap.size,0,none⟩)):=fun o w'=>⟨w.heap.size,by rw[<-h.mem.len];simp,rfl⟩
 unfold zw5
 split
 .rename_i id hm hid
  unfold zh4 at hm
  split at hm
  .rename_i kt et hu
   rw[hid]at hx
   obtain⟨b,hβ,hv⟩:=zM4 hx
   split
   .rename_i kvs bs clk hσ
    obtain⟨b',es,e1,hh,hl,hall,hbn⟩:=h.mem.objs _ _ _ hσ hβ
    cases e1
    have key:=h.mem.newOb (.mapIter (some b) clk #[] clk) (.it (some id) clk [] clk) (fun hle hext=>⟨w.heap.size,some b,rfl,yH _ _,h.mem.lim _ (A2 _),b,hext.ptr _ _ hβ,rfl⟩) fun b hb=>by simp[excl]at hb;exact hb.symm
    refine⟨_,_,L,_,.inl ?_,key.1,key.2,Ext.push σ β h.mem.len _ _,rd _ _⟩
    have hrun:=run_range_map (P:=P) w t kt et b es clk hu hh
    simp[execOp,hv,hrun]
   .trivial
  .cases hm
 .rename_i hm hid
  unfold zh4 at hm
  split at hm
  .rename_i kt et hu
   rw[hid]at hx
   have hv:=zD0 hx
   have key:=h.mem.newOb (.mapIter none 0 #[] 0) (.it none 0 [] 0) (fun hle hext=>⟨w.heap.size,none,rfl,yH _ _,h.mem.lim _ (A2 _),rfl⟩) fun b hb=>by simp[excl]at hb;exact hb.symm
   refine⟨_,_,L,_,.inl ?_,key.1,key.2,Ext.push σ β h.mem.len _ _,rd _ _⟩
   have hrun:=run_range_nilMap (P:=P) w t kt et hu
   simp[execOp,hv,hrun]
  .cases hm
 .trivial
def zG2 (seen:List Nat):List V->List Nat->List (V×V×Nat)
 |k::v::kvs,b::bs=>if seen.contains b then zG2 seen kvs bs else(k,v,b)::zG2 seen kvs bs
 |_,_=> []
def zh0 (open_:Bool) (σ:St) (x:V):R:=
 match x with
 | .ptr i 0=>(match σ[i]? with
  |some (.it none _ _ _)=> .ok (.tup [.bool false])
  |some (.it (some id) since seen last)=>(match σ[id]? with
   |some (.mp kvs bs clk)=>if(bs.all fun b=>decide (b<since))=true/\since<=last then(match zG2 seen kvs bs with
    | []=> .ok (.tup [.bool false])
    | [(k,v,b)]=> .st (.tup [.bool true,k,v]) (σ.set i (.it (some id) since (seen++ [b]) clk))
    |l=>if open_ then .any (l.map fun p=>(.tup [.bool true,p.1,p.2.1],σ.set i (.it (some id) since (seen++ [p.2.2]) clk)))else .fail)else .fail
   |_=> .fail)
  |_=> .fail)
 |_=> .fail
theorem yX0: ∀(kvs:List V) (bs:List Nat) (es:List MapEntry) (seen:List Nat),All2 (RdA w L σ β) kvs (es.flatMap fun e=> [e.key,e.val])->es.map (·.born)=bs->
  All2 (fun p (e:MapEntry)=>RdA w L σ β p.1 e.key/\RdA w L σ β p.2.1 e.val/\e.born=p.2.2) (zG2 seen kvs bs) (es.filter fun e=> !seen.contains e.born)
 | [],bs,[],seen,_,hb=>by simp at hb;subst hb;trivial
 | [],_,e::es,_,ha,_=>by simp[All2]at ha
 | [_],_,[],_,ha,_=>by simp[All2]at ha
 | [_],_,e::es,_,ha,_=>by simp[All2]at ha
 |_::_::_,_,[],_,ha,_=>by simp[All2]at ha
 |k::v::kvs,bs,e::es,seen,ha,hb=>by
  simp only[Bl,Bo,Ce,All2]at ha
  obtain⟨h1,h2,h3⟩:=ha
  cases bs with
  |nil=>simp at hb
  |cons b bs=>
   simp only[Al,List.cons.injEq]at hb
   obtain⟨rfl,hb⟩:=hb
   have ih:=yX0 kvs bs es seen h3 hb
   rw[zG2,Do]
   by_cases hc:seen.contains e.born=true
   .rw[if_pos hc,if_neg (by rw[hc];simp)];exact ih
   .rw[if_neg hc,if_pos (by simpa using hc)];exact⟨⟨h1,h2,rfl⟩,ih⟩
theorem xD2 {w1:World} (h:w1=w∨w1=w.drew) (hm:Mem c w L σ β):Mem c w1 L σ β/\Le w L w1 L:=by
 rcases h with rfl|rfl
 .exact⟨hm,Le.refl _ _⟩
 .exact hm.drew
theorem yY9 {dst:Option Tmp} {ty:TypeId} {pos:String} {aft:Array Edge} {g:Option (Nat×Bool)} (open_:Bool) (x:Operand) (h:Sim c nt e σ a w L β):
  ROk (zh0 open_ σ (zF e x)) σ (Yield P c ⟨dst,.next x false,ty,pos,aft,g⟩ a w L σ β):=by
 have hx:=h.eval x
 unfold zh0
 split
 .rename_i i hid
  rw[hid]at hx
  obtain⟨r,hβ,hv⟩:=hx
  split
  .rename_i since seen last hσ
   obtain⟨r',mo,e1,hh,hl,hmo⟩:=h.mem.objs _ _ _ hσ hβ
   cases e1
   simp only at hmo
   subst hmo
   refine Yield.pure h (x:= .tuple #[.bool false]) ?_ ⟨[.bool false],rfl,RdA.of_cell (RdC.of_pure (.bool _)),trivial⟩
   simp[execOp,hv,Instr.next,getObj,Sem.run,hh]
  .rename_i id since seen last hσ
   obtain⟨r',mo,e1,hh,hl,b,hβm,rfl⟩:=h.mem.objs _ _ _ hσ hβ
   cases e1
   split
   .rename_i kvs bs clk hσm
    obtain⟨b',es,e1,hhm,hlm,hall,hbn⟩:=h.mem.objs _ _ _ hσm hβm
    cases e1
    split
    .rename_i hc
     have hlt:r<w.heap.size:=(Ap.1 hh).1
     have hlk:=yX0 kvs bs es.toList seen hall hbn
     have hfl:(leftOf es seen.toArray).toList=es.toList.filter fun e=> !seen.contains e.born:=by
      unfold leftOf;simp
     rw[<-hfl]at hlk
     have hold: ∀x∈es.toList,x.born<since:=fun x hx=>by
      have:=Af.1 hc.1 x.born (by rw[<-hbn];exact Ac.2 ⟨x,hx,rfl⟩)
      simpa using this
     have hnext:=run_next_at (P:=P) w ty r b since last seen.toArray es clk hh hhm hold hc.2
     have hext: ∀o,Ext σ β (σ.set i o) β:=fun o=>Ext.setOther hσ (fun _ _ q=>by cases q) (fun _ _ q=>by cases q) (fun q=>by cases q) o
     have step: ∀(q:V×V×Nat) (en:MapEntry) (w1:World),(w1=w∨w1=w.drew)->RdA w L σ β q.1 en.key->RdA w L σ β q.2.1 en.val->en.born=q.2.2->
       (Instr.next (.pointer (some ⟨r,0,none⟩)) false ty).run P w= .ok (.tuple #[.bool true,en.key,en.val]) (ChangeMaps.setBlock w1 r (.mapIter (some b) since (seen.toArray.push en.born) clk))->
       Yield P c ⟨dst,.next x false,ty,pos,aft,g⟩ a w L σ β (.tup [.bool true,q.1,q.2.1]) (σ.set i (.it (some id) since (seen++ [q.2.2]) clk)):=by
      intro q en w1 hw1 h1 h2 h3 hrun
      obtain⟨hm1,hle1⟩:=xD2 hw1 h.mem
      have hh1:w1.heap[r]? =some (.mapIter (some b) since seen.toArray last):=by rcases hw1 with rfl|rfl<;>exact hh
      have hlt1:r<w1.heap.size:=(Ap.1 hh1).1
      have key:=hm1.setOb (o:= .it (some id) since (seen++ [q.2.2]) clk) hσ hβ rfl hl (.mapIter (some b) since (seen.toArray.push en.born) clk) (hext _) (fun k h=>by simpa[excl]using h.symm) fun hle=>by
       refine⟨r,some b,rfl, ?_,hl,b,hβm,rfl⟩
       rw[xN _ _ _ hlt1,h3]
       simp
      refine⟨.tuple #[.bool true,en.key,en.val],yK w1 r (.mapIter (some b) since (seen.toArray.push en.born) clk),L,β,.inl ?_,key.1,hle1.trans key.2,hext _, ?_⟩
      .simp only[execOp,hv,Sem.run_bind,hrun,Result.andThen_ok,Sem.run_pure]
       rfl
      .exact⟨[.bool true,en.key,en.val],rfl,RdA.of_cell (RdC.of_pure (.bool _)),h1.mono (hle1.trans key.2) (hext _),h2.mono (hle1.trans key.2) (hext _),trivial⟩
     split
     .rename_i hl0
      rw[hl0]at hlk
      have h0:(leftOf es seen.toArray).size=0:=by
       have:=hlk.length
       simpa using this.symm
      rcases hnext with ⟨_,hrun⟩|⟨en,hen,_⟩
      .refine Yield.pure h (x:= .tuple #[.bool false]) ?_ ⟨[.bool false],rfl,RdA.of_cell (RdC.of_pure (.bool _)),trivial⟩
       simp only[execOp,hv,Sem.run_bind,hrun,Result.andThen_ok,Sem.run_pure]
      .obtain⟨_,hq,_⟩:=All2.mem_r hlk hen
       simp at hq
     .rename_i k v b0 hl1
      rw[hl1]at hlk
      have h0:(leftOf es seen.toArray).size=1:=by
       have:=hlk.length
       simpa using this.symm
      rcases hnext with ⟨hz,_⟩|⟨en,hen,w1,hw1,hrun⟩
      .omega
      .obtain⟨q,hq,h1,h2,h3⟩:=All2.mem_r hlk hen
       simp at hq
       subst hq
       exact step _ en w1 hw1 h1 h2 h3 hrun
     .rename_i l hne0 hne1
      split
      case isFalse=>trivial
      rcases hnext with ⟨hz,_⟩|⟨en,hen,w1,hw1,hrun⟩
      .have:=hlk.length
       simp[hz]at this
       exact absurd this hne0
      .obtain⟨q,hq,h1,h2,h3⟩:=All2.mem_r hlk hen
       exact⟨_,Ac.2 ⟨q,hq,rfl⟩,step q en w1 hw1 h1 h2 h3 hrun⟩
    .trivial
   .trivial
  .trivial
 .trivial
def xQ (m:Option (Kk×V)) (σ:St) (x k:V):R:=
 match m,x with
 |some (kd,z),.mp id=>if zm4 kd k=true then(match σ[id]? with
  |some (.mp kvs bs clk)=>(match zh3 kd k kvs 0 with
   |some (some (i,v))=>(match bs[i]? with|some b=> .ok (.tup [v,.int .i64 (b:Int)])|none=> .fail)
   |some none=> .st (.tup [z,.int .i64 (clk:Int)]) (σ.set id (.mp (kvs++ [k,z]) (bs++ [clk]) (clk+1)))
   |none=> .fail)
  |_=> .fail)else .fail
 |_,_=> .fail
theorem yG5 (es:Array MapEntry) (i:Nat) (f:MapEntry->MapEntry) (h: ∀e,es[i]? =some e->f e=e):es.modify i f=es:=by
 apply Array.ext
 .simp
 .intro j h1 h2
  rw[Array.getElem_modify]
  split
  .rename_i q
   subst q
   exact h _ (Ar h2)
  .rfl
theorem yH2 {dst:Option Tmp} {ty:TypeId} {pos:String} {aft:Array Edge} {g:Option (Nat×Bool)} (t:TypeId) (x k:Operand) (h:Sim c nt e σ a w L β):
  ROk (xQ (mapT P t) σ (zF e x) (zF e k)) σ (Yield P c ⟨dst,.mapEntry t x k,ty,pos,aft,g⟩ a w L σ β):=by
 have hx:=h.eval x
 have hk:=h.eval k
 unfold xQ
 split
 .rename_i kd z id hm hid
  obtain⟨kt,et,i,zv,hu,hkd,hi,hz,hhas,hzr⟩:=zA0 hm
  rw[hid]at hx
  split
  .rename_i hko
   have hck: ∀em,(Instr.checkKey em 10000 kt (a.eval k)).run P w= .ok () w:=fun em=>zz7 hkd hko hk em
   have hzv:(zeroValue et).run P w= .ok zv w:=by simp[zeroValue,typeInfo,hi,hz]
   obtain⟨b,hβ,hv⟩:=zM4 hx
   split
   .rename_i kvs bs clk hσ
    obtain⟨b',es,e1,hh,hl,hall,hbn⟩:=h.mem.objs _ _ _ hσ hβ
    cases e1
    have hlt:b<w.heap.size:=(Ap.1 hh).1
    have hext: ∀o,Ext σ β (σ.set id o) β:=fun o=>Ext.setOther hσ (fun _ _ q=>by cases q) (fun _ _ q=>by cases q) (fun q=>by cases q) o
    have hset: ∀ob:Go.Obj,(setObj b ob).run P w= .ok () (yK w b ob):=fun ob=>by rw[MapKept.run_setObj_map ob hh];rfl
    split
    .rename_i i0 v0 hf
     split
     .rename_i b0 hb0
      rcases zp7 hkd hko hk hall hf with ⟨e1,_⟩|⟨j,v',e',e1,e2,e3,_,e5,kk,e6,e7⟩
      .cases e1
      .simp only[Option.some.injEq,Prod.mk.injEq]at e1
       obtain⟨rfl,rfl⟩:=e1
       have hj:es[i0]? =some e':=by simpa using e3
       have hkk:e'.key=a.eval k:=by
        obtain⟨y,hy,r⟩:=hall.get _ _ e6
        unfold zu3 at hy
        rw[(zt7 _ i0).1,e3]at hy
        simp at hy
        subst hy
        exact(yn6 hk (RdS.of_a r) e7).symm
       have hbo:e'.born=b0:=by
        rw[<-hbn,Az,e3]at hb0
        simpa using hb0
       have hsame:(es.modify i0 fun e=>{e with key:=a.eval k})=es:=yG5 es i0 _ fun e he=>by
        rw[hj]at he;cases he;rw[<-hkk]
       have hsσ:σ.set id (.mp kvs bs clk)=σ:=yF σ id _ hσ
       have key:=h.mem.setOb (o:= .mp kvs bs clk) hσ hβ rfl hl (.map es clk) (hext _) (fun k h=>by simpa[excl]using h.symm) fun hle=>by
        exact⟨b,_,rfl,xN _ _ _ hlt,hl,hall.imp fun _ _=>RdA.mono hle (hext _),hbn⟩
       rw[hsσ]at key
       refine⟨.tuple #[e'.val,.int .i64 (b0:Int)],_,L,β,.inl ?_,key.1,key.2,Ext.refl _ _,[e'.val,.int .i64 (b0:Int)],rfl,e5.mono key.2 (Ext.refl _ _),RdA.of_cell (RdC.of_pure (.int _ _)),trivial⟩
       simp[execOp,Instr.mapEntry,run_underlying hu,hv,MapKept.run_getObj_map hh,hck,e2,hset,hj,hkk,yp5 hko hk,hsame,hbo,goInt]
     .trivial
    .rename_i hf
     rcases zp7 hkd hko hk hall hf with ⟨_,e2⟩|⟨j,v',e',e1,_⟩
     .have hka:RdA w L σ β (zF e k) (a.eval k):=yq5 hk (yf2 hko)
      have key:=h.mem.setOb (o:= .mp (kvs++ [zF e k,z]) (bs++ [clk]) (clk+1)) hσ hβ rfl hl (.map (es.push {key:=a.eval k,val:=zv,born:=clk}) (clk+1)) (hext _) (fun k h=>by simpa[excl]using h.symm) fun hle=>by
       refine⟨b,_,rfl,xN _ _ _ hlt,hl, ?_,by simp[hbn]⟩
       have:All2 (RdA w L σ β) (kvs++ [zF e k,z]) (zu3 (es.push {key:=a.eval k,val:=zv,born:=clk})):=by
        simp only[zu3,Array.toList_push,E4]
        exact All2.append hall ⟨hka,hzr _ _ _ _,trivial⟩
       exact this.imp fun _ _=>RdA.mono hle (hext _)
      refine⟨.tuple #[zv,.int .i64 (clk:Int)],_,L,β,.inl ?_,key.1,key.2,hext _,[zv,.int .i64 (clk:Int)],rfl,hzr _ _ _ _,RdA.of_cell (RdC.of_pure (.int _ _)),trivial⟩
      simp[execOp,Instr.mapEntry,run_underlying hu,hv,MapKept.run_getObj_map hh,hck,e2,hset,hzv,goInt]
     .cases e1
    .trivial
   .trivial
  .trivial
 .trivial
def xI (σ:St) (x s v:V):R:=
 match x,s with
 | .mp id,.int _ n=>if wC v=true then(match σ[id]? with
  |some (.mp kvs bs clk)=>(match bs.findIdx? fun(b:Nat)=>(b:Int)==n with
   |some i=> .st .u (σ.set id (.mp (kvs.set (2*i+1) v) bs clk))
   |none=> .fail)
  |_=> .fail)else .fail
 |_,_=> .fail
theorem yl9 {dst:Option Tmp} {ty:TypeId} {pos:String} {aft:Array Edge} {g:Option (Nat×Bool)} (t:TypeId) (x s v:Operand) (h:Sim c nt e σ a w L β):
  ROk (xI σ (zF e x) (zF e s) (zF e v)) σ (Yield P c ⟨dst,.entryStore t x s v,ty,pos,aft,g⟩ a w L σ β):=by
 have hx:=h.eval x
 have hs:=h.eval s
 have hv:=h.eval v
 unfold xI
 split
 .rename_i id k n hid hsn
  rw[hid]at hx
  rw[hsn]at hs
  have hs:=yI hs
  split
  .rename_i hc
   obtain⟨b,hβ,hxv⟩:=zM4 hx
   split
   .rename_i kvs bs clk hσ
    obtain⟨b',es,e1,hh,hl,hall,hbn⟩:=h.mem.objs _ _ _ hσ hβ
    cases e1
    have hlt:b<w.heap.size:=(Ap.1 hh).1
    have hext: ∀o,Ext σ β (σ.set id o) β:=fun o=>Ext.setOther hσ (fun _ _ q=>by cases q) (fun _ _ q=>by cases q) (fun q=>by cases q) o
    have hset: ∀ob:Go.Obj,(setObj b ob).run P w= .ok () (yK w b ob):=fun ob=>by rw[MapKept.run_setObj_map ob hh];rfl
    split
    .rename_i i hf
     have hfi:(es.findIdx? fun e=>(e.born:Int)==n)=some i:=by
      rw[<-hbn,List.findIdx?_map]at hf
      have hq:es.findIdx? (fun e=>(e.born:Int)==n)=es.toList.findIdx? fun e=>(e.born:Int)==n:=by
       obtain⟨l⟩:=es
       simp
      rw[hq]
      exact hf
     have hi:i<es.size:=by
      obtain⟨h1,_⟩:=Array.findIdx?_eq_some_iff_getElem.1 hfi
      exact h1
     have hva:RdA w L σ β (zF e v) (a.eval v):=yq5 hv hc
     have hlen:=hall.length
     unfold zu3 at hlen
     rw[ye8]at hlen
     simp only[Bz]at hlen
     have h2i:2*i<kvs.length:=by omega
     have hkey:RdA w L σ β kvs[2*i] es[i].key:=by
      obtain⟨y,hy,r⟩:=hall.get (2*i) _ (A0 h2i)
      unfold zu3 at hy
      rw[(zt7 _ i).1,Aj,Ar hi]at hy
      simp at hy
      subst hy;exact r
     have hsk:zv3 kvs i kvs[2*i] (zF e v)=kvs.set (2*i+1) (zF e v):=by
      unfold zv3;rw[List.set_getElem_self]
     have hmod:(es.modify i fun e=>{e with val:=a.eval v})=es.modify i fun e=>{e with key:=es[i].key,val:=a.eval v}:=by
      apply Array.ext
      .simp
      .intro j h1 h2
       rw[Array.getElem_modify,Array.getElem_modify]
       split
       .rename_i q;subst q;rfl
       .rfl
     have key:=h.mem.setOb (o:= .mp (zv3 kvs i kvs[2*i] (zF e v)) bs clk) hσ hβ rfl hl (.map (es.modify i fun e=>{e with key:=es[i].key,val:=a.eval v}) clk) (hext _) (fun k h=>by simpa[excl]using h.symm) fun hle=>by
      refine⟨b,_,rfl,xN _ _ _ hlt,hl,(yW8 hall hkey hva hi).imp fun _ _=>RdA.mono hle (hext _),by rw[ym8];exact hbn⟩
     rw[hsk,<-hmod]at key
     refine⟨undef,_,L,β,.inr ⟨?_,rfl⟩,key.1,key.2,hext _,trivial⟩
     simp[execOp,Instr.entryStore,hxv,hs,MapKept.run_getObj_map hh,asInt,asIntOf,hfi,hset]
    .trivial
   .trivial
  .trivial
 .trivial
def zV2 (b:Nat):List V->List Nat->Option (V×V)
 |k::v::kvs,b'::bs=>if b'=b then some (k,v)else zV2 b kvs bs
 |_,_=>none
def zh9 (σ:St) (x:V):R:=
 match x with
 | .ptr i 0=>(match σ[i]? with
  |some (.it (some id) _ seen last)=>(match σ[id]?,seen.getLast? with
   |some (.mp kvs bs clk),some b=>if clk=last then(match zV2 b kvs bs with|some (k,v)=> .ok (.tup [k,v])|none=> .fail)else .fail
   |_,_=> .fail)
  |_=> .fail)
 |_=> .fail
theorem ent_ok (b:Nat): ∀(kvs:List V) (bs:List Nat) (es:List MapEntry) (k v:V),All2 (RdA w L σ β) kvs (es.flatMap fun e=> [e.key,e.val])->es.map (·.born)=bs->zV2 b kvs bs=some (k,v)->
  ∃e,es.find? (·.born==b)=some e/\RdA w L σ β k e.key/\RdA w L σ β v e.val
 | [],_,_,_,_,_,_,h=>by simp[zV2]at h
 | [_],_,_,_,_,_,_,h=>by simp[zV2]at h
 |_::_::_,_,[],_,_,ha,_,_=>by simp[All2]at ha
 |k0::v0::kvs,bs,e::es,k,v,ha,hb,h=>by
  simp only[Bl,Bo,Ce,All2]at ha
  obtain⟨h1,h2,h3⟩:=ha
  cases bs with
  |nil=>simp at hb
  |cons b' bs=>
   simp only[Al,List.cons.injEq]at hb
   obtain⟨rfl,hb⟩:=hb
   rw[zV2]at h
   by_cases q:e.born=b
   .rw[if_pos q]at h
    simp only[Option.some.injEq,Prod.mk.injEq]at h
    obtain⟨rfl,rfl⟩:=h
    exact⟨e,by simp[List.find?_cons,q],h1,h2⟩
   .rw[if_neg q]at h
    obtain⟨e',g1,g2,g3⟩:=ent_ok b kvs bs es k v h3 hb h
    have qb:(e.born==b)=false:=by simpa using q
    exact⟨e',by rw[List.find?_cons,qb];exact g1,g2,g3⟩
theorem xt9 {dst:Option Tmp} {ty:TypeId} {pos:String} {aft:Array Edge} {g:Option (Nat×Bool)} (x:Operand) (h:Sim c nt e σ a w L β):
  ROk (zh9 σ (zF e x)) σ (Yield P c ⟨dst,.entry x,ty,pos,aft,g⟩ a w L σ β):=by
 have hx:=h.eval x
 unfold zh9
 split
 .rename_i i hid
  rw[hid]at hx
  obtain⟨r,hβ,hv⟩:=hx
  split
  .rename_i id since seen last hσ
   obtain⟨r',mo,e1,hh,hl,b,hβm,rfl⟩:=h.mem.objs _ _ _ hσ hβ
   cases e1
   split
   .rename_i kvs bs clk b0 hσm hse
    obtain⟨b',es,e1,hhm,hlm,hall,hbn⟩:=h.mem.objs _ _ _ hσm hβm
    cases e1
    split
    .rename_i hc
     subst hc
     split
     .rename_i k v he
      obtain⟨en,g1,g2,g3⟩:=ent_ok b0 kvs bs es.toList k v hall hbn he
      have hfi:es.find? (·.born==b0)=some en:=by
       rw[<-g1]
       obtain⟨l⟩:=es
       simp
      have hbk:seen.toArray.back? =some b0:=by
       rw[<-hse]
       simp
      refine Yield.pure h (x:= .tuple #[en.key,en.val]) ?_ ⟨[en.key,en.val],rfl,g2,g3,trivial⟩
      simp[execOp,hv,Instr.entry,getObj,Sem.run,hh,hhm,hbk,hfi]
     .trivial
    .trivial
   .trivial
  .trivial
 .trivial
def yp1 (P:Program) (t:TypeId):Bool:=match P.underlying t with|some (.slice _)=>true|_=>false
def zV5 (b:Bool) (t:TypeId) (x:V):R:=
 match b,x with
 |true,.lsv id s n lo m=> .ok (.ifc t [.lsv id s n lo m])
 |true,.sl g rows=> .ok (.ifc t [.sl g rows])
 |_,_=> .fail
theorem xR0 {dst:Option Tmp} {ty:TypeId} {pos:String} {aft:Array Edge} {g:Option (Nat×Bool)} (t:TypeId) (x:Operand) (h:Sim c nt e σ a w L β):
  ROk (zV5 (yp1 P t) t (zF e x)) σ (Yield P c ⟨dst,.makeInterface t x,ty,pos,aft,g⟩ a w L σ β):=by
 have hx:=h.eval x
 have hu:yp1 P t=true->(Instr.makeInterface t (a.eval x)).run P w= .ok (.iface t (a.eval x)) w:=fun hb=>by
  unfold yp1 at hb
  split at hb
  .rename_i et hu
   simp[Instr.makeInterface,run_underlying hu]
  .cases hb
 unfold zV5
 split
 .rename_i id s n lo m hb hid
  rw[hid]at hx
  exact Yield.pure h (x:= .iface t (a.eval x)) (by simp[execOp,hu hb]) ⟨a.eval x,rfl,hx,trivial⟩
 .rename_i g rows hb hid
  rw[hid]at hx
  exact Yield.pure h (x:= .iface t (a.eval x)) (by simp[execOp,hu hb]) ⟨a.eval x,rfl,hx,trivial⟩
 .trivial
end
end Go.Vx
