/-
  Stores within stores: names of objects changed, some of them picked; and what a call is at the level of trees.
  No condition: a library text; nothing of the program is named.
-/
import Derived.Test.YtefbicjgbaaieaaGreatKAC
import Derived.Maps.RangeRun
set_option maxHeartbeats 8000000
namespace Go.Vx
open Go
theorem Ext.setOther{σ:St}{β:List Value}{i:Nat}{o0:Ob}(hi:σ[i]?=some o0)(h1:∀n s,o0≠.app n s)(h2:∀r s,o0≠.lst r s)(h3:o0≠.dead)(o:Ob):Ext σ β (σ.set i o) β:=by refine⟨sm,(by grind),(by grind),(by grind)⟩;all_goals grind
section
variable{c:Ctx}{w:World}{L:Nat->Nat}{σ:St}{β:List Value}
theorem Mem.newOb(h:Mem c w L σ β)(ob:Go.Obj)(o:Ob)(ho:Le w L (w.alloc ob) L->Ext σ β (σ++[o]) (β++[.pointer (some ⟨w.heap.size,0,none⟩)])->ObOk (w.alloc ob) L (σ++[o]) (β++[.pointer (some ⟨w.heap.size,0,none⟩)]) o (.pointer (some ⟨w.heap.size,0,none⟩)))(hex:∀b,excl o (.pointer (some ⟨w.heap.size,0,none⟩))=some b->b=w.heap.size):Mem c (w.alloc ob) L (σ++[o]) (β++[.pointer (some ⟨w.heap.size,0,none⟩)])/\Le w L (w.alloc ob) L:=by
 have h1:=h.alloc ob 0;rw[zE7 h]at h1;refine⟨h1.1.push _ _ (ho h1.2 (Ext.push σ β h.len _ _)) ?_ ?_,h1.2⟩;.intro i o' x' b hi hx hb e;have h2:=(h.objs i o' x' hi hx).excl_lt hb;grind
 .intro b hb;rw[hex b hb];exact .inl h.size
theorem Mem.setOb(h:Mem c w L σ β){i b:Nat}{o0 o:Ob}(hi:σ[i]?=some o0)(hβ:β[i]?=some (.pointer (some ⟨b,0,none⟩)))(aa:excl o0 (.pointer (some ⟨b,0,none⟩))=some b)(h0:L b=0)(ob:Go.Obj)(ae:Ext σ β (σ.set i o) β)(hex:∀k,excl o (.pointer (some ⟨b,0,none⟩))=some k->k=b)(hok:Le w L (zX w b ob) L->ObOk (zX w b ob) L (σ.set i o) β o (.pointer (some ⟨b,0,none⟩))):Mem c (zX w b ob) L (σ.set i o) β/\Le w L (zX w b ob) L:=by
 have hle:Le w L (zX w b ob) L:=by refine⟨om,λk o ho=>zd2 (wW w b k _ λq=>?_) o⟩;grind
 refine⟨?_,hle⟩;have af:=yK β i _ hβ;have key:=h.upd (w':=zX w b ob) (L':=L) i o (.pointer (some ⟨b,0,none⟩)) hle (by grind) (λk=>k=b) (λj o' x' k hj ab ad hk e=>by subst e;exact h.apart j i o' _ x' _ k hj ab ad hi hβ hk aa) (λk e=>by subst e;exact h.mine i _ _ k hi hβ aa) (λk hk=>⟨wW w b k _ hk,rfl⟩) (by simp[zX]) rfl rfl rfl h.lim (by grind) om;grind
end
theorem All2.mem_r{α β:Type}{R:α->β->Prop}:∀{l:List α}{m:List β}{b:β},All2 R l m->b∈m->∃a∈l,R a b
 |a::l,b'::m,b,h,hb=>by
  rcases Ae.1 hb with rfl|hb;.exact⟨a,sm,h.1⟩
  .obtain⟨a',ha,r⟩:=All2.mem_r h.2 hb;grind|[],[],_,_,hb=>by grind|[],_::_,_,h,_=>h.elim|_::_,[],_,h,_=>h.elim
section
variable{P:Program}{c:Ctx}{nt:Nat}{e:Env}{σ:St}{a:Act}{w:World}{L:Nat->Nat}{β:List Value}{o:Oper}
variable{x:Value}{dst:Option Tmp}{ty:TypeId}{aft:Array Edge}{g:Option (Nat×Bool)}{p:V}{kt:TypeId}{t:TypeId}{y:Value}{k:Pk}{kvs:List V}
theorem yu6{v:V}(r:RdS w L σ β v x)(h:wY v=true):RdA w L σ β v x:=by cases v<;>first|exact r|simp[wY]at h
def keyD:TypeDesc->Option Pk |.bool=>some .b|.int k=>some (.i k)|.string=>some .s|_=>none
inductive Kk where|one(k:Pk)|st(ks:List Pk)
def yr5(P:Program):Nat->List Field->Option (List Pk) |_,[]=>some []|i,f::fs=>if f.name≠"_"/\f.offset=i/\aggT P f.type=some false then((P.underlying f.type).bind keyD).bind λk=>(yr5 P (i+1) fs).map (k::·)else none
def kkT(P:Program)(kt:TypeId):Option Kk:=match P.underlying kt with |some (.struct fs)=>(yr5 P 0 fs.toList).bind λks=>if zt3 P 10 kt=some ks then some (.st ks)else none|some d=>(keyD d).map .one|none=>none
def zvT(P:Program)(t:TypeId):Option V:=match(P.info? t).bind (·.zero)with |some (.agg cs)=>if cs.all (·.oneCell')=true then some (.agg (cs.toList.map zc1))else none|some v=>if v.oneCell'=true then some (zc1 v)else none|none=>none
def mapT(P:Program)(t:TypeId):Option (Kk×V):=match P.underlying t with |some (.map kt et)=>(kkT P kt).bind λk=>(zvT P et).map λz=>(k,z)|_=>none
theorem xK8{z:V}(h:zvT P t=some z):∃i zv,P.info? t=some i/\i.zero=some zv/\wY z=true/\∀(w:World) L σ β,RdA w L σ β z zv:=by unfold zvT at h;cases hi:P.info? t with|none=>grind|some i=>cases hz:i.zero with |none=>grind|some zv=>
   simp only[hi,hz,B3]at h;refine⟨i,zv,rfl,hz,?_⟩;split at h
   .rename_i cs aa;cases aa;split at h;.rename_i ha;simp only[Option.some.injEq]at h;subst h;refine⟨rfl,λw L σ β=>⟨cs.toList,sm,(zX9 λv hv=>?_).imp λ_ _=>RdC.of_pure⟩⟩;exact Df.1 ha v (by grind)
    grind
   .rename_i v ab hv;cases hv;split at h;.rename_i h1;simp only[Option.some.injEq]at h;subst h;have hc:zI0 (zc1 zv)=true:=(zv7 (w:=default) (L:=λ_=>0) zv h1).2;refine⟨?_,(by grind[RdA.of_cell,RdC.of_pure,zv7])⟩;revert hc;generalize zc1 zv=q0;cases q0<;>simp[zI0,wY]
    grind
   grind
theorem zB3{k:Kk}{z:V}(h:mapT P t=some (k,z)):∃kt et i zv,P.underlying t=some (.map kt et)/\kkT P kt=some k/\P.info? et=some i/\i.zero=some zv/\wY z=true/\∀(w:World) L σ β,RdA w L σ β z zv:=by
 unfold mapT at h;split at h;.rename_i kt et hu;cases hk:kkT P kt with|none=>grind|some k'=>cases hz:zvT P et with|none=>grind|some z'=>simp only[hk,hz,B3,B8,Option.some.injEq,Prod.mk.injEq]at h;obtain⟨rfl,rfl⟩:=h;grind[xK8]
 grind
def zd4:Pk->V->Bool |.b,.bool _=>true|.i k,.int k' _=>decide (k'=k)|.s,.str _=>true|_,_=>false
def zc3:List Pk->List V->Bool|[],[]=>true|k::ks,v::vs=>zd4 k v&&zc3 ks vs|_,_=>false
def zn1:Kk->V->Bool|.one k,v=>zd4 k v|.st ks,.agg vs=>zc3 ks vs|_,_=>false
theorem zq8{d:TypeDesc}{v:V}(hk:keyD d=some k)(h:zd4 k v=true)(r:RdS w L σ β v x):MapKept.IsKey d x:=by
 cases k<;>cases v<;>simp[zd4]at h;.rw[zd0 r];cases d<;>simp[keyD]at hk<;>trivial
 .rw[yM r];cases d<;>simp[keyD]at hk;subst hk;exact h
 .rw[wV r];cases d<;>simp[keyD]at hk<;>trivial
theorem yr6(em:Bool)(xs:List Value)(w:World):∀(fs:List Field)(i:Nat)(ks:List Pk)(vs:List V),yr5 P i fs=some ks->zc3 ks vs=true->All2 (RdC w L σ β) vs (xs.drop i)->∀f∈fs,f.name≠"_"/\∃x,(part f.type xs.toArray f.offset).run P w=.ok x w/\(Instr.checkKey em 9999 f.type x).run P w=.ok () w
 |[],_,_,_,_,_,_,_,hf=>by cases hf|f::fs,i,ks,vs,h,hko,ha,f',hf'=>by
  unfold yr5 at h;split at h;.rename_i hc;obtain⟨h1,h2,h3⟩:=hc;cases hu:P.underlying f.type with|none=>grind|some d=>cases hk:keyD d with|none=>grind|some k=>simp only[hu,hk,B3,B0]at h;obtain⟨ks',h4,rfl⟩:=h;cases vs with|nil=>trivial|cons v vs=>
      simp only[zc3,A6]at hko;have hlen:=ha.length;have hlt:i<xs.length:=by grind
      rw[A8 hlt]at ha;rcases Ae.1 hf' with rfl|hf'
      .have hp:(part f'.type xs.toArray f'.offset).run P w=.ok xs[i] w:=by simp_all[part,zk5]
       exact⟨h1,_,hp,MapKept.run_checkKey (P:=P) (w:=w) hu (zq8 hk hko.1 (RdS.of_cell ha.1)) em 9998⟩
      .exact yr6 em xs w fs (i+1) ks' vs h4 hko.2 ha.2 f' hf'
  grind
theorem zB0{kk:Kk}(hk:kkT P kt=some kk)(aa:zn1 kk p=true)(hx:RdS w L σ β p x)(em:Bool):(Instr.checkKey em 10000 kt x).run P w=.ok () w:=by
 unfold kkT at hk;split at hk;.rename_i fs hu;cases hf:yr5 P 0 fs.toList with |none=>grind|some ks=>
   simp only[hf,B3]at hk;split at hk;.simp only[Option.some.injEq]at hk;subst hk;cases p<;>simp[zn1]at aa;obtain⟨xs,rfl,ha⟩:=hx;have each:=yr6 (P:=P) em xs w fs.toList 0 ks _ hf aa ha;rw[show(10000:Nat)=9999+1from rfl,Instr.checkKey];simp only[Sem.run_bind,run_underlying hu,Result.andThen_ok];rw[<-Array.forIn_toList];clear hf hu;generalize fs.toList=M at each;induction M with |nil=>simp|cons f M ih=>obtain⟨hn,x,p1,p2⟩:=each f sm;simp_all
   grind
 .rename_i d ab hu;cases hd:keyD d with |none=>grind|some k=>simp only[hd,B8,Option.some.injEq]at hk;subst hk;exact MapKept.run_checkKey hu (zq8 hd aa hx) em 9999
 grind
def eqKk:Kk->V->V->Option Bool|.one k,x,y=>eqPk k x y|.st ks,.agg x,.agg y=>eqVs ks x y|_,_,_=>none
def zj1(k:Kk)(x:V):List V->Nat->Option (Option (Nat×V)) |kk::vv::rest,i=>(match eqKk k x kk with |some true=>some (some (i,vv))|some false=>zj1 k x rest (i+1)|none=>none)|[],_=>some none|[_],_=>none
theorem yI9{d:TypeDesc}{v:V}{r:Bool}(hk:keyD d=some k)(hx:RdS w L σ β p x)(hy:RdS w L σ β v y)(h:eqPk k p v=some r):Instr.sameNow d x y=some r:=by
 cases k;.cases p<;>cases v<;>simp[eqPk]at h;subst h;rw[zd0 hx,zd0 hy];cases d<;>simp[keyD]at hk;rfl
 .cases p<;>cases v<;>simp[eqPk]at h;obtain⟨⟨rfl,rfl⟩,rfl⟩:=h;rw[yM hx,yM hy];cases d<;>simp[keyD]at hk;simp[Instr.sameNow]
 .cases p<;>cases v<;>simp[eqPk]at h;subst h;rename_i s1 s2;rw[wV hx,wV hy];cases d<;>simp[keyD]at hk;simp only[Instr.sameNow,Option.some.injEq];have e1:((⟨s1.toArray⟩:ByteArray)==⟨s2.toArray⟩)=(s1.toArray==s2.toArray):=rfl;grind
theorem yg0{k:Kk}{p:V}(M:List MapEntry->Nat->Option (Nat×Value)->Prop)(h0:∀i,M [] i none)(hT:∀v(e:MapEntry) es i,RdA w L σ β v e.key->eqKk k p v=some true->M (e::es) i (some (i,e.val)))(hF:∀v(e:MapEntry) es i r,RdA w L σ β v e.key->eqKk k p v=some false->M es (i+1) r->M (e::es) i r):∀(kvs:List V)(es:List MapEntry)(i:Nat)(q:Option (Nat×V)),All2 (RdA w L σ β) kvs (es.flatMap λe=>[e.key,e.val])->zj1 k p kvs i=some q->(q=none/\M es i none)∨∃(j:Nat)(v:V)(e:MapEntry),q=some (i+j,v)/\M es i (some (i+j,e.val))/\es[j]?=some e/\kvs[2*j+1]?=some v/\RdA w L σ β v e.val/\(∃kk,kvs[2*j]?=some kk/\eqKk k p kk=some true)
 |[],[],i,q,_,h=>by grind[zj1]|[],e::es,_,_,ha,_=>by trivial|[_],[],_,_,ha,_=>by trivial|[_],e::es,_,_,_,h=>by trivial|_::_::_,[],_,_,ha,_=>by trivial|kk::vv::kvs,e::es,i,q,ha,h=>by
  simp only[C1,Bz,Cs,All2]at ha;obtain⟨h1,h2,h3⟩:=ha;rw[zj1]at h;split at h;.rename_i he;simp only[Option.some.injEq]at h;exact .inr ⟨0,vv,e,h.symm,(by grind),rfl,rfl,h2,kk,rfl,he⟩
  .rename_i he;rcases yg0 M h0 hT hF kvs es (i+1) q h3 h with⟨e1,e2⟩|⟨j,v,e',e1,e2,e3,e4,e5,aa,e6,e7⟩;.grind
   .rw[show i+1+j=i+(j+1)by omega]at e1 e2;refine .inr ⟨j+1,v,e',e1,(by grind),by grind,?_,e5,aa,?_,e7⟩;all_goals grind
  grind
theorem zJ4{fs:Array Field}{es:List MapEntry}{r:Option (Nat×Value)}(hu:P.underlying kt=some (.struct fs))(h:(Instr.findAsking kt x es 0).run P w=.ok r w):(Instr.findKey kt x es).run P w=.ok r w:=by cases es<;>simp_all[Instr.findAsking,Instr.findKey,run_underlying,Instr.findNow,Instr.sameNow]
theorem zq6{kk:Kk}(hk:kkT P kt=some kk)(ab:zn1 kk p=true)(hx:RdS w L σ β p x){es:List MapEntry}{q:Option (Nat×V)}(ha:All2 (RdA w L σ β) kvs (es.flatMap λe=>[e.key,e.val]))(hf:zj1 kk p kvs 0=some q):(q=none/\(Instr.findKey kt x es).run P w=.ok none w)∨∃(j:Nat)(v:V)(e:MapEntry),q=some (j,v)/\(Instr.findKey kt x es).run P w=.ok (some (j,e.val)) w/\es[j]?=some e/\kvs[2*j+1]?=some v/\RdA w L σ β v e.val/\(∃k',kvs[2*j]?=some k'/\eqKk kk p k'=some true):=by
 unfold kkT at hk;split at hk;.rename_i fs hu;cases ad:yr5 P 0 fs.toList with |none=>grind|some ks=>
   simp only[ad,B3]at hk;split at hk
   .rename_i ae;simp only[Option.some.injEq]at hk;subst hk;cases p<;>simp[zn1]at ab;rename_i vs;obtain⟨xs,rfl,af⟩:=hx;have ah:∀(us:List V)(ys:List Value),All2 (RdC w L σ β) us ys->∀z∈ys,z.oneCell'=true:=λus ys h z hz=>by obtain⟨i,hi,rfl⟩:=Dg.1 hz;obtain⟨a,_,r⟩:=All2.mem_r h om;exact r.oneCell
    have aa:∀ys:Array Value,zu8 P kt (.agg ys):=λys=>by unfold zu8;rw[if_pos (by unfold aggT;rw[hu];rfl)];simp
    have heq:∀(v:V)(y:Value)(r:Bool),RdA w L σ β v y->eqKk (.st ks) (.agg vs) v=some r->(Op.equal kt (.agg xs.toArray) y).run P w=.ok r w:=by intro v y r hr he;cases v<;>simp[eqKk]at he;rename_i us;obtain⟨ys,rfl,ag⟩:=hr;have ai:=zV3 ks vs us xs ys r af ag he;exact zJ2 10 kt ks ae 10000 om _ _ r (aa _) (aa _) (by grind[Value.cells]) (by grind[Value.cells]) (by simpa) w
    rcases yg0 (w:=w) (L:=L) (σ:=σ) (β:=β) (k:=.st ks) (p:=.agg vs) (λes i r=>(Instr.findAsking kt (.agg xs.toArray) es i).run P w=.ok r w) (by simp[Instr.findAsking]) (λv e es i h1 h2=>by simp[Instr.findAsking,heq v _ _ h1 h2]) (λv e es i r h1 h2 h3=>by simp[Instr.findAsking,heq v _ _ h1 h2,h3]) kvs es 0 q ha hf with⟨e1,e2⟩|⟨j,v,e',e1,e2,e3⟩;.grind[zJ4]
    .rw[Ad]at e1 e2;grind[zJ4]
   grind
 .rename_i d aj hu;cases hd:keyD d with |none=>grind|some k=>
   simp only[hd,B8,Option.some.injEq]at hk;subst hk;rcases yg0 (w:=w) (L:=L) (σ:=σ) (β:=β) (k:=.one k) (p:=p) (λes i r=>Instr.findNow d x es i=some r) (λi=>rfl) (λv e es i h1 h2=>by simp[Instr.findNow,yI9 hd hx (RdS.of_a h1) h2]) (λv e es i r h1 h2 h3=>by simp[Instr.findNow,yI9 hd hx (RdS.of_a h1) h2,h3]) kvs es 0 q ha hf with⟨e1,e2⟩|⟨j,v,e',e1,e2,e3⟩;.grind[MapKept.run_findKey]
   .rw[Ad]at e1 e2;grind[MapKept.run_findKey]
 grind
theorem yq9{v:V}(hx:RdS w L σ β p x)(hy:RdS w L σ β v y)(h:eqPk k p v=some true):x=y:=by
 cases k<;>cases p<;>cases v<;>simp[eqPk]at h;.rw[zd0 hx,zd0 hy,h]
 .obtain⟨⟨rfl,rfl⟩,rfl⟩:=h;rw[yM hx,yM hy]
 .rw[wV hx,wV hy,h]
theorem yr0:∀(ks:List Pk)(us vs:List V)(xs ys:List Value),All2 (RdC w L σ β) us xs->All2 (RdC w L σ β) vs ys->eqVs ks us vs=some true->xs=ys
 |[],[],[],[],[],_,_,_=>rfl|k::ks,u'::us,v::vs,x::xs,y::ys,h1,h2,h=>by unfold eqVs at h;cases hk:eqPk k u' v with|none=>grind|some r0=>simp only[hk,B3,B0]at h;obtain⟨r',h3,h4⟩:=h;simp only[A6]at h4;obtain⟨rfl,rfl⟩:=h4;rw[yq9 (RdS.of_cell h1.1) (RdS.of_cell h2.1) hk,yr0 ks us vs xs ys h1.2 h2.2 h3]
 |[],[],[],[],_::_,_,h2,_=>h2.elim|[],[],[],_::_,_,h1,_,_=>h1.elim|[],[],_::_,_,_,_,_,h=>by cases h|[],_::_,_,_,_,_,_,h=>by cases h|_::_,[],_,_,_,_,_,h=>by cases h|_::_,_::_,[],_,_,_,_,h=>by cases h|_::_,_::_,_::_,[],_,h1,_,_=>h1.elim|_::_,_::_,_::_,_::_,[],_,h2,_=>h2.elim
theorem yq8{k:Kk}{v:V}(hx:RdS w L σ β p x)(hy:RdS w L σ β v y)(h:eqKk k p v=some true):x=y:=by cases k with|one k=>exact yq9 hx hy h|st ks=>cases p<;>cases v<;>simp[eqKk]at h;obtain⟨xs,rfl,h1⟩:=hx;obtain⟨ys,rfl,h2⟩:=hy;grind[yr0]
theorem xn3{ks:List Pk}:∀{vs:List V}{xs:List Value},zc3 ks vs=true->All2 (RdC w L σ β) vs xs->∀z∈xs,∃d,MapKept.IsKey d z:=by induction ks with
 |nil=>intro vs xs h ha;cases vs with
  |nil=>cases xs with|nil=>simp|cons _ _=>trivial
  |cons _ _=>trivial
 |cons k ks ih=>intro vs xs h ha z hz;cases vs with |nil=>trivial|cons v vs=>cases xs with|nil=>grind|cons x xs=>
    simp only[zc3,A6]at h;rcases Ae.1 hz with rfl|hz
    .have hr:=RdS.of_cell (σ:=σ) (β:=β) ha.1;cases k;.exact⟨.bool,zq8 rfl h.1 hr⟩
     .exact⟨.int _,zq8 rfl h.1 hr⟩
     .exact⟨.string,zq8 rfl h.1 hr⟩
    .exact ih h.2 ha.2 z hz
theorem yt0{kk:Kk}(aa:zn1 kk p=true)(hx:RdS w L σ β p x):(Instr.keyThatStays x x).run P w=.ok x w:=by cases kk with
 |one k=>
  cases k;.exact MapKept.run_keyThatStays (zq8 (d:=.bool) rfl aa hx)
  .exact MapKept.run_keyThatStays (zq8 (d:=.int _) rfl aa hx)
  .exact MapKept.run_keyThatStays (zq8 (d:=.string) rfl aa hx)|st ks=>
  cases p<;>simp[zn1]at aa;obtain⟨xs,rfl,ha⟩:=hx;have hs:Instr.sameBits 10000 (.agg xs.toArray) (.agg xs.toArray)=true:=by show Instr.sameBits (9999+1) (.agg xs.toArray) (.agg xs.toArray)=true;simp only[Instr.sameBits,beq_self_eq_true,B5,Af];rintro⟨a,b⟩hp;obtain⟨i,hi,e⟩:=Dg.1 hp;simp only[List.getElem_zip,Prod.mk.injEq]at e;obtain⟨rfl,rfl⟩:=e;grind[xn3,Aa,MapKept.sameBits_self]
  simp_all[Instr.keyThatStays]
def zm2(σ:St)(m:Bool)(r:Option V):R:=match m,r with |_,none=>.st (.mp σ.length) (σ++[.mp [] [] 0])|true,some (.int _ _)=>.st (.mp σ.length) (σ++[.mp [] [] 0])|_,_=>.fail
def zh4(P:Program)(t:TypeId):Bool:=match P.underlying t with|some (.map _ _)=>true|_=>false
theorem xQ1(h:Mem c w L σ β):Mem c (w.alloc (.map #[] 0)) L (σ++[.mp [] [] 0]) (β++[.pointer (some ⟨w.heap.size,0,none⟩)])/\Le w L (w.alloc (.map #[] 0)) L:=h.newOb _ _ (λhle _=>⟨w.heap.size,#[],rfl,yH _ _,by have:=h.lim _ (A5 _);omega,by trivial,rfl⟩) (by grind[excl])
theorem yX1{pos:String}(t:TypeId)(r:Option Operand)(h:Sim c nt e σ a w L β):ROk (zm2 σ (zh4 P t) (r.map (zD e))) σ (Yield P c ⟨dst,.makeMap t r,ty,pos,aft,g⟩ a w L σ β):=by have aa:=xQ1 h.mem;have ab:RdS (w.alloc (.map #[] 0)) L (σ++[.mp [] [] 0]) (β++[.pointer (some ⟨w.heap.size,0,none⟩)]) (.mp σ.length) (.map (some w.heap.size)):=⟨w.heap.size,by rw[<-h.mem.len];simp,rfl⟩;cases r with|none=>exact⟨_,_,L,_,(by simp[execOp,Instr.makeMap]),aa.1,aa.2,Ext.push σ β h.mem.len _ _,ab⟩|some p=>
  have hp:=h.eval p;simp only[B8];unfold zm2;split;.grind
  .rename_i k n hm hq;simp only[Option.some.injEq]at hq;rw[hq]at hp;have hp:=yM hp;unfold zh4 at hm;split at hm;.rename_i kt et hu;exact⟨_,_,L,_,(by simp_all[execOp,Instr.makeMap,run_underlying,asInt,asIntOf]),aa.1,aa.2,Ext.push σ β h.mem.len _ _,ab⟩
   grind
  trivial
def xR(m:Option (Kk×V))(σ:St)(x k:V)(ok:Bool):R:=match m with |some (kd,z)=>if zn1 kd k=true then(match x with |.mp id=>(match σ[id]?with
   |some (.mp kvs _ _)=>(match zj1 kd k kvs 0with |some (some (_,v))=>.ok (if ok then .tup [v,.bool true]else v)|some none=>.ok (if ok then .tup [z,.bool false]else z)|none=>.fail)|_=>.fail)|.raw (.map none)=>.ok (if ok then .tup [z,.bool false]else z)|_=>.fail)else .fail|none=>.fail
theorem zP1{id:Nat}(r:RdS w L σ β (.mp id) x):∃b,β[id]?=some (.pointer (some ⟨b,0,none⟩))/\x=.map (some b):=r
theorem zE8(r:RdS w L σ β (.raw (.map none)) x):x=.map none:=by have r':RdP w L (.raw (.map none)) x:=r;cases r';rfl
theorem yj1{v:V}(b:Bool)(r:RdA w L σ β v x)(ok:Bool):RdS w L σ β (if ok then .tup [v,.bool b]else v) (if ok then .tuple #[x,.bool b]else x):=by
 cases ok;.grind[RdS.of_a]
 .exact⟨[x,.bool b],rfl,r,RdA.of_cell (RdC.of_pure (.bool b)),tV⟩
theorem xq0{pos:String}(t:TypeId)(x k:Operand)(ok:Bool)(h:Sim c nt e σ a w L β):ROk (xR (mapT P t) σ (zD e x) (zD e k) ok) σ (Yield P c ⟨dst,.lookup t x k ok,ty,pos,aft,g⟩ a w L σ β):=by
 have hx:=h.eval x;have hk:=h.eval k;unfold xR;split
 .rename_i kd z hm;obtain⟨kt,et,i,zv,hu,ad,hi,hz,ah,ai⟩:=zB3 hm;split
  .rename_i ae;have af:∀em,(Instr.checkKey em 10000 kt (a.eval k)).run P w=.ok () w:=(by grind[zB0]);have ag:(zeroValue et).run P w=.ok zv w:=by simp_all[zeroValue,typeInfo]
   split
   .rename_i id hid;rw[hid]at hx;obtain⟨b,hβ,hv⟩:=zP1 hx;split
    .rename_i kvs bs clk hσ;obtain⟨b',es,e1,hh,hl,aa,aj⟩:=h.mem.objs _ _ _ hσ hβ;cases e1;have aa:All2 (RdA w L σ β) kvs (es.toList.flatMap λe=>[e.key,e.val]):=aa;split
     .rename_i i0 v hf;rcases zq6 ad ae hk aa hf with⟨e1,_⟩|⟨j,v',e',e1,e2,_,_,e5,_⟩;.cases e1
      .cases e1;refine Yield.pure h (x:=if ok then .tuple #[e'.val,.bool true]else e'.val) ?_ (yj1 true e5 ok);have ab:=e2;simp[execOp,Instr.lookup,run_underlying hu,hv,MapKept.run_getObj_map hh,af,ab]
     .rename_i hf;rcases zq6 ad ae hk aa hf with⟨_,e2⟩|⟨j,v',e',e1,_⟩;.refine Yield.pure h (x:=if ok then .tuple #[zv,.bool false]else zv) ?_ (by simp_all[yj1]);have ab:=e2;simp[execOp,Instr.lookup,run_underlying hu,hv,MapKept.run_getObj_map hh,af,ab,ag]
      grind
     trivial
    trivial
   .rename_i hid;rw[hid]at hx;have hv:=zE8 hx;refine Yield.pure h (x:=if ok then .tuple #[zv,.bool false]else zv) ?_ (by simp_all[yj1]);have ab:(Instr.findKey kt (a.eval k) []).run P w=.ok none w:=by rcases zq6 (es:=[]) ad ae hk (show All2 (RdA w L σ β) [] _ from trivial) rfl with⟨_,e2⟩|⟨j,v',e',e1,_⟩;all_goals grind
    simp_all[execOp,Instr.lookup,run_underlying]
   trivial
  trivial
 trivial
def zw2(kvs:List V)(i:Nat)(k v:V):List V:=(kvs.set (2*i) k).set (2*i+1) v
theorem zu7(l:List MapEntry):∀(i:Nat),(l.flatMap λe=>[e.key,e.val])[2*i]?=(l[i]?).map (·.key)/\(l.flatMap λe=>[e.key,e.val])[2*i+1]?=(l[i]?).map (·.val):=by induction l with|nil=>simp|cons e l ih=>intro i;cases i with|zero=>simp|succ i=>grind
theorem yg2(l:List MapEntry):(l.flatMap λe=>[e.key,e.val]).length=2*l.length:=by induction l<;>grind
theorem xe5{es:Array MapEntry}{i:Nat}{k v:V}(h:All2 (RdA w L σ β) kvs (zy1 es))(hk:RdA w L σ β k x)(hv:RdA w L σ β v y)(hi:i<es.size):All2 (RdA w L σ β) (zw2 kvs i k v) (zy1 (es.modify i λe=>{e with key:=x,val:=y})):=by
 have hl:=h.length;unfold zy1 at h hl⊢;rw[yg2]at hl;simp only[Cu]at hl;refine All2.of ?_ λj p q hp hq=>?_;.grind[zw2,yg2]
 .unfold zw2 at hp;obtain⟨m,hm⟩:∃m,j=2*m∨j=2*m+1:=⟨j/2,om⟩;rcases hm with rfl|rfl
  .rw[(zu7 _ m).1]at hq;rw[Bu om]at hp;rw[Ap,Array.getElem?_modify]at hq;by_cases e1:i=m;.grind
   .rw[if_neg e1]at hq;rw[Bu om]at hp;obtain⟨y',aa,r⟩:=h.get _ _ hp;grind[zu7]
  .rw[(zu7 _ m).2]at hq;rw[Ap,Array.getElem?_modify]at hq;by_cases e1:i=m;.grind
   .rw[if_neg e1]at hq;rw[Bu om,Bu om]at hp;obtain⟨y',aa,r⟩:=h.get _ _ hp;rw[(zu7 _ m).2,Ap]at aa;grind
theorem yq1(es:Array MapEntry)(i:Nat)(x y:Value):(es.modify i λe=>{e with key:=x,val:=y}).toList.map (·.born)=es.toList.map (·.born):=by apply Bt;grind
def xO(m:Option (Kk×V))(σ:St)(x k v:V):R:=match m,x with |some (kd,_),.mp id=>if zn1 kd k=true/\wY v=true then(match σ[id]?with |some (.mp kvs bs clk)=>(match zj1 kd k kvs 0with |some (some (i,_))=>.st .u (σ.set id (.mp (zw2 kvs i k v) bs clk))|some none=>.st .u (σ.set id (.mp (kvs++[k,v]) (bs++[clk]) (clk+1)))|none=>.fail)|_=>.fail)else .fail|_,_=>.fail
theorem yg7{k:Kk}{v:V}(h:zn1 k v=true):wY v=true:=by cases k with
 |one k=>cases k<;>cases v<;>first|rfl|simp[zn1,zd4]at h
 |st ks=>cases v<;>first|rfl|simp[zn1]at h
theorem xf7{k v:Value}{et:TypeId}{kd:Kk}{bs:List Nat}{clk id:Nat}{kv vv:V}(hm:Mem c w L σ β)(hu:P.underlying t=some (.map kt et))(ai:kkT P kt=some kd)(hx:RdS w L σ β (.mp id) x)(af:zn1 kd kv=true)(hk:RdS w L σ β kv k)(hv:RdA w L σ β vv v)(hσ:σ[id]?=some (.mp kvs bs clk)){q:Option (Nat×V)}(hf:zj1 kd kv kvs 0=some q):∃w',(Instr.mapUpdate t x k v).run P w=.ok () w'/\Le w L w' L/\(match q with |some (i,_)=>Mem c w' L (σ.set id (.mp (zw2 kvs i kv vv) bs clk)) β/\Ext σ β (σ.set id (.mp (zw2 kvs i kv vv) bs clk)) β|none=>Mem c w' L (σ.set id (.mp (kvs++[kv,vv]) (bs++[clk]) (clk+1))) β/\Ext σ β (σ.set id (.mp (kvs++[kv,vv]) (bs++[clk]) (clk+1))) β):=by
 have aj:RdA w L σ β kv k:=yu6 hk (yg7 af);have ag:∀em,(Instr.checkKey em 10000 kt k).run P w=.ok () w:=(by grind[zB0]);obtain⟨b,hβ,rfl⟩:=zP1 hx;obtain⟨b',es,e1,hh,hl,aa,an⟩:=hm.objs _ _ _ hσ hβ;cases e1;have ah:b<w.heap.size:=(by grind);have ad:∀o,Ext σ β (σ.set id o) β:=(by simp_all[Ext.setOther]);have ae:∀ob:Go.Obj,(setObj b ob).run P w=.ok () (zX w b ob):=λob=>by rw[MapKept.run_setObj_map ob hh];rfl
 rcases zq6 ai af hk aa hf with⟨rfl,e2⟩|⟨j,v',e',rfl,e2,e3,_,_,kk,e6,e7⟩
 .have ab:=e2;refine⟨zX w b (.map (es.push {key:=k,val:=v,born:=clk}) (clk+1)),?_,?_⟩;.simp[Instr.mapUpdate,run_underlying hu,MapKept.run_getObj_map hh,ag,ab,ae]
  .have key:=hm.setOb (o:=.mp (kvs++[kv,vv]) (bs++[clk]) (clk+1)) hσ hβ rfl hl (.map (es.push {key:=k,val:=v,born:=clk}) (clk+1)) (ad _) (by grind[excl]) λhle=>by
    refine⟨b,_,rfl,xC _ _ _ ah,hl,?_,by grind⟩;have:All2 (RdA w L σ β) (kvs++[kv,vv]) (zy1 (es.push {key:=k,val:=v,born:=clk})):=by simp only[zy1,Array.toList_push,Ej];exact All2.append aa (by trivial)
    exact this.imp (by grind[RdA.mono])
   grind
 .have ab:=e2;have hj:es[j]?=some e':=by grind
  have ak:j<es.size:=(by grind);have al:e'.key=k:=by obtain⟨y,hy,r⟩:=aa.get _ _ e6;unfold zy1 at hy;rw[(zu7 _ j).1,e3]at hy;simp at hy;subst hy;exact(yq8 hk (RdS.of_a r) e7).symm
  refine⟨zX w b (.map (es.modify j λe=>{e with key:=k,val:=v}) clk),?_,?_⟩;.simp[Instr.mapUpdate,run_underlying hu,MapKept.run_getObj_map hh,ag,ab,ae,hj,al,yt0 af hk]
  .have key:=hm.setOb (o:=.mp (zw2 kvs j kv vv) bs clk) hσ hβ rfl hl (.map (es.modify j λe=>{e with key:=k,val:=v}) clk) (ad _) (by grind[excl]) λhle=>by refine⟨b,_,rfl,xC _ _ _ ah,hl,(xe5 aa aj hv ak).imp (by grind[RdA.mono]),by rw[yq1];omega⟩
   grind
theorem zN3{o:Oper}(t:TypeId)(x k v:Operand)(h:Sim c nt e σ a w L β)(ho:execOp a.eval o=(do Instr.mapUpdate t (a.eval x) (a.eval k) (a.eval v);pure .skip)):ROk (xO (mapT P t) σ (zD e x) (zD e k) (zD e v)) σ (Yield P c o a w L σ β):=by
 have hx:=h.eval x;have hk:=h.eval k;have hv:=h.eval v;unfold xO;split
 .rename_i kd z id hm hid;obtain⟨kt,et,i,zv,hu,ad,_⟩:=zB3 hm;rw[hid]at hx;split
  .rename_i hc;split
   .rename_i kvs bs clk hσ;split;.rename_i i0 v0 hf;obtain⟨w',ae,hle,ab,aa⟩:=xf7 h.mem hu ad hx hc.1 hk (yu6 hv hc.2) hσ hf;exact⟨undef,w',L,β,(by simp_all),ab,hle,aa,tV⟩
    .rename_i hf;obtain⟨w',ae,hle,ab,aa⟩:=xf7 h.mem hu ad hx hc.1 hk (yu6 hv hc.2) hσ hf;exact⟨undef,w',L,β,(by simp_all),ab,hle,aa,tV⟩
    trivial
   trivial
  trivial
 trivial
theorem yC4{pos:String}(t:TypeId)(x k v:Operand)(h:Sim c nt e σ a w L β):ROk (xO (mapT P t) σ (zD e x) (zD e k) (zD e v)) σ (Yield P c ⟨dst,.mapUpdate t x k v,ty,pos,aft,g⟩ a w L σ β):=zN3 t x k v h rfl
theorem xp8{pos:String}(t:TypeId)(x k v:Operand)(h:Sim c nt e σ a w L β):ROk (xO (mapT P t) σ (zD e x) (zD e k) (zD e v)) σ (Yield P c ⟨dst,.insert t x k v,ty,pos,aft,g⟩ a w L σ β):=zN3 t x k v h rfl
theorem zM8{α β:Type}(f:α->β):∀(l:List α)(i:Nat),(l.eraseIdx i).map f=(l.map f).eraseIdx i|[],_=>rfl|_::_,0=>rfl|x::l,i+1=>by simp[zM8 f l i]
def zQ7(kvs:List V)(i:Nat):List V:=kvs.take (2*i)++kvs.drop (2*i+2)
def zq2(m:Option (Kk×V))(σ:St)(x k:V):R:=match m,x with |some (kd,_),.mp id=>if zn1 kd k=true then(match σ[id]?with |some (.mp kvs bs clk)=>(match zj1 kd k kvs 0with |some (some (i,_))=>.st (.tup []) (σ.set id (.mp (zQ7 kvs i) (bs.eraseIdx i) clk))|some none=>.st (.tup []) (σ.set id (.mp kvs bs clk))|none=>.fail)|_=>.fail)else .fail|some (kd,_),.raw (.map none)=>if zn1 kd k=true then .ok (.tup [])else .fail|_,_=>.fail
theorem yU8(l:List MapEntry):∀(i:Nat),i<l.length->(l.eraseIdx i).flatMap (λe=>[e.key,e.val])=(l.flatMap λe=>[e.key,e.val]).take (2*i)++(l.flatMap λe=>[e.key,e.val]).drop (2*i+2):=by induction l with |nil=>simp|cons e l ih=>intro i h;cases i<;>grind
theorem xp7{pos:String}(t t':TypeId)(x k:Operand)(h:Sim c nt e σ a w L β):ROk (zq2 (mapT P t) σ (zD e x) (zD e k)) σ (Yield P c ⟨dst,.call ⟨.builtin .delete,#[x,k],#[t,t']⟩,ty,pos,aft,g⟩ a w L σ β):=by
 have hx:=h.eval x;have hk:=h.eval k;unfold zq2;split
 .rename_i kd z id hm hid;obtain⟨kt,et,i,zv,hu,ag,_⟩:=zB3 hm;rw[hid]at hx;split
  .rename_i ah;have ai:∀em,(Instr.checkKey em 10000 kt (a.eval k)).run P w=.ok () w:=(by grind[zB0]);obtain⟨b,hβ,hv⟩:=zP1 hx;split
   .rename_i kvs bs clk hσ;obtain⟨b',es,e1,hh,hl,aa,ak⟩:=h.mem.objs _ _ _ hσ hβ;cases e1;have aj:b<w.heap.size:=(by grind);have ab:∀o,Ext σ β (σ.set id o) β:=(by simp_all[Ext.setOther]);have af:∀ob:Go.Obj,(setObj b ob).run P w=.ok () (zX w b ob):=λob=>by rw[MapKept.run_setObj_map ob hh];rfl
    split
    .rename_i i0 v0 hf;rcases zq6 ag ah hk aa hf with⟨e1,_⟩|⟨j,v',e',e1,e2,e3,_,_,kk,e6,e7⟩;.cases e1
     .cases e1;have ad:=e2;have al:i0<es.toList.length:=(by grind);have an:i0<es.size:=om;have ae:(es.eraseIdxIfInBounds i0).toList=es.toList.eraseIdx i0:=by simp
      have key:=h.mem.setOb (o:=.mp (zQ7 kvs i0) (bs.eraseIdx i0) clk) hσ hβ rfl hl (.map (es.eraseIdxIfInBounds i0) clk) (ab _) (by grind[excl]) λhle=>by
       refine⟨b,_,rfl,xC _ _ _ aj,hl,?_,by grind[zM8]⟩;have:All2 (RdA w L σ β) (zQ7 kvs i0) (zy1 (es.eraseIdxIfInBounds i0)):=by unfold zy1 zQ7;rw[ae,yU8 _ _ al];exact(All2.take _ aa).append (All2.drop _ aa)
       exact this.imp (by grind[RdA.mono])
      refine⟨.tuple #[],_,L,β,.inl ?_,key.1,key.2,ab _,[],rfl,tV⟩;simp[execOp,resolve,invoke,builtin,Builtin.delete_,run_underlying hu,hv,MapKept.run_getObj_map hh,ai,ad,af]
    .rename_i hf;rcases zq6 ag ah hk aa hf with⟨_,e2⟩|⟨j,v',e',e1,_⟩
     .have ad:=e2;have key:=h.mem.setOb (o:=.mp kvs bs clk) hσ hβ rfl hl (.map es clk) (ab _) (by grind[excl]) λhle=>by exact⟨b,_,rfl,xC _ _ _ aj,hl,aa.imp (by grind[RdA.mono]),ak⟩
      refine⟨.tuple #[],_,L,β,.inl ?_,key.1,key.2,ab _,[],rfl,tV⟩;simp[execOp,resolve,invoke,builtin,Builtin.delete_,run_underlying hu,hv,MapKept.run_getObj_map hh,ai,ad,af]
     grind
    trivial
   trivial
  trivial
 .rename_i kd z hm hid;obtain⟨kt,et,i,zv,hu,ag,_⟩:=zB3 hm;rw[hid]at hx;have hv:=zE8 hx;split;.rename_i ah;have ai:∀em,(Instr.checkKey em 10000 kt (a.eval k)).run P w=.ok () w:=(by grind[zB0]);refine Yield.pure h (x:=.tuple #[]) ?_ ⟨[],rfl,tV⟩;simp_all[execOp,resolve,invoke,builtin,Builtin.delete_,run_underlying]
  trivial
 trivial
theorem zp8{et:TypeId}(hb:P.underlying t=some (.map kt et))(m:Option Nat)(w:World):(Op.equal t (.map m) (.map none)).run P w=.ok m.isNone w:=by
 have key:∀d,(Op.equalIn (d+1) t (.map m) (.map none)).run P w=.ok m.isNone w:=λd=>by cases m<;>simp[Op.equalIn,run_underlying hb]
 exact key 9999
def zf0:Operand->Bool |.const (.map none)=>true|_=>false
def zq3(op:BinOp)(m:Bool)(x:V):R:=match m,x with |true,.mp _=>(match op with|.eql=>.ok (.bool false)|.neq=>.ok (.bool true)|_=>.fail)|true,.raw (.map none)=>(match op with|.eql=>.ok (.bool true)|.neq=>.ok (.bool false)|_=>.fail)|_,_=>.fail
theorem xq1{pos:String}(op:BinOp)(t t':TypeId)(x y:Operand)(hy:zf0 y=true)(h:Sim c nt e σ a w L β):ROk (zq3 op (zh4 P t) (zD e x)) σ (Yield P c ⟨dst,.binOp op t x y t',ty,pos,aft,g⟩ a w L σ β):=by
 have hx:=h.eval x;have aa:a.eval y=.map none:=by unfold zf0 at hy;split at hy;all_goals trivial
 unfold zq3;split
 .rename_i id hm hid;unfold zh4 at hm;split at hm
  .rename_i kt et hu;rw[hid]at hx;obtain⟨b,hβ,hv⟩:=zP1 hx;split;.refine Yield.pure h (x:=.bool false) ?_ (RdP.bool _);simp[execOp,eqGuard,binOp,zp8 hu,hv,aa]
   .refine Yield.pure h (x:=.bool true) ?_ (RdP.bool _);simp[execOp,eqGuard,binOp,zp8 hu,hv,aa]
   trivial
  grind
 .rename_i hm hid;unfold zh4 at hm;split at hm
  .rename_i kt et hu;rw[hid]at hx;have hv:=zE8 hx;split;.refine Yield.pure h (x:=.bool true) ?_ (RdP.bool _);simp[execOp,eqGuard,binOp,zp8 hu,hv,aa]
   .refine Yield.pure h (x:=.bool false) ?_ (RdP.bool _);simp[execOp,eqGuard,binOp,zp8 hu,hv,aa]
   trivial
  grind
 trivial
def zx7(m:Bool)(σ:St)(x:V):R:=match m,x with |true,.mp id=>(match σ[id]?with|some (.mp _ _ clk)=>.st (.ptr σ.length 0) (σ++[.it (some id) clk [] clk])|_=>.fail)|true,.raw (.map none)=>.st (.ptr σ.length 0) (σ++[.it none 0 [] 0])|_,_=>.fail
theorem xE0{pos:String}(t:TypeId)(x:Operand)(h:Sim c nt e σ a w L β):ROk (zx7 (zh4 P t) σ (zD e x)) σ (Yield P c ⟨dst,.range t x,ty,pos,aft,g⟩ a w L σ β):=by
 have hx:=h.eval x;have rd:∀(o:Ob)(w':World),RdS w' L (σ++[o]) (β++[.pointer (some ⟨w.heap.size,0,none⟩)]) (.ptr σ.length 0) (.pointer (some ⟨w.heap.size,0,none⟩)):=λo w'=>⟨w.heap.size,by rw[<-h.mem.len];simp,rfl⟩;unfold zx7;split
 .rename_i id hm hid;unfold zh4 at hm;split at hm
  .rename_i kt et hu;rw[hid]at hx;obtain⟨b,hβ,hv⟩:=zP1 hx;split;.rename_i kvs bs clk hσ;obtain⟨b',es,e1,hh,hl,ad,ae⟩:=h.mem.objs _ _ _ hσ hβ;cases e1;have key:=h.mem.newOb (.mapIter (some b) clk #[] clk) (.it (some id) clk [] clk) (λhle aa=>⟨w.heap.size,some b,rfl,yH _ _,h.mem.lim _ om,b,(by grind),rfl⟩) (by grind[excl]);refine⟨_,_,L,_,.inl ?_,key.1,key.2,Ext.push σ β h.mem.len _ _,rd _ _⟩;have ab:=run_range_map (P:=P) w t kt et b es clk hu hh;simp_all[execOp]
   trivial
  grind
 .rename_i hm hid;unfold zh4 at hm;split at hm;.rename_i kt et hu;rw[hid]at hx;have hv:=zE8 hx;have key:=h.mem.newOb (.mapIter none 0 #[] 0) (.it none 0 [] 0) (λhle aa=>⟨w.heap.size,none,rfl,yH _ _,h.mem.lim _ om,rfl⟩) (by grind[excl]);refine⟨_,_,L,_,.inl ?_,key.1,key.2,Ext.push σ β h.mem.len _ _,rd _ _⟩;have ab:=run_range_nilMap (P:=P) w t kt et hu;simp_all[execOp]
  grind
 trivial
def zI1(seen:List Nat):List V->List Nat->List (V×V×Nat) |k::v::kvs,b::bs=>if seen.contains b then zI1 seen kvs bs else(k,v,b)::zI1 seen kvs bs|_,_=>[]
def zh1(open_:Bool)(σ:St)(x:V):R:=match x with |.ptr i 0=>(match σ[i]?with |some (.it none _ _ _)=>.ok (.tup [.bool false])|some (.it (some id) since seen last)=>(match σ[id]?with |some (.mp kvs bs clk)=>if(bs.all λb=>decide (b<since))=true/\since<=last then(match zI1 seen kvs bs with |[]=>.ok (.tup [.bool false])|[(k,v,b)]=>.st (.tup [.bool true,k,v]) (σ.set i (.it (some id) since (seen++[b]) clk))|l=>if open_ then .any (l.map λp=>(.tup [.bool true,p.1,p.2.1],σ.set i (.it (some id) since (seen++[p.2.2]) clk)))else .fail)else .fail|_=>.fail)|_=>.fail)|_=>.fail
theorem xe7:∀(kvs:List V)(bs:List Nat)(es:List MapEntry)(seen:List Nat),All2 (RdA w L σ β) kvs (es.flatMap λe=>[e.key,e.val])->es.map (·.born)=bs->All2 (λp(e:MapEntry)=>RdA w L σ β p.1 e.key/\RdA w L σ β p.2.1 e.val/\e.born=p.2.2) (zI1 seen kvs bs) (es.filter λe=>!seen.contains e.born)
 |[],bs,[],seen,_,hb=>by simpa|[],_,e::es,_,ha,_=>by trivial|[_],_,[],_,ha,_=>by trivial|[_],_,e::es,_,ha,_=>by grind[All2]|_::_::_,_,[],_,ha,_=>by trivial|k::v::kvs,bs,e::es,seen,ha,hb=>by simp only[C1,Bz,Cs,All2]at ha;obtain⟨h1,h2,h3⟩:=ha;cases bs with |nil=>grind|cons b bs=>
   simp only[Aj,List.cons.injEq]at hb;obtain⟨rfl,hb⟩:=hb;have ih:=xe7 kvs bs es seen h3 hb;rw[zI1,Ck];by_cases hc:seen.contains e.born=true;.grind
   .rw[if_neg hc,if_pos (by simpa using hc)];trivial
theorem xN0{w1:World}(h:w1=w∨w1=w.drew)(hm:Mem c w L σ β):Mem c w1 L σ β/\Le w L w1 L:=by
 rcases h with rfl|rfl;.grind[Le.refl]
 .exact hm.drew
theorem xg9{pos:String}(open_:Bool)(x:Operand)(h:Sim c nt e σ a w L β):ROk (zh1 open_ σ (zD e x)) σ (Yield P c ⟨dst,.next x false,ty,pos,aft,g⟩ a w L σ β):=by
 have hx:=h.eval x;unfold zh1;split
 .rename_i i hid;rw[hid]at hx;obtain⟨r,hβ,hv⟩:=hx;split;.rename_i since seen last hσ;obtain⟨r',mo,e1,hh,hl,ai⟩:=h.mem.objs _ _ _ hσ hβ;cases e1;simp only at ai;subst ai;refine Yield.pure h (x:=.tuple #[.bool false]) ?_ ⟨[.bool false],rfl,RdA.of_cell (RdC.of_pure (.bool _)),tV⟩;simp[execOp,hv,Instr.next,getObj,Sem.run,hh]
  .rename_i id since seen last hσ;obtain⟨r',mo,e1,hh,hl,b,aj,rfl⟩:=h.mem.objs _ _ _ hσ hβ;cases e1;split
   .rename_i kvs bs clk an;obtain⟨b',es,e1,ao,az,ak,al⟩:=h.mem.objs _ _ _ an aj;cases e1;split
    .rename_i hc;have a1:r<w.heap.size:=(by grind);have aa:=xe7 kvs bs es.toList seen ak al;have aq:(leftOf es seen.toArray).toList=es.toList.filter λe=>!seen.contains e.born:=by simp[leftOf]
     rw[<-aq]at aa;have hold:∀x∈es.toList,x.born<since:=λx hx=>by have:=Af.1 hc.1 x.born (by rw[<-al];exact Ac.2 ⟨x,hx,rfl⟩);grind
     have ad:=run_next_at (P:=P) w ty r b since last seen.toArray es clk hh ao hold hc.2;have ae:∀o,Ext σ β (σ.set i o) β:=(by simp_all[Ext.setOther]);have step:∀(q:V×V×Nat)(en:MapEntry)(w1:World),(w1=w∨w1=w.drew)->RdA w L σ β q.1 en.key->RdA w L σ β q.2.1 en.val->en.born=q.2.2->(Instr.next (.pointer (some ⟨r,0,none⟩)) false ty).run P w=.ok (.tuple #[.bool true,en.key,en.val]) (ChangeMaps.setBlock w1 r (.mapIter (some b) since (seen.toArray.push en.born) clk))->Yield P c ⟨dst,.next x false,ty,pos,aft,g⟩ a w L σ β (.tup [.bool true,q.1,q.2.1]) (σ.set i (.it (some id) since (seen++[q.2.2]) clk)):=by
      intro q en w1 af h1 h2 h3 ab;obtain⟨ar,ag⟩:=xN0 af h.mem;have a6:w1.heap[r]?=some (.mapIter (some b) since seen.toArray last):=by rcases af with rfl|rfl<;>exact hh
      have aw:r<w1.heap.size:=(by grind);have key:=ar.setOb (o:=.it (some id) since (seen++[q.2.2]) clk) hσ hβ rfl hl (.mapIter (some b) since (seen.toArray.push en.born) clk) (ae _) (by grind[excl]) λhle=>by refine⟨r,some b,rfl,?_,hl,b,aj,rfl⟩;grind[xC]
      refine⟨.tuple #[.bool true,en.key,en.val],zX w1 r (.mapIter (some b) since (seen.toArray.push en.born) clk),L,β,.inl ?_,key.1,ag.trans key.2,ae _,?_⟩;.simp only[execOp,hv,Sem.run_bind,ab,Result.andThen_ok,Sem.run_pure];rfl
      .exact⟨[.bool true,en.key,en.val],rfl,RdA.of_cell (RdC.of_pure (.bool _)),h1.mono (ag.trans key.2) (ae _),h2.mono (ag.trans key.2) (ae _),tV⟩
     split
     .rename_i au;rw[au]at aa;have h0:(leftOf es seen.toArray).size=0:=by have:=aa.length;grind
      rcases ad with⟨_,ab⟩|⟨en,ah,_⟩;.refine Yield.pure h (x:=.tuple #[.bool false]) ?_ ⟨[.bool false],rfl,RdA.of_cell (RdC.of_pure (.bool _)),tV⟩;grind[execOp,Sem.run_bind,Result.andThen_ok,Sem.run_pure]
      grind
     .rename_i k v b0 av;rw[av]at aa;have h0:(leftOf es seen.toArray).size=1:=by have:=aa.length;grind
      rcases ad with⟨hz,_⟩|⟨en,ah,w1,af,ab⟩;.omega
      .obtain⟨q,hq,h1,h2,h3⟩:=All2.mem_r aa ah;simp at hq;subst hq;exact step _ en w1 af h1 h2 h3 ab
     .rename_i l ax ay;split;case isFalse=>trivial
      rcases ad with⟨hz,_⟩|⟨en,ah,w1,af,ab⟩;.have:=aa.length;grind
      .obtain⟨q,hq,h1,h2,h3⟩:=All2.mem_r aa ah;exact⟨_,Ac.2 ⟨q,hq,rfl⟩,(by grind)⟩
    trivial
   trivial
  trivial
 trivial
def xU(m:Option (Kk×V))(σ:St)(x k:V):R:=match m,x with |some (kd,z),.mp id=>if zn1 kd k=true then(match σ[id]?with |some (.mp kvs bs clk)=>(match zj1 kd k kvs 0with |some (some (i,v))=>(match bs[i]?with|some b=>.ok (.tup [v,.int .i64 (b:Int)])|none=>.fail)|some none=>.st (.tup [z,.int .i64 (clk:Int)]) (σ.set id (.mp (kvs++[k,z]) (bs++[clk]) (clk+1)))|none=>.fail)|_=>.fail)else .fail|_,_=>.fail
theorem yM9(es:Array MapEntry)(i:Nat)(f:MapEntry->MapEntry)(h:∀e,es[i]?=some e->f e=e):es.modify i f=es:=by grind
theorem yN8{pos:String}(t:TypeId)(x k:Operand)(h:Sim c nt e σ a w L β):ROk (xU (mapT P t) σ (zD e x) (zD e k)) σ (Yield P c ⟨dst,.mapEntry t x k,ty,pos,aft,g⟩ a w L σ β):=by
 have hx:=h.eval x;have hk:=h.eval k;unfold xU;split
 .rename_i kd z id hm hid;obtain⟨kt,et,i,zv,hu,ag,hi,hz,au,ah⟩:=zB3 hm;rw[hid]at hx;split
  .rename_i ad;have ai:∀em,(Instr.checkKey em 10000 kt (a.eval k)).run P w=.ok () w:=(by grind[zB0]);have al:(zeroValue et).run P w=.ok zv w:=by simp_all[zeroValue,typeInfo]
   obtain⟨b,hβ,hv⟩:=zP1 hx;split
   .rename_i kvs bs clk hσ;obtain⟨b',es,e1,hh,hl,aa,an⟩:=h.mem.objs _ _ _ hσ hβ;cases e1;have aj:b<w.heap.size:=(by grind);have ab:∀o,Ext σ β (σ.set id o) β:=(by simp_all[Ext.setOther]);have ae:∀ob:Go.Obj,(setObj b ob).run P w=.ok () (zX w b ob):=λob=>by rw[MapKept.run_setObj_map ob hh];rfl
    split
    .rename_i i0 v0 hf;split
     .rename_i b0 av;rcases zq6 ag ad hk aa hf with⟨e1,_⟩|⟨j,v',e',e1,e2,e3,_,e5,kk,e6,e7⟩;.cases e1
      .simp only[Option.some.injEq,Prod.mk.injEq]at e1;obtain⟨rfl,rfl⟩:=e1;have hj:es[i0]?=some e':=by grind
       have ak:e'.key=a.eval k:=by obtain⟨y,hy,r⟩:=aa.get _ _ e6;unfold zy1 at hy;rw[(zu7 _ i0).1,e3]at hy;simp at hy;subst hy;exact(yq8 hk (RdS.of_a r) e7).symm
       have ao:e'.born=b0:=by grind
       have af:(es.modify i0 λe=>{e with key:=a.eval k})=es:=yM9 es i0 _ λe he=>by rw[hj]at he;cases he;rw[<-ak]
       have aq:σ.set id (.mp kvs bs clk)=σ:=yK σ id _ hσ;have key:=h.mem.setOb (o:=.mp kvs bs clk) hσ hβ rfl hl (.map es clk) (ab _) (by grind[excl]) λhle=>by exact⟨b,_,rfl,xC _ _ _ aj,hl,aa.imp (by grind[RdA.mono]),an⟩
       rw[aq]at key;refine⟨.tuple #[e'.val,.int .i64 (b0:Int)],_,L,β,.inl ?_,key.1,key.2,Ext.refl _ _,[e'.val,.int .i64 (b0:Int)],rfl,e5.mono key.2 (by grind),RdA.of_cell (RdC.of_pure (.int _ _)),tV⟩;simp[execOp,Instr.mapEntry,run_underlying hu,hv,MapKept.run_getObj_map hh,ai,e2,ae,hj,ak,yt0 ad hk,af,ao,goInt]
     trivial
    .rename_i hf;rcases zq6 ag ad hk aa hf with⟨_,e2⟩|⟨j,v',e',e1,_⟩
     .have ar:RdA w L σ β (zD e k) (a.eval k):=yu6 hk (yg7 ad);have key:=h.mem.setOb (o:=.mp (kvs++[zD e k,z]) (bs++[clk]) (clk+1)) hσ hβ rfl hl (.map (es.push {key:=a.eval k,val:=zv,born:=clk}) (clk+1)) (ab _) (by grind[excl]) λhle=>by
       refine⟨b,_,rfl,xC _ _ _ aj,hl,?_,by grind⟩;have:All2 (RdA w L σ β) (kvs++[zD e k,z]) (zy1 (es.push {key:=a.eval k,val:=zv,born:=clk})):=by simp only[zy1,Array.toList_push,Ej];exact All2.append aa ⟨ar,ah _ _ _ _,tV⟩
       exact this.imp (by grind[RdA.mono])
      refine⟨.tuple #[zv,.int .i64 (clk:Int)],_,L,β,.inl ?_,key.1,key.2,ab _,[zv,.int .i64 (clk:Int)],rfl,ah _ _ _ _,RdA.of_cell (RdC.of_pure (.int _ _)),tV⟩;simp[execOp,Instr.mapEntry,run_underlying hu,hv,MapKept.run_getObj_map hh,ai,e2,ae,al,goInt]
     grind
    trivial
   trivial
  trivial
 trivial
def xL(σ:St)(x s v:V):R:=match x,s with |.mp id,.int _ n=>if wY v=true then(match σ[id]?with
  |some (.mp kvs bs clk)=>(match bs.findIdx? λ(b:Nat)=>(b:Int)==n with |some i=>.st .u (σ.set id (.mp (kvs.set (2*i+1) v) bs clk))|none=>.fail)|_=>.fail)else .fail|_,_=>.fail
theorem yp0{pos:String}(t:TypeId)(x s v:Operand)(h:Sim c nt e σ a w L β):ROk (xL σ (zD e x) (zD e s) (zD e v)) σ (Yield P c ⟨dst,.entryStore t x s v,ty,pos,aft,g⟩ a w L σ β):=by
 have hx:=h.eval x;have hs:=h.eval s;have hv:=h.eval v;unfold xL;split
 .rename_i id k n hid ah;rw[hid]at hx;rw[ah]at hs;have hs:=yM hs;split
  .rename_i hc;obtain⟨b,hβ,ai⟩:=zP1 hx;split
   .rename_i kvs bs clk hσ;obtain⟨b',es,e1,hh,hl,aa,aj⟩:=h.mem.objs _ _ _ hσ hβ;cases e1;have ak:b<w.heap.size:=(by grind);have ab:∀o,Ext σ β (σ.set id o) β:=(by simp_all[Ext.setOther]);have ad:∀ob:Go.Obj,(setObj b ob).run P w=.ok () (zX w b ob):=λob=>by rw[MapKept.run_setObj_map ob hh];rfl
    split
    .rename_i i hf;have ae:(es.findIdx? λe=>(e.born:Int)==n)=some i:=by
      rw[<-aj,List.findIdx?_map]at hf;have hq:es.findIdx? (λe=>(e.born:Int)==n)=es.toList.findIdx? λe=>(e.born:Int)==n:=by obtain⟨l⟩:=es;simp
      rw[hq];exact hf
     have hi:i<es.size:=by obtain⟨h1,_⟩:=Array.findIdx?_eq_some_iff_getElem.1 ae;exact h1
     have al:RdA w L σ β (zD e v) (a.eval v):=yu6 hv hc;have hlen:=aa.length;unfold zy1 at hlen;rw[yg2]at hlen;simp only[Cu]at hlen;have an:2*i<kvs.length:=om;have af:RdA w L σ β kvs[2*i] es[i].key:=by obtain⟨y,hy,r⟩:=aa.get (2*i) _ (A0 an);grind[zy1,zu7]
     have ao:zw2 kvs i kvs[2*i] (zD e v)=kvs.set (2*i+1) (zD e v):=by grind[zw2,List.set_getElem_self]
     have ag:(es.modify i λe=>{e with val:=a.eval v})=es.modify i λe=>{e with key:=es[i].key,val:=a.eval v}:=by rfl
     have key:=h.mem.setOb (o:=.mp (zw2 kvs i kvs[2*i] (zD e v)) bs clk) hσ hβ rfl hl (.map (es.modify i λe=>{e with key:=es[i].key,val:=a.eval v}) clk) (ab _) (by grind[excl]) λhle=>by refine⟨b,_,rfl,xC _ _ _ ak,hl,(xe5 aa af al hi).imp (by grind[RdA.mono]),by rw[yq1];omega⟩
     rw[ao,<-ag]at key;refine⟨undef,_,L,β,.inr ⟨?_,rfl⟩,key.1,key.2,ab _,tV⟩;simp[execOp,Instr.entryStore,ai,hs,MapKept.run_getObj_map hh,asInt,asIntOf,ae,ad]
    trivial
   trivial
  trivial
 trivial
def yq7(b:Nat):List V->List Nat->Option (V×V) |k::v::kvs,b'::bs=>if b'=b then some (k,v)else yq7 b kvs bs|_,_=>none
def zi0(σ:St)(x:V):R:=match x with |.ptr i 0=>(match σ[i]?with |some (.it (some id) _ seen last)=>(match σ[id]?,seen.getLast? with |some (.mp kvs bs clk),some b=>if clk=last then(match yq7 b kvs bs with|some (k,v)=>.ok (.tup [k,v])|none=>.fail)else .fail|_,_=>.fail)|_=>.fail)|_=>.fail
theorem ent_ok(b:Nat):∀(kvs:List V)(bs:List Nat)(es:List MapEntry)(k v:V),All2 (RdA w L σ β) kvs (es.flatMap λe=>[e.key,e.val])->es.map (·.born)=bs->yq7 b kvs bs=some (k,v)->∃e,es.find? (·.born==b)=some e/\RdA w L σ β k e.key/\RdA w L σ β v e.val
 |[],_,_,_,_,_,_,h=>by trivial|[_],_,_,_,_,_,_,h=>by trivial|_::_::_,_,[],_,_,ha,_,_=>by simpa|k0::v0::kvs,bs,e::es,k,v,ha,hb,h=>by simp only[C1,Bz,Cs,All2]at ha;obtain⟨h1,h2,h3⟩:=ha;cases bs with |nil=>grind|cons b' bs=>
   simp only[Aj,List.cons.injEq]at hb;obtain⟨rfl,hb⟩:=hb;rw[yq7]at h;by_cases q:e.born=b;.grind
   .rw[if_neg q]at h;obtain⟨e',g1,g2,g3⟩:=ent_ok b kvs bs es k v h3 hb h;have qb:(e.born==b)=false:=by simpa using q
    exact⟨e',by rw[List.find?_cons,qb];exact g1,g2,g3⟩
theorem xD5{pos:String}(x:Operand)(h:Sim c nt e σ a w L β):ROk (zi0 σ (zD e x)) σ (Yield P c ⟨dst,.entry x,ty,pos,aft,g⟩ a w L σ β):=by
 have hx:=h.eval x;unfold zi0;split
 .rename_i i hid;rw[hid]at hx;obtain⟨r,hβ,hv⟩:=hx;split
  .rename_i id since seen last hσ;obtain⟨r',mo,e1,hh,hl,b,ab,rfl⟩:=h.mem.objs _ _ _ hσ hβ;cases e1;split
   .rename_i kvs bs clk b0 ad af;obtain⟨b',es,e1,ag,ah,aa,ae⟩:=h.mem.objs _ _ _ ad ab;cases e1;split
    .rename_i hc;subst hc;split
     .rename_i k v he;obtain⟨en,g1,g2,g3⟩:=ent_ok b0 kvs bs es.toList k v aa ae he;have ai:es.find? (·.born==b0)=some en:=by grind
      have aj:seen.toArray.back?=some b0:=by grind
      refine Yield.pure h (x:=.tuple #[en.key,en.val]) ?_ ⟨[en.key,en.val],rfl,g2,g3,tV⟩;simp_all[execOp,Instr.entry,getObj,Sem.run]
     trivial
    trivial
   trivial
  trivial
 trivial
def ys6(P:Program)(t:TypeId):Bool:=match P.underlying t with|some (.slice _)=>true|_=>false
def zY8(b:Bool)(t:TypeId)(x:V):R:=match b,x with |true,.lsv id s n lo m=>.ok (.ifc t [.lsv id s n lo m])|true,.sl g rows=>.ok (.ifc t [.sl g rows])|_,_=>.fail
theorem wc3{pos:String}(t:TypeId)(x:Operand)(h:Sim c nt e σ a w L β):ROk (zY8 (ys6 P t) t (zD e x)) σ (Yield P c ⟨dst,.makeInterface t x,ty,pos,aft,g⟩ a w L σ β):=by
 have hx:=h.eval x;have hu:ys6 P t=true->(Instr.makeInterface t (a.eval x)).run P w=.ok (.iface t (a.eval x)) w:=λhb=>by unfold ys6 at hb;split at hb;all_goals simp_all[Instr.makeInterface,run_underlying]
 unfold zY8;split;.rename_i id s n lo m hb hid;rw[hid]at hx;exact Yield.pure h (x:=.iface t (a.eval x)) (by simp_all[execOp]) ⟨a.eval x,rfl,hx,tV⟩
 .rename_i g rows hb hid;rw[hid]at hx;exact Yield.pure h (x:=.iface t (a.eval x)) (by simp_all[execOp]) ⟨a.eval x,rfl,hx,tV⟩
 trivial
end
def renK(ρ:Nat->Nat):V->V |.ptr id off=>.ptr (ρ id) off|.sl (.app id) rows=>.sl (.app (ρ id)) rows|.lsv id s n lo m=>.lsv (ρ id) s n lo m|.lsp id s n k j=>.lsp (ρ id) s n k j|.bsv id s off n=>.bsv (ρ id) s off n|.mp id=>.mp (ρ id)|v=>v
def renC(ρ:Nat->Nat):V->V |.fn f caps=>.fn f (caps.map (renK ρ))|.ifc t vs=>.ifc t (vs.map (renK ρ))|v=>renK ρ v
def renA(ρ:Nat->Nat):V->V |.agg cs=>.agg (cs.map (renC ρ))|v=>renC ρ v
def renS(ρ:Nat->Nat):V->V |.tup vs=>.tup (vs.map (renA ρ))|v=>renA ρ v
def yF(ρ:Nat->Nat):Ob->Ob |.box cells=>.box (cells.map (renC ρ))|.lst rows s=>.lst (rows.map λr=>r.map (renC ρ)) s|.mp kvs borns clk=>.mp (kvs.map (renA ρ)) borns clk|.it m since seen last=>.it (m.map ρ) since seen last|o=>o
theorem All2.map_l{α β γ:Type}{R:α->β->Prop}{S:γ->β->Prop}{f:α->γ}(h:∀a b,R a b->S (f a) b):∀{l:List α}{m:List β},All2 R l m->All2 S (l.map f) m |[],[],_=>trivial|_::_,_::_,q=>⟨h _ _ q.1,All2.map_l h q.2⟩|[],_::_,q=>q.elim|_::_,[],q=>q.elim
theorem All2.unmap_l{α β γ:Type}{R:α->β->Prop}{S:γ->β->Prop}{f:α->γ}(h:∀a b,S (f a) b->R a b):∀{l:List α}{m:List β},All2 S (l.map f) m->All2 R l m |[],[],_=>trivial|_::_,_::_,q=>⟨h _ _ q.1,All2.unmap_l h q.2⟩|[],_::_,q=>q.elim|_::_,[],q=>q.elim
structure Emb(ρ:Nat->Nat)(σ:St)(β:List Value)(σc:St)(βc:List Value):Prop where
 val:∀(id:Nat) x,β[id]?=some x->βc[ρ id]?=some x
 app:∀(id:Nat) n s,σ[id]?=some (.app n s)->σc[ρ id]?=some (.app n s)lst:∀(id:Nat) rows s,σ[id]?=some (.lst rows s)->∃rows',σc[ρ id]?=some (.lst rows' s)/\rows'.length=rows.length
 dead:∀(id:Nat),σ[id]?=some .dead->σc[ρ id]?=some .dead
structure Bak(ρ:Nat->Nat)(σ:St)(β:List Value)(σc:St)(βc:List Value):Prop where
 val:∀(id:Nat) x,βc[ρ id]?=some x->β[id]?=some x
 app:∀(id:Nat) n s,σc[ρ id]?=some (.app n s)->σ[id]?=some (.app n s)lst:∀(id:Nat) rows s,σc[ρ id]?=some (.lst rows s)->∃rows',σ[id]?=some (.lst rows' s)/\rows'.length=rows.length
 dead:∀(id:Nat),σc[ρ id]?=some .dead->σ[id]?=some .dead
section
variable{ρ:Nat->Nat}{w:World}{L:Nat->Nat}{σ σc:St}{β βc:List Value}
variable {x:Value}
theorem RdK.emb(h:Emb ρ σ β σc βc){v:V}(r:RdK w L σ β v x):RdK w L σc βc (renK ρ v) x:=by cases v with
 |ptr id off=>obtain⟨b,hb,hx⟩:=r;exact⟨b,h.val _ _ hb,hx⟩|sl g rows=>cases g with |app id=>obtain⟨hr,n,s,hσ,hle,hβ,hl⟩:=r;exact⟨hr,n,s,h.app _ _ _ hσ,hle,λq=>h.val _ _ (hβ q),hl⟩|ro=>exact r|full=>exact r
 |lsv id s n lo m=>
  obtain⟨a,cap,hx,hm,ha,hc⟩:=r;refine⟨a,cap,hx,hm,ha,?_⟩;rcases hc with hd|⟨rows,hσ,hn,hb⟩;.exact .inl (h.dead id hd)
  .obtain⟨r2,e2,l2⟩:=h.lst id rows s hσ;refine .inr ⟨r2,e2,om,λq=>?_⟩;obtain⟨b,c0,q1,q2⟩:=hb om;exact⟨b,c0,h.val _ _ q1,q2⟩|lsp id s n i j=>
  obtain⟨b,o,hx,hc⟩:=r;refine⟨b,o,hx,?_⟩;rcases hc with hd|⟨rows,hσ,hn,hb⟩;.exact .inl (h.dead id hd)
  .obtain⟨r2,e2,l2⟩:=h.lst id rows s hσ;refine .inr ⟨r2,e2,om,λq q'=>?_⟩;obtain⟨c0,q1,q2⟩:=hb om q';exact⟨c0,h.val _ _ q1,q2⟩|bsv id s off n=>obtain⟨b,hb,hx⟩:=r;exact⟨b,h.val _ _ hb,hx⟩|mp id=>obtain⟨b,hb,hx⟩:=r;exact⟨b,h.val _ _ hb,hx⟩|_=>exact r
theorem RdK.bak(h:Bak ρ σ β σc βc){v:V}(r:RdK w L σc βc (renK ρ v) x):RdK w L σ β v x:=by cases v with
 |ptr id off=>obtain⟨b,hb,hx⟩:=r;exact⟨b,h.val _ _ hb,hx⟩|sl g rows=>cases g with |app id=>obtain⟨hr,n,s,hσ,hle,hβ,hl⟩:=r;exact⟨hr,n,s,h.app _ _ _ hσ,hle,λq=>h.val _ _ (hβ q),hl⟩|ro=>exact r|full=>exact r
 |lsv id s n lo m=>
  obtain⟨a,cap,hx,hm,ha,hc⟩:=r;refine⟨a,cap,hx,hm,ha,?_⟩;rcases hc with hd|⟨rows,hσ,hn,hb⟩;.exact .inl (h.dead id hd)
  .obtain⟨r2,e2,l2⟩:=h.lst id rows s hσ;refine .inr ⟨r2,e2,om,λq=>?_⟩;obtain⟨b,c0,q1,q2⟩:=hb om;exact⟨b,c0,h.val _ _ q1,q2⟩|lsp id s n i j=>
  obtain⟨b,o,hx,hc⟩:=r;refine⟨b,o,hx,?_⟩;rcases hc with hd|⟨rows,hσ,hn,hb⟩;.exact .inl (h.dead id hd)
  .obtain⟨r2,e2,l2⟩:=h.lst id rows s hσ;refine .inr ⟨r2,e2,om,λq q'=>?_⟩;obtain⟨c0,q1,q2⟩:=hb om q';exact⟨c0,h.val _ _ q1,q2⟩|bsv id s off n=>obtain⟨b,hb,hx⟩:=r;exact⟨b,h.val _ _ hb,hx⟩|mp id=>obtain⟨b,hb,hx⟩:=r;exact⟨b,h.val _ _ hb,hx⟩|_=>exact r
theorem RdC.emb(h:Emb ρ σ β σc βc){v:V}(r:RdC w L σ β v x):RdC w L σc βc (renC ρ v) x:=by cases v with |fn f caps=>obtain⟨xs,hx,hc⟩:=r;exact⟨xs,hx,(by grind[All2.map_l,RdK.emb])⟩|ifc t v=>obtain⟨y,hx,hc⟩:=r;exact⟨y,hx,(by grind[All2.map_l,RdK.emb])⟩|sl g rows=>have r':RdK w L σ β (.sl g rows) x:=r;have:=r'.emb h;cases g<;>exact this|_=>simp only[RdC]at r;have q:=RdK.emb h r;exact q
theorem RdC.bak(h:Bak ρ σ β σc βc){v:V}(r:RdC w L σc βc (renC ρ v) x):RdC w L σ β v x:=by cases v with
 |fn f caps=>obtain⟨xs,hx,hc⟩:=r;exact⟨xs,hx,(by grind[All2.unmap_l,RdK.bak])⟩|ifc t v=>obtain⟨y,hx,hc⟩:=r;exact⟨y,hx,(by grind[All2.unmap_l,RdK.bak])⟩|sl g rows=>
  have r':RdK w L σc βc (renK ρ (.sl g rows)) x:=by cases g<;>exact r
  exact r'.bak h|_=>simp only[RdC];refine RdK.bak h ?_;exact r
theorem RdA.emb(h:Emb ρ σ β σc βc){v:V}(r:RdA w L σ β v x):RdA w L σc βc (renA ρ v) x:=by cases v with |agg cs=>obtain⟨xs,hx,hc⟩:=r;exact⟨xs,hx,(by grind[All2.map_l,RdC.emb])⟩|sl g rows=>have r':RdC w L σ β (.sl g rows) x:=r;have:=r'.emb h;cases g<;>exact this|_=>simp only[RdA]at r;have q:=RdC.emb h r;exact q
theorem RdA.bak(h:Bak ρ σ β σc βc){v:V}(r:RdA w L σc βc (renA ρ v) x):RdA w L σ β v x:=by cases v with
 |agg cs=>obtain⟨xs,hx,hc⟩:=r;exact⟨xs,hx,(by grind[All2.unmap_l,RdC.bak])⟩|sl g rows=>
  have r':RdC w L σc βc (renC ρ (.sl g rows)) x:=by cases g<;>exact r
  exact r'.bak h|_=>simp only[RdA];refine RdC.bak h ?_;exact r
theorem RdS.emb(h:Emb ρ σ β σc βc){v:V}(r:RdS w L σ β v x):RdS w L σc βc (renS ρ v) x:=by cases v with |u=>trivial|tup vs=>obtain⟨xs,hx,hc⟩:=r;exact⟨xs,hx,(by grind[All2.map_l,RdA.emb])⟩|sl g rows=>have r':RdA w L σ β (.sl g rows) x:=r;have:=r'.emb h;cases g<;>exact this|_=>simp only[RdS]at r;have q:=RdA.emb h r;exact q
theorem RdS.bak(h:Bak ρ σ β σc βc){v:V}(r:RdS w L σc βc (renS ρ v) x):RdS w L σ β v x:=by cases v with
 |u=>trivial|tup vs=>obtain⟨xs,hx,hc⟩:=r;exact⟨xs,hx,(by grind[All2.unmap_l,RdA.bak])⟩|sl g rows=>
  have r':RdA w L σc βc (renA ρ (.sl g rows)) x:=by cases g<;>exact r
  exact r'.bak h|_=>simp only[RdS];refine RdA.bak h ?_;exact r
theorem ObOk.emb(h:Emb ρ σ β σc βc){o:Ob}(r:ObOk w L σ β o x):ObOk w L σc βc (yF ρ o) x:=by cases o with
 |box cells=>obtain⟨b,arr,T,fz,hx,hh,hf,hl,hc⟩:=r;exact⟨b,arr,T,fz,hx,hh,hf,hl,(by grind[All2.map_l,RdC.emb])⟩|lst rows s=>
  obtain⟨a,cap,hx,hcap,hs,hu,hok⟩:=r;refine⟨a,cap,by grind,by grind,hs,λr hr=>?_,λh0=>?_⟩;.grind
  grind[All2.map_l,RdC.emb]|app n s=>exact r|dead=>trivial|mp kvs borns clk=>obtain⟨b,es,hx,hh,hl,hc,hb⟩:=r;exact⟨b,es,hx,hh,hl,(by grind[All2.map_l,RdA.emb]),hb⟩|it m since seen last=>obtain⟨b,mo,hx,hh,hl,hc⟩:=r;refine⟨b,mo,hx,hh,hl,?_⟩;cases m with|none=>exact hc|some id=>obtain⟨q,hq,hm⟩:=hc;exact⟨q,h.val _ _ hq,hm⟩
theorem ObOk.bak(h:Bak ρ σ β σc βc){o:Ob}(r:ObOk w L σc βc (yF ρ o) x):ObOk w L σ β o x:=by cases o with
 |box cells=>obtain⟨b,arr,T,fz,hx,hh,hf,hl,hc⟩:=r;exact⟨b,arr,T,fz,hx,hh,hf,hl,(by grind[All2.unmap_l,RdC.bak])⟩|lst rows s=>
  obtain⟨a,cap,hx,hcap,hs,hu,hok⟩:=r;refine⟨a,cap,by grind,by grind,hs,λr hr=>?_,λh0=>?_⟩;.simp_all
  grind[All2.unmap_l,RdC.bak]|app n s=>exact r|dead=>trivial|mp kvs borns clk=>obtain⟨b,es,hx,hh,hl,hc,hb⟩:=r;exact⟨b,es,hx,hh,hl,(by grind[All2.unmap_l,RdA.bak]),hb⟩|it m since seen last=>obtain⟨b,mo,hx,hh,hl,hc⟩:=r;refine⟨b,mo,hx,hh,hl,?_⟩;cases m with|none=>exact hc|some id=>obtain⟨q,hq,hm⟩:=hc;exact⟨q,h.val _ _ hq,hm⟩
theorem zh2(o:Ob)(x:Value):excl (yF ρ o) x=excl o x:=by cases o with
 |lst rows s=>cases x with |slice a n cap=>cases a<;>rfl|_=>rfl
 |_=>cases x<;>first|rfl|(rename_i q;cases q<;>rfl)
end
variable {σ:St}{P:Program}
def zj3(σ:St)(β:List Value):List Nat:=(σ.zip β).filterMap λp=>excl p.1 p.2
theorem mem_blocksOf{β:List Value}{b:Nat}:b∈zj3 σ β↔∃(i:Nat)(o:Ob)(x:Value),σ[i]?=some o/\β[i]?=some x/\excl o x=some b:=by
 unfold zj3;rw[List.mem_filterMap];constructor;.rintro⟨⟨o,x⟩,hm,he⟩;obtain⟨i,hi⟩:=Aq.1 hm;grind[List.getElem?_zip_eq_some]
 .rintro⟨i,o,x,h1,h2,h3⟩;exact⟨(o,x),Aq.2 ⟨i,by grind⟩,h3⟩
def entry(w:World)(L:Nat->Nat)(σ:St)(β:List Value):Ctx:=⟨w,L,zj3 σ β,σ,β⟩
def ren(sel:List Nat)(N:Nat)(id:Nat):Nat:=if h:id<sel.length then sel[id]else N+(id-sel.length)
def VCalls(P:Program)(f:FuncId)(args:List V)(σ:St)(R:V->St->Prop):Prop:=∀(w:World)(L:Nat->Nat)(β:List Value)(vals:List Value),Mem (entry w L σ β) w L σ β->All2 (RdS w L σ β) args vals->Calls P f vals.toArray w λe w'=>∃v r L' σ' β',e=.returned v/\R r σ'/\σ.length<=σ'.length/\Mem (entry w L σ β) w' L' σ' β'/\RdS w' L' σ' β' r v
theorem VCalls.mono{f:FuncId}{args:List V}{R R':V->St->Prop}(h:VCalls P f args σ R)(hR:∀r σ',R r σ'->R' r σ'):VCalls P f args σ R':=λw L β aa hm ha=>(h w L β aa hm ha).mono (by grind)
def VC(P:Program)(c:Ctx)(fv:V)(args:List V)(σ:St)(K:V->St->Prop):Prop:=∃f caps,fv=.fn f caps/\(((∃fn,P.funcs[f]?=some fn/\(fn.name=="runtime.NumGoroutine")=false/\fn.body.isSome=true)/\∀w L β vals,Mem c w L σ β->All2 (RdS w L σ β) (args++caps) vals->Calls P f vals.toArray w λe w'=>∃v r L' σ' β',e=.returned v/\K r σ'/\Mem c w' L' σ' β'/\Le w L w' L'/\Ext σ β σ' β'/\RdS w' L' σ' β' r v)∨∀w L β vals,Mem c w L σ β->All2 (RdS w L σ β) (args++caps) vals->∃v r w' L' σ' β',(callFunc f vals.toArray).run P w=.ok (.value v) w'/\K r σ'/\Mem c w' L' σ' β'/\Le w L w' L'/\Ext σ β σ' β'/\RdS w' L' σ' β' r v)
theorem VC.mono{c:Ctx}{fv:V}{az:List V}{K K':V->St->Prop}(h:VC P c fv az σ K)(hk:∀v s,K v s->K' v s):VC P c fv az σ K':=by
 obtain⟨f,caps,h1,⟨h2,h3⟩|h3⟩:=h;.refine⟨f,caps,h1,.inl ⟨h2,λw L β aa hm ha=>(h3 w L β aa hm ha).mono ?_⟩⟩;grind
 .refine⟨f,caps,h1,.inr λw L β aa hm ha=>?_⟩;grind
def wB(P:Program)(f:FuncId):Bool:=match P.funcs[f]?with|some fn=>!(fn.name=="runtime.NumGoroutine")&&fn.body.isSome|none=>false
theorem zD1{f:FuncId}(h:wB P f=true):∃fn,P.funcs[f]?=some fn/\(fn.name=="runtime.NumGoroutine")=false/\fn.body.isSome=true:=by unfold wB at h;grind
def argC(ρ:Nat->Nat)(a' a:V):Prop:=a=renC ρ a'∨∃g rows,a'=.sl .ro rows/\a=.sl g rows
def argA(ρ:Nat->Nat)(a' a:V):Prop:=a=renA ρ a'∨(∃g rows,a'=.sl .ro rows/\a=.sl g rows)∨∃cs' cs,a'=.agg cs'/\a=.agg cs/\All2 (argC ρ) cs' cs
def argS(ρ:Nat->Nat)(a' a:V):Prop:=a=renS ρ a'∨a'=.u∨(∃g rows,a'=.sl .ro rows/\a=.sl g rows)∨(∃cs' cs,a'=.agg cs'/\a=.agg cs/\All2 (argC ρ) cs' cs)∨∃vs' vs,a'=.tup vs'/\a=.tup vs/\All2 (argA ρ) vs' vs
def mset{α:Type}:List Nat->List α->List α->List α |i::sel,l,x::xs=>mset sel (l.set i x) xs|_,l,_=>l
theorem wZ{α:Type}:∀(sel:List Nat)(l xs:List α),(mset sel l xs).length=l.length |[],_,_=>by rfl|i::sel,l,[]=>by rfl|i::sel,l,x::xs=>by simp[mset,wZ sel]
theorem zh6{α:Type}:∀(sel:List Nat)(l xs:List α)(j:Nat),j∉sel->(mset sel l xs)[j]?=l[j]?
 |[],_,_,_,_=>by rfl|i::sel,l,[],_,_=>by rfl|i::sel,l,x::xs,j,h=>by simp only[Ae,not_or]at h;rw[mset,zh6 sel _ xs j h.2,Bu (λq=>h.1 q.symm)]
theorem yc3{α:Type}:∀(sel:List Nat)(l xs:List α)(i j:Nat),sel.Nodup->(∀q∈sel,q<l.length)->sel.length<=xs.length->sel[i]?=some j->(mset sel l xs)[j]?=xs[i]?
 |[],_,_,_,_,_,_,_,h=>by grind|i0::sel,l,[],_,_,_,_,hl,_=>by grind|i0::sel,l,x::xs,0,j,hn,aa,hl,h=>by simp at h;subst h;rw[C9]at hn;rw[mset,zh6 sel _ xs i0 hn.1,Ba (aa i0 sm)];rfl|i0::sel,l,x::xs,i+1,j,hn,aa,hl,h=>by rw[C9]at hn;rw[mset,yc3 sel _ xs i j hn.2 (λq hq=>by simp;exact aa q (by simp[hq])) (by simpa using hl) (by simpa using h)];simp
def xD(sel:List Nat)(σc σ':St):St:=mset sel σc ((σ'.take sel.length).map (yF (ren sel σc.length)))++(σ'.drop sel.length).map (yF (ren sel σc.length))
def zv5(sel:List Nat)(βc β':List Value):List Value:=mset sel βc (β'.take sel.length)++β'.drop sel.length
section
variable {P:Program} {c:Ctx}
variable {sel:List Nat}{i:Nat}
theorem wM{N:Nat}(h:i<sel.length):ren sel N i=sel[i]:=by grind[ren]
theorem zp3{N:Nat}(h:¬i<sel.length):ren sel N i=N+(i-sel.length):=by grind[ren]
theorem zp0{σc σ':St}(hn:sel.Nodup)(aa:∀q∈sel,q<σc.length)(hl:sel.length<=σ'.length){o:Ob}(h:σ'[i]?=some o):(xD sel σc σ')[ren sel σc.length i]?=some (yF (ren sel σc.length) o):=by
 unfold xD;by_cases hi:i<sel.length;.rw[wM hi,Ah (by rw[wZ];exact aa _ (Aa hi)),yc3 sel _ _ i _ hn aa (by simp;omega) (A0 hi),B2,Ai,if_pos hi,h];rfl
 .rw[zp3 hi,Am (by rw[wZ];omega),wZ,B2,Bj,show sel.length+(σc.length+(i-sel.length)-σc.length)=i by omega,h];rfl
theorem yh6{βc β':List Value}(hn:sel.Nodup)(aa:∀q∈sel,q<βc.length)(hl:sel.length<=β'.length){x:Value}(h:β'[i]?=some x):(zv5 sel βc β')[ren sel βc.length i]?=some x:=by
 unfold zv5;by_cases hi:i<sel.length;.rw[wM hi,Ah (by rw[wZ];exact aa _ (Aa hi)),yc3 sel _ _ i _ hn aa (by simp;omega) (A0 hi),Ai,if_pos hi,h]
 grind[zp3,wZ]
theorem xp0{sel:List Nat}{σc σ':St}{βc β':List Value}(hn:sel.Nodup)(aa:∀q∈sel,q<σc.length)(ad:βc.length=σc.length)(ae:β'.length=σ'.length)(hl:sel.length<=σ'.length){j:Nat}{o:Ob}{x:Value}(h1:(xD sel σc σ')[j]?=some o)(h2:(zv5 sel βc β')[j]?=some x):(∃(i:Nat)(o':Ob),j=ren sel σc.length i/\σ'[i]?=some o'/\o=yF (ren sel σc.length) o'/\β'[i]?=some x)∨(j∉sel/\j<σc.length/\σc[j]?=some o/\βc[j]?=some x):=by
 have ab:∀q∈sel,q<βc.length:=by grind
 by_cases hj:j<σc.length
 .by_cases hm:j∈sel;.obtain⟨i,hi⟩:=Aq.1 hm;obtain⟨af,ag⟩:=A3.1 hi;have e1:=zp0 hn aa hl (A0 (show i<σ'.length by omega));grind[yh6,wM]
  grind[xD,zv5,wZ,zh6]
 grind[xD,zv5,wZ,zp3]
theorem zN9{α β γ:Type}{A:α->β->Prop}{B:β->γ->Prop}{C:α->γ->Prop}(h:∀a b c,A a b->B b c->C a c):∀{l:List α}{m:List β}{n:List γ},All2 A l m->All2 B m n->All2 C l n|[],[],[],_,_=>trivial|_::_,_::_,_::_,p,q=>⟨h _ _ _ p.1 q.1,zN9 h p.2 q.2⟩|[],_::_,_,p,_=>p.elim|_::_,[],_,p,_=>p.elim|[],[],_::_,_,q=>q.elim|_::_,_::_,[],_,q=>q.elim
section
variable{ρ:Nat->Nat}{w:World}{L:Nat->Nat}{σ σc:St}{β βc:List Value}
variable {a':V}{a:V}{x:Value}
theorem xL7(h:Bak ρ σ β σc βc)(ha:argC ρ a' a)(r:RdC w L σc βc a x):RdC w L σ β a' x:=by
 rcases ha with rfl|⟨g,rows,rfl,rfl⟩;.exact r.bak h
 .exact zw0 (by simpa)
theorem xb5(h:Bak ρ σ β σc βc)(ha:argA ρ a' a)(r:RdA w L σc βc a x):RdA w L σ β a' x:=by
 rcases ha with rfl|⟨g,rows,rfl,rfl⟩|⟨ab,cs,rfl,rfl,aa⟩;.exact r.bak h
 .exact zw0 (RdS.of_a r)
 .obtain⟨xs,hx,hr⟩:=r;exact⟨xs,hx,(by grind[zN9,xL7])⟩
theorem zx1(h:Bak ρ σ β σc βc)(ha:argS ρ a' a)(r:RdS w L σc βc a x):RdS w L σ β a' x:=by
 rcases ha with rfl|rfl|⟨g,rows,rfl,rfl⟩|⟨ab,cs,rfl,rfl,aa⟩|⟨vs',vs,rfl,rfl,aa⟩;.exact r.bak h
 .trivial
 .exact zw0 r
 .exact RdS.of_a (xb5 h (.inr (.inr ⟨ab,cs,rfl,rfl,aa⟩)) r)
 .obtain⟨xs,hx,hr⟩:=r;exact⟨xs,hx,(by grind[zN9,xb5])⟩
end
theorem VC.of{f:FuncId}{caps args args':List V}{σc σin:St}{R:V->St->Prop}{K:V->St->Prop}(hc:VCalls P f args' σin R)(hb:wB P f=true)(sel:List Nat)(al:sel.Nodup)(hlen:σin.length=sel.length)(a8:∀(i j:Nat)(o:Ob),sel[i]?=some j->σin[i]?=some o->σc[j]?=some (yF (ren sel σc.length) o))(ai:All2 (argS (ren sel σc.length)) args' (args++caps))(hk:∀r σ',R r σ'->sel.length<=σ'.length->K (renS (ren sel σc.length) r) (xD sel σc σ')):VC P c (.fn f caps) args σc K:=by
 refine⟨f,caps,rfl,.inl ⟨zD1 hb,λw L βc af hm hv=>?_⟩⟩;have ag:∀q∈sel,q<σc.length:=λq hq=>by obtain⟨i,hi⟩:=Aq.1 hq;have ak:=(A3.1 hi).1;have:=a8 i q _ hi (A0 (show i<σin.length by omega));grind
 let βin:=sel.map λq=>βc.getD q undef;have an:∀(i j:Nat),sel[i]?=some j->βin[i]?=βc[j]?:=λi j hi=>by simp only[βin,B2,hi,B8];have hj:=ag j (by grind);rw[A7,A0 (by rw[hm.len];exact hj)];rfl
 have aj:∀(id:Nat) O,σc[ren sel σc.length id]?=some O->∃o,σin[id]?=some o/\O=yF (ren sel σc.length) o:=(by grind[wM,zp3]);have ah:Bak (ren sel σc.length) σin βin σc βc:=by
  refine⟨λid x hx=>?_,λid n s hx=>?_,λid rows s hx=>?_,λid hx=>?_⟩
  .by_cases hi:id<sel.length;.grind[wM]
   .rw[zp3 hi]at hx;have:=(A3.1 hx).1;rw[hm.len]at this;omega
  .obtain⟨o,ho,he⟩:=aj id _ hx;cases o<;>grind[yF]
  .obtain⟨o,ho,he⟩:=aj id _ hx;cases o<;>grind[yF]
  .obtain⟨o,ho,he⟩:=aj id _ hx;cases o with|dead=>exact ho|_=>simp[yF]at he
 have ae:∀(i:Nat)(o:Ob)(x:Value),σin[i]?=some o->βin[i]?=some x->∃j,sel[i]?=some j/\σc[j]?=some (yF (ren sel σc.length) o)/\βc[j]?=some x:=by grind
 have aA:Mem (entry w L σin βin) w L σin βin:=by
  refine⟨by grind,λi o x ho hx=>?_,λi j o o' x x' b a7 ho hx av aw he=>?_,λi o x b ho hx he=>?_,λb _ _=>(by trivial),Le.refl _ _,A5 _,rfl,rfl,rfl,A5 _,hm.lim,Ext.refl _ _,hm.tab.mono hm.le⟩;.obtain⟨j,hj,h1,h2⟩:=ae i o x ho hx;exact(hm.objs j _ x h1 h2).bak ah
  .obtain⟨p,hp,h1,h2⟩:=ae i o x ho hx;obtain⟨q,hq,h3,h4⟩:=ae j o' x' av aw;have aB:p≠q:=(by grind[Er]);have:=hm.apart p q _ _ x x' b aB h1 h2 h3 h4 (by grind[zh2]);grind[zh2]
  .exact .inr (mem_blocksOf.2 (by grind))
 have aC:All2 (RdS w L σin βin) args' af:=by clear hk hc;generalize args++caps=az at hv ai;induction args' generalizing az af with
  |nil=>cases az with|nil=>cases af<;>simpa|cons _ _=>trivial
  |cons p args' ih=>cases az with|nil=>trivial|cons q az=>cases af with |nil=>simpa|cons y ys=>exact⟨zx1 ah ai.1 hv.1,ih _ _ hv.2 ai.2⟩
 refine(hc w L βin af aA aC).mono λe w' ⟨v,r,L',σ',β',he,hR,aH,aa,aD⟩=>?_;have ax:sel.length<=σ'.length:=om;have aE:∀q∈sel,q<βc.length:=by rw[hm.len];omega
 have ad:Emb (ren sel σc.length) σ' β' (xD sel σc σ') (zv5 sel βc β'):=by refine⟨λid x hx=>?_,λid n s hx=>zp0 al ag ax hx,λid rows s hx=>⟨_,zp0 al ag ax hx,sm⟩,λid hx=>zp0 al ag ax hx⟩;have:=yh6 al aE (by rw[aa.len];omega) hx;rw[hm.len]at this;omega
 have ao:∀(j:Nat)(o:Ob)(x:Value)(b:Nat),j∉sel->σc[j]?=some o->βc[j]?=some x->excl o x=some b->b∉zj3 σin βin:=by intro j o x b hj ho hx he hb;obtain⟨i,o',x',h1,h2,h3⟩:=mem_blocksOf.1 hb;obtain⟨p,hp,h4,h5⟩:=ae i o' x' h1 h2;have aF:j≠p:=(by grind);exact hm.apart j p o _ x x' b aF ho hx h4 h5 he (by grind[zh2])
 have ay:∀b,b∈zj3 σin βin->c.w0.heap.size<=b∨b∈c.X0:=by intro b hb;obtain⟨i,o',x',h1,h2,h3⟩:=mem_blocksOf.1 hb;obtain⟨p,hp,h4,h5⟩:=ae i o' x' h1 h2;exact hm.mine p _ x' b h4 h5 (by grind[zh2])
 have aq:Ext σc βc (xD sel σc σ') (zv5 sel βc β'):=by
  refine⟨λid a ha=>?_,λid n s ha=>?_,λid rows s ha=>?_,λid ha=>?_⟩
  .have ar:id<βc.length:=(by grind);by_cases hs:id∈sel;.obtain⟨i,hi⟩:=Aq.1 hs;have h1:=an i id hi;rw[ha]at h1;have h2:=aa.ext.ptr i a h1;have h3:=ad.val i _ h2;grind[wM]
   grind[zv5,wZ,zh6]
  .have ar:id<σc.length:=(by grind);by_cases hs:id∈sel
   .obtain⟨i,hi⟩:=Aq.1 hs;obtain⟨ak,au⟩:=A3.1 hi;have h1:=ah.app i n s (by grind[wM]);obtain⟨n',h2,h3,h4⟩:=aa.ext.app i n s h1;have h5:=ad.app i n' s h2;rw[wM ak,au]at h5;refine⟨n',h5,h3,λe=>?_⟩;have h6:=h4 e;rw[show(entry w L σin βin).β0=βin from rfl,an i id hi]at h6;have a1:i<β'.length:=by grind
    have h7:=ad.val i _ (A0 a1);grind[wM]
   .refine⟨n,?_,om,λ_=>?_⟩;.grind[xD,wZ,zh6]
    .unfold zv5;rw[Ah (by rw[wZ,hm.len];omega),zh6 _ _ _ _ hs]
  .have ar:id<σc.length:=(by grind);by_cases hs:id∈sel
   .obtain⟨i,hi⟩:=Aq.1 hs;obtain⟨ak,au⟩:=A3.1 hi;obtain⟨r0,h1,l1⟩:=ah.lst i rows s (by grind[wM]);rcases aa.ext.lst i r0 s h1 with h2|⟨r2,h2,h3,h4⟩;.have h5:=ad.dead i h2;grind[wM]
    .obtain⟨r3,h5,l5⟩:=ad.lst i r2 s h2;rw[wM ak,au]at h5;refine .inr ⟨r3,h5,om,λe=>?_⟩;have h6:=h4 om;rw[show(entry w L σin βin).β0=βin from rfl,an i id hi]at h6;have a1:i<β'.length:=by grind
     have h7:=ad.val i _ (A0 a1);rw[wM ak,au]at h7;grind
   .refine .inr ⟨rows,?_,om,λ_=>?_⟩;.grind[xD,wZ,zh6]
    .unfold zv5;rw[Ah (by rw[wZ,hm.len];omega),zh6 _ _ _ _ hs]
  .have ar:id<σc.length:=(by grind);by_cases hs:id∈sel;.obtain⟨i,hi⟩:=Aq.1 hs;obtain⟨ak,au⟩:=A3.1 hi;have h1:=ah.dead i (by grind[wM]);have h5:=ad.dead i (aa.ext.dead i h1);grind[wM]
   grind[xD,wZ,zh6]
 have hinv:=@xp0 sel σc σ' βc β' al ag hm.len aa.len ax;refine⟨v,renS (ren sel σc.length) r,L',_,_,he,(by grind),?_,aa.le,aq,aD.emb ad⟩;refine⟨?_,λj o x ho hx=>?_,λj j' o o' x x' b a7 ho hx av aw ab=>?_,λj o x b ho hx ab=>?_,λb ab hx=>?_,hm.le.trans aa.le,Ax hm.size aa.size,aa.os.trans hm.os,aa.tape.trans hm.tape,aa.output.trans hm.output,Ax hm.drawn aa.drawn,aa.lim,hm.ext.trans aq,hm.tab⟩;.simp[xD,zv5,wZ,hm.len,aa.len]
 .rcases hinv ho hx with⟨i,o',rfl,h1,rfl,h2⟩|⟨h0,a6,h1,h2⟩;.exact(aa.objs i o' x h1 h2).emb ad
  .refine(hm.objs j o x h1 h2).step aa.le aq λb ab=>aa.same b ?_ (ao j o x b h0 h1 h2 ab);exact(hm.objs j o x h1 h2).excl_lt ab
 .rcases hinv ho hx with⟨i,o1,rfl,h1,rfl,h2⟩|⟨h0,a6,h1,h2⟩
  .rw[zh2]at ab;rcases hinv av aw with⟨i',o2,rfl,h3,rfl,h4⟩|⟨h0,a6,h3,h4⟩;.rw[zh2];exact aa.apart i i' o1 o2 x x' b (by grind) h1 h2 h3 h4 ab
   .intro q;rcases aa.mine i o1 x b h1 h2 ab with h5|h5;.have:=(hm.objs j' o' x' h3 h4).excl_lt q;have h6:w.heap.size<=b:=h5;omega
    .exact ao j' o' x' b h0 h3 h4 q h5
  .rcases hinv av aw with⟨i',o2,rfl,h3,rfl,h4⟩|⟨aJ,aI,h3,h4⟩
   .rw[zh2];intro q;rcases aa.mine i' o2 x' b h3 h4 q with h5|h5;.have:=(hm.objs j o x h1 h2).excl_lt ab;have h6:w.heap.size<=b:=h5;omega
    .exact ao j o x b h0 h1 h2 ab h5
   .exact hm.apart j j' o o' x x' b a7 h1 h2 h3 h4 ab
 .rcases hinv ho hx with⟨i,o1,rfl,h1,rfl,h2⟩|⟨h0,a6,h1,h2⟩
  .rw[zh2]at ab;rcases aa.mine i o1 x b h1 h2 ab with h5|h5;.exact .inl (Ax hm.size h5)
   .exact ay b h5
  .exact hm.mine j o x b h1 h2 ab
 .have aG:b∉zj3 σin βin:=(by grind);obtain⟨e1,e2⟩:=aa.same b (E6 ab hm.size) aG;obtain⟨e3,e4⟩:=hm.same b ab hx;exact⟨e1.trans e3,e2.trans e4⟩
structure Picks(n0:Nat)(pick:List Nat)(σ σ':St):Prop where
 len:σ'.length=pick.length
 nodup:pick.Nodup
 ob:∀(i j:Nat)(o:Ob),pick[i]?=some j->σ'[i]?=some o->σ[j]?=some (yF (ren pick σ.length) o)id:∀i,i<n0->pick[i]?=some i
theorem Picks.back{n0:Nat}{pick:List Nat}{σ σ':St}(h:Picks n0 pick σ σ')(id:Nat)(O:Ob)(hx:σ[ren pick σ.length id]?=some O):∃o,σ'[id]?=some o/\O=yF (ren pick σ.length) o:=by
 by_cases hi:id<pick.length;.rw[wM hi]at hx;have hq:=A0 (show id<σ'.length by rw[h.len];exact hi);have:=h.ob id _ _ (A0 hi) hq;grind
 grind[zp3]
theorem Picks.bak{n0:Nat}{pick:List Nat}{σ σ':St}{β:List Value}(h:Picks n0 pick σ σ')(hl:β.length=σ.length):Bak (ren pick σ.length) σ' (pick.map λq=>β.getD q undef) σ β:=by
 refine⟨λid x hx=>?_,λid n s hx=>?_,λid rows s hx=>?_,λid hx=>?_⟩;.grind[wM,zp3]
 .obtain⟨o,ho,he⟩:=h.back id _ hx;cases o<;>grind[yF]
 .obtain⟨o,ho,he⟩:=h.back id _ hx;cases o<;>grind[yF]
 .obtain⟨o,ho,he⟩:=h.back id _ hx;cases o with|dead=>exact ho|_=>simp[yF]at he
theorem Mem.pick{w:World}{L:Nat->Nat}{σ σ':St}{β:List Value}{pick:List Nat}(h:Mem c w L σ β)(hp:Picks c.σ0.length pick σ σ')(hc:c.β0.length=c.σ0.length):Mem c w L σ' (pick.map λq=>β.getD q undef):=by
 have ab:=hp.bak h.len;have aa:∀(i:Nat)(o:Ob)(x:Value),σ'[i]?=some o->(pick.map λq=>β.getD q undef)[i]?=some x->∃j,pick[i]?=some j/\σ[j]?=some (yF (ren pick σ.length) o)/\β[j]?=some x:=by
  intro i o x ho hx;have hi:i<pick.length:=by grind
  have hs:=A0 hi;have h1:=hp.ob i _ o hs ho;refine⟨_,hs,h1,?_⟩;have al:pick[i]<β.length:=by rw[h.len];grind
  grind
 refine⟨by simp[hp.len],λi o x ho hx=>?_,λi j o o' x x' b ah ho hx ai aj he=>?_,λi o x b ho hx he=>?_,h.same,h.le,h.size,h.os,h.tape,h.output,h.drawn,h.lim,?_,h.tab⟩;.obtain⟨j,hj,h1,h2⟩:=aa i o x ho hx;exact(h.objs j _ x h1 h2).bak ab
 .obtain⟨p,ag,h1,h2⟩:=aa i o x ho hx;obtain⟨q,hq,h3,h4⟩:=aa j o' x' ai aj;have ak:p≠q:=λe=>by subst e;obtain⟨hi,e1⟩:=A3.1 ag;obtain⟨hj,e2⟩:=A3.1 hq;exact ah ((Er hp.nodup).1 om)
  have:=h.apart p q _ _ x x' b ak h1 h2 h3 h4 (by grind[zh2]);grind[zh2]
 .obtain⟨p,ag,h1,h2⟩:=aa i o x ho hx;exact h.mine p _ x b h1 h2 (by grind[zh2])
 .refine⟨λid a ha=>?_,λid n s ha=>?_,λid rows s ha=>?_,λid ha=>?_⟩
  .have hid:id<c.σ0.length:=by grind
   have h1:=h.ext.ptr id a ha;rw[B2,hp.id id hid];grind
  .have hid:id<c.σ0.length:=(by grind);obtain⟨n',h1,h2,h3⟩:=h.ext.app id n s ha;have ad:=hp.id id hid;obtain⟨ae,af⟩:=A3.1 ad;refine⟨n',ab.app id n' s (by grind[wM]),h2,λe=>?_⟩;grind
  .have hid:id<c.σ0.length:=(by grind);have ad:=hp.id id hid;obtain⟨ae,af⟩:=A3.1 ad;rcases h.ext.lst id rows s ha with h1|⟨r2,h1,h2,h3⟩;.exact .inl (ab.dead id (by grind[wM]))
   .obtain⟨r3,h5,l5⟩:=ab.lst id r2 s (by grind[wM]);grind
  .have hid:id<c.σ0.length:=(by grind);have ad:=hp.id id hid;obtain⟨ae,af⟩:=A3.1 ad;exact ab.dead id (by rw[wM ae,af];exact h.ext.dead id ha)
end
end Go.Vx
