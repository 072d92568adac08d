/-
  The code of a function at the level of trees: operations one behind the other, branches, blocks, loops, the call itself.
  No condition: a library text; nothing of the program is named.
-/
import Derived.Test.YtplackkccmeioaaGreatKBAB
import Derived.Maps.RangeRun
set_option maxHeartbeats 8000000
namespace Go.Vx
open Go
theorem Ext.gZ {I:St} {J:ahR} {i:Nat} {o0:Ob} (hi:I[i]? =some o0) (h1: ∀n s,o0≠ .app n s) (h2: ∀r s,o0≠ .cj r s) (h3:o0≠ .dead) (o:Ob):Ext I J (I.set i o) J:=by
 refine⟨sm,(by grind),(by grind),(by grind)⟩
 all_goals grind
section
variable {c:Ctx} {w:World} {L:Nat->Nat} {I:St} {J:ahR}
theorem Mem.rW (h:Mem c w L I J) (ob:Go.Obj) (o:Ob)
  (ho:Le w L (w.alloc ob) L->Ext I J (I++ [o]) (J++ [.pointer (some ⟨w.heap.size,0,none⟩)])->gK (w.alloc ob) L (I++ [o]) (J++ [.pointer (some ⟨w.heap.size,0,none⟩)]) o (.pointer (some ⟨w.heap.size,0,none⟩)))
  (hex: ∀b,cU o (.pointer (some ⟨w.heap.size,0,none⟩))=some b->b=w.heap.size):
  Mem c (w.alloc ob) L (I++ [o]) (J++ [.pointer (some ⟨w.heap.size,0,none⟩)])/\Le w L (w.alloc ob) L:=by
 have h1:=h.alloc ob 0
 rw[Ig h]at h1
 refine⟨h1.1.push _ _ (ho h1.2 (Ext.push I J h.len _ _)) ?_ ?_,h1.2⟩
 .intro i o' x' b hi hx hb e
  have h2:=(h.dd i o' x' hi hx).eK hb
  grind
 .intro b hb
  rw[hex b hb]
  exact .inl h.size
theorem Mem.jI (h:Mem c w L I J) {i b:Nat} {o0 o:Ob} (hi:I[i]? =some o0) (db:J[i]? =some (.pointer (some ⟨b,0,none⟩))) (aa:cU o0 (.pointer (some ⟨b,0,none⟩))=some b) (h0:L b=0)
  (ob:Go.Obj) (ae:Ext I J (I.set i o) J) (hex: ∀k,cU o (.pointer (some ⟨b,0,none⟩))=some k->k=b)
  (cN:Le w L (yB w b ob) L->gK (yB w b ob) L (I.set i o) J o (.pointer (some ⟨b,0,none⟩))):
  Mem c (yB w b ob) L (I.set i o) J/\Le w L (yB w b ob) L:=by
 have hle:Le w L (yB w b ob) L:=by
  refine⟨om,λk o ho=>AF (tR w b k _ λq=> ?_) o⟩
  grind
 refine⟨?_,hle⟩
 have af:=yM J i _ db
 have key:=h.fm (w':=yB w b ob) (L':=L) i o (.pointer (some ⟨b,0,none⟩)) hle (by grind) (λk=>k=b)
  (λj o' x' k hj ab ad hk e=>by subst e;exact h.apart j i o' _ x' _ k hj ab ad hi db hk aa)
  (λk e=>by subst e;exact h.fN i _ _ k hi db aa)
  (λk hk=>⟨tR w b k _ hk,rfl⟩) (by simp[yB]) rfl rfl rfl h.lim (by grind) om
 grind
end
theorem bP.mM {U J:Type} {R:U->J->Prop}: ∀{l:List U} {m:List J} {b:J},bP R l m->b∈m-> ∃a∈l,R a b
 |a::l,b'::m,b,h,hb=>by
  rcases Af.1 hb with rfl|hb
  .exact⟨a,sm,h.1⟩
  .obtain⟨a',ha,r⟩:=bP.mM h.2 hb
   grind
 | [],[],_,_,hb=>by grind
 | [],_::_,_,h,_=>h.elim
 |_::_,[],_,h,_=>h.elim
section
variable {P:Program} {c:Ctx} {nt:Nat} {e:Env} {I:St} {a:Act} {w:World} {L:Nat->Nat} {J:ahR} {o:Oper}
variable {x:Value}{dst:Option Tmp}{ty:TypeId}{dX:Array Edge}{g:Option (Nat×Bool)}{p:V}{kt:TypeId}{t:TypeId}{y:Value}{k:Pk}{dJ:List V}
theorem Ei {v:V} (r:dt w L I J v x) (h:mJ v):dW w L I J v x:=by
 cases v<;>first|exact r|simp[mJ]at h
def jw:TypeDesc->Option Pk
 | .bool=>some .b
 | .int k=>some (.i k)
 | .string=>some .s
 |_=>none
inductive Kk where
 |one (k:Pk)
 |st (ks:List Pk)
def Ej (P:Program):Nat->List Field->Option (List Pk)
 |_,[]=>some []
 |i,f::fs=>if f.name≠ "_" /\f.offset=i/\cO P f.type=some false then((P.underlying f.type).bind jw).bind λk=>(Ej P (i+1) fs).map (k:: ·)else none
def xm (P:Program) (kt:TypeId):Option Kk:=
 match P.underlying kt with
 |some (.struct fs)=>(Ej P 0 fs.toList).bind λks=>if uW P 10 kt=some ks then some (.st ks)else none
 |some d=>(jw d).map .one
 |none=>none
def It (P:Program) (t:TypeId):Option V:=
 match (P.info? t).bind (·.zero)with
 |some (.agg cs)=>if cs.all (·.oneCell')=true then some (.agg (cs.toList.map iY))else none
 |some v=>if v.oneCell'=true then some (iY v)else none
 |none=>none
def gv (P:Program) (t:TypeId):Option (Kk×V):=
 match P.underlying t with
 |some (.map kt et)=>(xm P kt).bind λk=>(It P et).map λz=>(k,z)
 |_=>none
theorem Xv {z:V} (h:It P t=some z): ∃i zv,P.info? t=some i/\i.zero=some zv/\mJ z=true/\ ∀(w:World) L I J,dW w L I J z zv:=by
 unfold It at h
 cases hi:P.info? t with
 |none=>grind
 |some i=>
  cases hz:i.zero with
  |none=>grind
  |some zv=>
   simp only[hi,hz,Ay]at h
   refine⟨i,zv,rfl,hz, ?_⟩
   split at h
   .rename_i cs aa
    cases aa
    split at h
    .rename_i ha
     simp only[ahk]at h
     subst h
     refine⟨rfl,λw L I J=>⟨cs.toList,sm,(Li λv hv=> ?_).imp λ_ _=>cW.dm⟩⟩
     exact Ci.1 ha v (by grind)
    grind
   .rename_i v ab hv
    cases hv
    split at h
    .rename_i h1
     simp only[ahk]at h
     subst h
     have hc:wy (iY zv):=(F2 (w:=default) (L:=λ_=>0) zv h1).2
     refine⟨?_,(by grind[dW.dH,cW.dm,F2])⟩
     revert hc
     generalize iY zv=q0
     cases q0<;>simp[wy,mJ]
    grind
   grind
theorem Ge {k:Kk} {z:V} (h:gv P t=some (k,z)): ∃kt et i zv,P.underlying t=some (.map kt et)/\xm P kt=some k/\P.info? et=some i/\i.zero=some zv/\mJ z=true/\ ∀(w:World) L I J,dW w L I J z zv:=by
 unfold gv at h
 split at h
 .rename_i kt et hu
  cases hk:xm P kt with
  |none=>grind
  |some k'=>
   cases hz:It P et with
   |none=>grind
   |some z'=>
    simp only[hk,hz,Ay,Bf,ahk,ahq]at h
    obtain⟨rfl,rfl⟩:=h
    grind[Xv]
 grind
def lz:Pk->V->Bool
 | .b,.bool _=>true
 | .i k,.int k' _=>decide (k'=k)
 | .s,.str _=>true
 |_,_=>false
def kX:List Pk->List V->Bool
 | [],[]=>true
 |k::ks,v::vs=>lz k v&&kX ks vs
 |_,_=>false
def mA:Kk->V->Bool
 | .one k,v=>lz k v
 | .st ks,.agg vs=>kX ks vs
 |_,_=>false
theorem xn {d:TypeDesc} {v:V} (hk:jw d=some k) (h:lz k v) (r:dt w L I J v x):MapKept.IsKey d x:=by
 cases k<;>cases v<;>simp[lz]at h
 .rw[pd r];cases d<;>simp[jw]at hk<;>trivial
 .rw[yO r];cases d<;>simp[jw]at hk;subst hk;exact h
 .rw[kU r];cases d<;>simp[jw]at hk<;>trivial
theorem Pw (em:Bool) (xs:ahR) (w:World): ∀(fs:List Field) (i:Nat) (ks:List Pk) (vs:List V),Ej P i fs=some ks->kX ks vs=true->bP (cW w L I J) vs (xs.drop i)->
  ∀f∈fs,f.name≠ "_" /\ ∃x,(part f.type xs.toArray f.offset).run P w= .ok x w/\(Instr.checkKey em 9999 f.type x).run P w= .ok () w
 | [],_,_,_,_,_,_,_,hf=>by cases hf
 |f::fs,i,ks,vs,h,Lp,ha,f',Lq=>by
  unfold Ej at h
  split at h
  .rename_i hc
   obtain⟨h1,h2,h3⟩:=hc
   cases hu:P.underlying f.type with
   |none=>grind
   |some d=>
    cases hk:jw d with
    |none=>grind
    |some k=>
     simp only[hu,hk,Ay,Aw]at h
     obtain⟨Xw,h4,rfl⟩:=h
     cases vs with
     |nil=>trivial
     |cons v vs=>
      simp only[kX,Ab]at Lp
      have hlen:=ha.length
      have Px:i<xs.length:=by grind
      rw[A5 Px]at ha
      rcases Af.1 Lq with rfl|Lq
      .have hp:(part f'.type xs.toArray f'.offset).run P w= .ok xs[i] w:=by
        simp_all[part,tS]
       exact⟨h1,_,hp,MapKept.run_checkKey (P:=P) (w:=w) hu (xn hk Lp.1 (dt.dH ha.1)) em 9998⟩
      .exact Pw em xs w fs (i+1) Xw vs h4 Lp.2 ha.2 f' Lq
  grind
theorem Gf {kk:Kk} (hk:xm P kt=some kk) (aa:mA kk p) (hx:dt w L I J p x) (em:Bool):(Instr.checkKey em 10000 kt x).run P w= .ok () w:=by
 unfold xm at hk
 split at hk
 .rename_i fs hu
  cases hf:Ej P 0 fs.toList with
  |none=>grind
  |some ks=>
   simp only[hf,Ay]at hk
   split at hk
   .simp only[ahk]at hk
    subst hk
    cases p<;>simp[mA]at aa
    obtain⟨xs,rfl,ha⟩:=hx
    have each:=Pw (P:=P) em xs w fs.toList 0 ks _ hf aa ha
    rw[show(10000:Nat)=9999+1 from rfl,Instr.checkKey]
    simp only[Sem.run_bind,run_underlying hu,Result.andThen_ok]
    rw[<-Array.forIn_toList]
    clear hf hu
    generalize fs.toList=M at each
    induction M with
    |nil=>simp
    |cons f M ih=>
     obtain⟨hn,x,p1,p2⟩:=each f sm
     simp_all
   grind
 .rename_i d ab hu
  cases hd:jw d with
  |none=>grind
  |some k=>
   simp only[hd,Bf,ahk]at hk
   subst hk
   exact MapKept.run_checkKey hu (xn hd aa hx) em 9999
 grind
def kq:Kk->V->V->Option Bool
 | .one k,x,y=>jv k x y
 | .st ks,.agg x,.agg y=>kV ks x y
 |_,_,_=>none
def nF (k:Kk) (x:V):List V->Nat->Option (Option (Nat×V))
 |kk::vv::rest,i=>(match kq k x kk with
  |some true=>some (some (i,vv))
  |some false=>nF k x rest (i+1)
  |none=>none)
 | [],_=>some none
 | [_],_=>none
theorem Py {d:TypeDesc} {v:V} {r:Bool} (hk:jw d=some k) (hx:dt w L I J p x) (hy:dt w L I J v y) (h:jv k p v=some r):Instr.sameNow d x y=some r:=by
 cases k
 .cases p<;>cases v<;>simp[jv]at h
  subst h
  rw[pd hx,pd hy]
  cases d<;>simp[jw]at hk
  rfl
 .cases p<;>cases v<;>simp[jv]at h
  obtain⟨⟨rfl,rfl⟩,rfl⟩:=h
  rw[yO hx,yO hy]
  cases d<;>simp[jw]at hk
  simp[Instr.sameNow]
 .cases p<;>cases v<;>simp[jv]at h
  subst h
  rename_i s1 s2
  rw[kU hx,kU hy]
  cases d<;>simp[jw]at hk
  simp only[Instr.sameNow,ahk]
  have e1:((⟨s1.toArray⟩:ByteArray)==⟨s2.toArray⟩)=(s1.toArray==s2.toArray):=rfl
  grind
theorem Lr {k:Kk} {p:V} (M:List MapEntry->Nat->Option (Nat×Value)->Prop) (h0: ∀i,M [] i none)
  (hT: ∀v (e:MapEntry) es i,dW w L I J v e.key->kq k p v=some true->M (e::es) i (some (i,e.val)))
  (hF: ∀v (e:MapEntry) es i r,dW w L I J v e.key->kq k p v=some false->M es (i+1) r->M (e::es) i r):
  ∀(dJ:List V) (es:List MapEntry) (i:Nat) (q:Option (Nat×V)),bP (dW w L I J) dJ (es.flatMap λe=> [e.key,e.val])->nF k p dJ i=some q->
  (q=none/\M es i none)\/ ∃(j:Nat) (v:V) (e:MapEntry),q=some (i+j,v)/\M es i (some (i+j,e.val))/\es[j]? =some e/\dJ[2*j+1]? =some v/\dW w L I J v e.val/\(∃kk,dJ[2*j]? =some kk/\kq k p kk=some true)
 | [],[],i,q,_,h=>by grind[nF]
 | [],e::es,_,_,ha,_=>by trivial
 | [_],[],_,_,ha,_=>by trivial
 | [_],e::es,_,_,_,h=>by trivial
 |_::_::_,[],_,_,ha,_=>by trivial
 |kk::vv::dJ,e::es,i,q,ha,h=>by
  simp only[By,Bm,Bu,bP]at ha
  obtain⟨h1,h2,h3⟩:=ha
  rw[nF]at h
  split at h
  .rename_i he
   simp only[ahk]at h
   exact .inr ⟨0,vv,e,h.symm,(by grind),rfl,rfl,h2,kk,rfl,he⟩
  .rename_i he
   rcases Lr M h0 hT hF dJ es (i+1) q h3 h with ⟨e1,e2⟩|⟨j,v,e',e1,e2,e3,e4,e5,aa,e6,e7⟩
   .grind
   .rw[show i+1+j=i+(j+1) by omega]at e1 e2
    refine .inr ⟨j+1,v,e',e1,(by grind),by grind, ?_,e5,aa, ?_,e7⟩
    all_goals grind
  grind
theorem Pz {fs:Array Field} {es:List MapEntry} {r:Option (Nat×Value)} (hu:P.underlying kt=some (.struct fs)) (h:(Instr.findAsking kt x es 0).run P w= .ok r w):(Instr.findKey kt x es).run P w= .ok r w:=by
 cases es<;>simp_all[Instr.findAsking,Instr.findKey,run_underlying,Instr.findNow,Instr.sameNow]
theorem xo {kk:Kk} (hk:xm P kt=some kk) (ab:mA kk p) (hx:dt w L I J p x) {es:List MapEntry} {q:Option (Nat×V)} (ha:bP (dW w L I J) dJ (es.flatMap λe=> [e.key,e.val])) (hf:nF kk p dJ 0=some q):
  (q=none/\(Instr.findKey kt x es).run P w= .ok none w)\/ ∃(j:Nat) (v:V) (e:MapEntry),q=some (j,v)/\(Instr.findKey kt x es).run P w= .ok (some (j,e.val)) w/\es[j]? =some e/\dJ[2*j+1]? =some v/\dW w L I J v e.val/\(∃k',dJ[2*j]? =some k'/\kq kk p k'=some true):=by
 unfold xm at hk
 split at hk
 .rename_i fs hu
  cases ad:Ej P 0 fs.toList with
  |none=>grind
  |some ks=>
   simp only[ad,Ay]at hk
   split at hk
   .rename_i ae
    simp only[ahk]at hk
    subst hk
    cases p<;>simp[mA]at ab
    rename_i vs
    obtain⟨xs,rfl,af⟩:=hx
    have ai: ∀(us:List V) (ys:ahR),bP (cW w L I J) us ys-> ∀z∈ys,z.oneCell'=true:=λus ys h z hz=>by
     obtain⟨i,hi,rfl⟩:=Cj.1 hz
     obtain⟨a,_,r⟩:=bP.mM h om
     exact r.dD
    have aa: ∀ys:ahT,og P kt (.agg ys):=λys=>by
     unfold og
     rw[ahg (by unfold cO;rw[hu];rfl)]
     simp
    have heq: ∀(v:V) (y:Value) (r:Bool),dW w L I J v y->kq (.st ks) (.agg vs) v=some r->(Op.equal kt (.agg xs.toArray) y).run P w= .ok r w:=by
     intro v y r hr he
     cases v<;>simp[kq]at he
     rename_i us
     obtain⟨ys,rfl,ah⟩:=hr
     have aj:=K9 ks vs us xs ys r af ah he
     exact Lb 10 kt ks ae 10000 om _ _ r (aa _) (aa _) (by grind[Value.cells]) (by grind[Value.cells]) (by simpa) w
    rcases Lr (w:=w) (L:=L) (I:=I) (J:=J) (k:= .st ks) (p:= .agg vs) (λes i r=>(Instr.findAsking kt (.agg xs.toArray) es i).run P w= .ok r w) (by simp[Instr.findAsking])
     (λv e es i h1 h2=>by simp[Instr.findAsking,heq v _ _ h1 h2]) (λv e es i r h1 h2 h3=>by simp[Instr.findAsking,heq v _ _ h1 h2,h3]) dJ es 0 q ha hf with ⟨e1,e2⟩|⟨j,v,e',e1,e2,e3⟩
    .grind[Pz]
    .rw[Ad]at e1 e2
     grind[Pz]
   grind
 .rename_i d ak hu
  cases hd:jw d with
  |none=>grind
  |some k=>
   simp only[hd,Bf,ahk]at hk
   subst hk
   rcases Lr (w:=w) (L:=L) (I:=I) (J:=J) (k:= .one k) (p:=p) (λes i r=>Instr.findNow d x es i=some r) (λi=>rfl)
    (λv e es i h1 h2=>by simp[Instr.findNow,Py hd hx (dt.kS h1) h2]) (λv e es i r h1 h2 h3=>by simp[Instr.findNow,Py hd hx (dt.kS h1) h2,h3]) dJ es 0 q ha hf with ⟨e1,e2⟩|⟨j,v,e',e1,e2,e3⟩
   .grind[MapKept.run_findKey]
   .rw[Ad]at e1 e2
    grind[MapKept.run_findKey]
 grind
theorem PA {v:V} (hx:dt w L I J p x) (hy:dt w L I J v y) (h:jv k p v=some true):x=y:=by
 cases k<;>cases p<;>cases v<;>simp[jv]at h
 .rw[pd hx,pd hy,h]
 .obtain⟨⟨rfl,rfl⟩,rfl⟩:=h
  rw[yO hx,yO hy]
 .rw[kU hx,kU hy,h]
theorem PB: ∀(ks:List Pk) (us vs:List V) (xs ys:ahR),bP (cW w L I J) us xs->bP (cW w L I J) vs ys->kV ks us vs=some true->xs=ys
 | [],[],[],[],[],_,_,_=>rfl
 |k::ks,u'::us,v::vs,x::xs,y::ys,h1,h2,h=>by
  unfold kV at h
  cases hk:jv k u' v with
  |none=>grind
  |some r0=>
   simp only[hk,Ay,Aw]at h
   obtain⟨r',h3,h4⟩:=h
   simp only[Ab]at h4
   obtain⟨rfl,rfl⟩:=h4
   rw[PA (dt.dH h1.1) (dt.dH h2.1) hk,PB ks us vs xs ys h1.2 h2.2 h3]
 | [],[],[],[],_::_,_,h2,_=>h2.elim
 | [],[],[],_::_,_,h1,_,_=>h1.elim
 | [],[],_::_,_,_,_,_,h=>by cases h
 | [],_::_,_,_,_,_,_,h=>by cases h
 |_::_,[],_,_,_,_,_,h=>by cases h
 |_::_,_::_,[],_,_,_,_,h=>by cases h
 |_::_,_::_,_::_,[],_,h1,_,_=>h1.elim
 |_::_,_::_,_::_,_::_,[],_,h2,_=>h2.elim
theorem PC {k:Kk} {v:V} (hx:dt w L I J p x) (hy:dt w L I J v y) (h:kq k p v=some true):x=y:=by
 cases k with
 |one k=>exact PA hx hy h
 |st ks=>
  cases p<;>cases v<;>simp[kq]at h
  obtain⟨xs,rfl,h1⟩:=hx
  obtain⟨ys,rfl,h2⟩:=hy
  grind[PB]
theorem Xx {ks:List Pk}: ∀{vs:List V} {xs:ahR},kX ks vs=true->bP (cW w L I J) vs xs-> ∀z∈xs,∃d,MapKept.IsKey d z:=by
 induction ks with
 |nil=>
  intro vs xs h ha
  cases vs with
  |nil=>cases xs with
   |nil=>simp
   |cons _ _=>trivial
  |cons _ _=>trivial
 |cons k ks ih=>
  intro vs xs h ha z hz
  cases vs with
  |nil=>trivial
  |cons v vs=>
   cases xs with
   |nil=>grind
   |cons x xs=>
    simp only[kX,Ab]at h
    rcases Af.1 hz with rfl|hz
    .have hr:=dt.dH (I:=I) (J:=J) ha.1
     cases k
     .exact⟨.bool,xn rfl h.1 hr⟩
     .exact⟨.int _,xn rfl h.1 hr⟩
     .exact⟨.string,xn rfl h.1 hr⟩
    .exact ih h.2 ha.2 z hz
theorem PD {kk:Kk} (aa:mA kk p) (hx:dt w L I J p x):(Instr.keyThatStays x x).run P w= .ok x w:=by
 cases kk with
 |one k=>
  cases k
  .exact MapKept.run_keyThatStays (xn (d:= .bool) rfl aa hx)
  .exact MapKept.run_keyThatStays (xn (d:= .int _) rfl aa hx)
  .exact MapKept.run_keyThatStays (xn (d:= .string) rfl aa hx)
 |st ks=>
  cases p<;>simp[mA]at aa
  obtain⟨xs,rfl,ha⟩:=hx
  have hs:Instr.sameBits 10000 (.agg xs.toArray) (.agg xs.toArray):=by
   show Instr.sameBits (9999+1) (.agg xs.toArray) (.agg xs.toArray)=true
   simp only[Instr.sameBits,beq_self_eq_true,B7,Am]
   rintro⟨a,b⟩ hp
   obtain⟨i,hi,e⟩:=Cj.1 hp
   simp only[List.getElem_zip,ahq]at e
   obtain⟨rfl,rfl⟩:=e
   grind[Xx,A8,MapKept.sameBits_self]
  simp_all[Instr.keyThatStays]
def xp (I:St) (m:Bool) (r:Option V):R:=
 match m,r with
 |_,none=> .st (.mp I.length) (I++ [.mp [] [] 0])
 |true,some (.int _ _)=> .st (.mp I.length) (I++ [.mp [] [] 0])
 |_,_=> .fail
def mN (P:Program) (t:TypeId):Bool:=match P.underlying t with|some (.map _ _)=>true|_=>false
theorem Xy (h:Mem c w L I J):Mem c (w.alloc (.map #[] 0)) L (I++ [.mp [] [] 0]) (J++ [.pointer (some ⟨w.heap.size,0,none⟩)])/\Le w L (w.alloc (.map #[] 0)) L:=
 h.rW _ _ (λhle _=>⟨w.heap.size, #[],rfl,yJ _ _,by have:=h.lim _ (A7 _);omega,by trivial,rfl⟩) (by grind[cU])
theorem Xz {pos:String} (t:TypeId) (r:Option Operand) (h:dP c nt e I a w L J):
  eZ (xp I (mN P t) (r.map (zG e))) I (bU P c ⟨dst,.makeMap t r,ty,pos,dX,g⟩ a w L I J):=by
 have aa:=Xy h.mem
 have ab:dt (w.alloc (.map #[] 0)) L (I++ [.mp [] [] 0]) (J++ [.pointer (some ⟨w.heap.size,0,none⟩)]) (.mp I.length) (.map (some w.heap.size)):=⟨w.heap.size,by rw[<-h.mem.len];simp,rfl⟩
 cases r with
 |none=>exact⟨_,_,L,_,(by simp[execOp,Instr.makeMap]),aa.1,aa.2,Ext.push I J h.mem.len _ _,ab⟩
 |some p=>
  have hp:=h.eval p
  simp only[Bf]
  unfold xp
  split
  .grind
  .rename_i k n hm hq
   simp only[ahk]at hq
   rw[hq]at hp
   have hp:=yO hp
   unfold mN at hm
   split at hm
   .rename_i kt et hu
    exact⟨_,_,L,_,(by simp_all[execOp,Instr.makeMap,run_underlying,asInt,asIntOf]),aa.1,aa.2,Ext.push I J h.mem.len _ _,ab⟩
   grind
  trivial
def xW (m:Option (Kk×V)) (I:St) (x k:V) (ok:Bool):R:=
 match m with
 |some (kd,z)=>if mA kd k=true then(match x with
  | .mp id=>(match I[id]? with
   |some (.mp dJ _ _)=>(match nF kd k dJ 0 with
    |some (some (_,v))=> .ok (if ok then .cy [v,.bool true]else v)
    |some none=> .ok (if ok then .cy [z,.bool false]else z)
    |none=> .fail)
   |_=> .fail)
  | .raw (.map none)=> .ok (if ok then .cy [z,.bool false]else z)
  |_=> .fail)else .fail
 |none=> .fail
theorem AP {id:Nat} (r:dt w L I J (.mp id) x): ∃b,J[id]? =some (.pointer (some ⟨b,0,none⟩))/\x= .map (some b):=r
theorem Iu (r:dt w L I J (.raw (.map none)) x):x= .map none:=by
 have r':cF w L (.raw (.map none)) x:=r
 cases r';rfl
theorem Ls {v:V} (b:Bool) (r:dW w L I J v x) (ok:Bool):dt w L I J (if ok then .cy [v,.bool b]else v) (if ok then .tuple #[x,.bool b]else x):=by
 cases ok
 .grind[dt.kS]
 .exact⟨[x,.bool b],rfl,r,dW.dH (cW.dm (.bool b)),tV⟩
theorem XA {pos:String} (t:TypeId) (x k:Operand) (ok:Bool) (h:dP c nt e I a w L J):
  eZ (xW (gv P t) I (zG e x) (zG e k) ok) I (bU P c ⟨dst,.lookup t x k ok,ty,pos,dX,g⟩ a w L I J):=by
 have hx:=h.eval x
 have hk:=h.eval k
 unfold xW
 split
 .rename_i kd z hm
  obtain⟨kt,et,i,zv,hu,ad,hi,hz,ai,aj⟩:=Ge hm
  split
  .rename_i ae
   have af: ∀em,(Instr.checkKey em 10000 kt (a.eval k)).run P w= .ok () w:=(by grind[Gf])
   have ah:(zeroValue et).run P w= .ok zv w:=by simp_all[zeroValue,typeInfo]
   split
   .rename_i id hid
    rw[hid]at hx
    obtain⟨b,db,hv⟩:=AP hx
    split
    .rename_i dJ bs cS cG
     obtain⟨b',es,e1,hh,hl,aa,ak⟩:=h.mem.dd _ _ _ cG db
     cases e1
     have aa:bP (dW w L I J) dJ (es.toList.flatMap λe=> [e.key,e.val]):=aa
     split
     .rename_i i0 v hf
      rcases xo ad ae hk aa hf with ⟨e1,_⟩|⟨j,v',e',e1,e2,_,_,e5,_⟩
      .cases e1
      .cases e1
       refine bU.pure h (x:=if ok then .tuple #[e'.val,.bool true]else e'.val) ?_ (Ls true e5 ok)
       have ab:=e2
       simp[execOp,Instr.lookup,run_underlying hu,hv,MapKept.run_getObj_map hh,af,ab]
     .rename_i hf
      rcases xo ad ae hk aa hf with ⟨_,e2⟩|⟨j,v',e',e1,_⟩
      .refine bU.pure h (x:=if ok then .tuple #[zv,.bool false]else zv) ?_ (by simp_all[Ls])
       have ab:=e2
       simp[execOp,Instr.lookup,run_underlying hu,hv,MapKept.run_getObj_map hh,af,ab,ah]
      grind
     trivial
    trivial
   .rename_i hid
    rw[hid]at hx
    have hv:=Iu hx
    refine bU.pure h (x:=if ok then .tuple #[zv,.bool false]else zv) ?_ (by simp_all[Ls])
    have ab:(Instr.findKey kt (a.eval k) []).run P w= .ok none w:=by
     rcases xo (es:= []) ad ae hk (show bP (dW w L I J) [] _ from trivial) rfl with ⟨_,e2⟩|⟨j,v',e',e1,_⟩
     all_goals grind
    simp_all[execOp,Instr.lookup,run_underlying]
   trivial
  trivial
 trivial
def pK (dJ:List V) (i:Nat) (k v:V):List V:=(dJ.set (2*i) k).set (2*i+1) v
theorem AQ (l:List MapEntry): ∀(i:Nat),(l.flatMap λe=> [e.key,e.val])[2*i]? =(l[i]?).map (·.key)/\(l.flatMap λe=> [e.key,e.val])[2*i+1]? =(l[i]?).map (·.val):=by
 induction l with
 |nil=>simp
 |cons e l ih=>
  intro i
  cases i with
  |zero=>simp
  |succ i=>
   grind
theorem Lt (l:List MapEntry):(l.flatMap λe=> [e.key,e.val]).length=2*l.length:=by
 induction l<;>grind
theorem PE {es:Array MapEntry} {i:Nat} {k v:V} (h:bP (dW w L I J) dJ (o9 es)) (hk:dW w L I J k x) (hv:dW w L I J v y) (hi:i<es.size):
  bP (dW w L I J) (pK dJ i k v) (o9 (es.modify i λe=>{e with key:=x,val:=y})):=by
 have hl:=h.length
 unfold o9 at h hl⊢
 rw[Lt]at hl
 simp only[Cq]at hl
 refine bP.of ?_ λj p q hp hq=> ?_
 .grind[pK,Lt]
 .unfold pK at hp
  obtain⟨m,hm⟩: ∃m,j=2*m\/j=2*m+1:=⟨j/2,om⟩
  rcases hm with rfl|rfl
  .rw[(AQ _ m).1]at hq
   rw[Da om]at hp
   rw[Ao,Array.getElem?_modify]at hq
   by_cases e1:i=m
   .grind
   .rw[ahf e1]at hq
    rw[Da om]at hp
    obtain⟨y',aa,r⟩:=h.get _ _ hp
    grind[AQ]
  .rw[(AQ _ m).2]at hq
   rw[Ao,Array.getElem?_modify]at hq
   by_cases e1:i=m
   .grind
   .rw[ahf e1]at hq
    rw[Da om,Da om]at hp
    obtain⟨y',aa,r⟩:=h.get _ _ hp
    rw[(AQ _ m).2,Ao]at aa
    grind
theorem PF (es:Array MapEntry) (i:Nat) (x y:Value):(es.modify i λe=>{e with key:=x,val:=y}).toList.map (·.born)=es.toList.map (·.born):=by
 apply Bg
 grind
def xT (m:Option (Kk×V)) (I:St) (x k v:V):R:=
 match m,x with
 |some (kd,_),.mp id=>if mA kd k=true/\mJ v=true then(match I[id]? with
  |some (.mp dJ bs cS)=>(match nF kd k dJ 0 with
   |some (some (i,_))=> .st .u (I.set id (.mp (pK dJ i k v) bs cS))
   |some none=> .st .u (I.set id (.mp (dJ++ [k,v]) (bs++ [cS]) (cS+1)))
   |none=> .fail)
  |_=> .fail)else .fail
 |_,_=> .fail
theorem PG {k:Kk} {v:V} (h:mA k v):mJ v=true:=by
 cases k with
 |one k=>cases k<;>cases v<;>first|rfl|simp[mA,lz]at h
 |st ks=>cases v<;>first|rfl|simp[mA]at h
theorem PH {k v:Value} {et:TypeId} {kd:Kk} {bs:ahQ} {cS id:Nat} {kv vv:V} (hm:Mem c w L I J) (hu:P.underlying t=some (.map kt et)) (aj:xm P kt=some kd)
  (hx:dt w L I J (.mp id) x) (af:mA kd kv) (hk:dt w L I J kv k) (hv:dW w L I J vv v) (cG:I[id]? =some (.mp dJ bs cS)) {q:Option (Nat×V)} (hf:nF kd kv dJ 0=some q):
  ∃w',(Instr.mapUpdate t x k v).run P w= .ok () w'/\Le w L w' L/\(match q with
   |some (i,_)=>Mem c w' L (I.set id (.mp (pK dJ i kv vv) bs cS)) J/\Ext I J (I.set id (.mp (pK dJ i kv vv) bs cS)) J
   |none=>Mem c w' L (I.set id (.mp (dJ++ [kv,vv]) (bs++ [cS]) (cS+1))) J/\Ext I J (I.set id (.mp (dJ++ [kv,vv]) (bs++ [cS]) (cS+1))) J):=by
 have ak:dW w L I J kv k:=Ei hk (PG af)
 have ah: ∀em,(Instr.checkKey em 10000 kt k).run P w= .ok () w:=(by grind[Gf])
 obtain⟨b,db,rfl⟩:=AP hx
 obtain⟨b',es,e1,hh,hl,aa,ao⟩:=hm.dd _ _ _ cG db
 cases e1
 have ai:b<w.heap.size:=(by grind)
 have ad: ∀o,Ext I J (I.set id o) J:=(by simp_all[Ext.gZ])
 have ae: ∀ob:Go.Obj,(setObj b ob).run P w= .ok () (yB w b ob):=λob=>by rw[MapKept.run_setObj_map ob hh];rfl
 rcases xo aj af hk aa hf with ⟨rfl,e2⟩|⟨j,v',e',rfl,e2,e3,_,_,kk,e6,e7⟩
 .have ab:=e2
  refine⟨yB w b (.map (es.push {key:=k,val:=v,born:=cS}) (cS+1)), ?_, ?_⟩
  .simp[Instr.mapUpdate,run_underlying hu,MapKept.run_getObj_map hh,ah,ab,ae]
  .have key:=hm.jI (o:= .mp (dJ++ [kv,vv]) (bs++ [cS]) (cS+1)) cG db rfl hl (.map (es.push {key:=k,val:=v,born:=cS}) (cS+1)) (ad _) (by grind[cU]) λhle=>by
    refine⟨b,_,rfl,xH _ _ _ ai,hl, ?_,by grind⟩
    have:bP (dW w L I J) (dJ++ [kv,vv]) (o9 (es.push {key:=k,val:=v,born:=cS})):=by
     simp only[o9,Array.toList_push,ahD]
     exact bP.append aa (by trivial)
    exact this.imp (by grind[dW.mono])
   grind
 .have ab:=e2
  have hj:es[j]? =some e':=by grind
  have al:j<es.size:=(by grind)
  have an:e'.key=k:=by
   obtain⟨y,hy,r⟩:=aa.get _ _ e6
   unfold o9 at hy
   rw[(AQ _ j).1,e3]at hy
   simp at hy
   subst hy
   exact(PC hk (dt.kS r) e7).symm
  refine⟨yB w b (.map (es.modify j λe=>{e with key:=k,val:=v}) cS), ?_, ?_⟩
  .simp[Instr.mapUpdate,run_underlying hu,MapKept.run_getObj_map hh,ah,ab,ae,hj,an,PD af hk]
  .have key:=hm.jI (o:= .mp (pK dJ j kv vv) bs cS) cG db rfl hl (.map (es.modify j λe=>{e with key:=k,val:=v}) cS) (ad _) (by grind[cU]) λhle=>by
    refine⟨b,_,rfl,xH _ _ _ ai,hl,(PE aa ak hv al).imp (by grind[dW.mono]),by rw[PF];omega⟩
   grind
theorem PL {o:Oper} (t:TypeId) (x k v:Operand) (h:dP c nt e I a w L J) (ho:execOp a.eval o=(do Instr.mapUpdate t (a.eval x) (a.eval k) (a.eval v);pure .skip)):
  eZ (xT (gv P t) I (zG e x) (zG e k) (zG e v)) I (bU P c o a w L I J):=by
 have hx:=h.eval x
 have hk:=h.eval k
 have hv:=h.eval v
 unfold xT
 split
 .rename_i kd z id hm hid
  obtain⟨kt,et,i,zv,hu,ad,_⟩:=Ge hm
  rw[hid]at hx
  split
  .rename_i hc
   split
   .rename_i dJ bs cS cG
    split
    .rename_i i0 v0 hf
     obtain⟨w',ae,hle,ab,aa⟩:=PH h.mem hu ad hx hc.1 hk (Ei hv hc.2) cG hf
     exact⟨undef,w',L,J,(by simp_all),ab,hle,aa,tV⟩
    .rename_i hf
     obtain⟨w',ae,hle,ab,aa⟩:=PH h.mem hu ad hx hc.1 hk (Ei hv hc.2) cG hf
     exact⟨undef,w',L,J,(by simp_all),ab,hle,aa,tV⟩
    trivial
   trivial
  trivial
 trivial
theorem XB {pos:String} (t:TypeId) (x k v:Operand) (h:dP c nt e I a w L J):
  eZ (xT (gv P t) I (zG e x) (zG e k) (zG e v)) I (bU P c ⟨dst,.mapUpdate t x k v,ty,pos,dX,g⟩ a w L I J):=PL t x k v h rfl
theorem XC {pos:String} (t:TypeId) (x k v:Operand) (h:dP c nt e I a w L J):
  eZ (xT (gv P t) I (zG e x) (zG e k) (zG e v)) I (bU P c ⟨dst,.insert t x k v,ty,pos,dX,g⟩ a w L I J):=PL t x k v h rfl
theorem PM {U J:Type} (f:U->J): ∀(l:List U) (i:Nat),(l.eraseIdx i).map f=(l.map f).eraseIdx i
 | [],_=>rfl
 |_::_,0=>rfl
 |x::l,i+1=>by simp[PM f l i]
def xq (dJ:List V) (i:Nat):List V:=dJ.take (2*i)++dJ.drop (2*i+2)
def xr (m:Option (Kk×V)) (I:St) (x k:V):R:=
 match m,x with
 |some (kd,_),.mp id=>if mA kd k=true then(match I[id]? with
  |some (.mp dJ bs cS)=>(match nF kd k dJ 0 with
   |some (some (i,_))=> .st (.cy []) (I.set id (.mp (xq dJ i) (bs.eraseIdx i) cS))
   |some none=> .st (.cy []) (I.set id (.mp dJ bs cS))
   |none=> .fail)
  |_=> .fail)else .fail
 |some (kd,_),.raw (.map none)=>if mA kd k=true then .ok (.cy [])else .fail
 |_,_=> .fail
theorem XD (l:List MapEntry): ∀(i:Nat),i<l.length->(l.eraseIdx i).flatMap (λe=> [e.key,e.val])=(l.flatMap λe=> [e.key,e.val]).take (2*i)++(l.flatMap λe=> [e.key,e.val]).drop (2*i+2):=by
 induction l with
 |nil=>simp
 |cons e l ih=>
  intro i h
  cases i<;>grind
theorem XE {pos:String} (t t':TypeId) (x k:Operand) (h:dP c nt e I a w L J):
  eZ (xr (gv P t) I (zG e x) (zG e k)) I (bU P c ⟨dst,.call ⟨.builtin .delete, #[x,k], #[t,t']⟩,ty,pos,dX,g⟩ a w L I J):=by
 have hx:=h.eval x
 have hk:=h.eval k
 unfold xr
 split
 .rename_i kd z id hm hid
  obtain⟨kt,et,i,zv,hu,ah,_⟩:=Ge hm
  rw[hid]at hx
  split
  .rename_i ai
   have aj: ∀em,(Instr.checkKey em 10000 kt (a.eval k)).run P w= .ok () w:=(by grind[Gf])
   obtain⟨b,db,hv⟩:=AP hx
   split
   .rename_i dJ bs cS cG
    obtain⟨b',es,e1,hh,hl,aa,al⟩:=h.mem.dd _ _ _ cG db
    cases e1
    have ak:b<w.heap.size:=(by grind)
    have ab: ∀o,Ext I J (I.set id o) J:=(by simp_all[Ext.gZ])
    have af: ∀ob:Go.Obj,(setObj b ob).run P w= .ok () (yB w b ob):=λob=>by rw[MapKept.run_setObj_map ob hh];rfl
    split
    .rename_i i0 v0 hf
     rcases xo ah ai hk aa hf with ⟨e1,_⟩|⟨j,v',e',e1,e2,e3,_,_,kk,e6,e7⟩
     .cases e1
     .cases e1
      have ad:=e2
      have an:i0<es.toList.length:=(by grind)
      have ao:i0<es.size:=om
      have ae:(es.eraseIdxIfInBounds i0).toList=es.toList.eraseIdx i0:=by
       simp
      have key:=h.mem.jI (o:= .mp (xq dJ i0) (bs.eraseIdx i0) cS) cG db rfl hl (.map (es.eraseIdxIfInBounds i0) cS) (ab _) (by grind[cU]) λhle=>by
       refine⟨b,_,rfl,xH _ _ _ ak,hl, ?_,by grind[PM]⟩
       have:bP (dW w L I J) (xq dJ i0) (o9 (es.eraseIdxIfInBounds i0)):=by
        unfold o9 xq
        rw[ae,XD _ _ an]
        exact(bP.take _ aa).append (bP.drop _ aa)
       exact this.imp (by grind[dW.mono])
      refine⟨.tuple #[],_,L,J,.inl ?_,key.1,key.2,ab _,[],rfl,tV⟩
      simp[execOp,resolve,invoke,builtin,Builtin.delete_,run_underlying hu,hv,MapKept.run_getObj_map hh,aj,ad,af]
    .rename_i hf
     rcases xo ah ai hk aa hf with ⟨_,e2⟩|⟨j,v',e',e1,_⟩
     .have ad:=e2
      have key:=h.mem.jI (o:= .mp dJ bs cS) cG db rfl hl (.map es cS) (ab _) (by grind[cU]) λhle=>by
       exact⟨b,_,rfl,xH _ _ _ ak,hl,aa.imp (by grind[dW.mono]),al⟩
      refine⟨.tuple #[],_,L,J,.inl ?_,key.1,key.2,ab _,[],rfl,tV⟩
      simp[execOp,resolve,invoke,builtin,Builtin.delete_,run_underlying hu,hv,MapKept.run_getObj_map hh,aj,ad,af]
     grind
    trivial
   trivial
  trivial
 .rename_i kd z hm hid
  obtain⟨kt,et,i,zv,hu,ah,_⟩:=Ge hm
  rw[hid]at hx
  have hv:=Iu hx
  split
  .rename_i ai
   have aj: ∀em,(Instr.checkKey em 10000 kt (a.eval k)).run P w= .ok () w:=(by grind[Gf])
   refine bU.pure h (x:= .tuple #[]) ?_ ⟨[],rfl,tV⟩
   simp_all[execOp,resolve,invoke,builtin,Builtin.delete_,run_underlying]
  trivial
 trivial
theorem Iv {et:TypeId} (hb:P.underlying t=some (.map kt et)) (m:ahV) (w:World):(Op.equal t (.map m) (.map none)).run P w= .ok m.isNone w:=by
 have key: ∀d,(Op.equalIn (d+1) t (.map m) (.map none)).run P w= .ok m.isNone w:=λd=>by
  cases m<;>simp[Op.equalIn,run_underlying hb]
 exact key 9999
def qY:Operand->Bool
 | .const (.map none)=>true
 |_=>false
def xt (op:BinOp) (m:Bool) (x:V):R:=
 match m,x with
 |true,.mp _=>(match op with| .eql=> .ok (.bool false)| .neq=> .ok (.bool true)|_=> .fail)
 |true,.raw (.map none)=>(match op with| .eql=> .ok (.bool true)| .neq=> .ok (.bool false)|_=> .fail)
 |_,_=> .fail
theorem XF {pos:String} (op:BinOp) (t t':TypeId) (x y:Operand) (hy:qY y) (h:dP c nt e I a w L J):
  eZ (xt op (mN P t) (zG e x)) I (bU P c ⟨dst,.binOp op t x y t',ty,pos,dX,g⟩ a w L I J):=by
 have hx:=h.eval x
 have aa:a.eval y= .map none:=by
  unfold qY at hy
  split at hy
  all_goals trivial
 unfold xt
 split
 .rename_i id hm hid
  unfold mN at hm
  split at hm
  .rename_i kt et hu
   rw[hid]at hx
   obtain⟨b,db,hv⟩:=AP hx
   split
   .refine bU.pure h (x:= .bool false) ?_ (cF.bool _)
    simp[execOp,eqGuard,binOp,Iv hu,hv,aa]
   .refine bU.pure h (x:= .bool true) ?_ (cF.bool _)
    simp[execOp,eqGuard,binOp,Iv hu,hv,aa]
   trivial
  grind
 .rename_i hm hid
  unfold mN at hm
  split at hm
  .rename_i kt et hu
   rw[hid]at hx
   have hv:=Iu hx
   split
   .refine bU.pure h (x:= .bool true) ?_ (cF.bool _)
    simp[execOp,eqGuard,binOp,Iv hu,hv,aa]
   .refine bU.pure h (x:= .bool false) ?_ (cF.bool _)
    simp[execOp,eqGuard,binOp,Iv hu,hv,aa]
   trivial
  grind
 trivial
def xu (m:Bool) (I:St) (x:V):R:=
 match m,x with
 |true,.mp id=>(match I[id]? with|some (.mp _ _ cS)=> .st (.ptr I.length 0) (I++ [.it (some id) cS [] cS])|_=> .fail)
 |true,.raw (.map none)=> .st (.ptr I.length 0) (I++ [.it none 0 [] 0])
 |_,_=> .fail
theorem XG {pos:String} (t:TypeId) (x:Operand) (h:dP c nt e I a w L J):
  eZ (xu (mN P t) I (zG e x)) I (bU P c ⟨dst,.range t x,ty,pos,dX,g⟩ a w L I J):=by
 have hx:=h.eval x
 have rd: ∀(o:Ob) (w':World),dt w' L (I++ [o]) (J++ [.pointer (some ⟨w.heap.size,0,none⟩)]) (.ptr I.length 0) (.pointer (some ⟨w.heap.size,0,none⟩)):=λo w'=>⟨w.heap.size,by rw[<-h.mem.len];simp,rfl⟩
 unfold xu
 split
 .rename_i id hm hid
  unfold mN at hm
  split at hm
  .rename_i kt et hu
   rw[hid]at hx
   obtain⟨b,db,hv⟩:=AP hx
   split
   .rename_i dJ bs cS cG
    obtain⟨b',es,e1,hh,hl,ad,ae⟩:=h.mem.dd _ _ _ cG db
    cases e1
    have key:=h.mem.rW (.mapIter (some b) cS #[] cS) (.it (some id) cS [] cS) (λhle aa=>⟨w.heap.size,some b,rfl,yJ _ _,h.mem.lim _ om,b,(by grind),rfl⟩) (by grind[cU])
    refine⟨_,_,L,_,.inl ?_,key.1,key.2,Ext.push I J h.mem.len _ _,rd _ _⟩
    have ab:=run_range_map (P:=P) w t kt et b es cS hu hh
    simp_all[execOp]
   trivial
  grind
 .rename_i hm hid
  unfold mN at hm
  split at hm
  .rename_i kt et hu
   rw[hid]at hx
   have hv:=Iu hx
   have key:=h.mem.rW (.mapIter none 0 #[] 0) (.it none 0 [] 0) (λhle aa=>⟨w.heap.size,none,rfl,yJ _ _,h.mem.lim _ om,rfl⟩) (by grind[cU])
   refine⟨_,_,L,_,.inl ?_,key.1,key.2,Ext.push I J h.mem.len _ _,rd _ _⟩
   have ab:=run_range_nilMap (P:=P) w t kt et hu
   simp_all[execOp]
  grind
 trivial
def xv (seen:ahQ):List V->ahQ->List (V×V×Nat)
 |k::v::dJ,b::bs=>if seen.contains b then xv seen dJ bs else(k,v,b)::xv seen dJ bs
 |_,_=> []
def mO (open_:Bool) (I:St) (x:V):R:=
 match x with
 | .ptr i 0=>(match I[i]? with
  |some (.it none _ _ _)=> .ok (.cy [.bool false])
  |some (.it (some id) since seen last)=>(match I[id]? with
   |some (.mp dJ bs cS)=>if(bs.all λb=>decide (b<since))=true/\since<=last then(match xv seen dJ bs with
    | []=> .ok (.cy [.bool false])
    | [(k,v,b)]=> .st (.cy [.bool true,k,v]) (I.set i (.it (some id) since (seen++ [b]) cS))
    |l=>if open_ then .any (l.map λp=>(.cy [.bool true,p.1,p.2.1],I.set i (.it (some id) since (seen++ [p.2.2]) cS)))else .fail)else .fail
   |_=> .fail)
  |_=> .fail)
 |_=> .fail
theorem PN: ∀(dJ:List V) (bs:ahQ) (es:List MapEntry) (seen:ahQ),bP (dW w L I J) dJ (es.flatMap λe=> [e.key,e.val])->es.map (·.born)=bs->
  bP (λp (e:MapEntry)=>dW w L I J p.1 e.key/\dW w L I J p.2.1 e.val/\e.born=p.2.2) (xv seen dJ bs) (es.filter λe=> !seen.contains e.born)
 | [],bs,[],seen,_,hb=>by simpa
 | [],_,e::es,_,ha,_=>by trivial
 | [_],_,[],_,ha,_=>by trivial
 | [_],_,e::es,_,ha,_=>by grind[bP]
 |_::_::_,_,[],_,ha,_=>by trivial
 |k::v::dJ,bs,e::es,seen,ha,hb=>by
  simp only[By,Bm,Bu,bP]at ha
  obtain⟨h1,h2,h3⟩:=ha
  cases bs with
  |nil=>grind
  |cons b bs=>
   simp only[Ai,List.cons.injEq]at hb
   obtain⟨rfl,hb⟩:=hb
   have ih:=PN dJ bs es seen h3 hb
   rw[xv,D8]
   by_cases hc:seen.contains e.born=true
   .grind
   .rw[ahf hc,ahg (sU hc)];trivial
theorem XH {w1:World} (h:w1=w\/w1=w.drew) (hm:Mem c w L I J):Mem c w1 L I J/\Le w L w1 L:=by
 rcases h with rfl|rfl
 .grind[Le.refl]
 .exact hm.drew
theorem PO {pos:String} (open_:Bool) (x:Operand) (h:dP c nt e I a w L J):
  eZ (mO open_ I (zG e x)) I (bU P c ⟨dst,.next x false,ty,pos,dX,g⟩ a w L I J):=by
 have hx:=h.eval x
 unfold mO
 split
 .rename_i i hid
  rw[hid]at hx
  obtain⟨r,db,hv⟩:=hx
  split
  .rename_i since seen last cG
   obtain⟨r',mo,e1,hh,hl,aj⟩:=h.mem.dd _ _ _ cG db
   cases e1
   simp only at aj
   subst aj
   refine bU.pure h (x:= .tuple #[.bool false]) ?_ ⟨[.bool false],rfl,dW.dH (cW.dm (.bool _)),tV⟩
   simp[execOp,hv,Instr.next,getObj,Sem.run,hh]
  .rename_i id since seen last cG
   obtain⟨r',mo,e1,hh,hl,b,ak,rfl⟩:=h.mem.dd _ _ _ cG db
   cases e1
   split
   .rename_i dJ bs cS ao
    obtain⟨b',es,e1,aq,a1,al,an⟩:=h.mem.dd _ _ _ ao ak
    cases e1
    split
    .rename_i hc
     have a6:r<w.heap.size:=(by grind)
     have aa:=PN dJ bs es.toList seen al an
     have ar:(leftOf es seen.toArray).toList=es.toList.filter λe=> !seen.contains e.born:=by
      simp[leftOf]
     rw[<-ar]at aa
     have hold: ∀x∈es.toList,x.born<since:=λx hx=>by
      have:=Am.1 hc.1 x.born (by rw[<-an];exact Ac.2 ⟨x,hx,rfl⟩)
      grind
     have ad:=run_next_at (P:=P) w ty r b since last seen.toArray es cS hh aq hold hc.2
     have ae: ∀o,Ext I J (I.set i o) J:=(by simp_all[Ext.gZ])
     have step: ∀(q:V×V×Nat) (en:MapEntry) (w1:World),(w1=w\/w1=w.drew)->dW w L I J q.1 en.key->dW w L I J q.2.1 en.val->en.born=q.2.2->
       (Instr.next (.pointer (some ⟨r,0,none⟩)) false ty).run P w= .ok (.tuple #[.bool true,en.key,en.val]) (ChangeMaps.setBlock w1 r (.mapIter (some b) since (seen.toArray.push en.born) cS))->
       bU P c ⟨dst,.next x false,ty,pos,dX,g⟩ a w L I J (.cy [.bool true,q.1,q.2.1]) (I.set i (.it (some id) since (seen++ [q.2.2]) cS)):=by
      intro q en w1 af h1 h2 h3 ab
      obtain⟨au,ah⟩:=XH af h.mem
      have a7:w1.heap[r]? =some (.mapIter (some b) since seen.toArray last):=by rcases af with rfl|rfl<;>exact hh
      have ax:r<w1.heap.size:=(by grind)
      have key:=au.jI (o:= .it (some id) since (seen++ [q.2.2]) cS) cG db rfl hl (.mapIter (some b) since (seen.toArray.push en.born) cS) (ae _) (by grind[cU]) λhle=>by
       refine⟨r,some b,rfl, ?_,hl,b,ak,rfl⟩
       grind[xH]
      refine⟨.tuple #[.bool true,en.key,en.val],yB w1 r (.mapIter (some b) since (seen.toArray.push en.born) cS),L,J,.inl ?_,key.1,ah.trans key.2,ae _, ?_⟩
      .simp only[execOp,hv,Sem.run_bind,ab,Result.andThen_ok,Sem.run_pure]
       rfl
      .exact⟨[.bool true,en.key,en.val],rfl,dW.dH (cW.dm (.bool _)),h1.mono (ah.trans key.2) (ae _),h2.mono (ah.trans key.2) (ae _),tV⟩
     split
     .rename_i av
      rw[av]at aa
      have h0:(leftOf es seen.toArray).size=0:=by
       have:=aa.length
       grind
      rcases ad with ⟨_,ab⟩|⟨en,ai,_⟩
      .refine bU.pure h (x:= .tuple #[.bool false]) ?_ ⟨[.bool false],rfl,dW.dH (cW.dm (.bool _)),tV⟩
       grind[execOp,Sem.run_bind,Result.andThen_ok,Sem.run_pure]
      grind
     .rename_i k v b0 aw
      rw[aw]at aa
      have h0:(leftOf es seen.toArray).size=1:=by
       have:=aa.length
       grind
      rcases ad with ⟨hz,_⟩|⟨en,ai,w1,af,ab⟩
      .omega
      .obtain⟨q,hq,h1,h2,h3⟩:=bP.mM aa ai
       simp at hq
       subst hq
       exact step _ en w1 af h1 h2 h3 ab
     .rename_i l ay az
      split
      case isFalse=>trivial
      rcases ad with ⟨hz,_⟩|⟨en,ai,w1,af,ab⟩
      .have:=aa.length
       grind
      .obtain⟨q,hq,h1,h2,h3⟩:=bP.mM aa ai
       exact⟨_,Ac.2 ⟨q,hq,rfl⟩,(by grind)⟩
    trivial
   trivial
  trivial
 trivial
def wB (m:Option (Kk×V)) (I:St) (x k:V):R:=
 match m,x with
 |some (kd,z),.mp id=>if mA kd k=true then(match I[id]? with
  |some (.mp dJ bs cS)=>(match nF kd k dJ 0 with
   |some (some (i,v))=>(match bs[i]? with|some b=> .ok (.cy [v,.int .i64 (b:Int)])|none=> .fail)
   |some none=> .st (.cy [z,.int .i64 (cS:Int)]) (I.set id (.mp (dJ++ [k,z]) (bs++ [cS]) (cS+1)))
   |none=> .fail)
  |_=> .fail)else .fail
 |_,_=> .fail
theorem XI (es:Array MapEntry) (i:Nat) (f:MapEntry->MapEntry) (h: ∀e,es[i]? =some e->f e=e):es.modify i f=es:=by
 grind
theorem XJ {pos:String} (t:TypeId) (x k:Operand) (h:dP c nt e I a w L J):
  eZ (wB (gv P t) I (zG e x) (zG e k)) I (bU P c ⟨dst,.mapEntry t x k,ty,pos,dX,g⟩ a w L I J):=by
 have hx:=h.eval x
 have hk:=h.eval k
 unfold wB
 split
 .rename_i kd z id hm hid
  obtain⟨kt,et,i,zv,hu,ah,hi,hz,av,ai⟩:=Ge hm
  rw[hid]at hx
  split
  .rename_i ad
   have aj: ∀em,(Instr.checkKey em 10000 kt (a.eval k)).run P w= .ok () w:=(by grind[Gf])
   have an:(zeroValue et).run P w= .ok zv w:=by simp_all[zeroValue,typeInfo]
   obtain⟨b,db,hv⟩:=AP hx
   split
   .rename_i dJ bs cS cG
    obtain⟨b',es,e1,hh,hl,aa,ao⟩:=h.mem.dd _ _ _ cG db
    cases e1
    have ak:b<w.heap.size:=(by grind)
    have ab: ∀o,Ext I J (I.set id o) J:=(by simp_all[Ext.gZ])
    have ae: ∀ob:Go.Obj,(setObj b ob).run P w= .ok () (yB w b ob):=λob=>by rw[MapKept.run_setObj_map ob hh];rfl
    split
    .rename_i i0 v0 hf
     split
     .rename_i b0 aw
      rcases xo ah ad hk aa hf with ⟨e1,_⟩|⟨j,v',e',e1,e2,e3,_,e5,kk,e6,e7⟩
      .cases e1
      .simp only[ahk,ahq]at e1
       obtain⟨rfl,rfl⟩:=e1
       have hj:es[i0]? =some e':=by grind
       have al:e'.key=a.eval k:=by
        obtain⟨y,hy,r⟩:=aa.get _ _ e6
        unfold o9 at hy
        rw[(AQ _ i0).1,e3]at hy
        simp at hy
        subst hy
        exact(PC hk (dt.kS r) e7).symm
       have aq:e'.born=b0:=by
        grind
       have af:(es.modify i0 λe=>{e with key:=a.eval k})=es:=XI es i0 _ λe he=>by
        rw[hj]at he;cases he;rw[<-al]
       have ar:I.set id (.mp dJ bs cS)=I:=yM I id _ cG
       have key:=h.mem.jI (o:= .mp dJ bs cS) cG db rfl hl (.map es cS) (ab _) (by grind[cU]) λhle=>by
        exact⟨b,_,rfl,xH _ _ _ ak,hl,aa.imp (by grind[dW.mono]),ao⟩
       rw[ar]at key
       refine⟨.tuple #[e'.val,.int .i64 (b0:Int)],_,L,J,.inl ?_,key.1,key.2,Ext.refl _ _,[e'.val,.int .i64 (b0:Int)],rfl,e5.mono key.2 (by grind),dW.dH (cW.dm (.int _ _)),tV⟩
       simp[execOp,Instr.mapEntry,run_underlying hu,hv,MapKept.run_getObj_map hh,aj,e2,ae,hj,al,PD ad hk,af,aq,goInt]
     trivial
    .rename_i hf
     rcases xo ah ad hk aa hf with ⟨_,e2⟩|⟨j,v',e',e1,_⟩
     .have au:dW w L I J (zG e k) (a.eval k):=Ei hk (PG ad)
      have key:=h.mem.jI (o:= .mp (dJ++ [zG e k,z]) (bs++ [cS]) (cS+1)) cG db rfl hl (.map (es.push {key:=a.eval k,val:=zv,born:=cS}) (cS+1)) (ab _) (by grind[cU]) λhle=>by
       refine⟨b,_,rfl,xH _ _ _ ak,hl, ?_,by grind⟩
       have:bP (dW w L I J) (dJ++ [zG e k,z]) (o9 (es.push {key:=a.eval k,val:=zv,born:=cS})):=by
        simp only[o9,Array.toList_push,ahD]
        exact bP.append aa ⟨au,ai _ _ _ _,tV⟩
       exact this.imp (by grind[dW.mono])
      refine⟨.tuple #[zv,.int .i64 (cS:Int)],_,L,J,.inl ?_,key.1,key.2,ab _,[zv,.int .i64 (cS:Int)],rfl,ai _ _ _ _,dW.dH (cW.dm (.int _ _)),tV⟩
      simp[execOp,Instr.mapEntry,run_underlying hu,hv,MapKept.run_getObj_map hh,aj,e2,ae,an,goInt]
     grind
    trivial
   trivial
  trivial
 trivial
def xP (I:St) (x s v:V):R:=
 match x,s with
 | .mp id,.int _ n=>if mJ v=true then(match I[id]? with
  |some (.mp dJ bs cS)=>(match bs.findIdx? λ(b:Nat)=>(b:Int)==n with
   |some i=> .st .u (I.set id (.mp (dJ.set (2*i+1) v) bs cS))
   |none=> .fail)
  |_=> .fail)else .fail
 |_,_=> .fail
theorem XK {pos:String} (t:TypeId) (x s v:Operand) (h:dP c nt e I a w L J):
  eZ (xP I (zG e x) (zG e s) (zG e v)) I (bU P c ⟨dst,.entryStore t x s v,ty,pos,dX,g⟩ a w L I J):=by
 have hx:=h.eval x
 have hs:=h.eval s
 have hv:=h.eval v
 unfold xP
 split
 .rename_i id k n hid ai
  rw[hid]at hx
  rw[ai]at hs
  have hs:=yO hs
  split
  .rename_i hc
   obtain⟨b,db,aj⟩:=AP hx
   split
   .rename_i dJ bs cS cG
    obtain⟨b',es,e1,hh,hl,aa,ak⟩:=h.mem.dd _ _ _ cG db
    cases e1
    have al:b<w.heap.size:=(by grind)
    have ab: ∀o,Ext I J (I.set id o) J:=(by simp_all[Ext.gZ])
    have ad: ∀ob:Go.Obj,(setObj b ob).run P w= .ok () (yB w b ob):=λob=>by rw[MapKept.run_setObj_map ob hh];rfl
    split
    .rename_i i hf
     have ae:(es.findIdx? λe=>(e.born:Int)==n)=some i:=by
      rw[<-ak,List.findIdx?_map]at hf
      have hq:es.findIdx? (λe=>(e.born:Int)==n)=es.toList.findIdx? λe=>(e.born:Int)==n:=by
       obtain⟨l⟩:=es
       simp
      rw[hq]
      exact hf
     have hi:i<es.size:=by
      obtain⟨h1,_⟩:=Array.findIdx?_eq_some_iff_getElem.1 ae
      exact h1
     have an:dW w L I J (zG e v) (a.eval v):=Ei hv hc
     have hlen:=aa.length
     unfold o9 at hlen
     rw[Lt]at hlen
     simp only[Cq]at hlen
     have ao:2*i<dJ.length:=om
     have af:dW w L I J dJ[2*i] es[i].key:=by
      obtain⟨y,hy,r⟩:=aa.get (2*i) _ (A0 ao)
      grind[o9,AQ]
     have aq:pK dJ i dJ[2*i] (zG e v)=dJ.set (2*i+1) (zG e v):=by
      grind[pK,List.set_getElem_self]
     have ah:(es.modify i λe=>{e with val:=a.eval v})=es.modify i λe=>{e with key:=es[i].key,val:=a.eval v}:=by
      rfl
     have key:=h.mem.jI (o:= .mp (pK dJ i dJ[2*i] (zG e v)) bs cS) cG db rfl hl (.map (es.modify i λe=>{e with key:=es[i].key,val:=a.eval v}) cS) (ab _) (by grind[cU]) λhle=>by
      refine⟨b,_,rfl,xH _ _ _ al,hl,(PE aa af an hi).imp (by grind[dW.mono]),by rw[PF];omega⟩
     rw[aq,<-ah]at key
     refine⟨undef,_,L,J,.inr ⟨?_,rfl⟩,key.1,key.2,ab _,tV⟩
     simp[execOp,Instr.entryStore,aj,hs,MapKept.run_getObj_map hh,asInt,asIntOf,ae,ad]
    trivial
   trivial
  trivial
 trivial
def Ek (b:Nat):List V->ahQ->Option (V×V)
 |k::v::dJ,b'::bs=>if b'=b then some (k,v)else Ek b dJ bs
 |_,_=>none
def pL (I:St) (x:V):R:=
 match x with
 | .ptr i 0=>(match I[i]? with
  |some (.it (some id) _ seen last)=>(match I[id]?,seen.getLast? with
   |some (.mp dJ bs cS),some b=>if cS=last then(match Ek b dJ bs with|some (k,v)=> .ok (.cy [k,v])|none=> .fail)else .fail
   |_,_=> .fail)
  |_=> .fail)
 |_=> .fail
theorem lK (b:Nat): ∀(dJ:List V) (bs:ahQ) (es:List MapEntry) (k v:V),bP (dW w L I J) dJ (es.flatMap λe=> [e.key,e.val])->es.map (·.born)=bs->Ek b dJ bs=some (k,v)->
  ∃e,es.find? (·.born==b)=some e/\dW w L I J k e.key/\dW w L I J v e.val
 | [],_,_,_,_,_,_,h=>by trivial
 | [_],_,_,_,_,_,_,h=>by trivial
 |_::_::_,_,[],_,_,ha,_,_=>by simpa
 |k0::v0::dJ,bs,e::es,k,v,ha,hb,h=>by
  simp only[By,Bm,Bu,bP]at ha
  obtain⟨h1,h2,h3⟩:=ha
  cases bs with
  |nil=>grind
  |cons b' bs=>
   simp only[Ai,List.cons.injEq]at hb
   obtain⟨rfl,hb⟩:=hb
   rw[Ek]at h
   by_cases q:e.born=b
   .grind
   .rw[ahf q]at h
    obtain⟨e',g1,g2,g3⟩:=lK b dJ bs es k v h3 hb h
    have qb:(e.born==b)=false:=sU q
    exact⟨e',by rw[List.find?_cons,qb];exact g1,g2,g3⟩
theorem XL {pos:String} (x:Operand) (h:dP c nt e I a w L J):
  eZ (pL I (zG e x)) I (bU P c ⟨dst,.entry x,ty,pos,dX,g⟩ a w L I J):=by
 have hx:=h.eval x
 unfold pL
 split
 .rename_i i hid
  rw[hid]at hx
  obtain⟨r,db,hv⟩:=hx
  split
  .rename_i id since seen last cG
   obtain⟨r',mo,e1,hh,hl,b,ab,rfl⟩:=h.mem.dd _ _ _ cG db
   cases e1
   split
   .rename_i dJ bs cS b0 ad af
    obtain⟨b',es,e1,ah,ai,aa,ae⟩:=h.mem.dd _ _ _ ad ab
    cases e1
    split
    .rename_i hc
     subst hc
     split
     .rename_i k v he
      obtain⟨en,g1,g2,g3⟩:=lK b0 dJ bs es.toList k v aa ae he
      have aj:es.find? (·.born==b0)=some en:=by
       grind
      have ak:seen.toArray.back? =some b0:=by
       grind
      refine bU.pure h (x:= .tuple #[en.key,en.val]) ?_ ⟨[en.key,en.val],rfl,g2,g3,tV⟩
      simp_all[execOp,Instr.entry,getObj,Sem.run]
     trivial
    trivial
   trivial
  trivial
 trivial
def El (P:Program) (t:TypeId):Bool:=match P.underlying t with|some (.slice _)=>true|_=>false
def xw (b:Bool) (t:TypeId) (x:V):R:=
 match b,x with
 |true,.cJ id s n lo m=> .ok (.gJ t [.cJ id s n lo m])
 |true,.sl g rows=> .ok (.gJ t [.sl g rows])
 |_,_=> .fail
theorem XM {pos:String} (t:TypeId) (x:Operand) (h:dP c nt e I a w L J):
  eZ (xw (El P t) t (zG e x)) I (bU P c ⟨dst,.makeInterface t x,ty,pos,dX,g⟩ a w L I J):=by
 have hx:=h.eval x
 have hu:El P t=true->(Instr.makeInterface t (a.eval x)).run P w= .ok (.iface t (a.eval x)) w:=λhb=>by
  unfold El at hb
  split at hb
  all_goals simp_all[Instr.makeInterface,run_underlying]
 unfold xw
 split
 .rename_i id s n lo m hb hid
  rw[hid]at hx
  exact bU.pure h (x:= .iface t (a.eval x)) (by simp_all[execOp]) ⟨a.eval x,rfl,hx,tV⟩
 .rename_i g rows hb hid
  rw[hid]at hx
  exact bU.pure h (x:= .iface t (a.eval x)) (by simp_all[execOp]) ⟨a.eval x,rfl,hx,tV⟩
 trivial
end
def di (ρ:Nat->Nat):V->V
 | .ptr id off=> .ptr (ρ id) off
 | .sl (.app id) rows=> .sl (.app (ρ id)) rows
 | .cJ id s n lo m=> .cJ (ρ id) s n lo m
 | .iH id s n k j=> .iH (ρ id) s n k j
 | .jO id s off n=> .jO (ρ id) s off n
 | .mp id=> .mp (ρ id)
 |v=>v
def de (ρ:Nat->Nat):V->V
 | .fn f bY=> .fn f (bY.map (di ρ))
 | .gJ t vs=> .gJ t (vs.map (di ρ))
 |v=>di ρ v
def dK (ρ:Nat->Nat):V->V
 | .agg cs=> .agg (cs.map (de ρ))
 |v=>de ρ v
def dF (ρ:Nat->Nat):V->V
 | .cy vs=> .cy (vs.map (dK ρ))
 |v=>dK ρ v
def yE (ρ:Nat->Nat):Ob->Ob
 | .box cells=> .box (cells.map (de ρ))
 | .cj rows s=> .cj (rows.map λr=>r.map (de ρ)) s
 | .mp dJ fW cS=> .mp (dJ.map (dK ρ)) fW cS
 | .it m since seen last=> .it (m.map ρ) since seen last
 |o=>o
theorem bP.fD {U J γ:Type} {R:U->J->Prop} {S:γ->J->Prop} {f:U->γ} (h: ∀a b,R a b->S (f a) b): ∀{l:List U} {m:List J},bP R l m->bP S (l.map f) m
 | [],[],_=>trivial
 |_::_,_::_,q=>⟨h _ _ q.1,bP.fD h q.2⟩
 | [],_::_,q=>q.elim
 |_::_,[],q=>q.elim
theorem bP.gr {U J γ:Type} {R:U->J->Prop} {S:γ->J->Prop} {f:U->γ} (h: ∀a b,S (f a) b->R a b): ∀{l:List U} {m:List J},bP S (l.map f) m->bP R l m
 | [],[],_=>trivial
 |_::_,_::_,q=>⟨h _ _ q.1,bP.gr h q.2⟩
 | [],_::_,q=>q.elim
 |_::_,[],q=>q.elim
structure Em (ρ:Nat->Nat) (I:St) (J:ahR) (Ic:St) (Jc:ahR):Prop where
 val: ∀(id:Nat) x,J[id]? =some x->Jc[ρ id]? =some x
 app: ∀(id:Nat) n s,I[id]? =some (.app n s)->Ic[ρ id]? =some (.app n s)
 cj: ∀(id:Nat) rows s,I[id]? =some (.cj rows s)-> ∃ee,Ic[ρ id]? =some (.cj ee s)/\ee.length=rows.length
 dead: ∀(id:Nat),I[id]? =some .dead->Ic[ρ id]? =some .dead
structure rX (ρ:Nat->Nat) (I:St) (J:ahR) (Ic:St) (Jc:ahR):Prop where
 val: ∀(id:Nat) x,Jc[ρ id]? =some x->J[id]? =some x
 app: ∀(id:Nat) n s,Ic[ρ id]? =some (.app n s)->I[id]? =some (.app n s)
 cj: ∀(id:Nat) rows s,Ic[ρ id]? =some (.cj rows s)-> ∃ee,I[id]? =some (.cj ee s)/\ee.length=rows.length
 dead: ∀(id:Nat),Ic[ρ id]? =some .dead->I[id]? =some .dead
section
variable {ρ:Nat->Nat} {w:World} {L:Nat->Nat} {I Ic:St} {J Jc:ahR}
variable {x:Value}
theorem gD.lL (h:Em ρ I J Ic Jc) {v:V} (r:gD w L I J v x):gD w L Ic Jc (di ρ v) x:=by
 cases v with
 |ptr id off=>obtain⟨b,hb,hx⟩:=r;exact⟨b,h.val _ _ hb,hx⟩
 |sl g rows=>cases g with
  |app id=>obtain⟨hr,n,s,cG,hle,db,hl⟩:=r;exact⟨hr,n,s,h.app _ _ _ cG,hle,λq=>h.val _ _ (db q),hl⟩
  |ro=>exact r
  |full=>exact r
 |cJ id s n lo m=>
  obtain⟨a,cap,hx,hm,ha,hc⟩:=r
  refine⟨a,cap,hx,hm,ha, ?_⟩
  rcases hc with hd|⟨rows,cG,hn,hb⟩
  .exact .inl (h.dead id hd)
  .obtain⟨r2,e2,l2⟩:=h.cj id rows s cG
   refine .inr ⟨r2,e2,om,λq=> ?_⟩
   obtain⟨b,c0,q1,q2⟩:=hb om
   exact⟨b,c0,h.val _ _ q1,q2⟩
 |iH id s n i j=>
  obtain⟨b,o,hx,hc⟩:=r
  refine⟨b,o,hx, ?_⟩
  rcases hc with hd|⟨rows,cG,hn,hb⟩
  .exact .inl (h.dead id hd)
  .obtain⟨r2,e2,l2⟩:=h.cj id rows s cG
   refine .inr ⟨r2,e2,om,λq q'=> ?_⟩
   obtain⟨c0,q1,q2⟩:=hb om q'
   exact⟨c0,h.val _ _ q1,q2⟩
 |jO id s off n=>obtain⟨b,hb,hx⟩:=r;exact⟨b,h.val _ _ hb,hx⟩
 |mp id=>obtain⟨b,hb,hx⟩:=r;exact⟨b,h.val _ _ hb,hx⟩
 |_=>exact r
theorem gD.je (h:rX ρ I J Ic Jc) {v:V} (r:gD w L Ic Jc (di ρ v) x):gD w L I J v x:=by
 cases v with
 |ptr id off=>obtain⟨b,hb,hx⟩:=r;exact⟨b,h.val _ _ hb,hx⟩
 |sl g rows=>cases g with
  |app id=>obtain⟨hr,n,s,cG,hle,db,hl⟩:=r;exact⟨hr,n,s,h.app _ _ _ cG,hle,λq=>h.val _ _ (db q),hl⟩
  |ro=>exact r
  |full=>exact r
 |cJ id s n lo m=>
  obtain⟨a,cap,hx,hm,ha,hc⟩:=r
  refine⟨a,cap,hx,hm,ha, ?_⟩
  rcases hc with hd|⟨rows,cG,hn,hb⟩
  .exact .inl (h.dead id hd)
  .obtain⟨r2,e2,l2⟩:=h.cj id rows s cG
   refine .inr ⟨r2,e2,om,λq=> ?_⟩
   obtain⟨b,c0,q1,q2⟩:=hb om
   exact⟨b,c0,h.val _ _ q1,q2⟩
 |iH id s n i j=>
  obtain⟨b,o,hx,hc⟩:=r
  refine⟨b,o,hx, ?_⟩
  rcases hc with hd|⟨rows,cG,hn,hb⟩
  .exact .inl (h.dead id hd)
  .obtain⟨r2,e2,l2⟩:=h.cj id rows s cG
   refine .inr ⟨r2,e2,om,λq q'=> ?_⟩
   obtain⟨c0,q1,q2⟩:=hb om q'
   exact⟨c0,h.val _ _ q1,q2⟩
 |jO id s off n=>obtain⟨b,hb,hx⟩:=r;exact⟨b,h.val _ _ hb,hx⟩
 |mp id=>obtain⟨b,hb,hx⟩:=r;exact⟨b,h.val _ _ hb,hx⟩
 |_=>exact r
theorem cW.lL (h:Em ρ I J Ic Jc) {v:V} (r:cW w L I J v x):cW w L Ic Jc (de ρ v) x:=by
 cases v with
 |fn f bY=>obtain⟨xs,hx,hc⟩:=r;exact⟨xs,hx,(by grind[bP.fD,gD.lL])⟩
 |gJ t v=>obtain⟨y,hx,hc⟩:=r;exact⟨y,hx,(by grind[bP.fD,gD.lL])⟩
 |sl g rows=>
  have r':gD w L I J (.sl g rows) x:=r
  have:=r'.lL h
  cases g<;>exact this
 |_=>simp only[cW]at r;have q:=gD.lL h r;exact q
theorem cW.je (h:rX ρ I J Ic Jc) {v:V} (r:cW w L Ic Jc (de ρ v) x):cW w L I J v x:=by
 cases v with
 |fn f bY=>obtain⟨xs,hx,hc⟩:=r;exact⟨xs,hx,(by grind[bP.gr,gD.je])⟩
 |gJ t v=>obtain⟨y,hx,hc⟩:=r;exact⟨y,hx,(by grind[bP.gr,gD.je])⟩
 |sl g rows=>
  have r':gD w L Ic Jc (di ρ (.sl g rows)) x:=by cases g<;>exact r
  exact r'.je h
 |_=>simp only[cW];refine gD.je h ?_;exact r
theorem dW.lL (h:Em ρ I J Ic Jc) {v:V} (r:dW w L I J v x):dW w L Ic Jc (dK ρ v) x:=by
 cases v with
 |agg cs=>obtain⟨xs,hx,hc⟩:=r;exact⟨xs,hx,(by grind[bP.fD,cW.lL])⟩
 |sl g rows=>
  have r':cW w L I J (.sl g rows) x:=r
  have:=r'.lL h
  cases g<;>exact this
 |_=>simp only[dW]at r;have q:=cW.lL h r;exact q
theorem dW.je (h:rX ρ I J Ic Jc) {v:V} (r:dW w L Ic Jc (dK ρ v) x):dW w L I J v x:=by
 cases v with
 |agg cs=>obtain⟨xs,hx,hc⟩:=r;exact⟨xs,hx,(by grind[bP.gr,cW.je])⟩
 |sl g rows=>
  have r':cW w L Ic Jc (de ρ (.sl g rows)) x:=by cases g<;>exact r
  exact r'.je h
 |_=>simp only[dW];refine cW.je h ?_;exact r
theorem dt.lL (h:Em ρ I J Ic Jc) {v:V} (r:dt w L I J v x):dt w L Ic Jc (dF ρ v) x:=by
 cases v with
 |u=>trivial
 |cy vs=>obtain⟨xs,hx,hc⟩:=r;exact⟨xs,hx,(by grind[bP.fD,dW.lL])⟩
 |sl g rows=>
  have r':dW w L I J (.sl g rows) x:=r
  have:=r'.lL h
  cases g<;>exact this
 |_=>simp only[dt]at r;have q:=dW.lL h r;exact q
theorem dt.je (h:rX ρ I J Ic Jc) {v:V} (r:dt w L Ic Jc (dF ρ v) x):dt w L I J v x:=by
 cases v with
 |u=>trivial
 |cy vs=>obtain⟨xs,hx,hc⟩:=r;exact⟨xs,hx,(by grind[bP.gr,dW.je])⟩
 |sl g rows=>
  have r':dW w L Ic Jc (dK ρ (.sl g rows)) x:=by cases g<;>exact r
  exact r'.je h
 |_=>simp only[dt];refine dW.je h ?_;exact r
theorem gK.lL (h:Em ρ I J Ic Jc) {o:Ob} (r:gK w L I J o x):gK w L Ic Jc (yE ρ o) x:=by
 cases o with
 |box cells=>obtain⟨b,arr,T,fz,hx,hh,hf,hl,hc⟩:=r;exact⟨b,arr,T,fz,hx,hh,hf,hl,(by grind[bP.fD,cW.lL])⟩
 |cj rows s=>
  obtain⟨a,cap,hx,dg,hs,hu,cN⟩:=r
  refine⟨a,cap,by grind,by grind,hs,λr hr=> ?_,λh0=> ?_⟩
  .grind
  grind[bP.fD,cW.lL]
 |app n s=>exact r
 |dead=>trivial
 |mp dJ fW cS=>obtain⟨b,es,hx,hh,hl,hc,hb⟩:=r;exact⟨b,es,hx,hh,hl,(by grind[bP.fD,dW.lL]),hb⟩
 |it m since seen last=>
  obtain⟨b,mo,hx,hh,hl,hc⟩:=r
  refine⟨b,mo,hx,hh,hl, ?_⟩
  cases m with
  |none=>exact hc
  |some id=>obtain⟨q,hq,hm⟩:=hc;exact⟨q,h.val _ _ hq,hm⟩
theorem gK.je (h:rX ρ I J Ic Jc) {o:Ob} (r:gK w L Ic Jc (yE ρ o) x):gK w L I J o x:=by
 cases o with
 |box cells=>obtain⟨b,arr,T,fz,hx,hh,hf,hl,hc⟩:=r;exact⟨b,arr,T,fz,hx,hh,hf,hl,(by grind[bP.gr,cW.je])⟩
 |cj rows s=>
  obtain⟨a,cap,hx,dg,hs,hu,cN⟩:=r
  refine⟨a,cap,by grind,by grind,hs,λr hr=> ?_,λh0=> ?_⟩
  .simp_all
  grind[bP.gr,cW.je]
 |app n s=>exact r
 |dead=>trivial
 |mp dJ fW cS=>obtain⟨b,es,hx,hh,hl,hc,hb⟩:=r;exact⟨b,es,hx,hh,hl,(by grind[bP.gr,dW.je]),hb⟩
 |it m since seen last=>
  obtain⟨b,mo,hx,hh,hl,hc⟩:=r
  refine⟨b,mo,hx,hh,hl, ?_⟩
  cases m with
  |none=>exact hc
  |some id=>obtain⟨q,hq,hm⟩:=hc;exact⟨q,h.val _ _ hq,hm⟩
theorem rY (o:Ob) (x:Value):cU (yE ρ o) x=cU o x:=by
 cases o with
 |cj rows s=>cases x with
  |slice a n cap=>cases a<;>rfl
  |_=>rfl
 |_=>cases x<;>first|rfl|(rename_i q;cases q<;>rfl)
end
variable {I:St}{P:Program}
def tX (I:St) (J:ahR):ahQ:=(I.zip J).filterMap λp=>cU p.1 p.2
theorem gE {J:ahR} {b:Nat}:b∈tX I J↔ ∃(i:Nat) (o:Ob) (x:Value),I[i]? =some o/\J[i]? =some x/\cU o x=some b:=by
 unfold tX
 rw[List.mem_filterMap]
 constructor
 .rintro⟨⟨o,x⟩,hm,he⟩
  obtain⟨i,hi⟩:=As.1 hm
  grind[List.getElem?_zip_eq_some]
 .rintro⟨i,o,x,h1,h2,h3⟩
  exact⟨(o,x),As.2 ⟨i,by grind⟩,h3⟩
def entry (w:World) (L:Nat->Nat) (I:St) (J:ahR):Ctx:=⟨w,L,tX I J,I,J⟩
def cH (cZ:ahQ) (N:Nat) (id:Nat):Nat:=if h:id<cZ.length then cZ[id]else N+(id - cZ.length)
def bN (P:Program) (f:FuncId) (args:List V) (I:St) (R:V->St->Prop):Prop:=
 ∀(w:World) (L:Nat->Nat) (J:ahR) (jP:ahR),Mem (entry w L I J) w L I J->bP (dt w L I J) args jP->
  Calls P f jP.toArray w λe w'=> ∃v r L' I' J',e= .returned v/\R r I'/\I.length<=I'.length/\Mem (entry w L I J) w' L' I' J'/\dt w' L' I' J' r v
theorem bN.mono {f:FuncId} {args:List V} {R R':V->St->Prop} (h:bN P f args I R) (hR: ∀r I',R r I'->R' r I'):bN P f args I R':=
 λw L J aa hm ha=>(h w L J aa hm ha).mono (by grind)
def VC (P:Program) (c:Ctx) (fv:V) (args:List V) (I:St) (K:V->St->Prop):Prop:=
 ∃f bY,fv= .fn f bY/\(((∃fn,P.funcs[f]? =some fn/\(fn.name== "runtime.NumGoroutine")=false/\fn.body.isSome=true)/\
  ∀w L J jP,Mem c w L I J->bP (dt w L I J) (args++bY) jP->
   Calls P f jP.toArray w λe w'=> ∃v r L' I' J',e= .returned v/\K r I'/\Mem c w' L' I' J'/\Le w L w' L'/\Ext I J I' J'/\dt w' L' I' J' r v)\/
  ∀w L J jP,Mem c w L I J->bP (dt w L I J) (args++bY) jP->
   ∃v r w' L' I' J',(callFunc f jP.toArray).run P w= .ok (.value v) w'/\K r I'/\Mem c w' L' I' J'/\Le w L w' L'/\Ext I J I' J'/\dt w' L' I' J' r v)
theorem VC.mono {c:Ctx} {fv:V} {az:List V} {K K':V->St->Prop} (h:VC P c fv az I K) (hk: ∀v s,K v s->K' v s):VC P c fv az I K':=by
 obtain⟨f,bY,h1,⟨h2,h3⟩|h3⟩:=h
 .refine⟨f,bY,h1,.inl ⟨h2,λw L J aa hm ha=>(h3 w L J aa hm ha).mono ?_⟩⟩
  grind
 .refine⟨f,bY,h1,.inr λw L J aa hm ha=> ?_⟩
  grind
def xF (P:Program) (f:FuncId):Bool:=match P.funcs[f]? with|some fn=> !(fn.name== "runtime.NumGoroutine")&&fn.body.isSome|none=>false
theorem Iw {f:FuncId} (h:xF P f): ∃fn,P.funcs[f]? =some fn/\(fn.name== "runtime.NumGoroutine")=false/\fn.body.isSome=true:=by
 unfold xF at h
 grind
def oh (ρ:Nat->Nat) (a' a:V):Prop:=a=de ρ a'\/ ∃g rows,a'= .sl .ro rows/\a= .sl g rows
def mP (ρ:Nat->Nat) (a' a:V):Prop:=a=dK ρ a'\/(∃g rows,a'= .sl .ro rows/\a= .sl g rows)\/ ∃cs' cs,a'= .agg cs'/\a= .agg cs/\bP (oh ρ) cs' cs
def cP (ρ:Nat->Nat) (a' a:V):Prop:=a=dF ρ a'\/a'= .u\/(∃g rows,a'= .sl .ro rows/\a= .sl g rows)\/(∃cs' cs,a'= .agg cs'/\a= .agg cs/\bP (oh ρ) cs' cs)\/ ∃gT vs,a'= .cy gT/\a= .cy vs/\bP (mP ρ) gT vs
def fO {U:Type}:ahQ->List U->List U->List U
 |i::cZ,l,x::xs=>fO cZ (l.set i x) xs
 |_,l,_=>l
theorem mQ {U:Type}: ∀(cZ:ahQ) (l xs:List U),(fO cZ l xs).length=l.length
 | [],_,_=>by rfl
 |i::cZ,l,[]=>by rfl
 |i::cZ,l,x::xs=>by simp[fO,mQ cZ]
theorem rZ {U:Type}: ∀(cZ:ahQ) (l xs:List U) (j:Nat),j∉cZ->(fO cZ l xs)[j]? =l[j]?
 | [],_,_,_,_=>by rfl
 |i::cZ,l,[],_,_=>by rfl
 |i::cZ,l,x::xs,j,h=>by
  simp only[Af,not_or]at h
  rw[fO,rZ cZ _ xs j h.2,Da (λq=>h.1 q.symm)]
theorem Ix {U:Type}: ∀(cZ:ahQ) (l xs:List U) (i j:Nat),cZ.Nodup->(∀q∈cZ,q<l.length)->cZ.length<=xs.length->cZ[i]? =some j->(fO cZ l xs)[j]? =xs[i]?
 | [],_,_,_,_,_,_,_,h=>by grind
 |i0::cZ,l,[],_,_,_,_,hl,_=>by grind
 |i0::cZ,l,x::xs,0,j,hn,aa,hl,h=>by
  simp at h
  subst h
  rw[C2]at hn
  rw[fO,rZ cZ _ xs i0 hn.1,Bi (aa i0 sm)]
  rfl
 |i0::cZ,l,x::xs,i+1,j,hn,aa,hl,h=>by
  rw[C2]at hn
  rw[fO,Ix cZ _ xs i j hn.2 (λq hq=>by simp;exact aa q (by simp[hq])) (sU hl) (sU h)]
  simp
def xB (cZ:ahQ) (Ic I':St):St:=fO cZ Ic ((I'.take cZ.length).map (yE (cH cZ Ic.length)))++(I'.drop cZ.length).map (yE (cH cZ Ic.length))
def sa (cZ:ahQ) (Jc J':ahR):ahR:=fO cZ Jc (J'.take cZ.length)++J'.drop cZ.length
section
variable {P:Program} {c:Ctx}
variable {cZ:ahQ}{i:Nat}
theorem wQ {N:Nat} (h:i<cZ.length):cH cZ N i=cZ[i]:=by grind[cH]
theorem pM {N:Nat} (h: ¬i<cZ.length):cH cZ N i=N+(i - cZ.length):=by grind[cH]
theorem AR {Ic I':St} (hn:cZ.Nodup) (aa: ∀q∈cZ,q<Ic.length) (hl:cZ.length<=I'.length) {o:Ob} (h:I'[i]? =some o):
  (xB cZ Ic I')[cH cZ Ic.length i]? =some (yE (cH cZ Ic.length) o):=by
 unfold xB
 by_cases hi:i<cZ.length
 .rw[wQ hi,Au (by rw[mQ];exact aa _ (A8 hi)),
   Ix cZ _ _ i _ hn aa (by simp;omega) (A0 hi),B3,An,ahg hi,h]
  rfl
 .rw[pM hi,Ar (by rw[mQ];omega),mQ,B3,C8,show cZ.length+(Ic.length+(i - cZ.length) - Ic.length)=i by omega,h]
  rfl
theorem PQ {Jc J':ahR} (hn:cZ.Nodup) (aa: ∀q∈cZ,q<Jc.length) (hl:cZ.length<=J'.length) {x:Value} (h:J'[i]? =some x):
  (sa cZ Jc J')[cH cZ Jc.length i]? =some x:=by
 unfold sa
 by_cases hi:i<cZ.length
 .rw[wQ hi,Au (by rw[mQ];exact aa _ (A8 hi)),
   Ix cZ _ _ i _ hn aa (by simp;omega) (A0 hi),An,ahg hi,h]
 grind[pM,mQ]
theorem XN {cZ:ahQ} {Ic I':St} {Jc J':ahR} (hn:cZ.Nodup) (aa: ∀q∈cZ,q<Ic.length) (ad:Jc.length=Ic.length) (ae:J'.length=I'.length) (hl:cZ.length<=I'.length) {j:Nat} {o:Ob} {x:Value}
  (h1:(xB cZ Ic I')[j]? =some o) (h2:(sa cZ Jc J')[j]? =some x):
  (∃(i:Nat) (o':Ob),j=cH cZ Ic.length i/\I'[i]? =some o'/\o=yE (cH cZ Ic.length) o'/\J'[i]? =some x)\/(j∉cZ/\j<Ic.length/\Ic[j]? =some o/\Jc[j]? =some x):=by
 have ab: ∀q∈cZ,q<Jc.length:=by grind
 by_cases hj:j<Ic.length
 .by_cases hm:j∈cZ
  .obtain⟨i,hi⟩:=As.1 hm
   obtain⟨af,ah⟩:=A3.1 hi
   have e1:=AR hn aa hl (A0 (show i<I'.length by omega))
   grind[PQ,wQ]
  grind[xB,sa,mQ,rZ]
 grind[xB,sa,mQ,pM]
theorem Lu {U J γ:Type} {A:U->J->Prop} {B:J->γ->Prop} {C:U->γ->Prop} (h: ∀a b c,A a b->B b c->C a c): ∀{l:List U} {m:List J} {n:List γ},bP A l m->bP B m n->bP C l n
 | [],[],[],_,_=>trivial
 |_::_,_::_,_::_,p,q=>⟨h _ _ _ p.1 q.1,Lu h p.2 q.2⟩
 | [],_::_,_,p,_=>p.elim
 |_::_,[],_,p,_=>p.elim
 | [],[],_::_,_,q=>q.elim
 |_::_,_::_,[],_,q=>q.elim
section
variable {ρ:Nat->Nat} {w:World} {L:Nat->Nat} {I Ic:St} {J Jc:ahR}
variable {a':V}{a:V}{x:Value}
theorem XO (h:rX ρ I J Ic Jc) (ha:oh ρ a' a) (r:cW w L Ic Jc a x):cW w L I J a' x:=by
 rcases ha with rfl|⟨g,rows,rfl,rfl⟩
 .exact r.je h
 .exact rQ (by simpa)
theorem PS (h:rX ρ I J Ic Jc) (ha:mP ρ a' a) (r:dW w L Ic Jc a x):dW w L I J a' x:=by
 rcases ha with rfl|⟨g,rows,rfl,rfl⟩|⟨ab,cs,rfl,rfl,aa⟩
 .exact r.je h
 .exact rQ (dt.kS r)
 .obtain⟨xs,hx,hr⟩:=r
  exact⟨xs,hx,(by grind[Lu,XO])⟩
theorem xx (h:rX ρ I J Ic Jc) (ha:cP ρ a' a) (r:dt w L Ic Jc a x):dt w L I J a' x:=by
 rcases ha with rfl|rfl|⟨g,rows,rfl,rfl⟩|⟨ab,cs,rfl,rfl,aa⟩|⟨gT,vs,rfl,rfl,aa⟩
 .exact r.je h
 .trivial
 .exact rQ r
 .exact dt.kS (PS h (.inr (.inr ⟨ab,cs,rfl,rfl,aa⟩)) r)
 .obtain⟨xs,hx,hr⟩:=r
  exact⟨xs,hx,(by grind[Lu,PS])⟩
end
theorem VC.of {f:FuncId} {bY args cc:List V} {Ic fb:St} {R:V->St->Prop} {K:V->St->Prop} (hc:bN P f cc fb R) (hb:xF P f) (cZ:ahQ) (an:cZ.Nodup) (hlen:fb.length=cZ.length)
  (aA: ∀(i j:Nat) (o:Ob),cZ[i]? =some j->fb[i]? =some o->Ic[j]? =some (yE (cH cZ Ic.length) o)) (aj:bP (cP (cH cZ Ic.length)) cc (args++bY))
  (hk: ∀r I',R r I'->cZ.length<=I'.length->K (dF (cH cZ Ic.length) r) (xB cZ Ic I')):VC P c (.fn f bY) args Ic K:=by
 refine⟨f,bY,rfl,.inl ⟨Iw hb,λw L Jc af hm hv=> ?_⟩⟩
 have ah: ∀q∈cZ,q<Ic.length:=λq hq=>by
  obtain⟨i,hi⟩:=As.1 hq
  have al:=(A3.1 hi).1
  have:=aA i q _ hi (A0 (show i<fb.length by omega))
  grind
 let oi:=cZ.map λq=>Jc.getD q undef
 have ao: ∀(i j:Nat),cZ[i]? =some j->oi[i]? =Jc[j]? :=λi j hi=>by
  simp only[oi,B3,hi,Bf]
  have hj:=ah j (by grind)
  rw[Ae,A0 (by rw[hm.len];exact hj)]
  rfl
 have ak: ∀(id:Nat) O,Ic[cH cZ Ic.length id]? =some O-> ∃o,fb[id]? =some o/\O=yE (cH cZ Ic.length) o:=(by grind[wQ,pM])
 have ai:rX (cH cZ Ic.length) fb oi Ic Jc:=by
  refine⟨λid x hx=> ?_,λid n s hx=> ?_,λid rows s hx=> ?_,λid hx=> ?_⟩
  .by_cases hi:id<cZ.length
   .grind[wQ]
   .rw[pM hi]at hx
    have:=(A3.1 hx).1
    rw[hm.len]at this;omega
  .obtain⟨o,ho,he⟩:=ak id _ hx
   cases o<;>grind[yE]
  .obtain⟨o,ho,he⟩:=ak id _ hx
   cases o<;>grind[yE]
  .obtain⟨o,ho,he⟩:=ak id _ hx
   cases o with
   |dead=>exact ho
   |_=>simp[yE]at he
 have ae: ∀(i:Nat) (o:Ob) (x:Value),fb[i]? =some o->oi[i]? =some x-> ∃j,cZ[i]? =some j/\Ic[j]? =some (yE (cH cZ Ic.length) o)/\Jc[j]? =some x:=by
  grind
 have aB:Mem (entry w L fb oi) w L fb oi:=by
  refine⟨by grind,λi o x ho hx=> ?_,λi j o o' x x' b a8 ho hx aw ax he=> ?_,λi o x b ho hx he=> ?_,λb _ _=>(by trivial),Le.refl _ _,A7 _,rfl,rfl,rfl,A7 _,hm.lim,Ext.refl _ _,hm.jn.mono hm.le⟩
  .obtain⟨j,hj,h1,h2⟩:=ae i o x ho hx
   exact(hm.dd j _ x h1 h2).je ai
  .obtain⟨p,hp,h1,h2⟩:=ae i o x ho hx
   obtain⟨q,hq,h3,h4⟩:=ae j o' x' aw ax
   have aC:p≠q:=(by grind[List.getElem_inj])
   have:=hm.apart p q _ _ x x' b aC h1 h2 h3 h4 (by grind[rY])
   grind[rY]
  .exact .inr (gE.2 (by grind))
 have aD:bP (dt w L fb oi) cc af:=by
  clear hk hc
  generalize args++bY=az at hv aj
  induction cc generalizing az af with
  |nil=>cases az with
   |nil=>cases af<;>simpa
   |cons _ _=>trivial
  |cons p cc ih=>cases az with
   |nil=>trivial
   |cons q az=>cases af with
    |nil=>simpa
    |cons y ys=>exact⟨xx ai aj.1 hv.1,ih _ _ hv.2 aj.2⟩
 refine(hc w L oi af aB aD).mono λe w' ⟨v,r,L',I',J',he,hR,aI,aa,aE⟩=> ?_
 have ay:cZ.length<=I'.length:=om
 have aF: ∀q∈cZ,q<Jc.length:=by rw[hm.len];omega
 have ad:Em (cH cZ Ic.length) I' J' (xB cZ Ic I') (sa cZ Jc J'):=by
  refine⟨λid x hx=> ?_,λid n s hx=>AR an ah ay hx,λid rows s hx=>⟨_,AR an ah ay hx,sm⟩,λid hx=>AR an ah ay hx⟩
  have:=PQ an aF (by rw[aa.len];omega) hx
  rw[hm.len]at this;omega
 have aq: ∀(j:Nat) (o:Ob) (x:Value) (b:Nat),j∉cZ->Ic[j]? =some o->Jc[j]? =some x->cU o x=some b->b∉tX fb oi:=by
  intro j o x b hj ho hx he hb
  obtain⟨i,o',x',h1,h2,h3⟩:=gE.1 hb
  obtain⟨p,hp,h4,h5⟩:=ae i o' x' h1 h2
  have aG:j≠p:=(by grind)
  exact hm.apart j p o _ x x' b aG ho hx h4 h5 he (by grind[rY])
 have a1: ∀b,b∈tX fb oi->c.w0.heap.size<=b\/b∈c.X0:=by
  intro b hb
  obtain⟨i,o',x',h1,h2,h3⟩:=gE.1 hb
  obtain⟨p,hp,h4,h5⟩:=ae i o' x' h1 h2
  exact hm.fN p _ x' b h4 h5 (by grind[rY])
 have ar:Ext Ic Jc (xB cZ Ic I') (sa cZ Jc J'):=by
  refine⟨λid a ha=> ?_,λid n s ha=> ?_,λid rows s ha=> ?_,λid ha=> ?_⟩
  .have au:id<Jc.length:=(by grind)
   by_cases hs:id∈cZ
   .obtain⟨i,hi⟩:=As.1 hs
    have h1:=ao i id hi
    rw[ha]at h1
    have h2:=aa.ext.ptr i a h1
    have h3:=ad.val i _ h2
    grind[wQ]
   grind[sa,mQ,rZ]
  .have au:id<Ic.length:=(by grind)
   by_cases hs:id∈cZ
   .obtain⟨i,hi⟩:=As.1 hs
    obtain⟨al,av⟩:=A3.1 hi
    have h1:=ai.app i n s (by grind[wQ])
    obtain⟨n',h2,h3,h4⟩:=aa.ext.app i n s h1
    have h5:=ad.app i n' s h2
    rw[wQ al,av]at h5
    refine⟨n',h5,h3,λe=> ?_⟩
    have h6:=h4 e
    rw[show(entry w L fb oi).β0=oi from rfl,ao i id hi]at h6
    have a6:i<J'.length:=by grind
    have h7:=ad.val i _ (A0 a6)
    grind[wQ]
   .refine⟨n, ?_,om,λ_=> ?_⟩
    .grind[xB,mQ,rZ]
    .unfold sa
     rw[Au (by rw[mQ,hm.len];omega),rZ _ _ _ _ hs]
  .have au:id<Ic.length:=(by grind)
   by_cases hs:id∈cZ
   .obtain⟨i,hi⟩:=As.1 hs
    obtain⟨al,av⟩:=A3.1 hi
    obtain⟨r0,h1,l1⟩:=ai.cj i rows s (by grind[wQ])
    rcases aa.ext.cj i r0 s h1 with h2|⟨r2,h2,h3,h4⟩
    .have h5:=ad.dead i h2
     grind[wQ]
    .obtain⟨r3,h5,l5⟩:=ad.cj i r2 s h2
     rw[wQ al,av]at h5
     refine .inr ⟨r3,h5,om,λe=> ?_⟩
     have h6:=h4 om
     rw[show(entry w L fb oi).β0=oi from rfl,ao i id hi]at h6
     have a6:i<J'.length:=by grind
     have h7:=ad.val i _ (A0 a6)
     rw[wQ al,av]at h7
     grind
   .refine .inr ⟨rows, ?_,om,λ_=> ?_⟩
    .grind[xB,mQ,rZ]
    .unfold sa
     rw[Au (by rw[mQ,hm.len];omega),rZ _ _ _ _ hs]
  .have au:id<Ic.length:=(by grind)
   by_cases hs:id∈cZ
   .obtain⟨i,hi⟩:=As.1 hs
    obtain⟨al,av⟩:=A3.1 hi
    have h1:=ai.dead i (by grind[wQ])
    have h5:=ad.dead i (aa.ext.dead i h1)
    grind[wQ]
   grind[xB,mQ,rZ]
 have hinv:= @XN cZ Ic I' Jc J' an ah hm.len aa.len ay
 refine⟨v,dF (cH cZ Ic.length) r,L',_,_,he,(by grind), ?_,aa.le,ar,aE.lL ad⟩
 refine⟨?_,λj o x ho hx=> ?_,λj j' o o' x x' b a8 ho hx aw ax ab=> ?_,λj o x b ho hx ab=> ?_,λb ab hx=> ?_,hm.le.trans aa.le,B1 hm.size aa.size,aa.os.trans hm.os,aa.tape.trans hm.tape,aa.output.trans hm.output,B1 hm.drawn aa.drawn,aa.lim,hm.ext.trans ar,hm.jn⟩
 .simp[xB,sa,mQ,hm.len,aa.len]
 .rcases hinv ho hx with ⟨i,o',rfl,h1,rfl,h2⟩|⟨h0,a7,h1,h2⟩
  .exact(aa.dd i o' x h1 h2).lL ad
  .refine(hm.dd j o x h1 h2).step aa.le ar λb ab=>aa.same b ?_ (aq j o x b h0 h1 h2 ab)
   exact(hm.dd j o x h1 h2).eK ab
 .rcases hinv ho hx with ⟨i,o1,rfl,h1,rfl,h2⟩|⟨h0,a7,h1,h2⟩
  .rw[rY]at ab
   rcases hinv aw ax with ⟨i',o2,rfl,h3,rfl,h4⟩|⟨h0,a7,h3,h4⟩
   .rw[rY]
    exact aa.apart i i' o1 o2 x x' b (by grind) h1 h2 h3 h4 ab
   .intro q
    rcases aa.fN i o1 x b h1 h2 ab with h5|h5
    .have:=(hm.dd j' o' x' h3 h4).eK q
     have h6:w.heap.size<=b:=h5
     omega
    .exact aq j' o' x' b h0 h3 h4 q h5
  .rcases hinv aw ax with ⟨i',o2,rfl,h3,rfl,h4⟩|⟨aK,aJ,h3,h4⟩
   .rw[rY]
    intro q
    rcases aa.fN i' o2 x' b h3 h4 q with h5|h5
    .have:=(hm.dd j o x h1 h2).eK ab
     have h6:w.heap.size<=b:=h5
     omega
    .exact aq j o x b h0 h1 h2 ab h5
   .exact hm.apart j j' o o' x x' b a8 h1 h2 h3 h4 ab
 .rcases hinv ho hx with ⟨i,o1,rfl,h1,rfl,h2⟩|⟨h0,a7,h1,h2⟩
  .rw[rY]at ab
   rcases aa.fN i o1 x b h1 h2 ab with h5|h5
   .exact .inl (B1 hm.size h5)
   .exact a1 b h5
  .exact hm.fN j o x b h1 h2 ab
 .have aH:b∉tX fb oi:=(by grind)
  obtain⟨e1,e2⟩:=aa.same b (Dg ab hm.size) aH
  obtain⟨e3,e4⟩:=hm.same b ab hx
  exact⟨e1.trans e3,e2.trans e4⟩
structure gu (n0:Nat) (pick:ahQ) (I I':St):Prop where
 len:I'.length=pick.length
 nodup:pick.Nodup
 ob: ∀(i j:Nat) (o:Ob),pick[i]? =some j->I'[i]? =some o->I[j]? =some (yE (cH pick I.length) o)
 id: ∀i,i<n0->pick[i]? =some i
theorem gu.back {n0:Nat} {pick:ahQ} {I I':St} (h:gu n0 pick I I') (id:Nat) (O:Ob) (hx:I[cH pick I.length id]? =some O): ∃o,I'[id]? =some o/\O=yE (cH pick I.length) o:=by
 by_cases hi:id<pick.length
 .rw[wQ hi]at hx
  have hq:=A0 (show id<I'.length by rw[h.len];exact hi)
  have:=h.ob id _ _ (A0 hi) hq
  grind
 grind[pM]
theorem gu.je {n0:Nat} {pick:ahQ} {I I':St} {J:ahR} (h:gu n0 pick I I') (hl:J.length=I.length):rX (cH pick I.length) I' (pick.map λq=>J.getD q undef) I J:=by
 refine⟨λid x hx=> ?_,λid n s hx=> ?_,λid rows s hx=> ?_,λid hx=> ?_⟩
 .grind[wQ,pM]
 .obtain⟨o,ho,he⟩:=h.back id _ hx
  cases o<;>grind[yE]
 .obtain⟨o,ho,he⟩:=h.back id _ hx
  cases o<;>grind[yE]
 .obtain⟨o,ho,he⟩:=h.back id _ hx
  cases o with
  |dead=>exact ho
  |_=>simp[yE]at he
theorem Mem.pick {w:World} {L:Nat->Nat} {I I':St} {J:ahR} {pick:ahQ} (h:Mem c w L I J) (hp:gu c.cv.length pick I I') (hc:c.β0.length=c.cv.length):Mem c w L I' (pick.map λq=>J.getD q undef):=by
 have ab:=hp.je h.len
 have aa: ∀(i:Nat) (o:Ob) (x:Value),I'[i]? =some o->(pick.map λq=>J.getD q undef)[i]? =some x-> ∃j,pick[i]? =some j/\I[j]? =some (yE (cH pick I.length) o)/\J[j]? =some x:=by
  intro i o x ho hx
  have hi:i<pick.length:=by grind
  have hs:=A0 hi
  have h1:=hp.ob i _ o hs ho
  refine⟨_,hs,h1, ?_⟩
  have an:pick[i]<J.length:=by rw[h.len];grind
  grind
 refine⟨by simp[hp.len],λi o x ho hx=> ?_,λi j o o' x x' b ai ho hx aj ak he=> ?_,λi o x b ho hx he=> ?_,h.same,h.le,h.size,h.os,h.tape,h.output,h.drawn,h.lim, ?_,h.jn⟩
 .obtain⟨j,hj,h1,h2⟩:=aa i o x ho hx
  exact(h.dd j _ x h1 h2).je ab
 .obtain⟨p,ah,h1,h2⟩:=aa i o x ho hx
  obtain⟨q,hq,h3,h4⟩:=aa j o' x' aj ak
  have al:p≠q:=λe=>by
   subst e
   obtain⟨hi,e1⟩:=A3.1 ah
   obtain⟨hj,e2⟩:=A3.1 hq
   exact ai ((List.getElem_inj hp.nodup).1 om)
  have:=h.apart p q _ _ x x' b al h1 h2 h3 h4 (by grind[rY])
  grind[rY]
 .obtain⟨p,ah,h1,h2⟩:=aa i o x ho hx
  exact h.fN p _ x b h1 h2 (by grind[rY])
 .refine⟨λid a ha=> ?_,λid n s ha=> ?_,λid rows s ha=> ?_,λid ha=> ?_⟩
  .have hid:id<c.cv.length:=by grind
   have h1:=h.ext.ptr id a ha
   rw[B3,hp.id id hid]
   grind
  .have hid:id<c.cv.length:=(by grind)
   obtain⟨n',h1,h2,h3⟩:=h.ext.app id n s ha
   have ad:=hp.id id hid
   obtain⟨ae,af⟩:=A3.1 ad
   refine⟨n',ab.app id n' s (by grind[wQ]),h2,λe=> ?_⟩
   grind
  .have hid:id<c.cv.length:=(by grind)
   have ad:=hp.id id hid
   obtain⟨ae,af⟩:=A3.1 ad
   rcases h.ext.cj id rows s ha with h1|⟨r2,h1,h2,h3⟩
   .exact .inl (ab.dead id (by grind[wQ]))
   .obtain⟨r3,h5,l5⟩:=ab.cj id r2 s (by grind[wQ])
    grind
  .have hid:id<c.cv.length:=(by grind)
   have ad:=hp.id id hid
   obtain⟨ae,af⟩:=A3.1 ad
   exact ab.dead id (by rw[wQ ae,af];exact h.ext.dead id ha)
end
def fP (id:Nat) (rows:List (List V)):V->V
 | .cJ i s n lo m=>if i=id/\n=rows.length/\lo+m<=n then .sl .ro (iz rows lo m)else .cJ i s n lo m
 |v=>v
def gi (id:Nat) (rows:List (List V)):V->V
 | .fn f bY=> .fn f (bY.map (fP id rows))
 | .gJ t vs=> .gJ t (vs.map (fP id rows))
 |v=>fP id rows v
def fY (id:Nat) (rows:List (List V)):V->V
 | .agg cs=> .agg (cs.map (gi id rows))
 |v=>gi id rows v
def fZ (id:Nat) (rows:List (List V)):V->V
 | .cy vs=> .cy (vs.map (fY id rows))
 |v=>fY id rows v
def mR (id:Nat) (rows:List (List V)):Ob->Ob
 | .box cells=> .box (cells.map (gi id rows))
 | .cj rs s=> .cj (rs.map λr=>r.map (gi id rows)) s
 | .mp dJ fW cS=> .mp (dJ.map (fY id rows)) fW cS
 |o=>o
def jx (id:Nat) (rows:List (List V)) (I:St):St:=(I.set id .dead).map (mR id rows)
structure sb (I I':St):Prop where
 app: ∀(id:Nat) n s,I[id]? =some (.app n s)->I'[id]? =some (.app n s)
 cj: ∀(id:Nat) rows s,I[id]? =some (.cj rows s)-> ∃ee,I'[id]? =some (.cj ee s)/\ee.length=rows.length
 dead: ∀(id:Nat),I[id]? =some .dead->I'[id]? =some .dead
section
variable {w:World} {L:Nat->Nat} {I I':St} {J:ahR}
theorem gD.Lv (h:sb I I') {v:V} {x:Value} (r:gD w L I J v x):gD w L I' J v x:=by
 cases v with
 |sl g rows=>cases g with
  |app id=>obtain⟨hr,n,s,cG,hle,db,hl⟩:=r;exact⟨hr,n,s,h.app _ _ _ cG,hle,db,hl⟩
  |ro=>exact r
  |full=>exact r
 |cJ id s n lo m=>
  obtain⟨a,cap,hx,hm,ha,hc⟩:=r
  refine⟨a,cap,hx,hm,ha, ?_⟩
  rcases hc with hd|⟨rows,cG,hn,hb⟩
  .exact .inl (h.dead id hd)
  .obtain⟨r2,e2,l2⟩:=h.cj id rows s cG
   grind
 |iH id s n i j=>
  obtain⟨b,o,hx,hc⟩:=r
  refine⟨b,o,hx, ?_⟩
  rcases hc with hd|⟨rows,cG,hn,hb⟩
  .exact .inl (h.dead id hd)
  .obtain⟨r2,e2,l2⟩:=h.cj id rows s cG
   grind
 |_=>exact r
theorem sb.Iy {id:Nat} {rows:List (List V)} (I:St):sb I (I.map (mR id rows)):=by
 refine⟨λi n s h=> ?_,λi rs s h=>⟨_,by rw[B3,h];rfl,sm⟩,λi h=> ?_⟩
 .rw[B3,h];rfl
 .rw[B3,h];rfl
theorem XP {c:Ctx} {L':Nat->Nat} {id s n lo m:Nat} {rows:List (List V)} {x:Value} (hm:Mem c w L I J) (cG:I[id]? =some (.cj rows s)) (hp:xQ rows) (hL: ∀b n' cap,J[id]? =some (.slice (some ⟨b,0,none⟩) n' cap)->0<cap->rows.length*s<=L' b)
  (hle:Le w L w L') (r:gD w L I J (.cJ id s n lo m) x) (hn:n=rows.length) (aw:lo+m<=n):cF w L' (.sl .ro (iz rows lo m)) x:=by
 obtain⟨a,cap,rfl,ax,ab,hc⟩:=r
 have ak:(iz rows lo m).length=m:=by grind[iz]
 by_cases h0:m=0
 .subst h0
  have:iz rows lo 0= []:=by rfl
  rw[this]
  exact .jb _ _ _ sm sm
 rcases hc with hd|⟨cA,ad,ay,hb⟩
 .grind
 .rw[cG]at ad;cases ad
  obtain⟨b0,c0,db,dg,az,aa⟩:=hb hn
  clear hb ab
  have a1:0<m:=om
  have al:lo<c0:=om
  obtain⟨k0,rfl,rfl⟩:=aa al
  clear aa
  have ae:0<c0:=om
  have a6:=hL _ _ _ db ae
  obtain⟨a2,au,e1,av,af,an,cN⟩:=hm.dd id _ _ cG db
  cases e1
  obtain⟨b',arr,T,fz,e2,hh,_,a7,_,ah⟩:=cN ae
  cases e2
  clear cN
  have hu:eI s (iz rows lo m):=λq hq=>by
   obtain⟨q0,a8,rfl⟩:=Ac.1 hq
   grind
  have ao:=yA hu
  rw[ak]at ao
  have aq:(lo+m)*s<=rows.length*s:=Aj _ om
  rw[B4]at aq
  have key:cF w L' (.sl .ro (iz rows lo m)) (.slice (some ⟨k0,lo*s,none⟩) (iz rows lo m).length cap):=by
   refine .of_flat af hu (by grind) om sm sm λk v hk=> ?_
   have aA:k<m*s:=by grind
   have hi:k/s<m:=by simp_all[C4]
   have hj:k%s<s:=Cs _ af
   have ar:k=k/s*s+k%s:=by grind[D3]
   rw[ar,yQ _ _ hu hj]at hk
   simp only[iz,B3,An,ahg hi,C8]at hk
   have ai:lo+k/s<rows.length:=om
   rw[A0 ai]at hk
   simp only[Bf,Ay,B3,Aw]at hk
   obtain⟨v0,aB,rfl⟩:=hk
   have hf:rows.flatten[(lo+k/s)*s+k%s]? =some v0:=by
    rw[yQ _ _ an hj,A0 ai];grind
   obtain⟨z,hz,rz⟩:=ah.get _ _ hf
   have aj:(lo+k/s)*s+k%s=lo*s+k:=by grind
   rw[aj,An,ahg om,Ao]at hz
   refine⟨z,by simp only[World.cell?,hh];grind, ?_⟩
   refine(cW.ly rz ?_).mono hle
   unfold xQ at hp
   grind
  grind
def iA (J:ahR) (id k:Nat) (L:Nat->Nat):Nat->Nat:=
 match J[id]? with
 |some (.slice (some a) _ cap)=>if 0<cap then xK L a.block k else L
 |_=>L
theorem PT {c:Ctx} {id s:Nat} {rows:List (List V)} (hm:Mem c w L I J) (cG:I[id]? =some (.cj rows s)) (hp:xQ rows):
  Mem c w (iA J id (rows.length*s) L) (jx id rows I) J/\Le w L w (iA J id (rows.length*s) L)/\Ext I J (jx id rows I) J/\(∀v x,dt w L I J v x->dt w (iA J id (rows.length*s) L) (jx id rows I) J (fZ id rows v) x):=by
 have aq:id<I.length:=(by grind)
 obtain⟨x0,db⟩: ∃x0,J[id]? =some x0:=⟨_,A0 (by rw[hm.len];exact aq)⟩
 obtain⟨a,cap,rfl,dg,hs,aC,cN⟩:=hm.dd id _ _ cG db
 have aD:rows.length*s<=cap*s:=Aj _ dg
 have hle:Le w L w (iA J id (rows.length*s) L):=by
  refine⟨λb=> ?_,sm⟩
  unfold iA
  rw[db]
  cases a with
  |none=>simp
  |some a=>
   by_cases h0:0<cap
   .obtain⟨b',arr,T,fz,e,hh,hf,ai,hl,aA⟩:=cN h0
    cases e
    simp only[h0,aho,xK]
    grind
   grind
 have ad:Ext I J (I.set id .dead) J:=by
  refine⟨sm,(by grind),(by grind),(by grind)⟩
  all_goals grind
 have ab:sb (I.set id .dead) (jx id rows I):=sb.Iy _
 have ae:Ext (I.set id .dead) J (jx id rows I) J:=
  ⟨sm,λi n s' h=>⟨n,ab.app i n s' h,om,λ_=>rfl⟩,λi rs s' h=>by
   obtain⟨r2,h2,l2⟩:=ab.cj i rs s' h
   grind,λi h=>ab.dead i h⟩
 have ar: ∀b n' aa,J[id]? =some (.slice (some ⟨b,0,none⟩) n' aa)->0<aa->rows.length*s<=iA J id (rows.length*s) L b:=(by simp_all[iA,xK])
 have an: ∀v x,gD w L I J v x->gD w (iA J id (rows.length*s) L) (jx id rows I) J (fP id rows v) x:=λv x r=>by
  have au:gD w (iA J id (rows.length*s) L) (jx id rows I) J v x:=gD.Lv ab (r.mono hle ad)
  cases v with
  |cJ i s' n lo m=>
   simp only[fP]
   split
   .rename_i hc
    obtain⟨rfl,hn,av⟩:=hc
    have af:s'=s:=by
     obtain⟨_,_,_,_,_,hc⟩:=r
     grind
    subst af
    exact XP hm cG hp ar hle r hn av
   omega
  |_=>exact au
 have aw: ∀v x,cW w L I J v x->cW w (iA J id (rows.length*s) L) (jx id rows I) J (gi id rows v) x:=λv x r=>by
  cases v with
  |fn f bY=>obtain⟨xs,hx,hc⟩:=r;exact⟨xs,hx,(by grind[bP.fD])⟩
  |gJ t v=>obtain⟨y,hx,hc⟩:=r;exact⟨y,hx,(by grind[bP.fD])⟩
  |cJ i s' n lo m=>
   have h2:=an (.cJ i s' n lo m) x r
   show cW w _ _ J (fP id rows (.cJ i s' n lo m)) x
   simp only[fP]at h2⊢
   split
   .rename_i hc;rw[ahg hc]at h2;exact h2
   .rename_i hc;rw[ahf hc]at h2;exact h2
  |_=>simp only[cW]at r;have h2:=an _ _ r;exact h2
 have ax: ∀v x,dW w L I J v x->dW w (iA J id (rows.length*s) L) (jx id rows I) J (fY id rows v) x:=λv x r=>by
  cases v with
  |agg cs=>obtain⟨xs,hx,hc⟩:=r;exact⟨xs,hx,(by grind[bP.fD])⟩
  |_=>simp only[dW]at r;have h2:=aw _ _ r;exact dW.dH h2
 have ay: ∀v x,dt w L I J v x->dt w (iA J id (rows.length*s) L) (jx id rows I) J (fZ id rows v) x:=λv x r=>by
  cases v with
  |u=>trivial
  |cy vs=>obtain⟨xs,hx,hc⟩:=r;exact⟨xs,hx,(by grind[bP.fD])⟩
  |_=>simp only[dt]at r;have h2:=ax _ _ r;exact dt.kS h2
 refine⟨?_,hle,ad.trans ae,ay⟩
 have aj: ∀b,cU (.cj rows s) (.slice a rows.length cap)≠some b->iA J id (rows.length*s) L b=L b:=λb h=>by
  unfold iA
  rw[db]
  cases a with
  |none=>rfl
  |some a=>
   by_cases h0:0<cap
   .simp_all[cU,xK];omega
   grind
 have aE: ∀i o x,i≠id->I[i]? =some o->J[i]? =some x->gK w (iA J id (rows.length*s) L) (jx id rows I) J (mR id rows o) x:=λi o x hi ho hx=>by
  have hr:=hm.dd i o x ho hx
  have ak: ∀b,cU o x=some b->iA J id (rows.length*s) L b=L b:=λb hb=>aj b λq=>hm.apart i id o _ x _ b hi ho hx cG db hb q
  cases o with
  |box cells=>
   obtain⟨b,arr,T,fz,rfl,hh,hf,hl,hc⟩:=hr
   exact⟨b,arr,T,fz,rfl,hh,hf,(ak b rfl).trans hl,(by grind[bP.fD])⟩
  |app n s'=>
   obtain⟨a',aa,rfl,hn,af,ah⟩:=hr
   refine⟨a',aa,rfl,hn,af,λaz=> ?_⟩
   obtain⟨b,o',arr,T,fz,rfl,hh,hf,ai,hl⟩:=ah az
   exact⟨b,o',arr,T,fz,rfl,hh,hf,ai,(by grind[cU])⟩
  |cj rs s'=>
   obtain⟨a',aa,rfl,hn,af,aF,ah⟩:=hr
   refine⟨a',aa,sm,by grind,af,λr hr=> ?_,λh0=> ?_⟩
   .grind
   .obtain⟨b,arr,T,fz,rfl,hh,hf,ai,hl,hc⟩:=ah h0
    refine⟨b,arr,T,fz,rfl,hh,hf,ai,(by grind[cU]), ?_⟩
    grind[bP.fD]
  |dead=>trivial
  |mp dJ fW cS=>
   obtain⟨b,es,rfl,hh,hl,hc,a1⟩:=hr
   exact⟨b,es,rfl,hh,(ak b rfl).trans hl,(by grind[bP.fD]),a1⟩
  |it m since seen last=>
   obtain⟨b,mo,rfl,hh,hl,hc⟩:=hr
   exact⟨b,mo,rfl,hh,(ak b rfl).trans hl,hc⟩
 have inv: ∀i o,(jx id rows I)[i]? =some o->(i=id/\o= .dead)\/(i≠id/\ ∃o',I[i]? =some o'/\o=mR id rows o'):=λi o h=>by
  unfold jx at h
  rw[B3,Aw]at h
  obtain⟨o',h1,rfl⟩:=h
  rcases oc h1 with ⟨rfl,rfl,_⟩|⟨al,h2⟩
  .exact .inl (by trivial)
  grind
 have ao: ∀o x,cU (mR id rows o) x=cU o x:=λo x=>by
  cases o with
  |cj rs s'=>cases x with
   |slice a n cap=>cases a<;>rfl
   |_=>rfl
  |_=>cases x<;>first|rfl|(rename_i q;cases q<;>rfl)
 refine⟨by simp[jx,hm.len],λi o x ho hx=> ?_,λi j o o' x x' b a6 ho hx a7 a8 hb=> ?_,λi o x b ho hx hb=> ?_,λb hb hx=> ?_,hm.le.trans hle,hm.size,hm.os,hm.tape,hm.output,hm.drawn,λb hb=> ?_,hm.ext.trans (ad.trans ae),hm.jn⟩
 .rcases inv i o ho with ⟨_,rfl⟩|⟨al,o',h2,rfl⟩
  .trivial
  grind
 .rcases inv i o ho with ⟨_,rfl⟩|⟨al,o1,h2,rfl⟩
  .trivial
  .rcases inv j o' a7 with ⟨_,rfl⟩|⟨aB,o2,h3,rfl⟩
   .simp[cU]
   .rw[ao]at hb⊢
    exact hm.apart i j o1 o2 x x' b a6 h2 hx h3 a8 hb
 .rcases inv i o ho with ⟨_,rfl⟩|⟨al,o1,h2,rfl⟩
  .trivial
  .rw[ao]at hb
   exact hm.fN i o1 x b h2 hx hb
 .obtain⟨e1,e2⟩:=hm.same b hb hx
  refine⟨e1, ?_⟩
  rw[aj b λq=> ?_]
  .exact e2
  .rcases hm.fN id _ _ b cG db q with h|h
   all_goals grind
 .rw[aj b λq=> ?_]
  .exact hm.lim b hb
  .have:=(hm.dd id _ _ cG db).eK q
   omega
end
variable {c:Ctx}{w:World}{I:St}{cells:List V}{L:Nat->Nat}{J:ahR}{off:Nat}
theorem PU {id s:Nat} (hm:Mem c w L I J) (hs:0<s) (cG:I[id]? =some (.box cells)) (hc:cells[off]? =some (.sl .full [])):
  ∃x,Mem c w L (I.set id (.box (cells.set off (.cJ I.length s 0 0 0)))++ [.cj [] s]) (J++ [x])/\Ext I J (I.set id (.box (cells.set off (.cJ I.length s 0 0 0)))++ [.cj [] s]) (J++ [x]):=by
 have ah:id<I.length:=(by grind)
 obtain⟨x0,db⟩: ∃x0,J[id]? =some x0:=⟨_,A0 (by rw[hm.len];exact ah)⟩
 obtain⟨b,arr,T,fz,rfl,hh,hf,hl,ab⟩:=hm.dd id _ _ cG db
 obtain⟨y,hy,ry⟩:=ab.get _ _ hc
 have an:cF w L (.sl .full []) y:=ry
 obtain⟨a,cap,ak,_,dg⟩:=an.len
 have ad:=dg rfl
 simp only[Ct]at ad ak
 subst ad
 have h1:=hm.lJ (s:=s) (a:=a) hs
 have ae:=Ext.push I J hm.len (.cj [] s) (.slice a 0 0)
 have ai:(I++ [Ob.cj [] s])[id]? =some (.box cells):=by grind
 have aj:(J++ [Value.slice a 0 0])[id]? =some (.pointer (some ⟨b,0,none⟩)):=by grind
 have aa:Ext (I++ [Ob.cj [] s]) (J++ [Value.slice a 0 0]) ((I++ [Ob.cj [] s]).set id (.box (cells.set off (.cJ I.length s 0 0 0)))) (J++ [Value.slice a 0 0]):=Ext.jt ai _
 have af:=yM _ _ _ aj
 have key:=h1.fm (w':=w) (L':=L) id (.box (cells.set off (.cJ I.length s 0 0 0))) (.pointer (some ⟨b,0,none⟩)) (Le.refl _ _) (by grind) (λk=>k=b)
  (λj o' x' k hj ao aq hk e=>by subst e;exact h1.apart j id o' _ x' _ k hj ao aq ai aj hk rfl)
  (λk e=>by subst e;exact h1.fN id _ _ k ai aj rfl)
  sm rfl rfl rfl rfl h1.lim ?_ (λk hk=>by simpa[cU]using hk.symm)
 .rw[af,Do _ _ ah]at key
  rw[Do _ _ ah]at aa
  exact⟨_,key,ae.trans aa⟩
 .rw[af]
  refine⟨b,arr,T,fz,rfl,hh,hf,hl, ?_⟩
  refine bP.of (by rw[List.length_set];exact ab.length) λk p z hp hz=> ?_
  rcases oc hp with ⟨rfl,rfl,_⟩|⟨au,ar⟩
  .rw[hy]at hz;cases hz
   rw[ak]
   refine⟨a,0,rfl,om,om,.inr ⟨[], ?_,om,λ_=>⟨a,0, ?_,rfl,om,om⟩⟩⟩
   .grind
   .rw[<-hm.len];simp
  .obtain⟨z',al,rz⟩:=ab.get _ _ ar
   rw[hz]at al;cases al
   exact rz.mono (Le.refl _ _) (ae.trans aa)
theorem XQ {id s:Nat} (hm:Mem c w L I J) (hs:0<s) (cG:I[id]? =some (.box cells)) (hc:cells[off]? =some (.sl .full [])):
  ∃x,Mem c w L (I.set id (.box (cells.set off (.sl (.app I.length) [])))++ [.app 0 s]) (J++ [x])/\Ext I J (I.set id (.box (cells.set off (.sl (.app I.length) [])))++ [.app 0 s]) (J++ [x]):=by
 have ah:id<I.length:=(by grind)
 obtain⟨x0,db⟩: ∃x0,J[id]? =some x0:=⟨_,A0 (by rw[hm.len];exact ah)⟩
 obtain⟨b,arr,T,fz,rfl,hh,hf,hl,ab⟩:=hm.dd id _ _ cG db
 obtain⟨y,hy,ry⟩:=ab.get _ _ hc
 have an:cF w L (.sl .full []) y:=ry
 obtain⟨a,cap,ak,_,dg⟩:=an.len
 have ad:=dg rfl
 simp only[Ct]at ad ak
 subst ad
 have h1:=hm.own (n:=0) (a:=a) hs
 have ae:=Ext.push I J hm.len (.app 0 s) (.slice a 0 0)
 have ai:(I++ [Ob.app 0 s])[id]? =some (.box cells):=by grind
 have aj:(J++ [Value.slice a 0 0])[id]? =some (.pointer (some ⟨b,0,none⟩)):=by grind
 have aa:Ext (I++ [Ob.app 0 s]) (J++ [Value.slice a 0 0]) ((I++ [Ob.app 0 s]).set id (.box (cells.set off (.sl (.app I.length) [])))) (J++ [Value.slice a 0 0]):=Ext.jt ai _
 have af:=yM _ _ _ aj
 have key:=h1.fm (w':=w) (L':=L) id (.box (cells.set off (.sl (.app I.length) []))) (.pointer (some ⟨b,0,none⟩)) (Le.refl _ _) (by grind) (λk=>k=b)
  (λj o' x' k hj ao aq hk e=>by subst e;exact h1.apart j id o' _ x' _ k hj ao aq ai aj hk rfl)
  (λk e=>by subst e;exact h1.fN id _ _ k ai aj rfl)
  sm rfl rfl rfl rfl h1.lim ?_ (λk hk=>by simpa[cU]using hk.symm)
 .rw[af,Do _ _ ah]at key
  rw[Do _ _ ah]at aa
  exact⟨_,key,ae.trans aa⟩
 .rw[af]
  refine⟨b,arr,T,fz,rfl,hh,hf,hl, ?_⟩
  refine bP.of (by rw[List.length_set];exact ab.length) λk p z hp hz=> ?_
  rcases oc hp with ⟨rfl,rfl,_⟩|⟨au,ar⟩
  .rw[hy]at hz;cases hz
   rw[ak]
   refine⟨.jb .ro a 0 om sm,0,s, ?_,om,λ_=> ?_,sm⟩
   .grind
   .rw[<-hm.len];simp
  .obtain⟨z',al,rz⟩:=ab.get _ _ ar
   rw[hz]at al;cases al
   exact rz.mono (Le.refl _ _) (ae.trans aa)
def AS (cells:List V) (s off n:Nat):List (List V):=(List.range n).map λi=>((cells.drop (off+i*s)).take s).map ly
def vj (id:Nat) (cells:List V):V->V
 | .jO i s off n=>if i=id/\0<s/\off+n*s<=cells.length/\((cells.drop off).take (n*s)).all pc=true then .sl .ro (AS cells s off n)else .jO i s off n
 |v=>v
theorem XR {s n:Nat} (h:off+n*s<=cells.length):eI s (AS cells s off n):=λr hr=>by
 obtain⟨i,hi,rfl⟩:=Ac.1 hr
 have hi:=Co.1 hi
 have:(i+1)*s<=n*s:=Aj _ hi
 grind
theorem XS {id:Nat} (hm:Mem c w L I J) (cG:I[id]? =some (.box cells)):
  ∃L',Mem c w L' (I.set id .dead) J/\Le w L w L'/\Ext I J (I.set id .dead) J/\(∀v x,dt w L I J v x->dt w L' (I.set id .dead) J (vj id cells v) x):=by
 have ak:id<I.length:=(by grind)
 obtain⟨x0,db⟩: ∃x0,J[id]? =some x0:=⟨_,A0 (by rw[hm.len];exact ak)⟩
 obtain⟨b,arr,T,fz,rfl,hh,hf,hl,ae⟩:=hm.dd id _ _ cG db
 have hle:Le w L w (xK L b cells.length):=by
  refine⟨λk=> ?_,sm⟩
  simp only[xK]
  grind
 have aa:Ext I J (I.set id .dead) J:=by
  refine⟨sm,(by grind),(by grind),(by grind)⟩
  all_goals grind
 have ab: ∀k,k≠b->xK L b cells.length k=L k:=λk h=>ahf h
 have inv: ∀i o,(I.set id .dead)[i]? =some o->(i=id/\o= .dead)\/(i≠id/\I[i]? =some o):=(by grind)
 refine⟨xK L b cells.length,⟨by simp[hm.len],λi o x ho hx=> ?_,λi j o o' x x' k al ho hx an ao hb=> ?_,λi o x k ho hx hb=> ?_,λk hb hx=> ?_,hm.le.trans hle,hm.size,hm.os,hm.tape,hm.output,hm.drawn,λk hb=> ?_,hm.ext.trans aa,hm.jn⟩,hle,aa,λv x r=> ?_⟩
 .rcases inv i o ho with ⟨_,rfl⟩|⟨ad,h2⟩
  .trivial
  .exact(hm.dd i o x h2 hx).step hle aa λk hk=>⟨rfl,ab k λe=>by subst e;exact hm.apart i id o _ x _ k ad h2 hx cG db hk rfl⟩
 .rcases inv i o ho with ⟨_,rfl⟩|⟨ad,h2⟩
  .trivial
  .rcases inv j o' an with ⟨_,rfl⟩|⟨au,h3⟩
   .simp[cU]
   .exact hm.apart i j o o' x x' k al h2 hx h3 ao hb
 .rcases inv i o ho with ⟨_,rfl⟩|⟨ad,h2⟩
  .trivial
  .exact hm.fN i o x k h2 hx hb
 .obtain⟨e1,e2⟩:=hm.same k hb hx
  refine⟨e1, ?_⟩
  rw[ab k λq=> ?_]
  .exact e2
  .subst q
   rcases hm.fN id _ _ k cG db rfl with h|h
   all_goals grind
 .rw[ab k λq=> ?_]
  .exact hm.lim k hb
  grind
 .have aq:=r.mono hle aa
  cases v with
  |jO i s off n=>
   simp only[vj]
   split
   .rename_i hc
    obtain⟨rfl,hs,hlen,hp⟩:=hc
    obtain⟨b',af,rfl⟩:=r
    rw[db]at af;cases af
    have hu:=XR (s:=s) (off:=off) (n:=n) hlen
    have ah:(AS cells s off n).length=n:=by simp[AS]
    have key:cF w (xK L b cells.length) (.sl .ro (AS cells s off n)) (.slice (some ⟨b,off,none⟩) (AS cells s off n).length n):=by
     refine .of_flat hs hu (by grind[xK]) om sm om λk v hk=> ?_
     have av:k<n*s:=by rw[<-ah,<-yA hu];grind
     have hi:k/s<n:=by simp_all[C4]
     have hj:k%s<s:=Cs _ hs
     have ar:k=k/s*s+k%s:=by grind[D3]
     rw[ar,yQ _ _ hu hj]at hk
     simp only[AS,B3,De hi,Bf,Ay,An,ahg hj,C8,Aw]at hk
     obtain⟨v0,ai,rfl⟩:=hk
     have aj:off+k/s*s+k%s=off+k:=om
     rw[aj]at ai
     obtain⟨z,hz,rz⟩:=ae.get _ _ ai
     rw[Ao]at hz
     refine⟨z,by simp only[World.cell?,hh];grind,(cW.ly rz ?_).mono hle⟩
     rw[Am]at hp
     refine hp _ (As.2 ⟨k, ?_⟩)
     grind
    rw[ah]at key
    simpa
   omega
  |_=>exact aq
inductive nG:List V->St->List V->St->Prop
 |refl (vs:List V) (I:St):nG vs I vs I
 |step (id s:Nat) (rows:List (List V)) {vs gT:List V} {I I':St} (cG:I[id]? =some (.cj rows s)) (hp:xQ rows) (h:nG (vs.map (fZ id rows)) (jx id rows I) gT I'):nG vs I gT I'
 |nil (id off s:Nat) (cells:List V) {vs gT:List V} {I I':St} (hs:0<s) (cG:I[id]? =some (.box cells)) (hc:cells[off]? =some (.sl .full [])) (h:nG vs (I.set id (.box (cells.set off (.cJ I.length s 0 0 0)))++ [.cj [] s]) gT I'):nG vs I gT I'
 |box (id:Nat) (cells:List V) {vs gT:List V} {I I':St} (cG:I[id]? =some (.box cells)) (h:nG (vs.map (vj id cells)) (I.set id .dead) gT I'):nG vs I gT I'
 |Lw (i s:Nat) {vs gT:List V} {I I':St} (hs:0<s) (hv:vs[i]? =some (.sl .full [])) (h:nG (vs.set i (.cJ I.length s 0 0 0)) (I++ [.cj [] s]) gT I'):nG vs I gT I'
theorem nG.ok {vs gT:List V} {I':St} (h:nG vs I gT I'): ∀{L:Nat->Nat} {J xs:ahR},Mem c w L I J->bP (dt w L I J) vs xs->
  ∃L' J',Mem c w L' I' J'/\Le w L w L'/\Ext I J I' J'/\bP (dt w L' I' J') gT xs:=by
 induction h with
 |refl vs I=>grind[Le.refl,Ext.refl]
 |step id s rows cG hp _ ih=>
  intro L J xs hm ha
  obtain⟨h1,h2,h3,h4⟩:=PT hm cG hp
  obtain⟨L',J',h5,h6,h7,h8⟩:=ih h1 (bP.fD (f:=fZ id rows) (λ_ _ q=>h4 _ _ q) ha)
  exact⟨L',J',h5,h2.trans h6,h3.trans h7,h8⟩
 |nil id off s cells hs cG hc _ ih=>
  intro L J xs hm ha
  obtain⟨x,h1,h2⟩:=PU hm hs cG hc
  obtain⟨L',J',h5,h6,h7,h8⟩:=ih h1 (ha.imp λ_ _ q=>q.mono (Le.refl _ _) h2)
  exact⟨L',J',h5,h6,h2.trans h7,h8⟩
 |box id cells cG _ ih=>
  intro L J xs hm ha
  obtain⟨L1,h1,h2,h3,h4⟩:=XS hm cG
  obtain⟨L',J',h5,h6,h7,h8⟩:=ih h1 (bP.fD (f:=vj id cells) (λ_ _ q=>h4 _ _ q) ha)
  exact⟨L',J',h5,h2.trans h6,h3.trans h7,h8⟩
 |Lw i s hs hv _ ih=>
  rename_i ab ae s0 s1 _
  intro L J xs hm ha
  obtain⟨x,hx,r⟩:=ha.get _ _ hv
  have hr:cF w L (.sl .full []) x:=r
  obtain⟨ad,rfl⟩: ∃ad,x= .slice ad 0 0:=by
   cases hr<;>grind
  have h1:=hm.lJ (a:=ad) hs
  have aa:=Ext.push _ _ hm.len (Ob.cj [] s) (.slice ad 0 0)
  have h2:bP (dt w L (s0++ [Ob.cj [] s]) (J++ [.slice ad 0 0])) (ab.set i (.cJ s0.length s 0 0 0)) xs:=by
   refine bP.of (by rw[List.length_set];exact ha.length) λj p y hp hy=> ?_
   rcases oc hp with ⟨rfl,rfl,_⟩|⟨_,hp⟩
   .rw[hx]at hy;cases hy
    exact Gd (w':=w) (L':=L) (s:=s) (rows:= []) (cap:=0) (a0:=ad) hm.len sm om
   .obtain⟨z,hz,rz⟩:=ha.get _ _ hp
    rw[hy]at hz;cases hz
    exact rz.mono (Le.refl _ _) aa
  obtain⟨L',J',h5,h6,h7,h8⟩:=ih h1 h2
  exact⟨L',J',h5,h6,aa.trans h7,h8⟩
def flatK:V->Bool
 | .bool _| .int _ _| .str _| .fJ| .u=>true
 | .raw _=>true
 | .sl _ rows=>rows.isEmpty
 |_=>false
def Iz:V->Bool
 | .agg cs=>cs.all flatK
 |v=>flatK v
def Gg:V->Bool
 | .cy vs=>vs.all Iz
 |v=>Iz v
section
variable {w w':World} {L L':Nat->Nat} {I I':St} {J J':ahR}
variable {x:Value}
theorem PV {v:V} (h:flatK v) (r:cW w L [] [] v x):cW w' L' I' J' v x:=by
 cases v with
 |sl g rows=>
  have hr:rows= []:=by grind[flatK]
  subst hr
  cases g with
  |app id=>obtain⟨_,n,s,h,_⟩:=r;grind
  |ro=>
   cases r with
   |jb _ a cap hg ha=>exact cF.jb _ _ _ hg ha
   |sl _ _ s b o cap c ha hs hlen fq dg hg hc hr=>exact cF.jb _ _ _ om om
  |full=>
   cases r with
   |jb _ a cap hg ha=>exact cF.jb _ _ _ hg ha
   |sl _ _ s b o cap c ha hs hlen fq dg hg hc hr=>exact cF.jb _ _ _ hg om
 |bool b=>cases r;exact cF.bool _
 |int k n=>cases r;exact cF.int _ _
 |str s=>cases r;exact cF.str _
 |fJ=>cases r;exact cF.fJ
 |raw v=>cases r with|raw _ h=>exact cF.raw _ h
 |u=>exact r
 |_=>simp[flatK]at h
theorem PX {v:V} (h:Iz v) (r:dW w L [] [] v x):dW w' L' I' J' v x:=by
 cases v with
 |agg cs=>
  obtain⟨xs,hx,hc⟩:=r
  refine⟨xs,hx, ?_⟩
  clear hx
  simp only[Iz]at h
  induction cs generalizing xs with
  |nil=>cases xs<;>simpa
  |cons c cs ih=>cases xs with
   |nil=>simpa
   |cons y ys=>
    simp only[Bv,Ab]at h
    exact⟨PV h.1 hc.1,ih h.2 _ hc.2⟩
 |cy vs=>simpa
 |fn f c=>trivial
 |gJ t c=>trivial
 |_=>exact dW.dH (PV (w:=w) (L:=L) h r)
theorem XT {v:V} (h:Gg v) (r:dt w L [] [] v x):dt w' L' I' J' v x:=by
 cases v with
 |cy vs=>
  obtain⟨xs,hx,hc⟩:=r
  refine⟨xs,hx, ?_⟩
  clear hx
  simp only[Gg]at h
  induction vs generalizing xs with
  |nil=>cases xs<;>simpa
  |cons c cs ih=>cases xs with
   |nil=>simpa
   |cons y ys=>
    simp only[Bv,Ab]at h
    exact⟨PX h.1 hc.1,ih h.2 _ hc.2⟩
 |u=>trivial
 |_=>exact dt.kS (PX (w:=w) (L:=L) h r)
end
theorem VC.view {P:Program} {c:Ctx} {f:FuncId} {bY args cc af:List V} {Ic I1:St} {R:V->St->Prop} {K:V->St->Prop} (hc:bN P f cc [] R) (hb:xF P f) (hf:nG (args++bY) Ic af I1)
  (aa:bP (cP (cH [] I1.length)) cc af) (hR: ∀r s,R r s->s= []/\Gg r) (hk: ∀r,R r []->K r Ic):VC P c (.fn f bY) args Ic K:=by
 refine⟨f,bY,rfl,.inl ⟨Iw hb,λw L Jc ab hm hv=> ?_⟩⟩
 obtain⟨L1,J1,aj,a6,au,ak⟩:=hf.ok hm hv
 have al:rX (cH [] I1.length) [] [] I1 J1:=by
  have aq: ∀id,I1.length<=cH [] I1.length id:=λid=>by simp[cH]
  refine⟨λid x hx=> ?_,λid n s hx=> ?_,λid rows s hx=> ?_,λid hx=> ?_⟩
  .have h1:=(A3.1 hx).1;have h2:=aq id;rw[aj.len]at h1;omega
  all_goals
   have h1:=(A3.1 hx).1;have h2:=aq id;omega
 have av:Mem (entry w L1 [] []) w L1 [] []:=
  ⟨rfl,λi o x ho _=>by simp at ho,λi j o o' x x' b _ ho _ _ _ _=>by simp at ho,λi o x b ho _ _=>by simp at ho,λb _ _=>⟨rfl,rfl⟩,Le.refl _ _,A7 _,rfl,rfl,rfl,A7 _,aj.lim,Ext.refl _ _,aj.jn.mono aj.le⟩
 have aw:bP (dt w L1 [] []) cc ab:=by
  clear hf hc hk
  induction cc generalizing af ab with
  |nil=>cases af with
   |nil=>cases ab with
    |nil=>trivial
    |cons _ _=>exact ak.elim
   |cons _ _=>exact aa.elim
  |cons p cc ih=>cases af with
   |nil=>exact aa.elim
   |cons q az=>cases ab with
    |nil=>exact ak.elim
    |cons y ys=>
     refine⟨xx al aa.1 ak.1, ?_⟩
     clear ih
     have key: ∀(cc az:List V) (ys:ahR),bP (cP (cH [] I1.length)) cc az->bP (dt w L1 I1 J1) az ys->bP (dt w L1 [] []) cc ys:=by
      intro cc
      induction cc with
      |nil=>intro az ys h1 h2;cases az with
       |nil=>cases ys with
        |nil=>trivial
        |cons _ _=>exact h2.elim
       |cons _ _=>exact h1.elim
      |cons p l ih=>intro az ys h1 h2;cases az with
       |nil=>exact h1.elim
       |cons q az=>cases ys with
        |nil=>exact h2.elim
        |cons y ys=>exact⟨xx al h1.1 h2.1,ih az ys h1.2 h2.2⟩
     exact key _ _ _ aa.2 ak.2
 refine(hc w L1 [] ab av aw).mono λe w' ⟨v,r,L2,I',J',he,ar,a7,ad,ax⟩=> ?_
 obtain⟨rfl,an⟩:=hR r I' ar
 have ay:J'= []:=Aq (by rw[ad.len];rfl)
 subst ay
 have ae: ∀b,b<w.heap.size->w'.heap[b]? =w.heap[b]? :=λb hb=>(ad.same b hb (by show b∉tX [] [];simp[tX])).1
 have a1:w.heap.size<=w'.heap.size:=ad.size
 let L3:Nat->Nat:=λb=>if b<w.heap.size then L b else L2 b
 have ao: ∀b,b<w.heap.size->L3 b=L b:=λb hb=>ahg hb
 have ah:Le w L w' L3:=by
  refine⟨λb=> ?_,λb o ho=> ?_⟩
  .by_cases hb:b<w.heap.size
   .rw[ao b hb];exact A7 _
   .rw[hm.lim b om];exact A4 _
  .have hb:b<w.heap.size:=by
    rcases Bx b w.heap.size with hb|hb
    .exact hb
    .rw[hm.lim b hb]at ho;omega
   exact AF (ae b hb) o
 refine⟨v,r,L3,Ic,Jc,he,hk r ar, ?_,ah,Ext.refl _ _,XT an ax⟩
 refine⟨hm.len,λi o x ho hx=>(hm.dd i o x ho hx).step ah (Ext.refl _ _) λb hb=> ?_,hm.apart,hm.fN,λb hb hx=> ?_,hm.le.trans ah,B1 hm.size a1,ad.os.trans hm.os,ad.tape.trans hm.tape,ad.output.trans hm.output,B1 hm.drawn ad.drawn,λb hb=> ?_,hm.ext,hm.jn⟩
 .have ai:=(hm.dd i o x ho hx).eK hb
  exact⟨ae b ai,ao b ai⟩
 .have ai:=Dg hb hm.size
  rw[ae b ai,ao b ai]
  exact hm.same b hb hx
 .show(if b<w.heap.size then L b else L2 b)=0
  rw[ahf om]
  exact ad.lim b hb
def ct (P:Program) (e:Env) (I:St):Op->R
 | .move x=> .ok (zG e x)
 | .assign x=> .ok (zG e x)
 | .pick x y z=>w7 (zG e x) (zG e y) (zG e z)
 | .alloc t=>qW P t I
 | .box _ x=>uZ I (zG e x)
 | .build t ps=>xf (xY P t) (eU P t) (ps.toList.map λp=>(p.1,zG e p.2))
 | .buildSlice t n ps=>vd ((eE P t).map (·.1)) n (ps.toList.map λp=>(p.1,zG e p.2))
 | .load t x=>mL P t I (zG e x)
 | .store t x y=>uY P t I (zG e x) (zG e y)
 | .nilCheck x=>xa (zG e x)
 | .binOp op t x y _=>if pe y=true then uX op (iK P t) (zG e x)else if qY y=true then xt op (mN P t) (zG e x)else mz op (iK P t) (ko P t) (zG e x) (zG e y)
 | .unOp op _ x=>mK op (zG e x)
 | .convert t t' x=>ve (ju P t) (ju P t') (zG e x)
 | .slice t x lo hi none=>rV (iI P t) (dI P t) ((eE P t).map (·.1)) (zG e x) (lo.map (zG e)) (hi.map (zG e))
 | .slice t x (some lo) (some hi) (some mx)=>xh ((eE P t).map (·.1)) (zG e x) (zG e lo) (zG e hi) (zG e mx)
 | .fieldAddr t x f=>xc P t (zG e x) f
 | .field t x f=>xi (cx P t f) (zG e x)
 | .indexAddr t x i=>u7 (eT P t) (iI P t) (zG e x) (zG e i)
 | .index t x i=>u9 (zG e x) (zG e i) (pH P t) (iI P t)
 | .extract x i=>xb (zG e x) i
 | .makeFunc fn first bY=>xj fn first.size (bY.toList.map (zG e))
 | .makeSlice t l m=>vf (eE P t) (jd P t) I (zG e l) (zG e m)
 | .call ⟨.builtin .len,⟨[x]⟩,⟨[t]⟩⟩=>xe (dI P t) (zG e x)
 | .call ⟨.builtin .append,⟨[x,y]⟩,⟨[t,t']⟩⟩=>rS (eE P t) (dI P t') I (zG e x) (zG e y)
 | .call ⟨.builtin .clear,⟨[x]⟩,⟨[t]⟩⟩=>vh ((eE P t).map (·.1)) (jd P t) I (zG e x)
 | .call ⟨.builtin .min,⟨xs⟩,_⟩=>pI false (xs.map (zG e))
 | .call ⟨.builtin .max,⟨xs⟩,_⟩=>pI true (xs.map (zG e))
 | .call ⟨.builtin .delete,⟨[x,k]⟩,⟨[t,_]⟩⟩=>xr (gv P t) I (zG e x) (zG e k)
 | .makeMap t r=>xp I (mN P t) (r.map (zG e))
 | .lookup t x k ok=>xW (gv P t) I (zG e x) (zG e k) ok
 | .mapUpdate t x k v=>xT (gv P t) I (zG e x) (zG e k) (zG e v)
 | .insert t x k v=>xT (gv P t) I (zG e x) (zG e k) (zG e v)
 | .mapEntry t x k=>wB (gv P t) I (zG e x) (zG e k)
 | .entryStore _ x s v=>xP I (zG e x) (zG e s) (zG e v)
 | .range t x=>xu (mN P t) I (zG e x)
 | .entry x=>pL I (zG e x)
 | .makeInterface t x=>xw (El P t) t (zG e x)
 | .next x false=>mO false I (zG e x)
 |_=> .fail
def hZ (P:Program) (e:Env) (I:St):Op->R
 | .buildSlice t n ps=>vi ((eE P t).map (·.1)) n I (ps.toList.map λp=>(p.1,zG e p.2))
 | .makeSlice t l m=>vg (eE P t) (jd P t) I (zG e l) (zG e m)
 | .convert t t' x=>xk (ju P t) (ju P t') I (zG e x)
 | .slice t x (some lo) none none=>xg (dI P t) ((eE P t).map (·.1)) I (zG e x) (zG e lo)
 | .call ⟨.builtin .append,⟨[x,y]⟩,⟨[t,t']⟩⟩=>rT (eE P t) (dI P t') I (zG e x) (zG e y)
 | .next x false=>mO true I (zG e x)
 |op=>ct P e I op
def lA (e:Env) (d:Option Tmp):Bool:=match d with|some t=>(match e (100000+t)with| .cy []=>true|_=>false)|none=>false
def xU (P:Program) (d:Option Tmp) (e:Env) (I:St) (op:Op):R:=if lA e d=true then hZ P e I op else ct P e I op
section
variable {P:Program} {c:Ctx} {nt:Nat} {e:Env} {I:St} {a:Act} {w:World} {L:Nat->Nat} {J:ahR}
theorem PY (o:Oper) (h:dP c nt e I a w L J):eZ (ct P e I o.op) I (bU P c o a w L I J):=by
 obtain⟨dst,op,ty,pos,dX,g⟩:=o
 show eZ (ct P e I op) I _
 unfold ct
 split
 .grind[WI]
 .grind[WJ]
 .grind[WH]
 .grind[W4]
 .grind[W3]
 .grind[Xd]
 .grind[Xc]
 .grind[WZ]
 .grind[W0]
 .grind[WK]
 .grind[WS,XF,WQ]
 .grind[WT]
 .grind[Xl]
 .grind[Xg]
 .grind[Xi]
 .grind[WV]
 .grind[Xm]
 .grind[W5]
 .grind[W7]
 .grind[WU]
 .grind[Xo]
 .grind[Xp]
 .grind[W8]
 .grind[W9]
 .grind[Xs]
 .grind[Pm]
 .grind[Pm]
 .grind[XE]
 .grind[Xz]
 .grind[XA]
 .grind[XB]
 .grind[XC]
 .grind[XJ]
 .grind[XK]
 .grind[XG]
 .grind[XL]
 .grind[XM]
 .grind[PO]
 .trivial
theorem XU (o:Oper) (h:dP c nt e I a w L J):eZ (xU P o.dst e I o.op) I (bU P c o a w L I J):=by
 unfold xU
 split
 .obtain⟨dst,op,ty,pos,dX,g⟩:=o
  show eZ (hZ P e I op) I _
  unfold hZ
  split
  .grind[Xt]
  .grind[Xq]
  .grind[Xu]
  .grind[Xh]
  .grind[Xa]
  .grind[PO]
  .exact PY ⟨dst,op,ty,pos,dX,g⟩ h
 grind[PY]
def eY (nt:Nat) (d:Option Tmp) (v:V) (K:Env->St->Prop) (e:Env) (I:St):Prop:=
 match d with
 |some t=>t<nt/\K (fm e t v) I
 |none=>K e I
def IA (p q:Prop):Prop:=p/\q
def lM (nt:Nat) (d:Option Tmp) (r:R) (K:Env->St->Prop) (e:Env) (I:St):Prop:=
 match r with
 | .fail=>False
 | .ok v=>eY nt d v K e I
 | .ec p v=>IA p (eY nt d v K e I)
 | .st v I'=>eY nt d v K e I'
 | .dz p v I'=>IA p (eY nt d v K e I')
 | .all f=> ∀b,eY nt d (f b) K e I
 | .any l=> ∀p∈l,eY nt d p.1 K e p.2
def jo (P:Program) (c:Ctx) (nt:Nat) (d:Option Tmp) (op:Op) (K:Env->St->Prop) (e:Env) (I:St):Prop:=
 match op with
 | .call ⟨.value f,args,_⟩=>VC P c (zG e f) (args.toList.map (zG e)) I (λv I'=>eY nt d v K e I')
 |op=>lM nt d (xU P d e I op) K e I
def ku (x:V) (want:Bool) (A B:Prop):Prop:=
 match x with
 | .bool b=>(b=want->A)/\(b≠want->B)
 | .cy []=>B
 |_=>False
def jQ (ops:List Oper) (j:Nat):Option Tmp:=(ops[j]?).bind (·.dst)
def tY (g:Option (Nat×Bool)) (ops:List Oper) (e:Env) (A B:Prop):Prop:=
 match g with
 |none=>A
 |some (j,want)=>(match jQ ops j with|some t=>ku (e t) want A B|none=>False)
def jR (P:Program) (c:Ctx) (nt:Nat) (ops:List Oper):List Oper->(Env->St->Prop)->Env->St->Prop
 | [],K,e,I=>K e I
 |o::rest,K,e,I=>tY o.guard ops e (jo P c nt o.dst o.op (jR P c nt ops rest K) e I) (eY nt o.dst (.cy []) (jR P c nt ops rest K) e I)
theorem dP.put (h:dP c nt e I a w L J) {w':World} {L':Nat->Nat} {I':St} {J':ahR} {v:V} {x:Value} (hm:Mem c w' L' I' J') (hle:Le w L w' L') (aa:Ext I J I' J') (r:dt w' L' I' J' v x) (d:Option Tmp) (hd: ∀t,d=some t->t<nt):
  dP c nt (match d with|some t=>fm e t v|none=>e) I' (a.put d x) w' L' J':=by
 cases d with
 |none=>exact⟨hm,h.size,h.defs,λt=>(h.env t).mono hle aa⟩
 |some d=>
  refine⟨hm,by simp[Act.put,h.size],by simp[Act.put,h.defs],λt=> ?_⟩
  have ab:=hd d rfl
  simp only[fm,Act.put]
  by_cases ht:t=d
  .subst ht
   rw[ahg rfl]
   have:(a.tmps.setIfInBounds t x).getD t undef=x:=by
    simp[Array.getD,h.size,ab]
   grind
  .rw[ahf ht]
   have:(a.tmps.setIfInBounds d x).getD t undef=a.tmps.getD t undef:=by
    have ad: ¬d=t:=(by grind)
    simp_all
   rw[this];exact(h.env t).mono hle aa
def fo (c:Ctx) (nt:Nat) (Q:Exit->Env->St->Prop):Exit->Act->World->Prop
 | .panic _,_,_| .outgrown,_,_| .goto _,_,_=>False
 |x,a,w=> ∃e I L J,dP c nt e I a w L J/\Q x e I
def VW (P:Program) (c:Ctx) (nt:Nat) (code:Code) (Q:Exit->Env->St->Prop) (e:Env) (I:St):Prop:=
 ∀a w L J,dP c nt e I a w L J->code.wp P (fo c nt Q) a w
theorem En (h:dP c nt e I a w L J) {w':World} {L':Nat->Nat} {I':St} {J':ahR} {v:V} {x:Value} (hm:Mem c w' L' I' J') (hle:Le w L w' L') (aa:Ext I J I' J') (r:dt w' L' I' J' v x) {d:Option Tmp} {K:Env->St->Prop} (hK:eY nt d v K e I'):
  ∃e',dP c nt e' I' (a.put d x) w' L' J'/\K e' I':=by
 cases d with
 |none=>exact⟨e,h.put hm hle aa r none sm,hK⟩
 |some t=>exact⟨fm e t v,h.put hm hle aa r (some t) (λt' q=>by cases q;exact hK.1),hK.2⟩
theorem IB (o:Oper) {K:Env->St->Prop} {next:Act->World->Prop} {Q:Exit->Act->World->Prop} (h:dP c nt e I a w L J) (hK:jo P c nt o.dst o.op K e I)
  (hn: ∀e' I' a' w' L' J',dP c nt e' I' a' w' L' J'->K e' I'->next a' w'):o.wp P a w next Q:=by
 have fin: ∀{r:R},eZ r I (bU P c o a w L I J)->lM nt o.dst r K e I->o.wp P a w next Q:=by
  intro r hr hv
  have done: ∀{v I'},bU P c o a w L I J v I'->eY nt o.dst v K e I'->o.wp P a w next Q:=by
   rintro v I' ⟨x,w',L',J',lN,hm,hle,sd,AT⟩ hp
   obtain⟨e',hs,hk⟩:=En h hm hle sd AT hp
   unfold Oper.wp
   rcases lN with lN|⟨lN,rfl⟩
   .rw[lN];exact hn _ _ _ _ _ _ hs hk
   .rw[lN];exact hn _ _ _ _ _ _ hs hk
  cases r with
  |fail=>exact hv.elim
  |ok v=>exact done hr hv
  |ec p v=>exact done (hr hv.1) hv.2
  |st v I'=>exact done hr hv
  |dz p v I'=>exact done (hr hv.1) hv.2
  |all f=>obtain⟨b,hr⟩:=hr;exact done hr (hv b)
  |any l=>obtain⟨p,hp,hr⟩:=hr;exact done hr (hv p hp)
 unfold jo at hK
 split at hK
 .rename_i f args ts IC
  obtain⟨PZ,bY,hf,hK⟩:=hK
  have P0:=h.eval f
  rw[hf]at P0
  obtain⟨xs,hx,Gh⟩:=P0
  have xy:bP (dt w L I J) (args.toList.map (zG e)++bY) (args.toList.map a.eval++xs):=by
   refine bP.append ?_ (Gh.imp λp q r=> ?_)
   .generalize args.toList=l
    induction l with
    |nil=>trivial
    |cons p l ih=>exact⟨h.eval p,ih⟩
   .exact dt.dH (by cases p<;>first|exact r|exact r.elim)
  rcases hK with ⟨⟨fn,Lx,sf,si⟩,mS⟩|mS
  .have lN:(execOp a.eval o).run P w= .ok (.enter PZ (args.toList.map a.eval++xs).toArray) w:=by
    obtain⟨dst,op,ty,pos,dX,g⟩:=o
    simp only at IC
    subst IC
    have Ly: ¬fn.body=none:=by intro q;simp[q]at si
    have Gi: ¬fn.name= "runtime.NumGoroutine" :=sU sf
    have Gj:(Array.map a.eval args++xs.toArray)=(args.toList.map a.eval++xs).toArray:=by
     apply Array.ext';simp
    simp[execOp,resolve,hx,Deferred.ofValue,invoke,callFunc,Lx,Gi,Ly,Gj]
   unfold Oper.wp
   rw[lN]
   show Calls P PZ _ w _
   refine(mS w L J _ h.mem xy).mono ?_
   rintro en w' ⟨v,r,L',I',J',rfl,hp,hm,hle,sd,AT⟩
   obtain⟨e',hs,hk⟩:=En h hm hle sd AT hp
   exact hn _ _ _ _ _ _ hs hk
  .obtain⟨v,r,w',L',I',J',XV,hp,hm,hle,sd,AT⟩:=mS w L J _ h.mem xy
   have lN:(execOp a.eval o).run P w= .ok (.value v) w':=by
    obtain⟨dst,op,ty,pos,dX,g⟩:=o
    simp only at IC
    subst IC
    have Gj:(Array.map a.eval args++xs.toArray)=(args.toList.map a.eval++xs).toArray:=by
     apply Array.ext';simp
    simp[execOp,resolve,hx,Deferred.ofValue,invoke,Gj,XV]
   obtain⟨e',hs,hk⟩:=En h hm hle sd AT hp
   unfold Oper.wp
   rw[lN]
   exact hn _ _ _ _ _ _ hs hk
 .exact fin (XU o h) hK
theorem P1 {ops:List Oper} {j:Nat} {t:Tmp} (ht:jQ ops j=some t) (hv:dt w L I J (.cy []) (a.tmps.getD t undef)):yielded ops.toArray a.tmps j=none:=by
 obtain⟨xs,hx,ab⟩:=hv
 have ad:xs= []:=by
  cases xs with
  |nil=>rfl
  |cons x xs=>exact ab.elim
 subst ad
 unfold yielded
 unfold jQ at ht
 have ae:(ops.toArray[j]?).bind (·.dst)=some t:=sU ht
 rw[ae]
 simp only[Ay]
 by_cases aa:t<a.tmps.size
 .rw[B2 aa]
  simp[Array.getD,aa]at hx
  rw[hx]
 .rw[Array.getElem?_eq_none (Nat.le_of_not_lt aa)]
theorem Lz {ops:List Oper} {Q:Exit->Act->World->Prop}: ∀(l:List Oper) (K:Env->St->Prop) (e:Env) (I:St) (a:Act) (w:World) (L:Nat->Nat) (J:ahR),dP c nt e I a w L J->jR P c nt ops l K e I->
  (∀e' I' a' w' L' J',dP c nt e' I' a' w' L' J'->K e' I'->Q .normal a' w')->wpList P ops.toArray Q l a w
 | [],K,e,I,a,w,L,J,h,hK,hn=>hn _ _ _ _ _ _ h hK
 |o::rest,K,e,I,a,w,L,J,h,hK,hn=>by
  have ih:=Lz (ops:=ops) (Q:=Q) rest K
  have yes:jo P c nt o.dst o.op (jR P c nt ops rest K) e I->o.wp P a w (wpList P ops.toArray Q rest) Q\/(o.asks P a w/\LetsOut Q):=λhv=>
   .inl (IB o h hv λe' I' a' w' L' J' hs hk=>ih e' I' a' w' L' J' hs hk hn)
  have no:eY nt o.dst (.cy []) (jR P c nt ops rest K) e I->wpList P ops.toArray Q rest (a.put o.dst undef) w:=λhv=>by
   obtain⟨e',hs,hk⟩:=En h h.mem (Le.refl _ _) (Ext.refl _ _) (show dt w L I J (.cy []) undef from⟨[],rfl,tV⟩) hv
   exact ih e' I _ _ _ _ hs hk hn
  unfold jR at hK
  unfold wpList
  unfold tY at hK
  split at hK
  .rename_i hg
   rw[ahg (by simp[Region.wanted,hg])]
   exact yes hK
  .rename_i j want hg
   split at hK
   .rename_i t ht
    have hv:=h.env t
    unfold ku at hK
    split at hK
    .rename_i b hb
     rw[hb]at hv
     have hv:=pd hv
     have hy:yielded ops.toArray a.tmps j=some b:=by
      unfold yielded
      unfold jQ at ht
      have ad:(ops.toArray[j]?).bind (·.dst)=some t:=sU ht
      rw[ad]
      simp only[Ay]
      have ab:t<a.tmps.size:=by
       rcases Bx t a.tmps.size with q|q
       .exact q
       .simp[Array.getD,Nat.not_lt.2 q,undef]at hv
      rw[B2 ab]
      simp[Array.getD,ab]at hv
      rw[hv]
     by_cases aa:b=want
     .rw[ahg (by simp[Region.wanted,hg,hy,aa])]
      exact yes (hK.1 aa)
     .rw[ahf (by simp[Region.wanted,hg,hy,aa])]
      exact no (hK.2 aa)
    .rename_i hb
     rw[hb]at hv
     rw[ahf (by simp[Region.wanted,hg,P1 ht hv])]
     exact no hK
    .exact hK.elim
   .exact hK.elim
def Gk (x:V) (A B:Prop):Prop:=
 match x with
 | .bool b=>(b=true->A)/\(b=false->B)
 |_=>False
def LA (K:Env->St->Prop) (Q:Exit->Env->St->Prop):Exit->Env->St->Prop
 | .normal,e,I=>K e I
 |x,e,I=>Q x e I
def AU (id:Nat) (Q:Exit->Env->St->Prop):Exit->Env->St->Prop
 | .exit sj,e,I=>if sj=id then Q .normal e I else Q (.exit sj) e I
 |x,e,I=>Q x e I
def pN (P:Program) (c:Ctx) (nt:Nat):Code->(Exit->Env->St->Prop)->Env->St->Prop
 | .skip,Q,e,I=>Q .normal e I
 | .seq x y,Q,e,I=>pN P c nt x (LA (pN P c nt y Q) Q) e I
 | .cond x t f,Q,e,I=>Gk (zG e x) (pN P c nt t Q e I) (pN P c nt f Q e I)
 | .block id b,Q,e,I=>pN P c nt b (AU id Q) e I
 | .exit id,Q,e,I=>Q (.exit id) e I
 | .ret,Q,e,I=>Q .ret e I
 | .label _,Q,e,I=>Q .normal e I
 | .region id ops draw,Q,e,I=>if draw then VW P c nt (.region id ops true) Q e I else jR P c nt ops.toList ops.toList (Q .normal) e I
 | .loop b,Q,e,I=>VW P c nt (.loop b) Q e I
 |_,_,_,_=>False
theorem qZ: ∀(code:Code) (Q:Exit->Env->St->Prop) (e:Env) (I:St),pN P c nt code Q e I->VW P c nt code Q e I
 | .skip,Q,e,I,h=>λa w L J hs=>wp_skip ⟨e,I,L,J,hs,h⟩
 | .seq x y,Q,e,I,h=>λa w L J hs=>by
  refine wp_seq (wp_mono (qZ x _ e I h a w L J hs) λex a' w' q=> ?_)
  cases ex with
  |normal=>obtain⟨e',I',L',J',aa,hq⟩:=q;exact qZ y Q e' I' hq a' w' L' J' aa
  |exit id=>exact q
  |goto l=>exact q
  |ret=>exact q
  |panic ch=>exact q
  |outgrown=>exact q
 | .cond x t f,Q,e,I,h=>λa w L J hs=>by
  unfold pN Gk at h
  split at h
  .rename_i b hb
   have hv:=hs.eval x
   rw[hb]at hv
   exact wp_cond_split (pd hv) (λad=>qZ t Q e I (h.1 ad) a w L J hs) (λae=>qZ f Q e I (h.2 ae) a w L J hs)
  .exact h.elim
 | .block id b,Q,e,I,h=>λa w L J hs=>by
  refine wp_block (wp_mono (qZ b _ e I h a w L J hs) λex a' w' q=> ?_)
  cases ex with
  |exit ab=>
   obtain⟨e',I',L',J',aa,hq⟩:=q
   change (if ab=id then Q .normal e' I' else Q (.exit ab) e' I')at hq
   change (if ab=id then fo c nt Q .normal a' w' else fo c nt Q (.exit ab) a' w')
   split
   .rename_i hid
    rw[ahg hid]at hq
    exact⟨e',I',L',J',aa,hq⟩
   .rename_i hid
    rw[ahf hid]at hq
    exact⟨e',I',L',J',aa,hq⟩
  |normal=>exact q
  |goto l=>exact q
  |ret=>exact q
  |panic ch=>exact q
  |outgrown=>exact q
 | .exit id,Q,e,I,h=>λa w L J hs=>wp_exit ⟨e,I,L,J,hs,h⟩
 | .ret,Q,e,I,h=>λa w L J hs=>wp_ret ⟨e,I,L,J,hs,h⟩
 | .label _,Q,e,I,h=>λa w L J hs=>wp_label ⟨e,I,L,J,hs,h⟩
 | .region id ops draw,Q,e,I,h=>λa w L J hs=>by
  unfold pN at h
  cases draw with
  |true=>exact h a w L J hs
  |false=>
   refine wp_region_list (ops:=ops) ?_
   have:=Lz (P:=P) (ops:=ops.toList) (Q:=fo c nt Q) ops.toList (Q .normal) e I a w L J hs (sU h) λe' I' a' w' L' J' aa hk=>⟨e',I',L',J',aa,hk⟩
   simpa using this
 | .loop b,Q,e,I,h=>h
 | .rangeFunc _ _ _ _,_,_,_,h=>h.elim
 | .scope _,_,_,_,h=>h.elim
 | .goto _,_,_,_,h=>h.elim
 | .refuse _,_,_,_,h=>h.elim
end
end Go.Vx
