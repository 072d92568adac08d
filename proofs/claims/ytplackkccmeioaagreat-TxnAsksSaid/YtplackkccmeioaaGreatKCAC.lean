/-
  The code of a function at the level of trees: operations one behind the other, branches, blocks, loops, the call itself.
  No condition: a library text; nothing of the program is named.
-/
import Derived.Test.YtplackkccmeioaaGreatKCAB
import Derived.Maps.RangeRun
set_option maxHeartbeats 8000000
namespace Go.Vx
open Go
theorem Ext.ir {I:St} {J:aj1} {i:Nat} {o0:Ob} (hi:I[i]? =some o0) (h1: ∀n s,o0≠ .app n s) (h2: ∀r s,o0≠ .cj r s) (h3:o0≠ .dead) (o:Ob):Ext I J (I.set i o) J:=by
 refine⟨sm,(by grind),(by grind),(by grind)⟩
 all_goals grind
section
variable {c:Ctx} {w:World} {L:Nat->Nat} {I:St} {J:aj1}
theorem Mem.sJ (h:Mem c w L I J) (ob:Go.Obj) (o:Ob)
  (ho:Le w L (w.alloc ob) L->Ext I J (I++ [o]) (J++ [.pointer (some ⟨w.heap.size,0,none⟩)])->gW (w.alloc ob) L (I++ [o]) (J++ [.pointer (some ⟨w.heap.size,0,none⟩)]) o (.pointer (some ⟨w.heap.size,0,none⟩)))
  (hex: ∀b,dd o (.pointer (some ⟨w.heap.size,0,none⟩))=some b->b=w.heap.size):
  Mem c (w.alloc ob) L (I++ [o]) (J++ [.pointer (some ⟨w.heap.size,0,none⟩)])/\Le w L (w.alloc ob) L:=by
 have h1:=h.alloc ob 0
 rw[IZ h]at h1
 refine⟨h1.1.push _ _ (ho h1.2 (Ext.push I J h.len _ _)) ?_ ?_,h1.2⟩
 .intro i o' x' b hi hx hb e
  have h2:=(h.di i o' x' hi hx).eN hb
  grind
 .intro b hb
  rw[hex b hb]
  exact .inl h.size
theorem Mem.jX (h:Mem c w L I J) {i b:Nat} {o0 o:Ob} (hi:I[i]? =some o0) (dh:J[i]? =some (.pointer (some ⟨b,0,none⟩))) (aa:dd o0 (.pointer (some ⟨b,0,none⟩))=some b) (h0:L b=0)
  (ob:Go.Obj) (ae:Ext I J (I.set i o) J) (hex: ∀k,dd o (.pointer (some ⟨b,0,none⟩))=some k->k=b)
  (cQ:Le w L (yC w b ob) L->gW (yC w b ob) L (I.set i o) J o (.pointer (some ⟨b,0,none⟩))):
  Mem c (yC w b ob) L (I.set i o) J/\Le w L (yC w b ob) L:=by
 have hle:Le w L (yC w b ob) L:=by
  refine⟨om,λk o ho=>BL (uu w b k _ λq=> ?_) o⟩
  grind
 refine⟨?_,hle⟩
 have af:=yN J i _ dh
 have key:=h.fo (w':=yC w b ob) (L':=L) i o (.pointer (some ⟨b,0,none⟩)) hle (by grind) (λk=>k=b)
  (λj o' x' k hj ab ad hk e=>by subst e;exact h.apart j i o' _ x' _ k hj ab ad hi dh hk aa)
  (λk e=>by subst e;exact h.fW i _ _ k hi dh aa)
  (λk hk=>⟨uu w b k _ hk,rfl⟩) (by simp[yC]) rfl rfl rfl h.lim (by grind) om
 grind
end
theorem bP.nh {U J:Type} {R:U->J->Prop}: ∀{l:List U} {m:List J} {b:J},bP R l m->b∈m-> ∃a∈l,R a b
 |a::l,b'::m,b,h,hb=>by
  rcases Ae.1 hb with rfl|hb
  .exact⟨a,sm,h.1⟩
  .obtain⟨a',ha,r⟩:=bP.nh h.2 hb
   grind
 | [],[],_,_,hb=>by grind
 | [],_::_,_,h,_=>h.elim
 |_::_,[],_,h,_=>h.elim
section
variable {P:Program} {c:Ctx} {nt:Nat} {e:Env} {I:St} {a:Act} {w:World} {L:Nat->Nat} {J:aj1} {o:Oper}
variable {x:Value}{dst:Option Tmp}{ty:TypeId}{dX:Array Edge}{g:Option (Nat×Bool)}{p:V}{kt:TypeId}{t:TypeId}{y:Value}{k:Pk}{dM:List V}
theorem ER {v:V} (r:dD w L I J v x) (h:nb v):dW w L I J v x:=by
 cases v<;>first|exact r|simp[nb]at h
def jL:TypeDesc->Option Pk
 | .bool=>some .b
 | .int k=>some (.i k)
 | .string=>some .s
 |_=>none
inductive Kk where
 |one (k:Pk)
 |st (ks:List Pk)
def ET (P:Program):Nat->List Field->Option (List Pk)
 |_,[]=>some []
 |i,f::fs=>if f.name≠ "_" /\f.offset=i/\cS P f.type=some false then((P.underlying f.type).bind jL).bind λk=>(ET P (i+1) fs).map (k:: ·)else none
def yo (P:Program) (kt:TypeId):Option Kk:=
 match P.underlying kt with
 |some (.struct fs)=>(ET P 0 fs.toList).bind λks=>if vz P 10 kt=some ks then some (.st ks)else none
 |some d=>(jL d).map .one
 |none=>none
def Je (P:Program) (t:TypeId):Option V:=
 match (P.info? t).bind (·.zero)with
 |some (.agg cs)=>if cs.all (·.oneCell')=true then some (.agg (cs.toList.map jl))else none
 |some v=>if v.oneCell'=true then some (jl v)else none
 |none=>none
def gD (P:Program) (t:TypeId):Option (Kk×V):=
 match P.underlying t with
 |some (.map kt et)=>(yo P kt).bind λk=>(Je P et).map λz=>(k,z)
 |_=>none
theorem Yw {z:V} (h:Je P t=some z): ∃i zv,P.info? t=some i/\i.zero=some zv/\nb z=true/\ ∀(w:World) L I J,dW w L I J z zv:=by
 unfold Je at h
 cases hi:P.info? t with
 |none=>grind
 |some i=>
  cases hz:i.zero with
  |none=>grind
  |some zv=>
   simp only[hi,hz,Ax]at h
   refine⟨i,zv,rfl,hz, ?_⟩
   split at h
   .rename_i cs aa
    cases aa
    split at h
    .rename_i ha
     simp only[aiy]at h
     subst h
     refine⟨rfl,λw L I J=>⟨cs.toList,sm,(Ma λv hv=> ?_).imp λ_ _=>df.dw⟩⟩
     exact Ch.1 ha v (by grind)
    grind
   .rename_i v ab hv
    cases hv
    split at h
    .rename_i h1
     simp only[aiy]at h
     subst h
     have hc:x8 (jl zv):=(GK (w:=default) (L:=λ_=>0) zv h1).2
     refine⟨?_,(by grind[dW.dK,df.dw,GK])⟩
     revert hc
     generalize jl zv=q0
     cases q0<;>simp[x8,nb]
    grind
   grind
theorem GX {k:Kk} {z:V} (h:gD P t=some (k,z)): ∃kt et i zv,P.underlying t=some (.map kt et)/\yo P kt=some k/\P.info? et=some i/\i.zero=some zv/\nb z=true/\ ∀(w:World) L I J,dW w L I J z zv:=by
 unfold gD at h
 split at h
 .rename_i kt et hu
  cases hk:yo P kt with
  |none=>grind
  |some k'=>
   cases hz:Je P et with
   |none=>grind
   |some z'=>
    simp only[hk,hz,Ax,Bb,aiy,aiF]at h
    obtain⟨rfl,rfl⟩:=h
    grind[Yw]
 grind
def lQ:Pk->V->Bool
 | .b,.bool _=>true
 | .i k,.int k' _=>decide (k'=k)
 | .s,.str _=>true
 |_,_=>false
def lp:List Pk->List V->Bool
 | [],[]=>true
 |k::ks,v::vs=>lQ k v&&lp ks vs
 |_,_=>false
def mT:Kk->V->Bool
 | .one k,v=>lQ k v
 | .st ks,.agg vs=>lp ks vs
 |_,_=>false
theorem yp {d:TypeDesc} {v:V} (hk:jL d=some k) (h:lQ k v) (r:dD w L I J v x):MapKept.IsKey d x:=by
 cases k<;>cases v<;>simp[lQ]at h
 .rw[pO r];cases d<;>simp[jL]at hk<;>trivial
 .rw[yO r];cases d<;>simp[jL]at hk;subst hk;exact h
 .rw[lh r];cases d<;>simp[jL]at hk<;>trivial
theorem Qs (em:Bool) (xs:aj1) (w:World): ∀(fs:List Field) (i:Nat) (ks:List Pk) (vs:List V),ET P i fs=some ks->lp ks vs=true->bP (df w L I J) vs (xs.drop i)->
  ∀f∈fs,f.name≠ "_" /\ ∃x,(part f.type xs.toArray f.offset).run P w= .ok x w/\(Instr.checkKey em 9999 f.type x).run P w= .ok () w
 | [],_,_,_,_,_,_,_,hf=>by cases hf
 |f::fs,i,ks,vs,h,Mg,ha,f',Mh=>by
  unfold ET at h
  split at h
  .rename_i hc
   obtain⟨h1,h2,h3⟩:=hc
   cases hu:P.underlying f.type with
   |none=>grind
   |some d=>
    cases hk:jL d with
    |none=>grind
    |some k=>
     simp only[hu,hk,Ax,Av]at h
     obtain⟨Yx,h4,rfl⟩:=h
     cases vs with
     |nil=>trivial
     |cons v vs=>
      simp only[lp,Ab]at Mg
      have hlen:=ha.length
      have Qt:i<xs.length:=by grind
      rw[A5 Qt]at ha
      rcases Ae.1 Mh with rfl|Mh
      .have hp:(part f'.type xs.toArray f'.offset).run P w= .ok xs[i] w:=by
        simp_all[part,uv]
       exact⟨h1,_,hp,MapKept.run_checkKey (P:=P) (w:=w) hu (yp hk Mg.1 (dD.dK ha.1)) em 9998⟩
      .exact Qs em xs w fs (i+1) Yx vs h4 Mg.2 ha.2 f' Mh
  grind
theorem GY {kk:Kk} (hk:yo P kt=some kk) (aa:mT kk p) (hx:dD w L I J p x) (em:Bool):(Instr.checkKey em 10000 kt x).run P w= .ok () w:=by
 unfold yo at hk
 split at hk
 .rename_i fs hu
  cases hf:ET P 0 fs.toList with
  |none=>grind
  |some ks=>
   simp only[hf,Ax]at hk
   split at hk
   .simp only[aiy]at hk
    subst hk
    cases p<;>simp[mT]at aa
    obtain⟨xs,rfl,ha⟩:=hx
    have each:=Qs (P:=P) em xs w fs.toList 0 ks _ hf aa ha
    rw[show(10000:Nat)=9999+1 from rfl,Instr.checkKey]
    simp only[Sem.run_bind,run_underlying hu,Result.andThen_ok]
    rw[<-Array.forIn_toList]
    clear hf hu
    generalize fs.toList=M at each
    induction M with
    |nil=>simp
    |cons f M ih=>
     obtain⟨hn,x,p1,p2⟩:=each f sm
     simp_all
   grind
 .rename_i d ab hu
  cases hd:jL d with
  |none=>grind
  |some k=>
   simp only[hd,Bb,aiy]at hk
   subst hk
   exact MapKept.run_checkKey hu (yp hd aa hx) em 9999
 grind
def kH:Kk->V->V->Option Bool
 | .one k,x,y=>jK k x y
 | .st ks,.agg x,.agg y=>lj ks x y
 |_,_,_=>none
def oq (k:Kk) (x:V):List V->Nat->Option (Option (Nat×V))
 |kk::vv::rest,i=>(match kH k x kk with
  |some true=>some (some (i,vv))
  |some false=>oq k x rest (i+1)
  |none=>none)
 | [],_=>some none
 | [_],_=>none
theorem Qu {d:TypeDesc} {v:V} {r:Bool} (hk:jL d=some k) (hx:dD w L I J p x) (hy:dD w L I J v y) (h:jK k p v=some r):Instr.sameNow d x y=some r:=by
 cases k
 .cases p<;>cases v<;>simp[jK]at h
  subst h
  rw[pO hx,pO hy]
  cases d<;>simp[jL]at hk
  rfl
 .cases p<;>cases v<;>simp[jK]at h
  obtain⟨⟨rfl,rfl⟩,rfl⟩:=h
  rw[yO hx,yO hy]
  cases d<;>simp[jL]at hk
  simp[Instr.sameNow]
 .cases p<;>cases v<;>simp[jK]at h
  subst h
  rename_i s1 s2
  rw[lh hx,lh hy]
  cases d<;>simp[jL]at hk
  simp only[Instr.sameNow,aiy]
  have e1:((⟨s1.toArray⟩:ByteArray)==⟨s2.toArray⟩)=(s1.toArray==s2.toArray):=rfl
  grind
theorem Mi {k:Kk} {p:V} (M:List MapEntry->Nat->Option (Nat×Value)->Prop) (h0: ∀i,M [] i none)
  (hT: ∀v (e:MapEntry) es i,dW w L I J v e.key->kH k p v=some true->M (e::es) i (some (i,e.val)))
  (hF: ∀v (e:MapEntry) es i r,dW w L I J v e.key->kH k p v=some false->M es (i+1) r->M (e::es) i r):
  ∀(dM:List V) (es:List MapEntry) (i:Nat) (q:Option (Nat×V)),bP (dW w L I J) dM (es.flatMap λe=> [e.key,e.val])->oq k p dM i=some q->
  (q=none/\M es i none)\/ ∃(j:Nat) (v:V) (e:MapEntry),q=some (i+j,v)/\M es i (some (i+j,e.val))/\es[j]? =some e/\dM[2*j+1]? =some v/\dW w L I J v e.val/\(∃kk,dM[2*j]? =some kk/\kH k p kk=some true)
 | [],[],i,q,_,h=>by grind[oq]
 | [],e::es,_,_,ha,_=>by trivial
 | [_],[],_,_,ha,_=>by trivial
 | [_],e::es,_,_,_,h=>by trivial
 |_::_::_,[],_,_,ha,_=>by trivial
 |kk::vv::dM,e::es,i,q,ha,h=>by
  simp only[Bw,Bt,C7,bP]at ha
  obtain⟨h1,h2,h3⟩:=ha
  rw[oq]at h
  split at h
  .rename_i he
   simp only[aiy]at h
   exact .inr ⟨0,vv,e,h.symm,(by grind),rfl,rfl,h2,kk,rfl,he⟩
  .rename_i he
   rcases Mi M h0 hT hF dM es (i+1) q h3 h with ⟨e1,e2⟩|⟨j,v,e',e1,e2,e3,e4,e5,aa,e6,e7⟩
   .grind
   .rw[show i+1+j=i+(j+1) by omega]at e1 e2
    refine .inr ⟨j+1,v,e',e1,(by grind),by grind, ?_,e5,aa, ?_,e7⟩
    all_goals grind
  grind
theorem Qv {fs:Array Field} {es:List MapEntry} {r:Option (Nat×Value)} (hu:P.underlying kt=some (.struct fs)) (h:(Instr.findAsking kt x es 0).run P w= .ok r w):(Instr.findKey kt x es).run P w= .ok r w:=by
 cases es<;>simp_all[Instr.findAsking,Instr.findKey,run_underlying,Instr.findNow,Instr.sameNow]
theorem yq {kk:Kk} (hk:yo P kt=some kk) (ab:mT kk p) (hx:dD w L I J p x) {es:List MapEntry} {q:Option (Nat×V)} (ha:bP (dW w L I J) dM (es.flatMap λe=> [e.key,e.val])) (hf:oq kk p dM 0=some q):
  (q=none/\(Instr.findKey kt x es).run P w= .ok none w)\/ ∃(j:Nat) (v:V) (e:MapEntry),q=some (j,v)/\(Instr.findKey kt x es).run P w= .ok (some (j,e.val)) w/\es[j]? =some e/\dM[2*j+1]? =some v/\dW w L I J v e.val/\(∃k',dM[2*j]? =some k'/\kH kk p k'=some true):=by
 unfold yo at hk
 split at hk
 .rename_i fs hu
  cases ad:ET P 0 fs.toList with
  |none=>grind
  |some ks=>
   simp only[ad,Ax]at hk
   split at hk
   .rename_i ae
    simp only[aiy]at hk
    subst hk
    cases p<;>simp[mT]at ab
    rename_i vs
    obtain⟨xs,rfl,af⟩:=hx
    have ai: ∀(us:List V) (ys:aj1),bP (df w L I J) us ys-> ∀z∈ys,z.oneCell'=true:=λus ys h z hz=>by
     obtain⟨i,hi,rfl⟩:=Ci.1 hz
     obtain⟨a,_,r⟩:=bP.nh h om
     exact r.dG
    have aa: ∀ys:aj3,oM P kt (.agg ys):=λys=>by
     unfold oM
     rw[aiv (by unfold cS;rw[hu];rfl)]
     simp
    have heq: ∀(v:V) (y:Value) (r:Bool),dW w L I J v y->kH (.st ks) (.agg vs) v=some r->(Op.equal kt (.agg xs.toArray) y).run P w= .ok r w:=by
     intro v y r hr he
     cases v<;>simp[kH]at he
     rename_i us
     obtain⟨ys,rfl,ah⟩:=hr
     have aj:=LZ ks vs us xs ys r af ah he
     exact L4 10 kt ks ae 10000 om _ _ r (aa _) (aa _) (by grind[Value.cells]) (by grind[Value.cells]) (by simpa) w
    rcases Mi (w:=w) (L:=L) (I:=I) (J:=J) (k:= .st ks) (p:= .agg vs) (λes i r=>(Instr.findAsking kt (.agg xs.toArray) es i).run P w= .ok r w) (by simp[Instr.findAsking])
     (λv e es i h1 h2=>by simp[Instr.findAsking,heq v _ _ h1 h2]) (λv e es i r h1 h2 h3=>by simp[Instr.findAsking,heq v _ _ h1 h2,h3]) dM es 0 q ha hf with ⟨e1,e2⟩|⟨j,v,e',e1,e2,e3⟩
    .grind[Qv]
    .rw[Ad]at e1 e2
     grind[Qv]
   grind
 .rename_i d ak hu
  cases hd:jL d with
  |none=>grind
  |some k=>
   simp only[hd,Bb,aiy]at hk
   subst hk
   rcases Mi (w:=w) (L:=L) (I:=I) (J:=J) (k:= .one k) (p:=p) (λes i r=>Instr.findNow d x es i=some r) (λi=>rfl)
    (λv e es i h1 h2=>by simp[Instr.findNow,Qu hd hx (dD.lf h1) h2]) (λv e es i r h1 h2 h3=>by simp[Instr.findNow,Qu hd hx (dD.lf h1) h2,h3]) dM es 0 q ha hf with ⟨e1,e2⟩|⟨j,v,e',e1,e2,e3⟩
   .grind[MapKept.run_findKey]
   .rw[Ad]at e1 e2
    grind[MapKept.run_findKey]
 grind
theorem Qw {v:V} (hx:dD w L I J p x) (hy:dD w L I J v y) (h:jK k p v=some true):x=y:=by
 cases k<;>cases p<;>cases v<;>simp[jK]at h
 .rw[pO hx,pO hy,h]
 .obtain⟨⟨rfl,rfl⟩,rfl⟩:=h
  rw[yO hx,yO hy]
 .rw[lh hx,lh hy,h]
theorem Qx: ∀(ks:List Pk) (us vs:List V) (xs ys:aj1),bP (df w L I J) us xs->bP (df w L I J) vs ys->lj ks us vs=some true->xs=ys
 | [],[],[],[],[],_,_,_=>rfl
 |k::ks,u'::us,v::vs,x::xs,y::ys,h1,h2,h=>by
  unfold lj at h
  cases hk:jK k u' v with
  |none=>grind
  |some r0=>
   simp only[hk,Ax,Av]at h
   obtain⟨r',h3,h4⟩:=h
   simp only[Ab]at h4
   obtain⟨rfl,rfl⟩:=h4
   rw[Qw (dD.dK h1.1) (dD.dK h2.1) hk,Qx ks us vs xs ys h1.2 h2.2 h3]
 | [],[],[],[],_::_,_,h2,_=>h2.elim
 | [],[],[],_::_,_,h1,_,_=>h1.elim
 | [],[],_::_,_,_,_,_,h=>by cases h
 | [],_::_,_,_,_,_,_,h=>by cases h
 |_::_,[],_,_,_,_,_,h=>by cases h
 |_::_,_::_,[],_,_,_,_,h=>by cases h
 |_::_,_::_,_::_,[],_,h1,_,_=>h1.elim
 |_::_,_::_,_::_,_::_,[],_,h2,_=>h2.elim
theorem Qy {k:Kk} {v:V} (hx:dD w L I J p x) (hy:dD w L I J v y) (h:kH k p v=some true):x=y:=by
 cases k with
 |one k=>exact Qw hx hy h
 |st ks=>
  cases p<;>cases v<;>simp[kH]at h
  obtain⟨xs,rfl,h1⟩:=hx
  obtain⟨ys,rfl,h2⟩:=hy
  grind[Qx]
theorem Yy {ks:List Pk}: ∀{vs:List V} {xs:aj1},lp ks vs=true->bP (df w L I J) vs xs-> ∀z∈xs,∃d,MapKept.IsKey d z:=by
 induction ks with
 |nil=>
  intro vs xs h ha
  cases vs with
  |nil=>cases xs with
   |nil=>simp
   |cons _ _=>trivial
  |cons _ _=>trivial
 |cons k ks ih=>
  intro vs xs h ha z hz
  cases vs with
  |nil=>trivial
  |cons v vs=>
   cases xs with
   |nil=>grind
   |cons x xs=>
    simp only[lp,Ab]at h
    rcases Ae.1 hz with rfl|hz
    .have hr:=dD.dK (I:=I) (J:=J) ha.1
     cases k
     .exact⟨.bool,yp rfl h.1 hr⟩
     .exact⟨.int _,yp rfl h.1 hr⟩
     .exact⟨.string,yp rfl h.1 hr⟩
    .exact ih h.2 ha.2 z hz
theorem Qz {kk:Kk} (aa:mT kk p) (hx:dD w L I J p x):(Instr.keyThatStays x x).run P w= .ok x w:=by
 cases kk with
 |one k=>
  cases k
  .exact MapKept.run_keyThatStays (yp (d:= .bool) rfl aa hx)
  .exact MapKept.run_keyThatStays (yp (d:= .int _) rfl aa hx)
  .exact MapKept.run_keyThatStays (yp (d:= .string) rfl aa hx)
 |st ks=>
  cases p<;>simp[mT]at aa
  obtain⟨xs,rfl,ha⟩:=hx
  have hs:Instr.sameBits 10000 (.agg xs.toArray) (.agg xs.toArray):=by
   show Instr.sameBits (9999+1) (.agg xs.toArray) (.agg xs.toArray)=true
   simp only[Instr.sameBits,beq_self_eq_true,B7,Am]
   rintro⟨a,b⟩ hp
   obtain⟨i,hi,e⟩:=Ci.1 hp
   simp only[List.getElem_zip,aiF]at e
   obtain⟨rfl,rfl⟩:=e
   grind[Yy,A8,MapKept.sameBits_self]
  simp_all[Instr.keyThatStays]
def yt (I:St) (m:Bool) (r:Option V):R:=
 match m,r with
 |_,none=> .st (.mp I.length) (I++ [.mp [] [] 0])
 |true,some (.int _ _)=> .st (.mp I.length) (I++ [.mp [] [] 0])
 |_,_=> .fail
def ni (P:Program) (t:TypeId):Bool:=match P.underlying t with|some (.map _ _)=>true|_=>false
theorem Yz (h:Mem c w L I J):Mem c (w.alloc (.map #[] 0)) L (I++ [.mp [] [] 0]) (J++ [.pointer (some ⟨w.heap.size,0,none⟩)])/\Le w L (w.alloc (.map #[] 0)) L:=
 h.sJ _ _ (λhle _=>⟨w.heap.size, #[],rfl,yL _ _,by have:=h.lim _ (A7 _);omega,by trivial,rfl⟩) (by grind[dd])
theorem YA {pos:String} (t:TypeId) (r:Option Operand) (h:dQ c nt e I a w L J):
  fa (yt I (ni P t) (r.map (zG e))) I (bU P c ⟨dst,.makeMap t r,ty,pos,dX,g⟩ a w L I J):=by
 have aa:=Yz h.mem
 have ab:dD (w.alloc (.map #[] 0)) L (I++ [.mp [] [] 0]) (J++ [.pointer (some ⟨w.heap.size,0,none⟩)]) (.mp I.length) (.map (some w.heap.size)):=⟨w.heap.size,by rw[<-h.mem.len];simp,rfl⟩
 cases r with
 |none=>exact⟨_,_,L,_,(by simp[execOp,Instr.makeMap]),aa.1,aa.2,Ext.push I J h.mem.len _ _,ab⟩
 |some p=>
  have hp:=h.eval p
  simp only[Bb]
  unfold yt
  split
  .grind
  .rename_i k n hm hq
   simp only[aiy]at hq
   rw[hq]at hp
   have hp:=yO hp
   unfold ni at hm
   split at hm
   .rename_i kt et hu
    exact⟨_,_,L,_,(by simp_all[execOp,Instr.makeMap,run_underlying,asInt,asIntOf]),aa.1,aa.2,Ext.push I J h.mem.len _ _,ab⟩
   grind
  trivial
def xZ (m:Option (Kk×V)) (I:St) (x k:V) (ok:Bool):R:=
 match m with
 |some (kd,z)=>if mT kd k=true then(match x with
  | .mp id=>(match I[id]? with
   |some (.mp dM _ _)=>(match oq kd k dM 0 with
    |some (some (_,v))=> .ok (if ok then .cy [v,.bool true]else v)
    |some none=> .ok (if ok then .cy [z,.bool false]else z)
    |none=> .fail)
   |_=> .fail)
  | .raw (.map none)=> .ok (if ok then .cy [z,.bool false]else z)
  |_=> .fail)else .fail
 |none=> .fail
theorem BV {id:Nat} (r:dD w L I J (.mp id) x): ∃b,J[id]? =some (.pointer (some ⟨b,0,none⟩))/\x= .map (some b):=r
theorem Jf (r:dD w L I J (.raw (.map none)) x):x= .map none:=by
 have r':cF w L (.raw (.map none)) x:=r
 cases r';rfl
theorem Mj {v:V} (b:Bool) (r:dW w L I J v x) (ok:Bool):dD w L I J (if ok then .cy [v,.bool b]else v) (if ok then .tuple #[x,.bool b]else x):=by
 cases ok
 .grind[dD.lf]
 .exact⟨[x,.bool b],rfl,r,dW.dK (df.dw (.bool b)),tV⟩
theorem YB {pos:String} (t:TypeId) (x k:Operand) (ok:Bool) (h:dQ c nt e I a w L J):
  fa (xZ (gD P t) I (zG e x) (zG e k) ok) I (bU P c ⟨dst,.lookup t x k ok,ty,pos,dX,g⟩ a w L I J):=by
 have hx:=h.eval x
 have hk:=h.eval k
 unfold xZ
 split
 .rename_i kd z hm
  obtain⟨kt,et,i,zv,hu,ad,hi,hz,ai,aj⟩:=GX hm
  split
  .rename_i ae
   have af: ∀em,(Instr.checkKey em 10000 kt (a.eval k)).run P w= .ok () w:=(by grind[GY])
   have ah:(zeroValue et).run P w= .ok zv w:=by simp_all[zeroValue,typeInfo]
   split
   .rename_i id hid
    rw[hid]at hx
    obtain⟨b,dh,hv⟩:=BV hx
    split
    .rename_i dM bs cZ cJ
     obtain⟨b',es,e1,hh,hl,aa,ak⟩:=h.mem.di _ _ _ cJ dh
     cases e1
     have aa:bP (dW w L I J) dM (es.toList.flatMap λe=> [e.key,e.val]):=aa
     split
     .rename_i i0 v hf
      rcases yq ad ae hk aa hf with ⟨e1,_⟩|⟨j,v',e',e1,e2,_,_,e5,_⟩
      .cases e1
      .cases e1
       refine bU.pure h (x:=if ok then .tuple #[e'.val,.bool true]else e'.val) ?_ (Mj true e5 ok)
       have ab:=e2
       simp[execOp,Instr.lookup,run_underlying hu,hv,MapKept.run_getObj_map hh,af,ab]
     .rename_i hf
      rcases yq ad ae hk aa hf with ⟨_,e2⟩|⟨j,v',e',e1,_⟩
      .refine bU.pure h (x:=if ok then .tuple #[zv,.bool false]else zv) ?_ (by simp_all[Mj])
       have ab:=e2
       simp[execOp,Instr.lookup,run_underlying hu,hv,MapKept.run_getObj_map hh,af,ab,ah]
      grind
     trivial
    trivial
   .rename_i hid
    rw[hid]at hx
    have hv:=Jf hx
    refine bU.pure h (x:=if ok then .tuple #[zv,.bool false]else zv) ?_ (by simp_all[Mj])
    have ab:(Instr.findKey kt (a.eval k) []).run P w= .ok none w:=by
     rcases yq (es:= []) ad ae hk (show bP (dW w L I J) [] _ from trivial) rfl with ⟨_,e2⟩|⟨j,v',e',e1,_⟩
     all_goals grind
    simp_all[execOp,Instr.lookup,run_underlying]
   trivial
  trivial
 trivial
def qn (dM:List V) (i:Nat) (k v:V):List V:=(dM.set (2*i) k).set (2*i+1) v
theorem BW (l:List MapEntry): ∀(i:Nat),(l.flatMap λe=> [e.key,e.val])[2*i]? =(l[i]?).map (·.key)/\(l.flatMap λe=> [e.key,e.val])[2*i+1]? =(l[i]?).map (·.val):=by
 induction l with
 |nil=>simp
 |cons e l ih=>
  intro i
  cases i with
  |zero=>simp
  |succ i=>
   grind
theorem Mk (l:List MapEntry):(l.flatMap λe=> [e.key,e.val]).length=2*l.length:=by
 induction l<;>grind
theorem QA {es:Array MapEntry} {i:Nat} {k v:V} (h:bP (dW w L I J) dM (pK es)) (hk:dW w L I J k x) (hv:dW w L I J v y) (hi:i<es.size):
  bP (dW w L I J) (qn dM i k v) (pK (es.modify i λe=>{e with key:=x,val:=y})):=by
 have hl:=h.length
 unfold pK at h hl⊢
 rw[Mk]at hl
 simp only[Cq]at hl
 refine bP.of ?_ λj p q hp hq=> ?_
 .grind[qn,Mk]
 .unfold qn at hp
  obtain⟨m,hm⟩: ∃m,j=2*m\/j=2*m+1:=⟨j/2,om⟩
  rcases hm with rfl|rfl
  .rw[(BW _ m).1]at hq
   rw[D8 om]at hp
   rw[Aq,Array.getElem?_modify]at hq
   by_cases e1:i=m
   .grind
   .rw[aiu e1]at hq
    rw[D8 om]at hp
    obtain⟨y',aa,r⟩:=h.get _ _ hp
    grind[BW]
  .rw[(BW _ m).2]at hq
   rw[Aq,Array.getElem?_modify]at hq
   by_cases e1:i=m
   .grind
   .rw[aiu e1]at hq
    rw[D8 om,D8 om]at hp
    obtain⟨y',aa,r⟩:=h.get _ _ hp
    rw[(BW _ m).2,Aq]at aa
    grind
theorem QB (es:Array MapEntry) (i:Nat) (x y:Value):(es.modify i λe=>{e with key:=x,val:=y}).toList.map (·.born)=es.toList.map (·.born):=by
 apply Bi
 grind
def xW (m:Option (Kk×V)) (I:St) (x k v:V):R:=
 match m,x with
 |some (kd,_),.mp id=>if mT kd k=true/\nb v=true then(match I[id]? with
  |some (.mp dM bs cZ)=>(match oq kd k dM 0 with
   |some (some (i,_))=> .st .u (I.set id (.mp (qn dM i k v) bs cZ))
   |some none=> .st .u (I.set id (.mp (dM++ [k,v]) (bs++ [cZ]) (cZ+1)))
   |none=> .fail)
  |_=> .fail)else .fail
 |_,_=> .fail
theorem QC {k:Kk} {v:V} (h:mT k v):nb v=true:=by
 cases k with
 |one k=>cases k<;>cases v<;>first|rfl|simp[mT,lQ]at h
 |st ks=>cases v<;>first|rfl|simp[mT]at h
theorem QD {k v:Value} {et:TypeId} {kd:Kk} {bs:aj0} {cZ id:Nat} {kv vv:V} (hm:Mem c w L I J) (hu:P.underlying t=some (.map kt et)) (aj:yo P kt=some kd)
  (hx:dD w L I J (.mp id) x) (af:mT kd kv) (hk:dD w L I J kv k) (hv:dW w L I J vv v) (cJ:I[id]? =some (.mp dM bs cZ)) {q:Option (Nat×V)} (hf:oq kd kv dM 0=some q):
  ∃w',(Instr.mapUpdate t x k v).run P w= .ok () w'/\Le w L w' L/\(match q with
   |some (i,_)=>Mem c w' L (I.set id (.mp (qn dM i kv vv) bs cZ)) J/\Ext I J (I.set id (.mp (qn dM i kv vv) bs cZ)) J
   |none=>Mem c w' L (I.set id (.mp (dM++ [kv,vv]) (bs++ [cZ]) (cZ+1))) J/\Ext I J (I.set id (.mp (dM++ [kv,vv]) (bs++ [cZ]) (cZ+1))) J):=by
 have ak:dW w L I J kv k:=ER hk (QC af)
 have ah: ∀em,(Instr.checkKey em 10000 kt k).run P w= .ok () w:=(by grind[GY])
 obtain⟨b,dh,rfl⟩:=BV hx
 obtain⟨b',es,e1,hh,hl,aa,ao⟩:=hm.di _ _ _ cJ dh
 cases e1
 have ai:b<w.heap.size:=(by grind)
 have ad: ∀o,Ext I J (I.set id o) J:=(by simp_all[Ext.ir])
 have ae: ∀ob:Go.Obj,(setObj b ob).run P w= .ok () (yC w b ob):=λob=>by rw[MapKept.run_setObj_map ob hh];rfl
 rcases yq aj af hk aa hf with ⟨rfl,e2⟩|⟨j,v',e',rfl,e2,e3,_,_,kk,e6,e7⟩
 .have ab:=e2
  refine⟨yC w b (.map (es.push {key:=k,val:=v,born:=cZ}) (cZ+1)), ?_, ?_⟩
  .simp[Instr.mapUpdate,run_underlying hu,MapKept.run_getObj_map hh,ah,ab,ae]
  .have key:=hm.jX (o:= .mp (dM++ [kv,vv]) (bs++ [cZ]) (cZ+1)) cJ dh rfl hl (.map (es.push {key:=k,val:=v,born:=cZ}) (cZ+1)) (ad _) (by grind[dd]) λhle=>by
    refine⟨b,_,rfl,xH _ _ _ ai,hl, ?_,by grind⟩
    have:bP (dW w L I J) (dM++ [kv,vv]) (pK (es.push {key:=k,val:=v,born:=cZ})):=by
     simp only[pK,Array.toList_push,aiQ]
     exact bP.append aa (by trivial)
    exact this.imp (by grind[dW.mono])
   grind
 .have ab:=e2
  have hj:es[j]? =some e':=by grind
  have al:j<es.size:=(by grind)
  have an:e'.key=k:=by
   obtain⟨y,hy,r⟩:=aa.get _ _ e6
   unfold pK at hy
   rw[(BW _ j).1,e3]at hy
   simp at hy
   subst hy
   exact(Qy hk (dD.lf r) e7).symm
  refine⟨yC w b (.map (es.modify j λe=>{e with key:=k,val:=v}) cZ), ?_, ?_⟩
  .simp[Instr.mapUpdate,run_underlying hu,MapKept.run_getObj_map hh,ah,ab,ae,hj,an,Qz af hk]
  .have key:=hm.jX (o:= .mp (qn dM j kv vv) bs cZ) cJ dh rfl hl (.map (es.modify j λe=>{e with key:=k,val:=v}) cZ) (ad _) (by grind[dd]) λhle=>by
    refine⟨b,_,rfl,xH _ _ _ ai,hl,(QA aa ak hv al).imp (by grind[dW.mono]),by rw[QB];omega⟩
   grind
theorem QE {o:Oper} (t:TypeId) (x k v:Operand) (h:dQ c nt e I a w L J) (ho:execOp a.eval o=(do Instr.mapUpdate t (a.eval x) (a.eval k) (a.eval v);pure .skip)):
  fa (xW (gD P t) I (zG e x) (zG e k) (zG e v)) I (bU P c o a w L I J):=by
 have hx:=h.eval x
 have hk:=h.eval k
 have hv:=h.eval v
 unfold xW
 split
 .rename_i kd z id hm hid
  obtain⟨kt,et,i,zv,hu,ad,_⟩:=GX hm
  rw[hid]at hx
  split
  .rename_i hc
   split
   .rename_i dM bs cZ cJ
    split
    .rename_i i0 v0 hf
     obtain⟨w',ae,hle,ab,aa⟩:=QD h.mem hu ad hx hc.1 hk (ER hv hc.2) cJ hf
     exact⟨undef,w',L,J,(by simp_all),ab,hle,aa,tV⟩
    .rename_i hf
     obtain⟨w',ae,hle,ab,aa⟩:=QD h.mem hu ad hx hc.1 hk (ER hv hc.2) cJ hf
     exact⟨undef,w',L,J,(by simp_all),ab,hle,aa,tV⟩
    trivial
   trivial
  trivial
 trivial
theorem YC {pos:String} (t:TypeId) (x k v:Operand) (h:dQ c nt e I a w L J):
  fa (xW (gD P t) I (zG e x) (zG e k) (zG e v)) I (bU P c ⟨dst,.mapUpdate t x k v,ty,pos,dX,g⟩ a w L I J):=QE t x k v h rfl
theorem YD {pos:String} (t:TypeId) (x k v:Operand) (h:dQ c nt e I a w L J):
  fa (xW (gD P t) I (zG e x) (zG e k) (zG e v)) I (bU P c ⟨dst,.insert t x k v,ty,pos,dX,g⟩ a w L I J):=QE t x k v h rfl
theorem QF {U J:Type} (f:U->J): ∀(l:List U) (i:Nat),(l.eraseIdx i).map f=(l.map f).eraseIdx i
 | [],_=>rfl
 |_::_,0=>rfl
 |x::l,i+1=>by simp[QF f l i]
def yu (dM:List V) (i:Nat):List V:=dM.take (2*i)++dM.drop (2*i+2)
def yv (m:Option (Kk×V)) (I:St) (x k:V):R:=
 match m,x with
 |some (kd,_),.mp id=>if mT kd k=true then(match I[id]? with
  |some (.mp dM bs cZ)=>(match oq kd k dM 0 with
   |some (some (i,_))=> .st (.cy []) (I.set id (.mp (yu dM i) (bs.eraseIdx i) cZ))
   |some none=> .st (.cy []) (I.set id (.mp dM bs cZ))
   |none=> .fail)
  |_=> .fail)else .fail
 |some (kd,_),.raw (.map none)=>if mT kd k=true then .ok (.cy [])else .fail
 |_,_=> .fail
theorem YE (l:List MapEntry): ∀(i:Nat),i<l.length->(l.eraseIdx i).flatMap (λe=> [e.key,e.val])=(l.flatMap λe=> [e.key,e.val]).take (2*i)++(l.flatMap λe=> [e.key,e.val]).drop (2*i+2):=by
 induction l with
 |nil=>simp
 |cons e l ih=>
  intro i h
  cases i<;>grind
theorem YF {pos:String} (t t':TypeId) (x k:Operand) (h:dQ c nt e I a w L J):
  fa (yv (gD P t) I (zG e x) (zG e k)) I (bU P c ⟨dst,.call ⟨.builtin .delete, #[x,k], #[t,t']⟩,ty,pos,dX,g⟩ a w L I J):=by
 have hx:=h.eval x
 have hk:=h.eval k
 unfold yv
 split
 .rename_i kd z id hm hid
  obtain⟨kt,et,i,zv,hu,ah,_⟩:=GX hm
  rw[hid]at hx
  split
  .rename_i ai
   have aj: ∀em,(Instr.checkKey em 10000 kt (a.eval k)).run P w= .ok () w:=(by grind[GY])
   obtain⟨b,dh,hv⟩:=BV hx
   split
   .rename_i dM bs cZ cJ
    obtain⟨b',es,e1,hh,hl,aa,al⟩:=h.mem.di _ _ _ cJ dh
    cases e1
    have ak:b<w.heap.size:=(by grind)
    have ab: ∀o,Ext I J (I.set id o) J:=(by simp_all[Ext.ir])
    have af: ∀ob:Go.Obj,(setObj b ob).run P w= .ok () (yC w b ob):=λob=>by rw[MapKept.run_setObj_map ob hh];rfl
    split
    .rename_i i0 v0 hf
     rcases yq ah ai hk aa hf with ⟨e1,_⟩|⟨j,v',e',e1,e2,e3,_,_,kk,e6,e7⟩
     .cases e1
     .cases e1
      have ad:=e2
      have an:i0<es.toList.length:=(by grind)
      have ao:i0<es.size:=om
      have ae:(es.eraseIdxIfInBounds i0).toList=es.toList.eraseIdx i0:=by
       simp
      have key:=h.mem.jX (o:= .mp (yu dM i0) (bs.eraseIdx i0) cZ) cJ dh rfl hl (.map (es.eraseIdxIfInBounds i0) cZ) (ab _) (by grind[dd]) λhle=>by
       refine⟨b,_,rfl,xH _ _ _ ak,hl, ?_,by grind[QF]⟩
       have:bP (dW w L I J) (yu dM i0) (pK (es.eraseIdxIfInBounds i0)):=by
        unfold pK yu
        rw[ae,YE _ _ an]
        exact(bP.take _ aa).append (bP.drop _ aa)
       exact this.imp (by grind[dW.mono])
      refine⟨.tuple #[],_,L,J,.inl ?_,key.1,key.2,ab _,[],rfl,tV⟩
      simp[execOp,resolve,invoke,builtin,Builtin.delete_,run_underlying hu,hv,MapKept.run_getObj_map hh,aj,ad,af]
    .rename_i hf
     rcases yq ah ai hk aa hf with ⟨_,e2⟩|⟨j,v',e',e1,_⟩
     .have ad:=e2
      have key:=h.mem.jX (o:= .mp dM bs cZ) cJ dh rfl hl (.map es cZ) (ab _) (by grind[dd]) λhle=>by
       exact⟨b,_,rfl,xH _ _ _ ak,hl,aa.imp (by grind[dW.mono]),al⟩
      refine⟨.tuple #[],_,L,J,.inl ?_,key.1,key.2,ab _,[],rfl,tV⟩
      simp[execOp,resolve,invoke,builtin,Builtin.delete_,run_underlying hu,hv,MapKept.run_getObj_map hh,aj,ad,af]
     grind
    trivial
   trivial
  trivial
 .rename_i kd z hm hid
  obtain⟨kt,et,i,zv,hu,ah,_⟩:=GX hm
  rw[hid]at hx
  have hv:=Jf hx
  split
  .rename_i ai
   have aj: ∀em,(Instr.checkKey em 10000 kt (a.eval k)).run P w= .ok () w:=(by grind[GY])
   refine bU.pure h (x:= .tuple #[]) ?_ ⟨[],rfl,tV⟩
   simp_all[execOp,resolve,invoke,builtin,Builtin.delete_,run_underlying]
  trivial
 trivial
theorem Jg {et:TypeId} (hb:P.underlying t=some (.map kt et)) (m:aj5) (w:World):(Op.equal t (.map m) (.map none)).run P w= .ok m.isNone w:=by
 have key: ∀d,(Op.equalIn (d+1) t (.map m) (.map none)).run P w= .ok m.isNone w:=λd=>by
  cases m<;>simp[Op.equalIn,run_underlying hb]
 exact key 9999
def rL:Operand->Bool
 | .const (.map none)=>true
 |_=>false
def yw (op:BinOp) (m:Bool) (x:V):R:=
 match m,x with
 |true,.mp _=>(match op with| .eql=> .ok (.bool false)| .neq=> .ok (.bool true)|_=> .fail)
 |true,.raw (.map none)=>(match op with| .eql=> .ok (.bool true)| .neq=> .ok (.bool false)|_=> .fail)
 |_,_=> .fail
theorem YG {pos:String} (op:BinOp) (t t':TypeId) (x y:Operand) (hy:rL y) (h:dQ c nt e I a w L J):
  fa (yw op (ni P t) (zG e x)) I (bU P c ⟨dst,.binOp op t x y t',ty,pos,dX,g⟩ a w L I J):=by
 have hx:=h.eval x
 have aa:a.eval y= .map none:=by
  unfold rL at hy
  split at hy
  all_goals trivial
 unfold yw
 split
 .rename_i id hm hid
  unfold ni at hm
  split at hm
  .rename_i kt et hu
   rw[hid]at hx
   obtain⟨b,dh,hv⟩:=BV hx
   split
   .refine bU.pure h (x:= .bool false) ?_ (cF.bool _)
    simp[execOp,eqGuard,binOp,Jg hu,hv,aa]
   .refine bU.pure h (x:= .bool true) ?_ (cF.bool _)
    simp[execOp,eqGuard,binOp,Jg hu,hv,aa]
   trivial
  grind
 .rename_i hm hid
  unfold ni at hm
  split at hm
  .rename_i kt et hu
   rw[hid]at hx
   have hv:=Jf hx
   split
   .refine bU.pure h (x:= .bool true) ?_ (cF.bool _)
    simp[execOp,eqGuard,binOp,Jg hu,hv,aa]
   .refine bU.pure h (x:= .bool false) ?_ (cF.bool _)
    simp[execOp,eqGuard,binOp,Jg hu,hv,aa]
   trivial
  grind
 trivial
def yx (m:Bool) (I:St) (x:V):R:=
 match m,x with
 |true,.mp id=>(match I[id]? with|some (.mp _ _ cZ)=> .st (.ptr I.length 0) (I++ [.it (some id) cZ [] cZ])|_=> .fail)
 |true,.raw (.map none)=> .st (.ptr I.length 0) (I++ [.it none 0 [] 0])
 |_,_=> .fail
theorem YH {pos:String} (t:TypeId) (x:Operand) (h:dQ c nt e I a w L J):
  fa (yx (ni P t) I (zG e x)) I (bU P c ⟨dst,.range t x,ty,pos,dX,g⟩ a w L I J):=by
 have hx:=h.eval x
 have rd: ∀(o:Ob) (w':World),dD w' L (I++ [o]) (J++ [.pointer (some ⟨w.heap.size,0,none⟩)]) (.ptr I.length 0) (.pointer (some ⟨w.heap.size,0,none⟩)):=λo w'=>⟨w.heap.size,by rw[<-h.mem.len];simp,rfl⟩
 unfold yx
 split
 .rename_i id hm hid
  unfold ni at hm
  split at hm
  .rename_i kt et hu
   rw[hid]at hx
   obtain⟨b,dh,hv⟩:=BV hx
   split
   .rename_i dM bs cZ cJ
    obtain⟨b',es,e1,hh,hl,ad,ae⟩:=h.mem.di _ _ _ cJ dh
    cases e1
    have key:=h.mem.sJ (.mapIter (some b) cZ #[] cZ) (.it (some id) cZ [] cZ) (λhle aa=>⟨w.heap.size,some b,rfl,yL _ _,h.mem.lim _ om,b,(by grind),rfl⟩) (by grind[dd])
    refine⟨_,_,L,_,.inl ?_,key.1,key.2,Ext.push I J h.mem.len _ _,rd _ _⟩
    have ab:=run_range_map (P:=P) w t kt et b es cZ hu hh
    simp_all[execOp]
   trivial
  grind
 .rename_i hm hid
  unfold ni at hm
  split at hm
  .rename_i kt et hu
   rw[hid]at hx
   have hv:=Jf hx
   have key:=h.mem.sJ (.mapIter none 0 #[] 0) (.it none 0 [] 0) (λhle aa=>⟨w.heap.size,none,rfl,yL _ _,h.mem.lim _ om,rfl⟩) (by grind[dd])
   refine⟨_,_,L,_,.inl ?_,key.1,key.2,Ext.push I J h.mem.len _ _,rd _ _⟩
   have ab:=run_range_nilMap (P:=P) w t kt et hu
   simp_all[execOp]
  grind
 trivial
def yy (seen:aj0):List V->aj0->List (V×V×Nat)
 |k::v::dM,b::bs=>if seen.contains b then yy seen dM bs else(k,v,b)::yy seen dM bs
 |_,_=> []
def nj (open_:Bool) (I:St) (x:V):R:=
 match x with
 | .ptr i 0=>(match I[i]? with
  |some (.it none _ _ _)=> .ok (.cy [.bool false])
  |some (.it (some id) since seen last)=>(match I[id]? with
   |some (.mp dM bs cZ)=>if(bs.all λb=>decide (b<since))=true/\since<=last then(match yy seen dM bs with
    | []=> .ok (.cy [.bool false])
    | [(k,v,b)]=> .st (.cy [.bool true,k,v]) (I.set i (.it (some id) since (seen++ [b]) cZ))
    |l=>if open_ then .any (l.map λp=>(.cy [.bool true,p.1,p.2.1],I.set i (.it (some id) since (seen++ [p.2.2]) cZ)))else .fail)else .fail
   |_=> .fail)
  |_=> .fail)
 |_=> .fail
theorem QG: ∀(dM:List V) (bs:aj0) (es:List MapEntry) (seen:aj0),bP (dW w L I J) dM (es.flatMap λe=> [e.key,e.val])->es.map (·.born)=bs->
  bP (λp (e:MapEntry)=>dW w L I J p.1 e.key/\dW w L I J p.2.1 e.val/\e.born=p.2.2) (yy seen dM bs) (es.filter λe=> !seen.contains e.born)
 | [],bs,[],seen,_,hb=>by simpa
 | [],_,e::es,_,ha,_=>by trivial
 | [_],_,[],_,ha,_=>by trivial
 | [_],_,e::es,_,ha,_=>by grind[bP]
 |_::_::_,_,[],_,ha,_=>by trivial
 |k::v::dM,bs,e::es,seen,ha,hb=>by
  simp only[Bw,Bt,C7,bP]at ha
  obtain⟨h1,h2,h3⟩:=ha
  cases bs with
  |nil=>grind
  |cons b bs=>
   simp only[Aj,List.cons.injEq]at hb
   obtain⟨rfl,hb⟩:=hb
   have ih:=QG dM bs es seen h3 hb
   rw[yy,De]
   by_cases hc:seen.contains e.born=true
   .grind
   .rw[aiu hc,aiv (sU hc)];trivial
theorem YI {w1:World} (h:w1=w\/w1=w.drew) (hm:Mem c w L I J):Mem c w1 L I J/\Le w L w1 L:=by
 rcases h with rfl|rfl
 .grind[Le.refl]
 .exact hm.drew
theorem QH {pos:String} (open_:Bool) (x:Operand) (h:dQ c nt e I a w L J):
  fa (nj open_ I (zG e x)) I (bU P c ⟨dst,.next x false,ty,pos,dX,g⟩ a w L I J):=by
 have hx:=h.eval x
 unfold nj
 split
 .rename_i i hid
  rw[hid]at hx
  obtain⟨r,dh,hv⟩:=hx
  split
  .rename_i since seen last cJ
   obtain⟨r',mo,e1,hh,hl,aj⟩:=h.mem.di _ _ _ cJ dh
   cases e1
   simp only at aj
   subst aj
   refine bU.pure h (x:= .tuple #[.bool false]) ?_ ⟨[.bool false],rfl,dW.dK (df.dw (.bool _)),tV⟩
   simp[execOp,hv,Instr.next,getObj,Sem.run,hh]
  .rename_i id since seen last cJ
   obtain⟨r',mo,e1,hh,hl,b,ak,rfl⟩:=h.mem.di _ _ _ cJ dh
   cases e1
   split
   .rename_i dM bs cZ ao
    obtain⟨b',es,e1,aq,a1,al,an⟩:=h.mem.di _ _ _ ao ak
    cases e1
    split
    .rename_i hc
     have a6:r<w.heap.size:=(by grind)
     have aa:=QG dM bs es.toList seen al an
     have ar:(leftOf es seen.toArray).toList=es.toList.filter λe=> !seen.contains e.born:=by
      simp[leftOf]
     rw[<-ar]at aa
     have hold: ∀x∈es.toList,x.born<since:=λx hx=>by
      have:=Am.1 hc.1 x.born (by rw[<-an];exact Ac.2 ⟨x,hx,rfl⟩)
      grind
     have ad:=run_next_at (P:=P) w ty r b since last seen.toArray es cZ hh aq hold hc.2
     have ae: ∀o,Ext I J (I.set i o) J:=(by simp_all[Ext.ir])
     have step: ∀(q:V×V×Nat) (en:MapEntry) (w1:World),(w1=w\/w1=w.drew)->dW w L I J q.1 en.key->dW w L I J q.2.1 en.val->en.born=q.2.2->
       (Instr.next (.pointer (some ⟨r,0,none⟩)) false ty).run P w= .ok (.tuple #[.bool true,en.key,en.val]) (ChangeMaps.setBlock w1 r (.mapIter (some b) since (seen.toArray.push en.born) cZ))->
       bU P c ⟨dst,.next x false,ty,pos,dX,g⟩ a w L I J (.cy [.bool true,q.1,q.2.1]) (I.set i (.it (some id) since (seen++ [q.2.2]) cZ)):=by
      intro q en w1 af h1 h2 h3 ab
      obtain⟨au,ah⟩:=YI af h.mem
      have a7:w1.heap[r]? =some (.mapIter (some b) since seen.toArray last):=by rcases af with rfl|rfl<;>exact hh
      have ax:r<w1.heap.size:=(by grind)
      have key:=au.jX (o:= .it (some id) since (seen++ [q.2.2]) cZ) cJ dh rfl hl (.mapIter (some b) since (seen.toArray.push en.born) cZ) (ae _) (by grind[dd]) λhle=>by
       refine⟨r,some b,rfl, ?_,hl,b,ak,rfl⟩
       grind[xH]
      refine⟨.tuple #[.bool true,en.key,en.val],yC w1 r (.mapIter (some b) since (seen.toArray.push en.born) cZ),L,J,.inl ?_,key.1,ah.trans key.2,ae _, ?_⟩
      .simp only[execOp,hv,Sem.run_bind,ab,Result.andThen_ok,Sem.run_pure]
       rfl
      .exact⟨[.bool true,en.key,en.val],rfl,dW.dK (df.dw (.bool _)),h1.mono (ah.trans key.2) (ae _),h2.mono (ah.trans key.2) (ae _),tV⟩
     split
     .rename_i av
      rw[av]at aa
      have h0:(leftOf es seen.toArray).size=0:=by
       have:=aa.length
       grind
      rcases ad with ⟨_,ab⟩|⟨en,ai,_⟩
      .refine bU.pure h (x:= .tuple #[.bool false]) ?_ ⟨[.bool false],rfl,dW.dK (df.dw (.bool _)),tV⟩
       grind[execOp,Sem.run_bind,Result.andThen_ok,Sem.run_pure]
      grind
     .rename_i k v b0 aw
      rw[aw]at aa
      have h0:(leftOf es seen.toArray).size=1:=by
       have:=aa.length
       grind
      rcases ad with ⟨hz,_⟩|⟨en,ai,w1,af,ab⟩
      .omega
      .obtain⟨q,hq,h1,h2,h3⟩:=bP.nh aa ai
       simp at hq
       subst hq
       exact step _ en w1 af h1 h2 h3 ab
     .rename_i l ay az
      split
      case isFalse=>trivial
      rcases ad with ⟨hz,_⟩|⟨en,ai,w1,af,ab⟩
      .have:=aa.length
       grind
      .obtain⟨q,hq,h1,h2,h3⟩:=bP.nh aa ai
       exact⟨_,Ac.2 ⟨q,hq,rfl⟩,(by grind)⟩
    trivial
   trivial
  trivial
 trivial
def wD (m:Option (Kk×V)) (I:St) (x k:V):R:=
 match m,x with
 |some (kd,z),.mp id=>if mT kd k=true then(match I[id]? with
  |some (.mp dM bs cZ)=>(match oq kd k dM 0 with
   |some (some (i,v))=>(match bs[i]? with|some b=> .ok (.cy [v,.int .i64 (b:Int)])|none=> .fail)
   |some none=> .st (.cy [z,.int .i64 (cZ:Int)]) (I.set id (.mp (dM++ [k,z]) (bs++ [cZ]) (cZ+1)))
   |none=> .fail)
  |_=> .fail)else .fail
 |_,_=> .fail
theorem YJ (es:Array MapEntry) (i:Nat) (f:MapEntry->MapEntry) (h: ∀e,es[i]? =some e->f e=e):es.modify i f=es:=by
 grind
theorem YK {pos:String} (t:TypeId) (x k:Operand) (h:dQ c nt e I a w L J):
  fa (wD (gD P t) I (zG e x) (zG e k)) I (bU P c ⟨dst,.mapEntry t x k,ty,pos,dX,g⟩ a w L I J):=by
 have hx:=h.eval x
 have hk:=h.eval k
 unfold wD
 split
 .rename_i kd z id hm hid
  obtain⟨kt,et,i,zv,hu,ah,hi,hz,av,ai⟩:=GX hm
  rw[hid]at hx
  split
  .rename_i ad
   have aj: ∀em,(Instr.checkKey em 10000 kt (a.eval k)).run P w= .ok () w:=(by grind[GY])
   have an:(zeroValue et).run P w= .ok zv w:=by simp_all[zeroValue,typeInfo]
   obtain⟨b,dh,hv⟩:=BV hx
   split
   .rename_i dM bs cZ cJ
    obtain⟨b',es,e1,hh,hl,aa,ao⟩:=h.mem.di _ _ _ cJ dh
    cases e1
    have ak:b<w.heap.size:=(by grind)
    have ab: ∀o,Ext I J (I.set id o) J:=(by simp_all[Ext.ir])
    have ae: ∀ob:Go.Obj,(setObj b ob).run P w= .ok () (yC w b ob):=λob=>by rw[MapKept.run_setObj_map ob hh];rfl
    split
    .rename_i i0 v0 hf
     split
     .rename_i b0 aw
      rcases yq ah ad hk aa hf with ⟨e1,_⟩|⟨j,v',e',e1,e2,e3,_,e5,kk,e6,e7⟩
      .cases e1
      .simp only[aiy,aiF]at e1
       obtain⟨rfl,rfl⟩:=e1
       have hj:es[i0]? =some e':=by grind
       have al:e'.key=a.eval k:=by
        obtain⟨y,hy,r⟩:=aa.get _ _ e6
        unfold pK at hy
        rw[(BW _ i0).1,e3]at hy
        simp at hy
        subst hy
        exact(Qy hk (dD.lf r) e7).symm
       have aq:e'.born=b0:=by
        grind
       have af:(es.modify i0 λe=>{e with key:=a.eval k})=es:=YJ es i0 _ λe he=>by
        rw[hj]at he;cases he;rw[<-al]
       have ar:I.set id (.mp dM bs cZ)=I:=yN I id _ cJ
       have key:=h.mem.jX (o:= .mp dM bs cZ) cJ dh rfl hl (.map es cZ) (ab _) (by grind[dd]) λhle=>by
        exact⟨b,_,rfl,xH _ _ _ ak,hl,aa.imp (by grind[dW.mono]),ao⟩
       rw[ar]at key
       refine⟨.tuple #[e'.val,.int .i64 (b0:Int)],_,L,J,.inl ?_,key.1,key.2,Ext.refl _ _,[e'.val,.int .i64 (b0:Int)],rfl,e5.mono key.2 (by grind),dW.dK (df.dw (.int _ _)),tV⟩
       simp[execOp,Instr.mapEntry,run_underlying hu,hv,MapKept.run_getObj_map hh,aj,e2,ae,hj,al,Qz ad hk,af,aq,goInt]
     trivial
    .rename_i hf
     rcases yq ah ad hk aa hf with ⟨_,e2⟩|⟨j,v',e',e1,_⟩
     .have au:dW w L I J (zG e k) (a.eval k):=ER hk (QC ad)
      have key:=h.mem.jX (o:= .mp (dM++ [zG e k,z]) (bs++ [cZ]) (cZ+1)) cJ dh rfl hl (.map (es.push {key:=a.eval k,val:=zv,born:=cZ}) (cZ+1)) (ab _) (by grind[dd]) λhle=>by
       refine⟨b,_,rfl,xH _ _ _ ak,hl, ?_,by grind⟩
       have:bP (dW w L I J) (dM++ [zG e k,z]) (pK (es.push {key:=a.eval k,val:=zv,born:=cZ})):=by
        simp only[pK,Array.toList_push,aiQ]
        exact bP.append aa ⟨au,ai _ _ _ _,tV⟩
       exact this.imp (by grind[dW.mono])
      refine⟨.tuple #[zv,.int .i64 (cZ:Int)],_,L,J,.inl ?_,key.1,key.2,ab _,[zv,.int .i64 (cZ:Int)],rfl,ai _ _ _ _,dW.dK (df.dw (.int _ _)),tV⟩
      simp[execOp,Instr.mapEntry,run_underlying hu,hv,MapKept.run_getObj_map hh,aj,e2,ae,an,goInt]
     grind
    trivial
   trivial
  trivial
 trivial
def xT (I:St) (x s v:V):R:=
 match x,s with
 | .mp id,.int _ n=>if nb v=true then(match I[id]? with
  |some (.mp dM bs cZ)=>(match bs.findIdx? λ(b:Nat)=>(b:Int)==n with
   |some i=> .st .u (I.set id (.mp (dM.set (2*i+1) v) bs cZ))
   |none=> .fail)
  |_=> .fail)else .fail
 |_,_=> .fail
theorem YL {pos:String} (t:TypeId) (x s v:Operand) (h:dQ c nt e I a w L J):
  fa (xT I (zG e x) (zG e s) (zG e v)) I (bU P c ⟨dst,.entryStore t x s v,ty,pos,dX,g⟩ a w L I J):=by
 have hx:=h.eval x
 have hs:=h.eval s
 have hv:=h.eval v
 unfold xT
 split
 .rename_i id k n hid ai
  rw[hid]at hx
  rw[ai]at hs
  have hs:=yO hs
  split
  .rename_i hc
   obtain⟨b,dh,aj⟩:=BV hx
   split
   .rename_i dM bs cZ cJ
    obtain⟨b',es,e1,hh,hl,aa,ak⟩:=h.mem.di _ _ _ cJ dh
    cases e1
    have al:b<w.heap.size:=(by grind)
    have ab: ∀o,Ext I J (I.set id o) J:=(by simp_all[Ext.ir])
    have ad: ∀ob:Go.Obj,(setObj b ob).run P w= .ok () (yC w b ob):=λob=>by rw[MapKept.run_setObj_map ob hh];rfl
    split
    .rename_i i hf
     have ae:(es.findIdx? λe=>(e.born:Int)==n)=some i:=by
      rw[<-ak,List.findIdx?_map]at hf
      have hq:es.findIdx? (λe=>(e.born:Int)==n)=es.toList.findIdx? λe=>(e.born:Int)==n:=by
       obtain⟨l⟩:=es
       simp
      rw[hq]
      exact hf
     have hi:i<es.size:=by
      obtain⟨h1,_⟩:=Array.findIdx?_eq_some_iff_getElem.1 ae
      exact h1
     have an:dW w L I J (zG e v) (a.eval v):=ER hv hc
     have hlen:=aa.length
     unfold pK at hlen
     rw[Mk]at hlen
     simp only[Cq]at hlen
     have ao:2*i<dM.length:=om
     have af:dW w L I J dM[2*i] es[i].key:=by
      obtain⟨y,hy,r⟩:=aa.get (2*i) _ (A0 ao)
      grind[pK,BW]
     have aq:qn dM i dM[2*i] (zG e v)=dM.set (2*i+1) (zG e v):=by
      grind[qn,List.set_getElem_self]
     have ah:(es.modify i λe=>{e with val:=a.eval v})=es.modify i λe=>{e with key:=es[i].key,val:=a.eval v}:=by
      rfl
     have key:=h.mem.jX (o:= .mp (qn dM i dM[2*i] (zG e v)) bs cZ) cJ dh rfl hl (.map (es.modify i λe=>{e with key:=es[i].key,val:=a.eval v}) cZ) (ab _) (by grind[dd]) λhle=>by
      refine⟨b,_,rfl,xH _ _ _ al,hl,(QA aa af an hi).imp (by grind[dW.mono]),by rw[QB];omega⟩
     rw[aq,<-ah]at key
     refine⟨undef,_,L,J,.inr ⟨?_,rfl⟩,key.1,key.2,ab _,tV⟩
     simp[execOp,Instr.entryStore,aj,hs,MapKept.run_getObj_map hh,asInt,asIntOf,ae,ad]
    trivial
   trivial
  trivial
 trivial
def EU (b:Nat):List V->aj0->Option (V×V)
 |k::v::dM,b'::bs=>if b'=b then some (k,v)else EU b dM bs
 |_,_=>none
def qo (I:St) (x:V):R:=
 match x with
 | .ptr i 0=>(match I[i]? with
  |some (.it (some id) _ seen last)=>(match I[id]?,seen.getLast? with
   |some (.mp dM bs cZ),some b=>if cZ=last then(match EU b dM bs with|some (k,v)=> .ok (.cy [k,v])|none=> .fail)else .fail
   |_,_=> .fail)
  |_=> .fail)
 |_=> .fail
theorem mf (b:Nat): ∀(dM:List V) (bs:aj0) (es:List MapEntry) (k v:V),bP (dW w L I J) dM (es.flatMap λe=> [e.key,e.val])->es.map (·.born)=bs->EU b dM bs=some (k,v)->
  ∃e,es.find? (·.born==b)=some e/\dW w L I J k e.key/\dW w L I J v e.val
 | [],_,_,_,_,_,_,h=>by trivial
 | [_],_,_,_,_,_,_,h=>by trivial
 |_::_::_,_,[],_,_,ha,_,_=>by simpa
 |k0::v0::dM,bs,e::es,k,v,ha,hb,h=>by
  simp only[Bw,Bt,C7,bP]at ha
  obtain⟨h1,h2,h3⟩:=ha
  cases bs with
  |nil=>grind
  |cons b' bs=>
   simp only[Aj,List.cons.injEq]at hb
   obtain⟨rfl,hb⟩:=hb
   rw[EU]at h
   by_cases q:e.born=b
   .grind
   .rw[aiu q]at h
    obtain⟨e',g1,g2,g3⟩:=mf b dM bs es k v h3 hb h
    have qb:(e.born==b)=false:=sU q
    exact⟨e',by rw[List.find?_cons,qb];exact g1,g2,g3⟩
theorem YM {pos:String} (x:Operand) (h:dQ c nt e I a w L J):
  fa (qo I (zG e x)) I (bU P c ⟨dst,.entry x,ty,pos,dX,g⟩ a w L I J):=by
 have hx:=h.eval x
 unfold qo
 split
 .rename_i i hid
  rw[hid]at hx
  obtain⟨r,dh,hv⟩:=hx
  split
  .rename_i id since seen last cJ
   obtain⟨r',mo,e1,hh,hl,b,ab,rfl⟩:=h.mem.di _ _ _ cJ dh
   cases e1
   split
   .rename_i dM bs cZ b0 ad af
    obtain⟨b',es,e1,ah,ai,aa,ae⟩:=h.mem.di _ _ _ ad ab
    cases e1
    split
    .rename_i hc
     subst hc
     split
     .rename_i k v he
      obtain⟨en,g1,g2,g3⟩:=mf b0 dM bs es.toList k v aa ae he
      have aj:es.find? (·.born==b0)=some en:=by
       grind
      have ak:seen.toArray.back? =some b0:=by
       grind
      refine bU.pure h (x:= .tuple #[en.key,en.val]) ?_ ⟨[en.key,en.val],rfl,g2,g3,tV⟩
      simp_all[execOp,Instr.entry,getObj,Sem.run]
     trivial
    trivial
   trivial
  trivial
 trivial
def EV (P:Program) (t:TypeId):Bool:=match P.underlying t with|some (.slice _)=>true|_=>false
def yz (b:Bool) (t:TypeId) (x:V):R:=
 match b,x with
 |true,.cM id s n lo m=> .ok (.gV t [.cM id s n lo m])
 |true,.sl g rows=> .ok (.gV t [.sl g rows])
 |_,_=> .fail
theorem YN {pos:String} (t:TypeId) (x:Operand) (h:dQ c nt e I a w L J):
  fa (yz (EV P t) t (zG e x)) I (bU P c ⟨dst,.makeInterface t x,ty,pos,dX,g⟩ a w L I J):=by
 have hx:=h.eval x
 have hu:EV P t=true->(Instr.makeInterface t (a.eval x)).run P w= .ok (.iface t (a.eval x)) w:=λhb=>by
  unfold EV at hb
  split at hb
  all_goals simp_all[Instr.makeInterface,run_underlying]
 unfold yz
 split
 .rename_i id s n lo m hb hid
  rw[hid]at hx
  exact bU.pure h (x:= .iface t (a.eval x)) (by simp_all[execOp]) ⟨a.eval x,rfl,hx,tV⟩
 .rename_i g rows hb hid
  rw[hid]at hx
  exact bU.pure h (x:= .iface t (a.eval x)) (by simp_all[execOp]) ⟨a.eval x,rfl,hx,tV⟩
 trivial
end
def du (ρ:Nat->Nat):V->V
 | .ptr id off=> .ptr (ρ id) off
 | .sl (.app id) rows=> .sl (.app (ρ id)) rows
 | .cM id s n lo m=> .cM (ρ id) s n lo m
 | .iQ id s n k j=> .iQ (ρ id) s n k j
 | .j6 id s off n=> .j6 (ρ id) s off n
 | .mp id=> .mp (ρ id)
 |v=>v
def dj (ρ:Nat->Nat):V->V
 | .fn f bY=> .fn f (bY.map (du ρ))
 | .gV t vs=> .gV t (vs.map (du ρ))
 |v=>du ρ v
def dN (ρ:Nat->Nat):V->V
 | .agg cs=> .agg (cs.map (dj ρ))
 |v=>dj ρ v
def dI (ρ:Nat->Nat):V->V
 | .cy vs=> .cy (vs.map (dN ρ))
 |v=>dN ρ v
def yA (ρ:Nat->Nat):Ob->Ob
 | .box cells=> .box (cells.map (dj ρ))
 | .cj rows s=> .cj (rows.map λr=>r.map (dj ρ)) s
 | .mp dM gh cZ=> .mp (dM.map (dN ρ)) gh cZ
 | .it m since seen last=> .it (m.map ρ) since seen last
 |o=>o
theorem bP.fO {U J γ:Type} {R:U->J->Prop} {S:γ->J->Prop} {f:U->γ} (h: ∀a b,R a b->S (f a) b): ∀{l:List U} {m:List J},bP R l m->bP S (l.map f) m
 | [],[],_=>trivial
 |_::_,_::_,q=>⟨h _ _ q.1,bP.fO h q.2⟩
 | [],_::_,q=>q.elim
 |_::_,[],q=>q.elim
theorem bP.gA {U J γ:Type} {R:U->J->Prop} {S:γ->J->Prop} {f:U->γ} (h: ∀a b,S (f a) b->R a b): ∀{l:List U} {m:List J},bP S (l.map f) m->bP R l m
 | [],[],_=>trivial
 |_::_,_::_,q=>⟨h _ _ q.1,bP.gA h q.2⟩
 | [],_::_,q=>q.elim
 |_::_,[],q=>q.elim
structure EW (ρ:Nat->Nat) (I:St) (J:aj1) (Ic:St) (Jc:aj1):Prop where
 val: ∀(id:Nat) x,J[id]? =some x->Jc[ρ id]? =some x
 app: ∀(id:Nat) n s,I[id]? =some (.app n s)->Ic[ρ id]? =some (.app n s)
 cj: ∀(id:Nat) rows s,I[id]? =some (.cj rows s)-> ∃ep,Ic[ρ id]? =some (.cj ep s)/\ep.length=rows.length
 dead: ∀(id:Nat),I[id]? =some .dead->Ic[ρ id]? =some .dead
structure sK (ρ:Nat->Nat) (I:St) (J:aj1) (Ic:St) (Jc:aj1):Prop where
 val: ∀(id:Nat) x,Jc[ρ id]? =some x->J[id]? =some x
 app: ∀(id:Nat) n s,Ic[ρ id]? =some (.app n s)->I[id]? =some (.app n s)
 cj: ∀(id:Nat) rows s,Ic[ρ id]? =some (.cj rows s)-> ∃ep,I[id]? =some (.cj ep s)/\ep.length=rows.length
 dead: ∀(id:Nat),Ic[ρ id]? =some .dead->I[id]? =some .dead
section
variable {ρ:Nat->Nat} {w:World} {L:Nat->Nat} {I Ic:St} {J Jc:aj1}
variable {x:Value}
theorem gP.mg (h:EW ρ I J Ic Jc) {v:V} (r:gP w L I J v x):gP w L Ic Jc (du ρ v) x:=by
 cases v with
 |ptr id off=>obtain⟨b,hb,hx⟩:=r;exact⟨b,h.val _ _ hb,hx⟩
 |sl g rows=>cases g with
  |app id=>obtain⟨hr,n,s,cJ,hle,dh,hl⟩:=r;exact⟨hr,n,s,h.app _ _ _ cJ,hle,λq=>h.val _ _ (dh q),hl⟩
  |ro=>exact r
  |full=>exact r
 |cM id s n lo m=>
  obtain⟨a,cap,hx,hm,ha,hc⟩:=r
  refine⟨a,cap,hx,hm,ha, ?_⟩
  rcases hc with hd|⟨rows,cJ,hn,hb⟩
  .exact .inl (h.dead id hd)
  .obtain⟨r2,e2,l2⟩:=h.cj id rows s cJ
   refine .inr ⟨r2,e2,om,λq=> ?_⟩
   obtain⟨b,c0,q1,q2⟩:=hb om
   exact⟨b,c0,h.val _ _ q1,q2⟩
 |iQ id s n i j=>
  obtain⟨b,o,hx,hc⟩:=r
  refine⟨b,o,hx, ?_⟩
  rcases hc with hd|⟨rows,cJ,hn,hb⟩
  .exact .inl (h.dead id hd)
  .obtain⟨r2,e2,l2⟩:=h.cj id rows s cJ
   refine .inr ⟨r2,e2,om,λq q'=> ?_⟩
   obtain⟨c0,q1,q2⟩:=hb om q'
   exact⟨c0,h.val _ _ q1,q2⟩
 |j6 id s off n=>obtain⟨b,hb,hx⟩:=r;exact⟨b,h.val _ _ hb,hx⟩
 |mp id=>obtain⟨b,hb,hx⟩:=r;exact⟨b,h.val _ _ hb,hx⟩
 |_=>exact r
theorem gP.jt (h:sK ρ I J Ic Jc) {v:V} (r:gP w L Ic Jc (du ρ v) x):gP w L I J v x:=by
 cases v with
 |ptr id off=>obtain⟨b,hb,hx⟩:=r;exact⟨b,h.val _ _ hb,hx⟩
 |sl g rows=>cases g with
  |app id=>obtain⟨hr,n,s,cJ,hle,dh,hl⟩:=r;exact⟨hr,n,s,h.app _ _ _ cJ,hle,λq=>h.val _ _ (dh q),hl⟩
  |ro=>exact r
  |full=>exact r
 |cM id s n lo m=>
  obtain⟨a,cap,hx,hm,ha,hc⟩:=r
  refine⟨a,cap,hx,hm,ha, ?_⟩
  rcases hc with hd|⟨rows,cJ,hn,hb⟩
  .exact .inl (h.dead id hd)
  .obtain⟨r2,e2,l2⟩:=h.cj id rows s cJ
   refine .inr ⟨r2,e2,om,λq=> ?_⟩
   obtain⟨b,c0,q1,q2⟩:=hb om
   exact⟨b,c0,h.val _ _ q1,q2⟩
 |iQ id s n i j=>
  obtain⟨b,o,hx,hc⟩:=r
  refine⟨b,o,hx, ?_⟩
  rcases hc with hd|⟨rows,cJ,hn,hb⟩
  .exact .inl (h.dead id hd)
  .obtain⟨r2,e2,l2⟩:=h.cj id rows s cJ
   refine .inr ⟨r2,e2,om,λq q'=> ?_⟩
   obtain⟨c0,q1,q2⟩:=hb om q'
   exact⟨c0,h.val _ _ q1,q2⟩
 |j6 id s off n=>obtain⟨b,hb,hx⟩:=r;exact⟨b,h.val _ _ hb,hx⟩
 |mp id=>obtain⟨b,hb,hx⟩:=r;exact⟨b,h.val _ _ hb,hx⟩
 |_=>exact r
theorem df.mg (h:EW ρ I J Ic Jc) {v:V} (r:df w L I J v x):df w L Ic Jc (dj ρ v) x:=by
 cases v with
 |fn f bY=>obtain⟨xs,hx,hc⟩:=r;exact⟨xs,hx,(by grind[bP.fO,gP.mg])⟩
 |gV t v=>obtain⟨y,hx,hc⟩:=r;exact⟨y,hx,(by grind[bP.fO,gP.mg])⟩
 |sl g rows=>
  have r':gP w L I J (.sl g rows) x:=r
  have:=r'.mg h
  cases g<;>exact this
 |_=>simp only[df]at r;have q:=gP.mg h r;exact q
theorem df.jt (h:sK ρ I J Ic Jc) {v:V} (r:df w L Ic Jc (dj ρ v) x):df w L I J v x:=by
 cases v with
 |fn f bY=>obtain⟨xs,hx,hc⟩:=r;exact⟨xs,hx,(by grind[bP.gA,gP.jt])⟩
 |gV t v=>obtain⟨y,hx,hc⟩:=r;exact⟨y,hx,(by grind[bP.gA,gP.jt])⟩
 |sl g rows=>
  have r':gP w L Ic Jc (du ρ (.sl g rows)) x:=by cases g<;>exact r
  exact r'.jt h
 |_=>simp only[df];refine gP.jt h ?_;exact r
theorem dW.mg (h:EW ρ I J Ic Jc) {v:V} (r:dW w L I J v x):dW w L Ic Jc (dN ρ v) x:=by
 cases v with
 |agg cs=>obtain⟨xs,hx,hc⟩:=r;exact⟨xs,hx,(by grind[bP.fO,df.mg])⟩
 |sl g rows=>
  have r':df w L I J (.sl g rows) x:=r
  have:=r'.mg h
  cases g<;>exact this
 |_=>simp only[dW]at r;have q:=df.mg h r;exact q
theorem dW.jt (h:sK ρ I J Ic Jc) {v:V} (r:dW w L Ic Jc (dN ρ v) x):dW w L I J v x:=by
 cases v with
 |agg cs=>obtain⟨xs,hx,hc⟩:=r;exact⟨xs,hx,(by grind[bP.gA,df.jt])⟩
 |sl g rows=>
  have r':df w L Ic Jc (dj ρ (.sl g rows)) x:=by cases g<;>exact r
  exact r'.jt h
 |_=>simp only[dW];refine df.jt h ?_;exact r
theorem dD.mg (h:EW ρ I J Ic Jc) {v:V} (r:dD w L I J v x):dD w L Ic Jc (dI ρ v) x:=by
 cases v with
 |u=>trivial
 |cy vs=>obtain⟨xs,hx,hc⟩:=r;exact⟨xs,hx,(by grind[bP.fO,dW.mg])⟩
 |sl g rows=>
  have r':dW w L I J (.sl g rows) x:=r
  have:=r'.mg h
  cases g<;>exact this
 |_=>simp only[dD]at r;have q:=dW.mg h r;exact q
theorem dD.jt (h:sK ρ I J Ic Jc) {v:V} (r:dD w L Ic Jc (dI ρ v) x):dD w L I J v x:=by
 cases v with
 |u=>trivial
 |cy vs=>obtain⟨xs,hx,hc⟩:=r;exact⟨xs,hx,(by grind[bP.gA,dW.jt])⟩
 |sl g rows=>
  have r':dW w L Ic Jc (dN ρ (.sl g rows)) x:=by cases g<;>exact r
  exact r'.jt h
 |_=>simp only[dD];refine dW.jt h ?_;exact r
theorem gW.mg (h:EW ρ I J Ic Jc) {o:Ob} (r:gW w L I J o x):gW w L Ic Jc (yA ρ o) x:=by
 cases o with
 |box cells=>obtain⟨b,arr,T,fz,hx,hh,hf,hl,hc⟩:=r;exact⟨b,arr,T,fz,hx,hh,hf,hl,(by grind[bP.fO,df.mg])⟩
 |cj rows s=>
  obtain⟨a,cap,hx,dq,hs,hu,cQ⟩:=r
  refine⟨a,cap,by grind,by grind,hs,λr hr=> ?_,λh0=> ?_⟩
  .grind
  grind[bP.fO,df.mg]
 |app n s=>exact r
 |dead=>trivial
 |mp dM gh cZ=>obtain⟨b,es,hx,hh,hl,hc,hb⟩:=r;exact⟨b,es,hx,hh,hl,(by grind[bP.fO,dW.mg]),hb⟩
 |it m since seen last=>
  obtain⟨b,mo,hx,hh,hl,hc⟩:=r
  refine⟨b,mo,hx,hh,hl, ?_⟩
  cases m with
  |none=>exact hc
  |some id=>obtain⟨q,hq,hm⟩:=hc;exact⟨q,h.val _ _ hq,hm⟩
theorem gW.jt (h:sK ρ I J Ic Jc) {o:Ob} (r:gW w L Ic Jc (yA ρ o) x):gW w L I J o x:=by
 cases o with
 |box cells=>obtain⟨b,arr,T,fz,hx,hh,hf,hl,hc⟩:=r;exact⟨b,arr,T,fz,hx,hh,hf,hl,(by grind[bP.gA,df.jt])⟩
 |cj rows s=>
  obtain⟨a,cap,hx,dq,hs,hu,cQ⟩:=r
  refine⟨a,cap,by grind,by grind,hs,λr hr=> ?_,λh0=> ?_⟩
  .simp_all
  grind[bP.gA,df.jt]
 |app n s=>exact r
 |dead=>trivial
 |mp dM gh cZ=>obtain⟨b,es,hx,hh,hl,hc,hb⟩:=r;exact⟨b,es,hx,hh,hl,(by grind[bP.gA,dW.jt]),hb⟩
 |it m since seen last=>
  obtain⟨b,mo,hx,hh,hl,hc⟩:=r
  refine⟨b,mo,hx,hh,hl, ?_⟩
  cases m with
  |none=>exact hc
  |some id=>obtain⟨q,hq,hm⟩:=hc;exact⟨q,h.val _ _ hq,hm⟩
theorem sL (o:Ob) (x:Value):dd (yA ρ o) x=dd o x:=by
 cases o with
 |cj rows s=>cases x with
  |slice a n cap=>cases a<;>rfl
  |_=>rfl
 |_=>cases x<;>first|rfl|(rename_i q;cases q<;>rfl)
end
variable {I:St}{P:Program}
def uz (I:St) (J:aj1):aj0:=(I.zip J).filterMap λp=>dd p.1 p.2
theorem gQ {J:aj1} {b:Nat}:b∈uz I J↔ ∃(i:Nat) (o:Ob) (x:Value),I[i]? =some o/\J[i]? =some x/\dd o x=some b:=by
 unfold uz
 rw[List.mem_filterMap]
 constructor
 .rintro⟨⟨o,x⟩,hm,he⟩
  obtain⟨i,hi⟩:=Ar.1 hm
  grind[List.getElem?_zip_eq_some]
 .rintro⟨i,o,x,h1,h2,h3⟩
  exact⟨(o,x),Ar.2 ⟨i,by grind⟩,h3⟩
def entry (w:World) (L:Nat->Nat) (I:St) (J:aj1):Ctx:=⟨w,L,uz I J,I,J⟩
def cK (dg:aj0) (N:Nat) (id:Nat):Nat:=if h:id<dg.length then dg[id]else N+(id - dg.length)
def bN (P:Program) (f:FuncId) (args:List V) (I:St) (R:V->St->Prop):Prop:=
 ∀(w:World) (L:Nat->Nat) (J:aj1) (j7:aj1),Mem (entry w L I J) w L I J->bP (dD w L I J) args j7->
  Calls P f j7.toArray w λe w'=> ∃v r L' I' J',e= .returned v/\R r I'/\I.length<=I'.length/\Mem (entry w L I J) w' L' I' J'/\dD w' L' I' J' r v
theorem bN.mono {f:FuncId} {args:List V} {R R':V->St->Prop} (h:bN P f args I R) (hR: ∀r I',R r I'->R' r I'):bN P f args I R':=
 λw L J aa hm ha=>(h w L J aa hm ha).mono (by grind)
def VC (P:Program) (c:Ctx) (fv:V) (args:List V) (I:St) (K:V->St->Prop):Prop:=
 ∃f bY,fv= .fn f bY/\(((∃fn,P.funcs[f]? =some fn/\(fn.name== "runtime.NumGoroutine")=false/\fn.body.isSome=true)/\
  ∀w L J j7,Mem c w L I J->bP (dD w L I J) (args++bY) j7->
   Calls P f j7.toArray w λe w'=> ∃v r L' I' J',e= .returned v/\K r I'/\Mem c w' L' I' J'/\Le w L w' L'/\Ext I J I' J'/\dD w' L' I' J' r v)\/
  ∀w L J j7,Mem c w L I J->bP (dD w L I J) (args++bY) j7->
   ∃v r w' L' I' J',(callFunc f j7.toArray).run P w= .ok (.value v) w'/\K r I'/\Mem c w' L' I' J'/\Le w L w' L'/\Ext I J I' J'/\dD w' L' I' J' r v)
theorem VC.mono {c:Ctx} {fv:V} {az:List V} {K K':V->St->Prop} (h:VC P c fv az I K) (hk: ∀v s,K v s->K' v s):VC P c fv az I K':=by
 obtain⟨f,bY,h1,⟨h2,h3⟩|h3⟩:=h
 .refine⟨f,bY,h1,.inl ⟨h2,λw L J aa hm ha=>(h3 w L J aa hm ha).mono ?_⟩⟩
  grind
 .refine⟨f,bY,h1,.inr λw L J aa hm ha=> ?_⟩
  grind
def xE (P:Program) (f:FuncId):Bool:=match P.funcs[f]? with|some fn=> !(fn.name== "runtime.NumGoroutine")&&fn.body.isSome|none=>false
theorem Jh {f:FuncId} (h:xE P f): ∃fn,P.funcs[f]? =some fn/\(fn.name== "runtime.NumGoroutine")=false/\fn.body.isSome=true:=by
 unfold xE at h
 grind
def oN (ρ:Nat->Nat) (a' a:V):Prop:=a=dj ρ a'\/ ∃g rows,a'= .sl .ro rows/\a= .sl g rows
def nk (ρ:Nat->Nat) (a' a:V):Prop:=a=dN ρ a'\/(∃g rows,a'= .sl .ro rows/\a= .sl g rows)\/ ∃cs' cs,a'= .agg cs'/\a= .agg cs/\bP (oN ρ) cs' cs
def cT (ρ:Nat->Nat) (a' a:V):Prop:=a=dI ρ a'\/a'= .u\/(∃g rows,a'= .sl .ro rows/\a= .sl g rows)\/(∃cs' cs,a'= .agg cs'/\a= .agg cs/\bP (oN ρ) cs' cs)\/ ∃gY vs,a'= .cy gY/\a= .cy vs/\bP (nk ρ) gY vs
def fI {U:Type}:aj0->List U->List U->List U
 |i::dg,l,x::xs=>fI dg (l.set i x) xs
 |_,l,_=>l
theorem np {U:Type}: ∀(dg:aj0) (l xs:List U),(fI dg l xs).length=l.length
 | [],_,_=>by rfl
 |i::dg,l,[]=>by rfl
 |i::dg,l,x::xs=>by simp[fI,np dg]
theorem sM {U:Type}: ∀(dg:aj0) (l xs:List U) (j:Nat),j∉dg->(fI dg l xs)[j]? =l[j]?
 | [],_,_,_,_=>by rfl
 |i::dg,l,[],_,_=>by rfl
 |i::dg,l,x::xs,j,h=>by
  simp only[Ae,not_or]at h
  rw[fI,sM dg _ xs j h.2,D8 (λq=>h.1 q.symm)]
theorem Ji {U:Type}: ∀(dg:aj0) (l xs:List U) (i j:Nat),dg.Nodup->(∀q∈dg,q<l.length)->dg.length<=xs.length->dg[i]? =some j->(fI dg l xs)[j]? =xs[i]?
 | [],_,_,_,_,_,_,_,h=>by grind
 |i0::dg,l,[],_,_,_,_,hl,_=>by grind
 |i0::dg,l,x::xs,0,j,hn,aa,hl,h=>by
  simp at h
  subst h
  rw[C1]at hn
  rw[fI,sM dg _ xs i0 hn.1,Bj (aa i0 sm)]
  rfl
 |i0::dg,l,x::xs,i+1,j,hn,aa,hl,h=>by
  rw[C1]at hn
  rw[fI,Ji dg _ xs i j hn.2 (λq hq=>by simp;exact aa q (by simp[hq])) (sU hl) (sU h)]
  simp
def yX (dg:aj0) (Ic I':St):St:=fI dg Ic ((I'.take dg.length).map (yA (cK dg Ic.length)))++(I'.drop dg.length).map (yA (cK dg Ic.length))
def sN (dg:aj0) (Jc J':aj1):aj1:=fI dg Jc (J'.take dg.length)++J'.drop dg.length
section
variable {P:Program} {c:Ctx}
variable {dg:aj0}{i:Nat}
theorem wU {N:Nat} (h:i<dg.length):cK dg N i=dg[i]:=by grind[cK]
theorem qp {N:Nat} (h: ¬i<dg.length):cK dg N i=N+(i - dg.length):=by grind[cK]
theorem BX {Ic I':St} (hn:dg.Nodup) (aa: ∀q∈dg,q<Ic.length) (hl:dg.length<=I'.length) {o:Ob} (h:I'[i]? =some o):
  (yX dg Ic I')[cK dg Ic.length i]? =some (yA (cK dg Ic.length) o):=by
 unfold yX
 by_cases hi:i<dg.length
 .rw[wU hi,Ao (by rw[np];exact aa _ (A8 hi)),
   Ji dg _ _ i _ hn aa (by simp;omega) (A0 hi),B6,Ap,aiv hi,h]
  rfl
 .rw[qp hi,Au (by rw[np];omega),np,B6,C6,show dg.length+(Ic.length+(i - dg.length) - Ic.length)=i by omega,h]
  rfl
theorem QI {Jc J':aj1} (hn:dg.Nodup) (aa: ∀q∈dg,q<Jc.length) (hl:dg.length<=J'.length) {x:Value} (h:J'[i]? =some x):
  (sN dg Jc J')[cK dg Jc.length i]? =some x:=by
 unfold sN
 by_cases hi:i<dg.length
 .rw[wU hi,Ao (by rw[np];exact aa _ (A8 hi)),
   Ji dg _ _ i _ hn aa (by simp;omega) (A0 hi),Ap,aiv hi,h]
 grind[qp,np]
theorem YO {dg:aj0} {Ic I':St} {Jc J':aj1} (hn:dg.Nodup) (aa: ∀q∈dg,q<Ic.length) (ad:Jc.length=Ic.length) (ae:J'.length=I'.length) (hl:dg.length<=I'.length) {j:Nat} {o:Ob} {x:Value}
  (h1:(yX dg Ic I')[j]? =some o) (h2:(sN dg Jc J')[j]? =some x):
  (∃(i:Nat) (o':Ob),j=cK dg Ic.length i/\I'[i]? =some o'/\o=yA (cK dg Ic.length) o'/\J'[i]? =some x)\/(j∉dg/\j<Ic.length/\Ic[j]? =some o/\Jc[j]? =some x):=by
 have ab: ∀q∈dg,q<Jc.length:=by grind
 by_cases hj:j<Ic.length
 .by_cases hm:j∈dg
  .obtain⟨i,hi⟩:=Ar.1 hm
   obtain⟨af,ah⟩:=A4.1 hi
   have e1:=BX hn aa hl (A0 (show i<I'.length by omega))
   grind[QI,wU]
  grind[yX,sN,np,sM]
 grind[yX,sN,np,qp]
theorem Ml {U J γ:Type} {A:U->J->Prop} {B:J->γ->Prop} {C:U->γ->Prop} (h: ∀a b c,A a b->B b c->C a c): ∀{l:List U} {m:List J} {n:List γ},bP A l m->bP B m n->bP C l n
 | [],[],[],_,_=>trivial
 |_::_,_::_,_::_,p,q=>⟨h _ _ _ p.1 q.1,Ml h p.2 q.2⟩
 | [],_::_,_,p,_=>p.elim
 |_::_,[],_,p,_=>p.elim
 | [],[],_::_,_,q=>q.elim
 |_::_,_::_,[],_,q=>q.elim
section
variable {ρ:Nat->Nat} {w:World} {L:Nat->Nat} {I Ic:St} {J Jc:aj1}
variable {a':V}{a:V}{x:Value}
theorem YP (h:sK ρ I J Ic Jc) (ha:oN ρ a' a) (r:df w L Ic Jc a x):df w L I J a' x:=by
 rcases ha with rfl|⟨g,rows,rfl,rfl⟩
 .exact r.jt h
 .exact sC (by simpa)
theorem QJ (h:sK ρ I J Ic Jc) (ha:nk ρ a' a) (r:dW w L Ic Jc a x):dW w L I J a' x:=by
 rcases ha with rfl|⟨g,rows,rfl,rfl⟩|⟨ab,cs,rfl,rfl,aa⟩
 .exact r.jt h
 .exact sC (dD.lf r)
 .obtain⟨xs,hx,hr⟩:=r
  exact⟨xs,hx,(by grind[Ml,YP])⟩
theorem y4 (h:sK ρ I J Ic Jc) (ha:cT ρ a' a) (r:dD w L Ic Jc a x):dD w L I J a' x:=by
 rcases ha with rfl|rfl|⟨g,rows,rfl,rfl⟩|⟨ab,cs,rfl,rfl,aa⟩|⟨gY,vs,rfl,rfl,aa⟩
 .exact r.jt h
 .trivial
 .exact sC r
 .exact dD.lf (QJ h (.inr (.inr ⟨ab,cs,rfl,rfl,aa⟩)) r)
 .obtain⟨xs,hx,hr⟩:=r
  exact⟨xs,hx,(by grind[Ml,QJ])⟩
end
theorem VC.of {f:FuncId} {bY args cd:List V} {Ic fi:St} {R:V->St->Prop} {K:V->St->Prop} (hc:bN P f cd fi R) (hb:xE P f) (dg:aj0) (an:dg.Nodup) (hlen:fi.length=dg.length)
  (aA: ∀(i j:Nat) (o:Ob),dg[i]? =some j->fi[i]? =some o->Ic[j]? =some (yA (cK dg Ic.length) o)) (aj:bP (cT (cK dg Ic.length)) cd (args++bY))
  (hk: ∀r I',R r I'->dg.length<=I'.length->K (dI (cK dg Ic.length) r) (yX dg Ic I')):VC P c (.fn f bY) args Ic K:=by
 refine⟨f,bY,rfl,.inl ⟨Jh hb,λw L Jc af hm hv=> ?_⟩⟩
 have ah: ∀q∈dg,q<Ic.length:=λq hq=>by
  obtain⟨i,hi⟩:=Ar.1 hq
  have al:=(A4.1 hi).1
  have:=aA i q _ hi (A0 (show i<fi.length by omega))
  grind
 let oO:=dg.map λq=>Jc.getD q undef
 have ao: ∀(i j:Nat),dg[i]? =some j->oO[i]? =Jc[j]? :=λi j hi=>by
  simp only[oO,B6,hi,Bb]
  have hj:=ah j (by grind)
  rw[Al,A0 (by rw[hm.len];exact hj)]
  rfl
 have ak: ∀(id:Nat) O,Ic[cK dg Ic.length id]? =some O-> ∃o,fi[id]? =some o/\O=yA (cK dg Ic.length) o:=(by grind[wU,qp])
 have ai:sK (cK dg Ic.length) fi oO Ic Jc:=by
  refine⟨λid x hx=> ?_,λid n s hx=> ?_,λid rows s hx=> ?_,λid hx=> ?_⟩
  .by_cases hi:id<dg.length
   .grind[wU]
   .rw[qp hi]at hx
    have:=(A4.1 hx).1
    rw[hm.len]at this;omega
  .obtain⟨o,ho,he⟩:=ak id _ hx
   cases o<;>grind[yA]
  .obtain⟨o,ho,he⟩:=ak id _ hx
   cases o<;>grind[yA]
  .obtain⟨o,ho,he⟩:=ak id _ hx
   cases o with
   |dead=>exact ho
   |_=>simp[yA]at he
 have ae: ∀(i:Nat) (o:Ob) (x:Value),fi[i]? =some o->oO[i]? =some x-> ∃j,dg[i]? =some j/\Ic[j]? =some (yA (cK dg Ic.length) o)/\Jc[j]? =some x:=by
  grind
 have aB:Mem (entry w L fi oO) w L fi oO:=by
  refine⟨by grind,λi o x ho hx=> ?_,λi j o o' x x' b a8 ho hx aw ax he=> ?_,λi o x b ho hx he=> ?_,λb _ _=>(by trivial),Le.refl _ _,A7 _,rfl,rfl,rfl,A7 _,hm.lim,Ext.refl _ _,hm.jD.mono hm.le⟩
  .obtain⟨j,hj,h1,h2⟩:=ae i o x ho hx
   exact(hm.di j _ x h1 h2).jt ai
  .obtain⟨p,hp,h1,h2⟩:=ae i o x ho hx
   obtain⟨q,hq,h3,h4⟩:=ae j o' x' aw ax
   have aC:p≠q:=(by grind[List.getElem_inj])
   have:=hm.apart p q _ _ x x' b aC h1 h2 h3 h4 (by grind[sL])
   grind[sL]
  .exact .inr (gQ.2 (by grind))
 have aD:bP (dD w L fi oO) cd af:=by
  clear hk hc
  generalize args++bY=az at hv aj
  induction cd generalizing az af with
  |nil=>cases az with
   |nil=>cases af<;>simpa
   |cons _ _=>trivial
  |cons p cd ih=>cases az with
   |nil=>trivial
   |cons q az=>cases af with
    |nil=>simpa
    |cons y ys=>exact⟨y4 ai aj.1 hv.1,ih _ _ hv.2 aj.2⟩
 refine(hc w L oO af aB aD).mono λe w' ⟨v,r,L',I',J',he,hR,aI,aa,aE⟩=> ?_
 have ay:dg.length<=I'.length:=om
 have aF: ∀q∈dg,q<Jc.length:=by rw[hm.len];omega
 have ad:EW (cK dg Ic.length) I' J' (yX dg Ic I') (sN dg Jc J'):=by
  refine⟨λid x hx=> ?_,λid n s hx=>BX an ah ay hx,λid rows s hx=>⟨_,BX an ah ay hx,sm⟩,λid hx=>BX an ah ay hx⟩
  have:=QI an aF (by rw[aa.len];omega) hx
  rw[hm.len]at this;omega
 have aq: ∀(j:Nat) (o:Ob) (x:Value) (b:Nat),j∉dg->Ic[j]? =some o->Jc[j]? =some x->dd o x=some b->b∉uz fi oO:=by
  intro j o x b hj ho hx he hb
  obtain⟨i,o',x',h1,h2,h3⟩:=gQ.1 hb
  obtain⟨p,hp,h4,h5⟩:=ae i o' x' h1 h2
  have aG:j≠p:=(by grind)
  exact hm.apart j p o _ x x' b aG ho hx h4 h5 he (by grind[sL])
 have a1: ∀b,b∈uz fi oO->c.w0.heap.size<=b\/b∈c.X0:=by
  intro b hb
  obtain⟨i,o',x',h1,h2,h3⟩:=gQ.1 hb
  obtain⟨p,hp,h4,h5⟩:=ae i o' x' h1 h2
  exact hm.fW p _ x' b h4 h5 (by grind[sL])
 have ar:Ext Ic Jc (yX dg Ic I') (sN dg Jc J'):=by
  refine⟨λid a ha=> ?_,λid n s ha=> ?_,λid rows s ha=> ?_,λid ha=> ?_⟩
  .have au:id<Jc.length:=(by grind)
   by_cases hs:id∈dg
   .obtain⟨i,hi⟩:=Ar.1 hs
    have h1:=ao i id hi
    rw[ha]at h1
    have h2:=aa.ext.ptr i a h1
    have h3:=ad.val i _ h2
    grind[wU]
   grind[sN,np,sM]
  .have au:id<Ic.length:=(by grind)
   by_cases hs:id∈dg
   .obtain⟨i,hi⟩:=Ar.1 hs
    obtain⟨al,av⟩:=A4.1 hi
    have h1:=ai.app i n s (by grind[wU])
    obtain⟨n',h2,h3,h4⟩:=aa.ext.app i n s h1
    have h5:=ad.app i n' s h2
    rw[wU al,av]at h5
    refine⟨n',h5,h3,λe=> ?_⟩
    have h6:=h4 e
    rw[show(entry w L fi oO).β0=oO from rfl,ao i id hi]at h6
    have a6:i<J'.length:=by grind
    have h7:=ad.val i _ (A0 a6)
    grind[wU]
   .refine⟨n, ?_,om,λ_=> ?_⟩
    .grind[yX,np,sM]
    .unfold sN
     rw[Ao (by rw[np,hm.len];omega),sM _ _ _ _ hs]
  .have au:id<Ic.length:=(by grind)
   by_cases hs:id∈dg
   .obtain⟨i,hi⟩:=Ar.1 hs
    obtain⟨al,av⟩:=A4.1 hi
    obtain⟨r0,h1,l1⟩:=ai.cj i rows s (by grind[wU])
    rcases aa.ext.cj i r0 s h1 with h2|⟨r2,h2,h3,h4⟩
    .have h5:=ad.dead i h2
     grind[wU]
    .obtain⟨r3,h5,l5⟩:=ad.cj i r2 s h2
     rw[wU al,av]at h5
     refine .inr ⟨r3,h5,om,λe=> ?_⟩
     have h6:=h4 om
     rw[show(entry w L fi oO).β0=oO from rfl,ao i id hi]at h6
     have a6:i<J'.length:=by grind
     have h7:=ad.val i _ (A0 a6)
     rw[wU al,av]at h7
     grind
   .refine .inr ⟨rows, ?_,om,λ_=> ?_⟩
    .grind[yX,np,sM]
    .unfold sN
     rw[Ao (by rw[np,hm.len];omega),sM _ _ _ _ hs]
  .have au:id<Ic.length:=(by grind)
   by_cases hs:id∈dg
   .obtain⟨i,hi⟩:=Ar.1 hs
    obtain⟨al,av⟩:=A4.1 hi
    have h1:=ai.dead i (by grind[wU])
    have h5:=ad.dead i (aa.ext.dead i h1)
    grind[wU]
   grind[yX,np,sM]
 have hinv:= @YO dg Ic I' Jc J' an ah hm.len aa.len ay
 refine⟨v,dI (cK dg Ic.length) r,L',_,_,he,(by grind), ?_,aa.le,ar,aE.mg ad⟩
 refine⟨?_,λj o x ho hx=> ?_,λj j' o o' x x' b a8 ho hx aw ax ab=> ?_,λj o x b ho hx ab=> ?_,λb ab hx=> ?_,hm.le.trans aa.le,Aw hm.size aa.size,aa.os.trans hm.os,aa.tape.trans hm.tape,aa.output.trans hm.output,Aw hm.drawn aa.drawn,aa.lim,hm.ext.trans ar,hm.jD⟩
 .simp[yX,sN,np,hm.len,aa.len]
 .rcases hinv ho hx with ⟨i,o',rfl,h1,rfl,h2⟩|⟨h0,a7,h1,h2⟩
  .exact(aa.di i o' x h1 h2).mg ad
  .refine(hm.di j o x h1 h2).step aa.le ar λb ab=>aa.same b ?_ (aq j o x b h0 h1 h2 ab)
   exact(hm.di j o x h1 h2).eN ab
 .rcases hinv ho hx with ⟨i,o1,rfl,h1,rfl,h2⟩|⟨h0,a7,h1,h2⟩
  .rw[sL]at ab
   rcases hinv aw ax with ⟨i',o2,rfl,h3,rfl,h4⟩|⟨h0,a7,h3,h4⟩
   .rw[sL]
    exact aa.apart i i' o1 o2 x x' b (by grind) h1 h2 h3 h4 ab
   .intro q
    rcases aa.fW i o1 x b h1 h2 ab with h5|h5
    .have:=(hm.di j' o' x' h3 h4).eN q
     have h6:w.heap.size<=b:=h5
     omega
    .exact aq j' o' x' b h0 h3 h4 q h5
  .rcases hinv aw ax with ⟨i',o2,rfl,h3,rfl,h4⟩|⟨aK,aJ,h3,h4⟩
   .rw[sL]
    intro q
    rcases aa.fW i' o2 x' b h3 h4 q with h5|h5
    .have:=(hm.di j o x h1 h2).eN ab
     have h6:w.heap.size<=b:=h5
     omega
    .exact aq j o x b h0 h1 h2 ab h5
   .exact hm.apart j j' o o' x x' b a8 h1 h2 h3 h4 ab
 .rcases hinv ho hx with ⟨i,o1,rfl,h1,rfl,h2⟩|⟨h0,a7,h1,h2⟩
  .rw[sL]at ab
   rcases aa.fW i o1 x b h1 h2 ab with h5|h5
   .exact .inl (Aw hm.size h5)
   .exact a1 b h5
  .exact hm.fW j o x b h1 h2 ab
 .have aH:b∉uz fi oO:=(by grind)
  obtain⟨e1,e2⟩:=aa.same b (Dg ab hm.size) aH
  obtain⟨e3,e4⟩:=hm.same b ab hx
  exact⟨e1.trans e3,e2.trans e4⟩
structure gB (n0:Nat) (pick:aj0) (I I':St):Prop where
 len:I'.length=pick.length
 nodup:pick.Nodup
 ob: ∀(i j:Nat) (o:Ob),pick[i]? =some j->I'[i]? =some o->I[j]? =some (yA (cK pick I.length) o)
 id: ∀i,i<n0->pick[i]? =some i
theorem gB.back {n0:Nat} {pick:aj0} {I I':St} (h:gB n0 pick I I') (id:Nat) (O:Ob) (hx:I[cK pick I.length id]? =some O): ∃o,I'[id]? =some o/\O=yA (cK pick I.length) o:=by
 by_cases hi:id<pick.length
 .rw[wU hi]at hx
  have hq:=A0 (show id<I'.length by rw[h.len];exact hi)
  have:=h.ob id _ _ (A0 hi) hq
  grind
 grind[qp]
theorem gB.jt {n0:Nat} {pick:aj0} {I I':St} {J:aj1} (h:gB n0 pick I I') (hl:J.length=I.length):sK (cK pick I.length) I' (pick.map λq=>J.getD q undef) I J:=by
 refine⟨λid x hx=> ?_,λid n s hx=> ?_,λid rows s hx=> ?_,λid hx=> ?_⟩
 .grind[wU,qp]
 .obtain⟨o,ho,he⟩:=h.back id _ hx
  cases o<;>grind[yA]
 .obtain⟨o,ho,he⟩:=h.back id _ hx
  cases o<;>grind[yA]
 .obtain⟨o,ho,he⟩:=h.back id _ hx
  cases o with
  |dead=>exact ho
  |_=>simp[yA]at he
theorem Mem.pick {w:World} {L:Nat->Nat} {I I':St} {J:aj1} {pick:aj0} (h:Mem c w L I J) (hp:gB c.cv.length pick I I') (hc:c.β0.length=c.cv.length):Mem c w L I' (pick.map λq=>J.getD q undef):=by
 have ab:=hp.jt h.len
 have aa: ∀(i:Nat) (o:Ob) (x:Value),I'[i]? =some o->(pick.map λq=>J.getD q undef)[i]? =some x-> ∃j,pick[i]? =some j/\I[j]? =some (yA (cK pick I.length) o)/\J[j]? =some x:=by
  intro i o x ho hx
  have hi:i<pick.length:=by grind
  have hs:=A0 hi
  have h1:=hp.ob i _ o hs ho
  refine⟨_,hs,h1, ?_⟩
  have an:pick[i]<J.length:=by rw[h.len];grind
  grind
 refine⟨by simp[hp.len],λi o x ho hx=> ?_,λi j o o' x x' b ai ho hx aj ak he=> ?_,λi o x b ho hx he=> ?_,h.same,h.le,h.size,h.os,h.tape,h.output,h.drawn,h.lim, ?_,h.jD⟩
 .obtain⟨j,hj,h1,h2⟩:=aa i o x ho hx
  exact(h.di j _ x h1 h2).jt ab
 .obtain⟨p,ah,h1,h2⟩:=aa i o x ho hx
  obtain⟨q,hq,h3,h4⟩:=aa j o' x' aj ak
  have al:p≠q:=λe=>by
   subst e
   obtain⟨hi,e1⟩:=A4.1 ah
   obtain⟨hj,e2⟩:=A4.1 hq
   exact ai ((List.getElem_inj hp.nodup).1 om)
  have:=h.apart p q _ _ x x' b al h1 h2 h3 h4 (by grind[sL])
  grind[sL]
 .obtain⟨p,ah,h1,h2⟩:=aa i o x ho hx
  exact h.fW p _ x b h1 h2 (by grind[sL])
 .refine⟨λid a ha=> ?_,λid n s ha=> ?_,λid rows s ha=> ?_,λid ha=> ?_⟩
  .have hid:id<c.cv.length:=by grind
   have h1:=h.ext.ptr id a ha
   rw[B6,hp.id id hid]
   grind
  .have hid:id<c.cv.length:=(by grind)
   obtain⟨n',h1,h2,h3⟩:=h.ext.app id n s ha
   have ad:=hp.id id hid
   obtain⟨ae,af⟩:=A4.1 ad
   refine⟨n',ab.app id n' s (by grind[wU]),h2,λe=> ?_⟩
   grind
  .have hid:id<c.cv.length:=(by grind)
   have ad:=hp.id id hid
   obtain⟨ae,af⟩:=A4.1 ad
   rcases h.ext.cj id rows s ha with h1|⟨r2,h1,h2,h3⟩
   .exact .inl (ab.dead id (by grind[wU]))
   .obtain⟨r3,h5,l5⟩:=ab.cj id r2 s (by grind[wU])
    grind
  .have hid:id<c.cv.length:=(by grind)
   have ad:=hp.id id hid
   obtain⟨ae,af⟩:=A4.1 ad
   exact ab.dead id (by rw[wU ae,af];exact h.ext.dead id ha)
end
def fX (id:Nat) (rows:List (List V)):V->V
 | .cM i s n lo m=>if i=id/\n=rows.length/\lo+m<=n then .sl .ro (wX rows lo m)else .cM i s n lo m
 |v=>v
def gr (id:Nat) (rows:List (List V)):V->V
 | .fn f bY=> .fn f (bY.map (fX id rows))
 | .gV t vs=> .gV t (vs.map (fX id rows))
 |v=>fX id rows v
def gj (id:Nat) (rows:List (List V)):V->V
 | .agg cs=> .agg (cs.map (gr id rows))
 |v=>gr id rows v
def gk (id:Nat) (rows:List (List V)):V->V
 | .cy vs=> .cy (vs.map (gj id rows))
 |v=>gj id rows v
def nq (id:Nat) (rows:List (List V)):Ob->Ob
 | .box cells=> .box (cells.map (gr id rows))
 | .cj rs s=> .cj (rs.map λr=>r.map (gr id rows)) s
 | .mp dM gh cZ=> .mp (dM.map (gj id rows)) gh cZ
 |o=>o
def jM (id:Nat) (rows:List (List V)) (I:St):St:=(I.set id .dead).map (nq id rows)
structure sO (I I':St):Prop where
 app: ∀(id:Nat) n s,I[id]? =some (.app n s)->I'[id]? =some (.app n s)
 cj: ∀(id:Nat) rows s,I[id]? =some (.cj rows s)-> ∃ep,I'[id]? =some (.cj ep s)/\ep.length=rows.length
 dead: ∀(id:Nat),I[id]? =some .dead->I'[id]? =some .dead
section
variable {w:World} {L:Nat->Nat} {I I':St} {J:aj1}
theorem gP.Mm (h:sO I I') {v:V} {x:Value} (r:gP w L I J v x):gP w L I' J v x:=by
 cases v with
 |sl g rows=>cases g with
  |app id=>obtain⟨hr,n,s,cJ,hle,dh,hl⟩:=r;exact⟨hr,n,s,h.app _ _ _ cJ,hle,dh,hl⟩
  |ro=>exact r
  |full=>exact r
 |cM id s n lo m=>
  obtain⟨a,cap,hx,hm,ha,hc⟩:=r
  refine⟨a,cap,hx,hm,ha, ?_⟩
  rcases hc with hd|⟨rows,cJ,hn,hb⟩
  .exact .inl (h.dead id hd)
  .obtain⟨r2,e2,l2⟩:=h.cj id rows s cJ
   grind
 |iQ id s n i j=>
  obtain⟨b,o,hx,hc⟩:=r
  refine⟨b,o,hx, ?_⟩
  rcases hc with hd|⟨rows,cJ,hn,hb⟩
  .exact .inl (h.dead id hd)
  .obtain⟨r2,e2,l2⟩:=h.cj id rows s cJ
   grind
 |_=>exact r
theorem sO.Jj {id:Nat} {rows:List (List V)} (I:St):sO I (I.map (nq id rows)):=by
 refine⟨λi n s h=> ?_,λi rs s h=>⟨_,by rw[B6,h];rfl,sm⟩,λi h=> ?_⟩
 .rw[B6,h];rfl
 .rw[B6,h];rfl
theorem YQ {c:Ctx} {L':Nat->Nat} {id s n lo m:Nat} {rows:List (List V)} {x:Value} (hm:Mem c w L I J) (cJ:I[id]? =some (.cj rows s)) (hp:xI rows) (hL: ∀b n' cap,J[id]? =some (.slice (some ⟨b,0,none⟩) n' cap)->0<cap->rows.length*s<=L' b)
  (hle:Le w L w L') (r:gP w L I J (.cM id s n lo m) x) (hn:n=rows.length) (aw:lo+m<=n):cF w L' (.sl .ro (wX rows lo m)) x:=by
 obtain⟨a,cap,rfl,ax,ab,hc⟩:=r
 have ak:(wX rows lo m).length=m:=by grind[wX]
 by_cases h0:m=0
 .subst h0
  have:wX rows lo 0= []:=by rfl
  rw[this]
  exact .jq _ _ _ sm sm
 rcases hc with hd|⟨cC,ad,ay,hb⟩
 .grind
 .rw[cJ]at ad;cases ad
  obtain⟨b0,c0,dh,dq,az,aa⟩:=hb hn
  clear hb ab
  have a1:0<m:=om
  have al:lo<c0:=om
  obtain⟨k0,rfl,rfl⟩:=aa al
  clear aa
  have ae:0<c0:=om
  have a6:=hL _ _ _ dh ae
  obtain⟨a2,au,e1,av,af,an,cQ⟩:=hm.di id _ _ cJ dh
  cases e1
  obtain⟨b',arr,T,fz,e2,hh,_,a7,_,ah⟩:=cQ ae
  cases e2
  clear cQ
  have hu:eI s (wX rows lo m):=λq hq=>by
   obtain⟨q0,a8,rfl⟩:=Ac.1 hq
   grind
  have ao:=yB hu
  rw[ak]at ao
  have aq:(lo+m)*s<=rows.length*s:=Ak _ om
  rw[B4]at aq
  have key:cF w L' (.sl .ro (wX rows lo m)) (.slice (some ⟨k0,lo*s,none⟩) (wX rows lo m).length cap):=by
   refine .of_flat af hu (by grind) om sm sm λk v hk=> ?_
   have aA:k<m*s:=by grind
   have hi:k/s<m:=by simp_all[C3]
   have hj:k%s<s:=Cr _ af
   have ar:k=k/s*s+k%s:=by grind[D1]
   rw[ar,yQ _ _ hu hj]at hk
   simp only[wX,B6,Ap,aiv hi,C6]at hk
   have ai:lo+k/s<rows.length:=om
   rw[A0 ai]at hk
   simp only[Bb,Ax,B6,Av]at hk
   obtain⟨v0,aB,rfl⟩:=hk
   have hf:rows.flatten[(lo+k/s)*s+k%s]? =some v0:=by
    rw[yQ _ _ an hj,A0 ai];grind
   obtain⟨z,hz,rz⟩:=ah.get _ _ hf
   have aj:(lo+k/s)*s+k%s=lo*s+k:=by grind
   rw[aj,Ap,aiv om,Aq]at hz
   refine⟨z,by simp only[World.cell?,hh];grind, ?_⟩
   refine(df.k5 rz ?_).mono hle
   unfold xI at hp
   grind
  grind
def iH (J:aj1) (id k:Nat) (L:Nat->Nat):Nat->Nat:=
 match J[id]? with
 |some (.slice (some a) _ cap)=>if 0<cap then xM L a.block k else L
 |_=>L
theorem QK {c:Ctx} {id s:Nat} {rows:List (List V)} (hm:Mem c w L I J) (cJ:I[id]? =some (.cj rows s)) (hp:xI rows):
  Mem c w (iH J id (rows.length*s) L) (jM id rows I) J/\Le w L w (iH J id (rows.length*s) L)/\Ext I J (jM id rows I) J/\(∀v x,dD w L I J v x->dD w (iH J id (rows.length*s) L) (jM id rows I) J (gk id rows v) x):=by
 have aq:id<I.length:=(by grind)
 obtain⟨x0,dh⟩: ∃x0,J[id]? =some x0:=⟨_,A0 (by rw[hm.len];exact aq)⟩
 obtain⟨a,cap,rfl,dq,hs,aC,cQ⟩:=hm.di id _ _ cJ dh
 have aD:rows.length*s<=cap*s:=Ak _ dq
 have hle:Le w L w (iH J id (rows.length*s) L):=by
  refine⟨λb=> ?_,sm⟩
  unfold iH
  rw[dh]
  cases a with
  |none=>simp
  |some a=>
   by_cases h0:0<cap
   .obtain⟨b',arr,T,fz,e,hh,hf,ai,hl,aA⟩:=cQ h0
    cases e
    simp only[h0,aiE,xM]
    grind
   grind
 have ad:Ext I J (I.set id .dead) J:=by
  refine⟨sm,(by grind),(by grind),(by grind)⟩
  all_goals grind
 have ab:sO (I.set id .dead) (jM id rows I):=sO.Jj _
 have ae:Ext (I.set id .dead) J (jM id rows I) J:=
  ⟨sm,λi n s' h=>⟨n,ab.app i n s' h,om,λ_=>rfl⟩,λi rs s' h=>by
   obtain⟨r2,h2,l2⟩:=ab.cj i rs s' h
   grind,λi h=>ab.dead i h⟩
 have ar: ∀b n' aa,J[id]? =some (.slice (some ⟨b,0,none⟩) n' aa)->0<aa->rows.length*s<=iH J id (rows.length*s) L b:=(by simp_all[iH,xM])
 have an: ∀v x,gP w L I J v x->gP w (iH J id (rows.length*s) L) (jM id rows I) J (fX id rows v) x:=λv x r=>by
  have au:gP w (iH J id (rows.length*s) L) (jM id rows I) J v x:=gP.Mm ab (r.mono hle ad)
  cases v with
  |cM i s' n lo m=>
   simp only[fX]
   split
   .rename_i hc
    obtain⟨rfl,hn,av⟩:=hc
    have af:s'=s:=by
     obtain⟨_,_,_,_,_,hc⟩:=r
     grind
    subst af
    exact YQ hm cJ hp ar hle r hn av
   omega
  |_=>exact au
 have aw: ∀v x,df w L I J v x->df w (iH J id (rows.length*s) L) (jM id rows I) J (gr id rows v) x:=λv x r=>by
  cases v with
  |fn f bY=>obtain⟨xs,hx,hc⟩:=r;exact⟨xs,hx,(by grind[bP.fO])⟩
  |gV t v=>obtain⟨y,hx,hc⟩:=r;exact⟨y,hx,(by grind[bP.fO])⟩
  |cM i s' n lo m=>
   have h2:=an (.cM i s' n lo m) x r
   show df w _ _ J (fX id rows (.cM i s' n lo m)) x
   simp only[fX]at h2⊢
   split
   .rename_i hc;rw[aiv hc]at h2;exact h2
   .rename_i hc;rw[aiu hc]at h2;exact h2
  |_=>simp only[df]at r;have h2:=an _ _ r;exact h2
 have ax: ∀v x,dW w L I J v x->dW w (iH J id (rows.length*s) L) (jM id rows I) J (gj id rows v) x:=λv x r=>by
  cases v with
  |agg cs=>obtain⟨xs,hx,hc⟩:=r;exact⟨xs,hx,(by grind[bP.fO])⟩
  |_=>simp only[dW]at r;have h2:=aw _ _ r;exact dW.dK h2
 have ay: ∀v x,dD w L I J v x->dD w (iH J id (rows.length*s) L) (jM id rows I) J (gk id rows v) x:=λv x r=>by
  cases v with
  |u=>trivial
  |cy vs=>obtain⟨xs,hx,hc⟩:=r;exact⟨xs,hx,(by grind[bP.fO])⟩
  |_=>simp only[dD]at r;have h2:=ax _ _ r;exact dD.lf h2
 refine⟨?_,hle,ad.trans ae,ay⟩
 have aj: ∀b,dd (.cj rows s) (.slice a rows.length cap)≠some b->iH J id (rows.length*s) L b=L b:=λb h=>by
  unfold iH
  rw[dh]
  cases a with
  |none=>rfl
  |some a=>
   by_cases h0:0<cap
   .simp_all[dd,xM];omega
   grind
 have aE: ∀i o x,i≠id->I[i]? =some o->J[i]? =some x->gW w (iH J id (rows.length*s) L) (jM id rows I) J (nq id rows o) x:=λi o x hi ho hx=>by
  have hr:=hm.di i o x ho hx
  have ak: ∀b,dd o x=some b->iH J id (rows.length*s) L b=L b:=λb hb=>aj b λq=>hm.apart i id o _ x _ b hi ho hx cJ dh hb q
  cases o with
  |box cells=>
   obtain⟨b,arr,T,fz,rfl,hh,hf,hl,hc⟩:=hr
   exact⟨b,arr,T,fz,rfl,hh,hf,(ak b rfl).trans hl,(by grind[bP.fO])⟩
  |app n s'=>
   obtain⟨a',aa,rfl,hn,af,ah⟩:=hr
   refine⟨a',aa,rfl,hn,af,λaz=> ?_⟩
   obtain⟨b,o',arr,T,fz,rfl,hh,hf,ai,hl⟩:=ah az
   exact⟨b,o',arr,T,fz,rfl,hh,hf,ai,(by grind[dd])⟩
  |cj rs s'=>
   obtain⟨a',aa,rfl,hn,af,aF,ah⟩:=hr
   refine⟨a',aa,sm,by grind,af,λr hr=> ?_,λh0=> ?_⟩
   .grind
   .obtain⟨b,arr,T,fz,rfl,hh,hf,ai,hl,hc⟩:=ah h0
    refine⟨b,arr,T,fz,rfl,hh,hf,ai,(by grind[dd]), ?_⟩
    grind[bP.fO]
  |dead=>trivial
  |mp dM gh cZ=>
   obtain⟨b,es,rfl,hh,hl,hc,a1⟩:=hr
   exact⟨b,es,rfl,hh,(ak b rfl).trans hl,(by grind[bP.fO]),a1⟩
  |it m since seen last=>
   obtain⟨b,mo,rfl,hh,hl,hc⟩:=hr
   exact⟨b,mo,rfl,hh,(ak b rfl).trans hl,hc⟩
 have inv: ∀i o,(jM id rows I)[i]? =some o->(i=id/\o= .dead)\/(i≠id/\ ∃o',I[i]? =some o'/\o=nq id rows o'):=λi o h=>by
  unfold jM at h
  rw[B6,Av]at h
  obtain⟨o',h1,rfl⟩:=h
  rcases oK h1 with ⟨rfl,rfl,_⟩|⟨al,h2⟩
  .exact .inl (by trivial)
  grind
 have ao: ∀o x,dd (nq id rows o) x=dd o x:=λo x=>by
  cases o with
  |cj rs s'=>cases x with
   |slice a n cap=>cases a<;>rfl
   |_=>rfl
  |_=>cases x<;>first|rfl|(rename_i q;cases q<;>rfl)
 refine⟨by simp[jM,hm.len],λi o x ho hx=> ?_,λi j o o' x x' b a6 ho hx a7 a8 hb=> ?_,λi o x b ho hx hb=> ?_,λb hb hx=> ?_,hm.le.trans hle,hm.size,hm.os,hm.tape,hm.output,hm.drawn,λb hb=> ?_,hm.ext.trans (ad.trans ae),hm.jD⟩
 .rcases inv i o ho with ⟨_,rfl⟩|⟨al,o',h2,rfl⟩
  .trivial
  grind
 .rcases inv i o ho with ⟨_,rfl⟩|⟨al,o1,h2,rfl⟩
  .trivial
  .rcases inv j o' a7 with ⟨_,rfl⟩|⟨aB,o2,h3,rfl⟩
   .simp[dd]
   .rw[ao]at hb⊢
    exact hm.apart i j o1 o2 x x' b a6 h2 hx h3 a8 hb
 .rcases inv i o ho with ⟨_,rfl⟩|⟨al,o1,h2,rfl⟩
  .trivial
  .rw[ao]at hb
   exact hm.fW i o1 x b h2 hx hb
 .obtain⟨e1,e2⟩:=hm.same b hb hx
  refine⟨e1, ?_⟩
  rw[aj b λq=> ?_]
  .exact e2
  .rcases hm.fW id _ _ b cJ dh q with h|h
   all_goals grind
 .rw[aj b λq=> ?_]
  .exact hm.lim b hb
  .have:=(hm.di id _ _ cJ dh).eN q
   omega
end
variable {c:Ctx}{w:World}{I:St}{cells:List V}{L:Nat->Nat}{J:aj1}{off:Nat}
theorem QL {id s:Nat} (hm:Mem c w L I J) (hs:0<s) (cJ:I[id]? =some (.box cells)) (hc:cells[off]? =some (.sl .full [])):
  ∃x,Mem c w L (I.set id (.box (cells.set off (.cM I.length s 0 0 0)))++ [.cj [] s]) (J++ [x])/\Ext I J (I.set id (.box (cells.set off (.cM I.length s 0 0 0)))++ [.cj [] s]) (J++ [x]):=by
 have ah:id<I.length:=(by grind)
 obtain⟨x0,dh⟩: ∃x0,J[id]? =some x0:=⟨_,A0 (by rw[hm.len];exact ah)⟩
 obtain⟨b,arr,T,fz,rfl,hh,hf,hl,ab⟩:=hm.di id _ _ cJ dh
 obtain⟨y,hy,ry⟩:=ab.get _ _ hc
 have an:cF w L (.sl .full []) y:=ry
 obtain⟨a,cap,ak,_,dq⟩:=an.len
 have ad:=dq rfl
 simp only[Cs]at ad ak
 subst ad
 have h1:=hm.mc (s:=s) (a:=a) hs
 have ae:=Ext.push I J hm.len (.cj [] s) (.slice a 0 0)
 have ai:(I++ [Ob.cj [] s])[id]? =some (.box cells):=by grind
 have aj:(J++ [Value.slice a 0 0])[id]? =some (.pointer (some ⟨b,0,none⟩)):=by grind
 have aa:Ext (I++ [Ob.cj [] s]) (J++ [Value.slice a 0 0]) ((I++ [Ob.cj [] s]).set id (.box (cells.set off (.cM I.length s 0 0 0)))) (J++ [Value.slice a 0 0]):=Ext.jI ai _
 have af:=yN _ _ _ aj
 have key:=h1.fo (w':=w) (L':=L) id (.box (cells.set off (.cM I.length s 0 0 0))) (.pointer (some ⟨b,0,none⟩)) (Le.refl _ _) (by grind) (λk=>k=b)
  (λj o' x' k hj ao aq hk e=>by subst e;exact h1.apart j id o' _ x' _ k hj ao aq ai aj hk rfl)
  (λk e=>by subst e;exact h1.fW id _ _ k ai aj rfl)
  sm rfl rfl rfl rfl h1.lim ?_ (λk hk=>by simpa[dd]using hk.symm)
 .rw[af,Dr _ _ ah]at key
  rw[Dr _ _ ah]at aa
  exact⟨_,key,ae.trans aa⟩
 .rw[af]
  refine⟨b,arr,T,fz,rfl,hh,hf,hl, ?_⟩
  refine bP.of (by rw[List.length_set];exact ab.length) λk p z hp hz=> ?_
  rcases oK hp with ⟨rfl,rfl,_⟩|⟨au,ar⟩
  .rw[hy]at hz;cases hz
   rw[ak]
   refine⟨a,0,rfl,om,om,.inr ⟨[], ?_,om,λ_=>⟨a,0, ?_,rfl,om,om⟩⟩⟩
   .grind
   .rw[<-hm.len];simp
  .obtain⟨z',al,rz⟩:=ab.get _ _ ar
   rw[hz]at al;cases al
   exact rz.mono (Le.refl _ _) (ae.trans aa)
theorem YR {id s:Nat} (hm:Mem c w L I J) (hs:0<s) (cJ:I[id]? =some (.box cells)) (hc:cells[off]? =some (.sl .full [])):
  ∃x,Mem c w L (I.set id (.box (cells.set off (.sl (.app I.length) [])))++ [.app 0 s]) (J++ [x])/\Ext I J (I.set id (.box (cells.set off (.sl (.app I.length) [])))++ [.app 0 s]) (J++ [x]):=by
 have ah:id<I.length:=(by grind)
 obtain⟨x0,dh⟩: ∃x0,J[id]? =some x0:=⟨_,A0 (by rw[hm.len];exact ah)⟩
 obtain⟨b,arr,T,fz,rfl,hh,hf,hl,ab⟩:=hm.di id _ _ cJ dh
 obtain⟨y,hy,ry⟩:=ab.get _ _ hc
 have an:cF w L (.sl .full []) y:=ry
 obtain⟨a,cap,ak,_,dq⟩:=an.len
 have ad:=dq rfl
 simp only[Cs]at ad ak
 subst ad
 have h1:=hm.own (n:=0) (a:=a) hs
 have ae:=Ext.push I J hm.len (.app 0 s) (.slice a 0 0)
 have ai:(I++ [Ob.app 0 s])[id]? =some (.box cells):=by grind
 have aj:(J++ [Value.slice a 0 0])[id]? =some (.pointer (some ⟨b,0,none⟩)):=by grind
 have aa:Ext (I++ [Ob.app 0 s]) (J++ [Value.slice a 0 0]) ((I++ [Ob.app 0 s]).set id (.box (cells.set off (.sl (.app I.length) [])))) (J++ [Value.slice a 0 0]):=Ext.jI ai _
 have af:=yN _ _ _ aj
 have key:=h1.fo (w':=w) (L':=L) id (.box (cells.set off (.sl (.app I.length) []))) (.pointer (some ⟨b,0,none⟩)) (Le.refl _ _) (by grind) (λk=>k=b)
  (λj o' x' k hj ao aq hk e=>by subst e;exact h1.apart j id o' _ x' _ k hj ao aq ai aj hk rfl)
  (λk e=>by subst e;exact h1.fW id _ _ k ai aj rfl)
  sm rfl rfl rfl rfl h1.lim ?_ (λk hk=>by simpa[dd]using hk.symm)
 .rw[af,Dr _ _ ah]at key
  rw[Dr _ _ ah]at aa
  exact⟨_,key,ae.trans aa⟩
 .rw[af]
  refine⟨b,arr,T,fz,rfl,hh,hf,hl, ?_⟩
  refine bP.of (by rw[List.length_set];exact ab.length) λk p z hp hz=> ?_
  rcases oK hp with ⟨rfl,rfl,_⟩|⟨au,ar⟩
  .rw[hy]at hz;cases hz
   rw[ak]
   refine⟨.jq .ro a 0 om sm,0,s, ?_,om,λ_=> ?_,sm⟩
   .grind
   .rw[<-hm.len];simp
  .obtain⟨z',al,rz⟩:=ab.get _ _ ar
   rw[hz]at al;cases al
   exact rz.mono (Le.refl _ _) (ae.trans aa)
def BY (cells:List V) (s off n:Nat):List (List V):=(List.range n).map λi=>((cells.drop (off+i*s)).take s).map k5
def vN (id:Nat) (cells:List V):V->V
 | .j6 i s off n=>if i=id/\0<s/\off+n*s<=cells.length/\((cells.drop off).take (n*s)).all pN=true then .sl .ro (BY cells s off n)else .j6 i s off n
 |v=>v
theorem YS {s n:Nat} (h:off+n*s<=cells.length):eI s (BY cells s off n):=λr hr=>by
 obtain⟨i,hi,rfl⟩:=Ac.1 hr
 have hi:=Cn.1 hi
 have:(i+1)*s<=n*s:=Ak _ hi
 grind
theorem YT {id:Nat} (hm:Mem c w L I J) (cJ:I[id]? =some (.box cells)):
  ∃L',Mem c w L' (I.set id .dead) J/\Le w L w L'/\Ext I J (I.set id .dead) J/\(∀v x,dD w L I J v x->dD w L' (I.set id .dead) J (vN id cells v) x):=by
 have ak:id<I.length:=(by grind)
 obtain⟨x0,dh⟩: ∃x0,J[id]? =some x0:=⟨_,A0 (by rw[hm.len];exact ak)⟩
 obtain⟨b,arr,T,fz,rfl,hh,hf,hl,ae⟩:=hm.di id _ _ cJ dh
 have hle:Le w L w (xM L b cells.length):=by
  refine⟨λk=> ?_,sm⟩
  simp only[xM]
  grind
 have aa:Ext I J (I.set id .dead) J:=by
  refine⟨sm,(by grind),(by grind),(by grind)⟩
  all_goals grind
 have ab: ∀k,k≠b->xM L b cells.length k=L k:=λk h=>aiu h
 have inv: ∀i o,(I.set id .dead)[i]? =some o->(i=id/\o= .dead)\/(i≠id/\I[i]? =some o):=(by grind)
 refine⟨xM L b cells.length,⟨by simp[hm.len],λi o x ho hx=> ?_,λi j o o' x x' k al ho hx an ao hb=> ?_,λi o x k ho hx hb=> ?_,λk hb hx=> ?_,hm.le.trans hle,hm.size,hm.os,hm.tape,hm.output,hm.drawn,λk hb=> ?_,hm.ext.trans aa,hm.jD⟩,hle,aa,λv x r=> ?_⟩
 .rcases inv i o ho with ⟨_,rfl⟩|⟨ad,h2⟩
  .trivial
  .exact(hm.di i o x h2 hx).step hle aa λk hk=>⟨rfl,ab k λe=>by subst e;exact hm.apart i id o _ x _ k ad h2 hx cJ dh hk rfl⟩
 .rcases inv i o ho with ⟨_,rfl⟩|⟨ad,h2⟩
  .trivial
  .rcases inv j o' an with ⟨_,rfl⟩|⟨au,h3⟩
   .simp[dd]
   .exact hm.apart i j o o' x x' k al h2 hx h3 ao hb
 .rcases inv i o ho with ⟨_,rfl⟩|⟨ad,h2⟩
  .trivial
  .exact hm.fW i o x k h2 hx hb
 .obtain⟨e1,e2⟩:=hm.same k hb hx
  refine⟨e1, ?_⟩
  rw[ab k λq=> ?_]
  .exact e2
  .subst q
   rcases hm.fW id _ _ k cJ dh rfl with h|h
   all_goals grind
 .rw[ab k λq=> ?_]
  .exact hm.lim k hb
  grind
 .have aq:=r.mono hle aa
  cases v with
  |j6 i s off n=>
   simp only[vN]
   split
   .rename_i hc
    obtain⟨rfl,hs,hlen,hp⟩:=hc
    obtain⟨b',af,rfl⟩:=r
    rw[dh]at af;cases af
    have hu:=YS (s:=s) (off:=off) (n:=n) hlen
    have ah:(BY cells s off n).length=n:=by simp[BY]
    have key:cF w (xM L b cells.length) (.sl .ro (BY cells s off n)) (.slice (some ⟨b,off,none⟩) (BY cells s off n).length n):=by
     refine .of_flat hs hu (by grind[xM]) om sm om λk v hk=> ?_
     have av:k<n*s:=by rw[<-ah,<-yB hu];grind
     have hi:k/s<n:=by simp_all[C3]
     have hj:k%s<s:=Cr _ hs
     have ar:k=k/s*s+k%s:=by grind[D1]
     rw[ar,yQ _ _ hu hj]at hk
     simp only[BY,B6,Dc hi,Bb,Ax,Ap,aiv hj,C6,Av]at hk
     obtain⟨v0,ai,rfl⟩:=hk
     have aj:off+k/s*s+k%s=off+k:=om
     rw[aj]at ai
     obtain⟨z,hz,rz⟩:=ae.get _ _ ai
     rw[Aq]at hz
     refine⟨z,by simp only[World.cell?,hh];grind,(df.k5 rz ?_).mono hle⟩
     rw[Am]at hp
     refine hp _ (Ar.2 ⟨k, ?_⟩)
     grind
    rw[ah]at key
    simpa
   omega
  |_=>exact aq
inductive ot:List V->St->List V->St->Prop
 |refl (vs:List V) (I:St):ot vs I vs I
 |step (id s:Nat) (rows:List (List V)) {vs gY:List V} {I I':St} (cJ:I[id]? =some (.cj rows s)) (hp:xI rows) (h:ot (vs.map (gk id rows)) (jM id rows I) gY I'):ot vs I gY I'
 |nil (id off s:Nat) (cells:List V) {vs gY:List V} {I I':St} (hs:0<s) (cJ:I[id]? =some (.box cells)) (hc:cells[off]? =some (.sl .full [])) (h:ot vs (I.set id (.box (cells.set off (.cM I.length s 0 0 0)))++ [.cj [] s]) gY I'):ot vs I gY I'
 |box (id:Nat) (cells:List V) {vs gY:List V} {I I':St} (cJ:I[id]? =some (.box cells)) (h:ot (vs.map (vN id cells)) (I.set id .dead) gY I'):ot vs I gY I'
 |Mn (i s:Nat) {vs gY:List V} {I I':St} (hs:0<s) (hv:vs[i]? =some (.sl .full [])) (h:ot (vs.set i (.cM I.length s 0 0 0)) (I++ [.cj [] s]) gY I'):ot vs I gY I'
theorem ot.ok {vs gY:List V} {I':St} (h:ot vs I gY I'): ∀{L:Nat->Nat} {J xs:aj1},Mem c w L I J->bP (dD w L I J) vs xs->
  ∃L' J',Mem c w L' I' J'/\Le w L w L'/\Ext I J I' J'/\bP (dD w L' I' J') gY xs:=by
 induction h with
 |refl vs I=>grind[Le.refl,Ext.refl]
 |step id s rows cJ hp _ ih=>
  intro L J xs hm ha
  obtain⟨h1,h2,h3,h4⟩:=QK hm cJ hp
  obtain⟨L',J',h5,h6,h7,h8⟩:=ih h1 (bP.fO (f:=gk id rows) (λ_ _ q=>h4 _ _ q) ha)
  exact⟨L',J',h5,h2.trans h6,h3.trans h7,h8⟩
 |nil id off s cells hs cJ hc _ ih=>
  intro L J xs hm ha
  obtain⟨x,h1,h2⟩:=QL hm hs cJ hc
  obtain⟨L',J',h5,h6,h7,h8⟩:=ih h1 (ha.imp λ_ _ q=>q.mono (Le.refl _ _) h2)
  exact⟨L',J',h5,h6,h2.trans h7,h8⟩
 |box id cells cJ _ ih=>
  intro L J xs hm ha
  obtain⟨L1,h1,h2,h3,h4⟩:=YT hm cJ
  obtain⟨L',J',h5,h6,h7,h8⟩:=ih h1 (bP.fO (f:=vN id cells) (λ_ _ q=>h4 _ _ q) ha)
  exact⟨L',J',h5,h2.trans h6,h3.trans h7,h8⟩
 |Mn i s hs hv _ ih=>
  rename_i ab ae s0 s1 _
  intro L J xs hm ha
  obtain⟨x,hx,r⟩:=ha.get _ _ hv
  have hr:cF w L (.sl .full []) x:=r
  obtain⟨ad,rfl⟩: ∃ad,x= .slice ad 0 0:=by
   cases hr<;>grind
  have h1:=hm.mc (a:=ad) hs
  have aa:=Ext.push _ _ hm.len (Ob.cj [] s) (.slice ad 0 0)
  have h2:bP (dD w L (s0++ [Ob.cj [] s]) (J++ [.slice ad 0 0])) (ab.set i (.cM s0.length s 0 0 0)) xs:=by
   refine bP.of (by rw[List.length_set];exact ha.length) λj p y hp hy=> ?_
   rcases oK hp with ⟨rfl,rfl,_⟩|⟨_,hp⟩
   .rw[hx]at hy;cases hy
    exact GW (w':=w) (L':=L) (s:=s) (rows:= []) (cap:=0) (a0:=ad) hm.len sm om
   .obtain⟨z,hz,rz⟩:=ha.get _ _ hp
    rw[hy]at hz;cases hz
    exact rz.mono (Le.refl _ _) aa
  obtain⟨L',J',h5,h6,h7,h8⟩:=ih h1 h2
  exact⟨L',J',h5,h6,aa.trans h7,h8⟩
def flatK:V->Bool
 | .bool _| .int _ _| .str _| .fT| .u=>true
 | .raw _=>true
 | .sl _ rows=>rows.isEmpty
 |_=>false
def Jk:V->Bool
 | .agg cs=>cs.all flatK
 |v=>flatK v
def GZ:V->Bool
 | .cy vs=>vs.all Jk
 |v=>Jk v
section
variable {w w':World} {L L':Nat->Nat} {I I':St} {J J':aj1}
variable {x:Value}
theorem QM {v:V} (h:flatK v) (r:df w L [] [] v x):df w' L' I' J' v x:=by
 cases v with
 |sl g rows=>
  have hr:rows= []:=by grind[flatK]
  subst hr
  cases g with
  |app id=>obtain⟨_,n,s,h,_⟩:=r;grind
  |ro=>
   cases r with
   |jq _ a cap hg ha=>exact cF.jq _ _ _ hg ha
   |sl _ _ s b o cap c ha hs hlen ff dq hg hc hr=>exact cF.jq _ _ _ om om
  |full=>
   cases r with
   |jq _ a cap hg ha=>exact cF.jq _ _ _ hg ha
   |sl _ _ s b o cap c ha hs hlen ff dq hg hc hr=>exact cF.jq _ _ _ hg om
 |bool b=>cases r;exact cF.bool _
 |int k n=>cases r;exact cF.int _ _
 |str s=>cases r;exact cF.str _
 |fT=>cases r;exact cF.fT
 |raw v=>cases r with|raw _ h=>exact cF.raw _ h
 |u=>exact r
 |_=>simp[flatK]at h
theorem QN {v:V} (h:Jk v) (r:dW w L [] [] v x):dW w' L' I' J' v x:=by
 cases v with
 |agg cs=>
  obtain⟨xs,hx,hc⟩:=r
  refine⟨xs,hx, ?_⟩
  clear hx
  simp only[Jk]at h
  induction cs generalizing xs with
  |nil=>cases xs<;>simpa
  |cons c cs ih=>cases xs with
   |nil=>simpa
   |cons y ys=>
    simp only[Bl,Ab]at h
    exact⟨QM h.1 hc.1,ih h.2 _ hc.2⟩
 |cy vs=>simpa
 |fn f c=>trivial
 |gV t c=>trivial
 |_=>exact dW.dK (QM (w:=w) (L:=L) h r)
theorem YU {v:V} (h:GZ v) (r:dD w L [] [] v x):dD w' L' I' J' v x:=by
 cases v with
 |cy vs=>
  obtain⟨xs,hx,hc⟩:=r
  refine⟨xs,hx, ?_⟩
  clear hx
  simp only[GZ]at h
  induction vs generalizing xs with
  |nil=>cases xs<;>simpa
  |cons c cs ih=>cases xs with
   |nil=>simpa
   |cons y ys=>
    simp only[Bl,Ab]at h
    exact⟨QN h.1 hc.1,ih h.2 _ hc.2⟩
 |u=>trivial
 |_=>exact dD.lf (QN (w:=w) (L:=L) h r)
end
theorem VC.view {P:Program} {c:Ctx} {f:FuncId} {bY args cd af:List V} {Ic I1:St} {R:V->St->Prop} {K:V->St->Prop} (hc:bN P f cd [] R) (hb:xE P f) (hf:ot (args++bY) Ic af I1)
  (aa:bP (cT (cK [] I1.length)) cd af) (hR: ∀r s,R r s->s= []/\GZ r) (hk: ∀r,R r []->K r Ic):VC P c (.fn f bY) args Ic K:=by
 refine⟨f,bY,rfl,.inl ⟨Jh hb,λw L Jc ab hm hv=> ?_⟩⟩
 obtain⟨L1,J1,aj,a6,au,ak⟩:=hf.ok hm hv
 have al:sK (cK [] I1.length) [] [] I1 J1:=by
  have aq: ∀id,I1.length<=cK [] I1.length id:=λid=>by simp[cK]
  refine⟨λid x hx=> ?_,λid n s hx=> ?_,λid rows s hx=> ?_,λid hx=> ?_⟩
  .have h1:=(A4.1 hx).1;have h2:=aq id;rw[aj.len]at h1;omega
  all_goals
   have h1:=(A4.1 hx).1;have h2:=aq id;omega
 have av:Mem (entry w L1 [] []) w L1 [] []:=
  ⟨rfl,λi o x ho _=>by simp at ho,λi j o o' x x' b _ ho _ _ _ _=>by simp at ho,λi o x b ho _ _=>by simp at ho,λb _ _=>⟨rfl,rfl⟩,Le.refl _ _,A7 _,rfl,rfl,rfl,A7 _,aj.lim,Ext.refl _ _,aj.jD.mono aj.le⟩
 have aw:bP (dD w L1 [] []) cd ab:=by
  clear hf hc hk
  induction cd generalizing af ab with
  |nil=>cases af with
   |nil=>cases ab with
    |nil=>trivial
    |cons _ _=>exact ak.elim
   |cons _ _=>exact aa.elim
  |cons p cd ih=>cases af with
   |nil=>exact aa.elim
   |cons q az=>cases ab with
    |nil=>exact ak.elim
    |cons y ys=>
     refine⟨y4 al aa.1 ak.1, ?_⟩
     clear ih
     have key: ∀(cd az:List V) (ys:aj1),bP (cT (cK [] I1.length)) cd az->bP (dD w L1 I1 J1) az ys->bP (dD w L1 [] []) cd ys:=by
      intro cd
      induction cd with
      |nil=>intro az ys h1 h2;cases az with
       |nil=>cases ys with
        |nil=>trivial
        |cons _ _=>exact h2.elim
       |cons _ _=>exact h1.elim
      |cons p l ih=>intro az ys h1 h2;cases az with
       |nil=>exact h1.elim
       |cons q az=>cases ys with
        |nil=>exact h2.elim
        |cons y ys=>exact⟨y4 al h1.1 h2.1,ih az ys h1.2 h2.2⟩
     exact key _ _ _ aa.2 ak.2
 refine(hc w L1 [] ab av aw).mono λe w' ⟨v,r,L2,I',J',he,ar,a7,ad,ax⟩=> ?_
 obtain⟨rfl,an⟩:=hR r I' ar
 have ay:J'= []:=As (by rw[ad.len];rfl)
 subst ay
 have ae: ∀b,b<w.heap.size->w'.heap[b]? =w.heap[b]? :=λb hb=>(ad.same b hb (by show b∉uz [] [];simp[uz])).1
 have a1:w.heap.size<=w'.heap.size:=ad.size
 let L3:Nat->Nat:=λb=>if b<w.heap.size then L b else L2 b
 have ao: ∀b,b<w.heap.size->L3 b=L b:=λb hb=>aiv hb
 have ah:Le w L w' L3:=by
  refine⟨λb=> ?_,λb o ho=> ?_⟩
  .by_cases hb:b<w.heap.size
   .rw[ao b hb];exact A7 _
   .rw[hm.lim b om];exact A3 _
  .have hb:b<w.heap.size:=by
    rcases Bv b w.heap.size with hb|hb
    .exact hb
    .rw[hm.lim b hb]at ho;omega
   exact BL (ae b hb) o
 refine⟨v,r,L3,Ic,Jc,he,hk r ar, ?_,ah,Ext.refl _ _,YU an ax⟩
 refine⟨hm.len,λi o x ho hx=>(hm.di i o x ho hx).step ah (Ext.refl _ _) λb hb=> ?_,hm.apart,hm.fW,λb hb hx=> ?_,hm.le.trans ah,Aw hm.size a1,ad.os.trans hm.os,ad.tape.trans hm.tape,ad.output.trans hm.output,Aw hm.drawn ad.drawn,λb hb=> ?_,hm.ext,hm.jD⟩
 .have ai:=(hm.di i o x ho hx).eN hb
  exact⟨ae b ai,ao b ai⟩
 .have ai:=Dg hb hm.size
  rw[ae b ai,ao b ai]
  exact hm.same b hb hx
 .show(if b<w.heap.size then L b else L2 b)=0
  rw[aiu om]
  exact ad.lim b hb
def cu (P:Program) (e:Env) (I:St):Op->R
 | .move x=> .ok (zG e x)
 | .assign x=> .ok (zG e x)
 | .pick x y z=>x9 (zG e x) (zG e y) (zG e z)
 | .alloc t=>rJ P t I
 | .box _ x=>vE I (zG e x)
 | .build t ps=>yh (wB P t) (eY P t) (ps.toList.map λp=>(p.1,zG e p.2))
 | .buildSlice t n ps=>vH ((eF P t).map (·.1)) n (ps.toList.map λp=>(p.1,zG e p.2))
 | .load t x=>ng P t I (zG e x)
 | .store t x y=>vD P t I (zG e x) (zG e y)
 | .nilCheck x=>ya (zG e x)
 | .binOp op t x y _=>if pP y=true then vC op (iR P t) (zG e x)else if rL y=true then yw op (ni P t) (zG e x)else mS op (iR P t) (kz P t) (zG e x) (zG e y)
 | .unOp op _ x=>nf op (zG e x)
 | .convert t t' x=>vI (jJ P t) (jJ P t') (zG e x)
 | .slice t x lo hi none=>sI (iT P t) (dL P t) ((eF P t).map (·.1)) (zG e x) (lo.map (zG e)) (hi.map (zG e))
 | .slice t x (some lo) (some hi) (some mx)=>yj ((eF P t).map (·.1)) (zG e x) (zG e lo) (zG e hi) (zG e mx)
 | .fieldAddr t x f=>ye P t (zG e x) f
 | .field t x f=>yl (cw P t f) (zG e x)
 | .indexAddr t x i=>vF (eT P t) (iT P t) (zG e x) (zG e i)
 | .index t x i=>vG (zG e x) (zG e i) (qf P t) (iT P t)
 | .extract x i=>yc (zG e x) i
 | .makeFunc fn first bY=>ym fn first.size (bY.toList.map (zG e))
 | .makeSlice t l m=>vJ (eF P t) (js P t) I (zG e l) (zG e m)
 | .call ⟨.builtin .len,⟨[x]⟩,⟨[t]⟩⟩=>yg (dL P t) (zG e x)
 | .call ⟨.builtin .append,⟨[x,y]⟩,⟨[t,t']⟩⟩=>sE (eF P t) (dL P t') I (zG e x) (zG e y)
 | .call ⟨.builtin .clear,⟨[x]⟩,⟨[t]⟩⟩=>vL ((eF P t).map (·.1)) (js P t) I (zG e x)
 | .call ⟨.builtin .min,⟨xs⟩,_⟩=>qh false (xs.map (zG e))
 | .call ⟨.builtin .max,⟨xs⟩,_⟩=>qh true (xs.map (zG e))
 | .call ⟨.builtin .delete,⟨[x,k]⟩,⟨[t,_]⟩⟩=>yv (gD P t) I (zG e x) (zG e k)
 | .makeMap t r=>yt I (ni P t) (r.map (zG e))
 | .lookup t x k ok=>xZ (gD P t) I (zG e x) (zG e k) ok
 | .mapUpdate t x k v=>xW (gD P t) I (zG e x) (zG e k) (zG e v)
 | .insert t x k v=>xW (gD P t) I (zG e x) (zG e k) (zG e v)
 | .mapEntry t x k=>wD (gD P t) I (zG e x) (zG e k)
 | .entryStore _ x s v=>xT I (zG e x) (zG e s) (zG e v)
 | .range t x=>yx (ni P t) I (zG e x)
 | .entry x=>qo I (zG e x)
 | .makeInterface t x=>yz (EV P t) t (zG e x)
 | .next x false=>nj false I (zG e x)
 |_=> .fail
def iu (P:Program) (e:Env) (I:St):Op->R
 | .buildSlice t n ps=>vM ((eF P t).map (·.1)) n I (ps.toList.map λp=>(p.1,zG e p.2))
 | .makeSlice t l m=>vK (eF P t) (js P t) I (zG e l) (zG e m)
 | .convert t t' x=>yn (jJ P t) (jJ P t') I (zG e x)
 | .slice t x (some lo) none none=>yi (dL P t) ((eF P t).map (·.1)) I (zG e x) (zG e lo)
 | .call ⟨.builtin .append,⟨[x,y]⟩,⟨[t,t']⟩⟩=>sG (eF P t) (dL P t') I (zG e x) (zG e y)
 | .next x false=>nj true I (zG e x)
 |op=>cu P e I op
def lR (e:Env) (d:Option Tmp):Bool:=match d with|some t=>(match e (100000+t)with| .cy []=>true|_=>false)|none=>false
def xX (P:Program) (d:Option Tmp) (e:Env) (I:St) (op:Op):R:=if lR e d=true then iu P e I op else cu P e I op
section
variable {P:Program} {c:Ctx} {nt:Nat} {e:Env} {I:St} {a:Act} {w:World} {L:Nat->Nat} {J:aj1}
theorem QO (o:Oper) (h:dQ c nt e I a w L J):fa (cu P e I o.op) I (bU P c o a w L I J):=by
 obtain⟨dst,op,ty,pos,dX,g⟩:=o
 show fa (cu P e I op) I _
 unfold cu
 split
 .grind[XL]
 .grind[XM]
 .grind[XK]
 .grind[X5]
 .grind[X4]
 .grind[Ye]
 .grind[Yd]
 .grind[X2]
 .grind[X3]
 .grind[XN]
 .grind[XU,YG,XS]
 .grind[XV]
 .grind[Ym]
 .grind[Yh]
 .grind[Yj]
 .grind[XX]
 .grind[Yn]
 .grind[X6]
 .grind[X8]
 .grind[XW]
 .grind[Yp]
 .grind[Yq]
 .grind[X9]
 .grind[Ya]
 .grind[Yt]
 .grind[Qi]
 .grind[Qi]
 .grind[YF]
 .grind[YA]
 .grind[YB]
 .grind[YC]
 .grind[YD]
 .grind[YK]
 .grind[YL]
 .grind[YH]
 .grind[YM]
 .grind[YN]
 .grind[QH]
 .trivial
theorem YV (o:Oper) (h:dQ c nt e I a w L J):fa (xX P o.dst e I o.op) I (bU P c o a w L I J):=by
 unfold xX
 split
 .obtain⟨dst,op,ty,pos,dX,g⟩:=o
  show fa (iu P e I op) I _
  unfold iu
  split
  .grind[Yu]
  .grind[Yr]
  .grind[Yv]
  .grind[Yi]
  .grind[Yb]
  .grind[QH]
  .exact QO ⟨dst,op,ty,pos,dX,g⟩ h
 grind[QO]
def fc (nt:Nat) (d:Option Tmp) (v:V) (K:Env->St->Prop) (e:Env) (I:St):Prop:=
 match d with
 |some t=>t<nt/\K (fo e t v) I
 |none=>K e I
def Jl (p q:Prop):Prop:=p/\q
def mh (nt:Nat) (d:Option Tmp) (r:R) (K:Env->St->Prop) (e:Env) (I:St):Prop:=
 match r with
 | .fail=>False
 | .ok v=>fc nt d v K e I
 | .ee p v=>Jl p (fc nt d v K e I)
 | .st v I'=>fc nt d v K e I'
 | .dF p v I'=>Jl p (fc nt d v K e I')
 | .all f=> ∀b,fc nt d (f b) K e I
 | .any l=> ∀p∈l,fc nt d p.1 K e p.2
def jE (P:Program) (c:Ctx) (nt:Nat) (d:Option Tmp) (op:Op) (K:Env->St->Prop) (e:Env) (I:St):Prop:=
 match op with
 | .call ⟨.value f,args,_⟩=>VC P c (zG e f) (args.toList.map (zG e)) I (λv I'=>fc nt d v K e I')
 |op=>mh nt d (xX P d e I op) K e I
def kI (x:V) (want:Bool) (A B:Prop):Prop:=
 match x with
 | .bool b=>(b=want->A)/\(b≠want->B)
 | .cy []=>B
 |_=>False
def j8 (ops:List Oper) (j:Nat):Option Tmp:=(ops[j]?).bind (·.dst)
def uA (g:Option (Nat×Bool)) (ops:List Oper) (e:Env) (A B:Prop):Prop:=
 match g with
 |none=>A
 |some (j,want)=>(match j8 ops j with|some t=>kI (e t) want A B|none=>False)
def j9 (P:Program) (c:Ctx) (nt:Nat) (ops:List Oper):List Oper->(Env->St->Prop)->Env->St->Prop
 | [],K,e,I=>K e I
 |o::rest,K,e,I=>uA o.guard ops e (jE P c nt o.dst o.op (j9 P c nt ops rest K) e I) (fc nt o.dst (.cy []) (j9 P c nt ops rest K) e I)
theorem dQ.put (h:dQ c nt e I a w L J) {w':World} {L':Nat->Nat} {I':St} {J':aj1} {v:V} {x:Value} (hm:Mem c w' L' I' J') (hle:Le w L w' L') (aa:Ext I J I' J') (r:dD w' L' I' J' v x) (d:Option Tmp) (hd: ∀t,d=some t->t<nt):
  dQ c nt (match d with|some t=>fo e t v|none=>e) I' (a.put d x) w' L' J':=by
 cases d with
 |none=>exact⟨hm,h.size,h.defs,λt=>(h.env t).mono hle aa⟩
 |some d=>
  refine⟨hm,by simp[Act.put,h.size],by simp[Act.put,h.defs],λt=> ?_⟩
  have ab:=hd d rfl
  simp only[fo,Act.put]
  by_cases ht:t=d
  .subst ht
   rw[aiv rfl]
   have:(a.tmps.setIfInBounds t x).getD t undef=x:=by
    simp[Array.getD,h.size,ab]
   grind
  .rw[aiu ht]
   have:(a.tmps.setIfInBounds d x).getD t undef=a.tmps.getD t undef:=by
    have ad: ¬d=t:=(by grind)
    simp_all
   rw[this];exact(h.env t).mono hle aa
def fu (c:Ctx) (nt:Nat) (Q:Exit->Env->St->Prop):Exit->Act->World->Prop
 | .panic _,_,_| .outgrown,_,_| .goto _,_,_=>False
 |x,a,w=> ∃e I L J,dQ c nt e I a w L J/\Q x e I
def VW (P:Program) (c:Ctx) (nt:Nat) (code:Code) (Q:Exit->Env->St->Prop) (e:Env) (I:St):Prop:=
 ∀a w L J,dQ c nt e I a w L J->code.wp P (fu c nt Q) a w
theorem EX (h:dQ c nt e I a w L J) {w':World} {L':Nat->Nat} {I':St} {J':aj1} {v:V} {x:Value} (hm:Mem c w' L' I' J') (hle:Le w L w' L') (aa:Ext I J I' J') (r:dD w' L' I' J' v x) {d:Option Tmp} {K:Env->St->Prop} (hK:fc nt d v K e I'):
  ∃e',dQ c nt e' I' (a.put d x) w' L' J'/\K e' I':=by
 cases d with
 |none=>exact⟨e,h.put hm hle aa r none sm,hK⟩
 |some t=>exact⟨fo e t v,h.put hm hle aa r (some t) (λt' q=>by cases q;exact hK.1),hK.2⟩
theorem Jm (o:Oper) {K:Env->St->Prop} {next:Act->World->Prop} {Q:Exit->Act->World->Prop} (h:dQ c nt e I a w L J) (hK:jE P c nt o.dst o.op K e I)
  (hn: ∀e' I' a' w' L' J',dQ c nt e' I' a' w' L' J'->K e' I'->next a' w'):o.wp P a w next Q:=by
 have fin: ∀{r:R},fa r I (bU P c o a w L I J)->mh nt o.dst r K e I->o.wp P a w next Q:=by
  intro r hr hv
  have done: ∀{v I'},bU P c o a w L I J v I'->fc nt o.dst v K e I'->o.wp P a w next Q:=by
   rintro v I' ⟨x,w',L',J',mj,hm,hle,sP,BZ⟩ hp
   obtain⟨e',hs,hk⟩:=EX h hm hle sP BZ hp
   unfold Oper.wp
   rcases mj with mj|⟨mj,rfl⟩
   .rw[mj];exact hn _ _ _ _ _ _ hs hk
   .rw[mj];exact hn _ _ _ _ _ _ hs hk
  cases r with
  |fail=>exact hv.elim
  |ok v=>exact done hr hv
  |ee p v=>exact done (hr hv.1) hv.2
  |st v I'=>exact done hr hv
  |dF p v I'=>exact done (hr hv.1) hv.2
  |all f=>obtain⟨b,hr⟩:=hr;exact done hr (hv b)
  |any l=>obtain⟨p,hp,hr⟩:=hr;exact done hr (hv p hp)
 unfold jE at hK
 split at hK
 .rename_i f args ts Jn
  obtain⟨QP,bY,hf,hK⟩:=hK
  have QQ:=h.eval f
  rw[hf]at QQ
  obtain⟨xs,hx,G0⟩:=QQ
  have y5:bP (dD w L I J) (args.toList.map (zG e)++bY) (args.toList.map a.eval++xs):=by
   refine bP.append ?_ (G0.imp λp q r=> ?_)
   .generalize args.toList=l
    induction l with
    |nil=>trivial
    |cons p l ih=>exact⟨h.eval p,ih⟩
   .exact dD.dK (by cases p<;>first|exact r|exact r.elim)
  rcases hK with ⟨⟨fn,Mo,sQ,sR⟩,nr⟩|nr
  .have mj:(execOp a.eval o).run P w= .ok (.enter QP (args.toList.map a.eval++xs).toArray) w:=by
    obtain⟨dst,op,ty,pos,dX,g⟩:=o
    simp only at Jn
    subst Jn
    have Mq: ¬fn.body=none:=by intro q;simp[q]at sR
    have G1: ¬fn.name= "runtime.NumGoroutine" :=sU sQ
    have G2:(Array.map a.eval args++xs.toArray)=(args.toList.map a.eval++xs).toArray:=by
     apply Array.ext';simp
    simp[execOp,resolve,hx,Deferred.ofValue,invoke,callFunc,Mo,G1,Mq,G2]
   unfold Oper.wp
   rw[mj]
   show Calls P QP _ w _
   refine(nr w L J _ h.mem y5).mono ?_
   rintro en w' ⟨v,r,L',I',J',rfl,hp,hm,hle,sP,BZ⟩
   obtain⟨e',hs,hk⟩:=EX h hm hle sP BZ hp
   exact hn _ _ _ _ _ _ hs hk
  .obtain⟨v,r,w',L',I',J',YW,hp,hm,hle,sP,BZ⟩:=nr w L J _ h.mem y5
   have mj:(execOp a.eval o).run P w= .ok (.value v) w':=by
    obtain⟨dst,op,ty,pos,dX,g⟩:=o
    simp only at Jn
    subst Jn
    have G2:(Array.map a.eval args++xs.toArray)=(args.toList.map a.eval++xs).toArray:=by
     apply Array.ext';simp
    simp[execOp,resolve,hx,Deferred.ofValue,invoke,G2,YW]
   obtain⟨e',hs,hk⟩:=EX h hm hle sP BZ hp
   unfold Oper.wp
   rw[mj]
   exact hn _ _ _ _ _ _ hs hk
 .exact fin (YV o h) hK
theorem QR {ops:List Oper} {j:Nat} {t:Tmp} (ht:j8 ops j=some t) (hv:dD w L I J (.cy []) (a.tmps.getD t undef)):yielded ops.toArray a.tmps j=none:=by
 obtain⟨xs,hx,ab⟩:=hv
 have ad:xs= []:=by
  cases xs with
  |nil=>rfl
  |cons x xs=>exact ab.elim
 subst ad
 unfold yielded
 unfold j8 at ht
 have ae:(ops.toArray[j]?).bind (·.dst)=some t:=sU ht
 rw[ae]
 simp only[Ax]
 by_cases aa:t<a.tmps.size
 .rw[B3 aa]
  simp[Array.getD,aa]at hx
  rw[hx]
 .rw[Array.getElem?_eq_none (Nat.le_of_not_lt aa)]
theorem Mr {ops:List Oper} {Q:Exit->Act->World->Prop}: ∀(l:List Oper) (K:Env->St->Prop) (e:Env) (I:St) (a:Act) (w:World) (L:Nat->Nat) (J:aj1),dQ c nt e I a w L J->j9 P c nt ops l K e I->
  (∀e' I' a' w' L' J',dQ c nt e' I' a' w' L' J'->K e' I'->Q .normal a' w')->wpList P ops.toArray Q l a w
 | [],K,e,I,a,w,L,J,h,hK,hn=>hn _ _ _ _ _ _ h hK
 |o::rest,K,e,I,a,w,L,J,h,hK,hn=>by
  have ih:=Mr (ops:=ops) (Q:=Q) rest K
  have yes:jE P c nt o.dst o.op (j9 P c nt ops rest K) e I->o.wp P a w (wpList P ops.toArray Q rest) Q\/(o.asks P a w/\LetsOut Q):=λhv=>
   .inl (Jm o h hv λe' I' a' w' L' J' hs hk=>ih e' I' a' w' L' J' hs hk hn)
  have no:fc nt o.dst (.cy []) (j9 P c nt ops rest K) e I->wpList P ops.toArray Q rest (a.put o.dst undef) w:=λhv=>by
   obtain⟨e',hs,hk⟩:=EX h h.mem (Le.refl _ _) (Ext.refl _ _) (show dD w L I J (.cy []) undef from⟨[],rfl,tV⟩) hv
   exact ih e' I _ _ _ _ hs hk hn
  unfold j9 at hK
  unfold wpList
  unfold uA at hK
  split at hK
  .rename_i hg
   rw[aiv (by simp[Region.wanted,hg])]
   exact yes hK
  .rename_i j want hg
   split at hK
   .rename_i t ht
    have hv:=h.env t
    unfold kI at hK
    split at hK
    .rename_i b hb
     rw[hb]at hv
     have hv:=pO hv
     have hy:yielded ops.toArray a.tmps j=some b:=by
      unfold yielded
      unfold j8 at ht
      have ad:(ops.toArray[j]?).bind (·.dst)=some t:=sU ht
      rw[ad]
      simp only[Ax]
      have ab:t<a.tmps.size:=by
       rcases Bv t a.tmps.size with q|q
       .exact q
       .simp[Array.getD,Nat.not_lt.2 q,undef]at hv
      rw[B3 ab]
      simp[Array.getD,ab]at hv
      rw[hv]
     by_cases aa:b=want
     .rw[aiv (by simp[Region.wanted,hg,hy,aa])]
      exact yes (hK.1 aa)
     .rw[aiu (by simp[Region.wanted,hg,hy,aa])]
      exact no (hK.2 aa)
    .rename_i hb
     rw[hb]at hv
     rw[aiu (by simp[Region.wanted,hg,QR ht hv])]
     exact no hK
    .exact hK.elim
   .exact hK.elim
def G3 (x:V) (A B:Prop):Prop:=
 match x with
 | .bool b=>(b=true->A)/\(b=false->B)
 |_=>False
def Ms (K:Env->St->Prop) (Q:Exit->Env->St->Prop):Exit->Env->St->Prop
 | .normal,e,I=>K e I
 |x,e,I=>Q x e I
def CA (id:Nat) (Q:Exit->Env->St->Prop):Exit->Env->St->Prop
 | .exit sS,e,I=>if sS=id then Q .normal e I else Q (.exit sS) e I
 |x,e,I=>Q x e I
def qu (P:Program) (c:Ctx) (nt:Nat):Code->(Exit->Env->St->Prop)->Env->St->Prop
 | .skip,Q,e,I=>Q .normal e I
 | .seq x y,Q,e,I=>qu P c nt x (Ms (qu P c nt y Q) Q) e I
 | .cond x t f,Q,e,I=>G3 (zG e x) (qu P c nt t Q e I) (qu P c nt f Q e I)
 | .block id b,Q,e,I=>qu P c nt b (CA id Q) e I
 | .exit id,Q,e,I=>Q (.exit id) e I
 | .ret,Q,e,I=>Q .ret e I
 | .label _,Q,e,I=>Q .normal e I
 | .region id ops draw,Q,e,I=>if draw then VW P c nt (.region id ops true) Q e I else j9 P c nt ops.toList ops.toList (Q .normal) e I
 | .loop b,Q,e,I=>VW P c nt (.loop b) Q e I
 |_,_,_,_=>False
theorem rM: ∀(code:Code) (Q:Exit->Env->St->Prop) (e:Env) (I:St),qu P c nt code Q e I->VW P c nt code Q e I
 | .skip,Q,e,I,h=>λa w L J hs=>wp_skip ⟨e,I,L,J,hs,h⟩
 | .seq x y,Q,e,I,h=>λa w L J hs=>by
  refine wp_seq (wp_mono (rM x _ e I h a w L J hs) λex a' w' q=> ?_)
  cases ex with
  |normal=>obtain⟨e',I',L',J',aa,hq⟩:=q;exact rM y Q e' I' hq a' w' L' J' aa
  |exit id=>exact q
  |goto l=>exact q
  |ret=>exact q
  |panic ch=>exact q
  |outgrown=>exact q
 | .cond x t f,Q,e,I,h=>λa w L J hs=>by
  unfold qu G3 at h
  split at h
  .rename_i b hb
   have hv:=hs.eval x
   rw[hb]at hv
   exact wp_cond_split (pO hv) (λad=>rM t Q e I (h.1 ad) a w L J hs) (λae=>rM f Q e I (h.2 ae) a w L J hs)
  .exact h.elim
 | .block id b,Q,e,I,h=>λa w L J hs=>by
  refine wp_block (wp_mono (rM b _ e I h a w L J hs) λex a' w' q=> ?_)
  cases ex with
  |exit ab=>
   obtain⟨e',I',L',J',aa,hq⟩:=q
   change (if ab=id then Q .normal e' I' else Q (.exit ab) e' I')at hq
   change (if ab=id then fu c nt Q .normal a' w' else fu c nt Q (.exit ab) a' w')
   split
   .rename_i hid
    rw[aiv hid]at hq
    exact⟨e',I',L',J',aa,hq⟩
   .rename_i hid
    rw[aiu hid]at hq
    exact⟨e',I',L',J',aa,hq⟩
  |normal=>exact q
  |goto l=>exact q
  |ret=>exact q
  |panic ch=>exact q
  |outgrown=>exact q
 | .exit id,Q,e,I,h=>λa w L J hs=>wp_exit ⟨e,I,L,J,hs,h⟩
 | .ret,Q,e,I,h=>λa w L J hs=>wp_ret ⟨e,I,L,J,hs,h⟩
 | .label _,Q,e,I,h=>λa w L J hs=>wp_label ⟨e,I,L,J,hs,h⟩
 | .region id ops draw,Q,e,I,h=>λa w L J hs=>by
  unfold qu at h
  cases draw with
  |true=>exact h a w L J hs
  |false=>
   refine wp_region_list (ops:=ops) ?_
   have:=Mr (P:=P) (ops:=ops.toList) (Q:=fu c nt Q) ops.toList (Q .normal) e I a w L J hs (sU h) λe' I' a' w' L' J' aa hk=>⟨e',I',L',J',aa,hk⟩
   simpa using this
 | .loop b,Q,e,I,h=>h
 | .rangeFunc _ _ _ _,_,_,_,h=>h.elim
 | .scope _,_,_,_,h=>h.elim
 | .goto _,_,_,_,h=>h.elim
 | .refuse _,_,_,_,h=>h.elim
end
end Go.Vx
