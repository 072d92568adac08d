/-
  The code of a function at the level of trees: operations one behind the other, branches, blocks, loops, the call itself.
  No condition: a library text; nothing of the program is named.
-/
import Derived.Test.YtefbicjgbaaieaaGreatMAB
import Derived.Maps.RangeRun
set_option maxHeartbeats 8000000
namespace Go.Vx
open Go
theorem Ext.gJ {U:St} {I:afG} {i:Nat} {o0:Ob} (hi:U[i]? =some o0) (h1: ∀n s,o0≠ .app n s) (h2: ∀r s,o0≠ .cc r s) (h3:o0≠ .dead) (o:Ob):Ext U I (U.set i o) I:=by
 refine⟨sm,(by grind),(by grind),(by grind)⟩
 all_goals grind
section
variable {c:Ctx} {w:World} {L:Nat->Nat} {U:St} {I:afG}
theorem Mem.qW (h:Mem c w L U I) (ob:Go.Obj) (o:Ob)
  (ho:Le w L (w.alloc ob) L->Ext U I (U++ [o]) (I++ [.pointer (some ⟨w.heap.size,0,none⟩)])->gz (w.alloc ob) L (U++ [o]) (I++ [.pointer (some ⟨w.heap.size,0,none⟩)]) o (.pointer (some ⟨w.heap.size,0,none⟩)))
  (hex: ∀b,cI o (.pointer (some ⟨w.heap.size,0,none⟩))=some b->b=w.heap.size):
  Mem c (w.alloc ob) L (U++ [o]) (I++ [.pointer (some ⟨w.heap.size,0,none⟩)])/\Le w L (w.alloc ob) L:=by
 have h1:=h.alloc ob 0
 rw[Hz h]at h1
 refine⟨h1.1.push _ _ (ho h1.2 (Ext.push U I h.len _ _)) ?_ ?_,h1.2⟩
 .intro i o' x' b hi hx hb e
  have h2:=(h.cO i o' x' hi hx).dY hb
  grind
 .intro b hb
  rw[hex b hb]
  exact .inl h.size
theorem Mem.jw (h:Mem c w L U I) {i b:Nat} {o0 o:Ob} (hi:U[i]? =some o0) (cR:I[i]? =some (.pointer (some ⟨b,0,none⟩))) (aa:cI o0 (.pointer (some ⟨b,0,none⟩))=some b) (h0:L b=0)
  (ob:Go.Obj) (ae:Ext U I (U.set i o) I) (hex: ∀k,cI o (.pointer (some ⟨b,0,none⟩))=some k->k=b)
  (cH:Le w L (yK w b ob) L->gz (yK w b ob) L (U.set i o) I o (.pointer (some ⟨b,0,none⟩))):
  Mem c (yK w b ob) L (U.set i o) I/\Le w L (yK w b ob) L:=by
 have hle:Le w L (yK w b ob) L:=by
  refine⟨om,λk o ho=>za (vx w b k _ λq=> ?_) o⟩
  grind
 refine⟨?_,hle⟩
 have af:=yE I i _ cR
 have key:=h.dK (w':=yK w b ob) (L':=L) i o (.pointer (some ⟨b,0,none⟩)) hle (by grind) (λk=>k=b)
  (λj o' x' k hj ab ad hk e=>by subst e;exact h.apart j i o' _ x' _ k hj ab ad hi cR hk aa)
  (λk e=>by subst e;exact h.fy i _ _ k hi cR aa)
  (λk hk=>⟨vx w b k _ hk,rfl⟩) (by simp[yK]) rfl rfl rfl h.lim (by grind) om
 grind
end
theorem bL.mz {J I:Type} {R:J->I->Prop}: ∀{l:List J} {m:List I} {b:I},bL R l m->b∈m-> ∃a∈l,R a b
 |a::l,b'::m,b,h,hb=>by
  rcases Ae.1 hb with rfl|hb
  .exact⟨a,sm,h.1⟩
  .obtain⟨a',ha,r⟩:=bL.mz h.2 hb
   grind
 | [],[],_,_,hb=>by grind
 | [],_::_,_,h,_=>h.elim
 |_::_,[],_,h,_=>h.elim
section
variable {P:Program} {c:Ctx} {nt:Nat} {e:Env} {U:St} {a:Act} {w:World} {L:Nat->Nat} {I:afG} {o:Oper}
variable {x:Value}{dst:Option Tmp}{ty:TypeId}{dG:Array Edge}{g:Option (Nat×Bool)}{p:V}{kt:TypeId}{t:TypeId}{y:Value}{k:Pk}{di:List V}
theorem CV {v:V} (r:cV w L U I v x) (h:mq v):dF w L U I v x:=by
 cases v<;>first|exact r|simp[mq]at h
def jf:TypeDesc->Option Pk
 | .bool=>some .b
 | .int k=>some (.i k)
 | .string=>some .s
 |_=>none
inductive Kk where
 |one (k:Pk)
 |st (ks:List Pk)
def CW (P:Program):Nat->List Field->Option (List Pk)
 |_,[]=>some []
 |i,f::fs=>if f.name≠ "_" /\f.offset=i/\cL P f.type=some false then((P.underlying f.type).bind jf).bind λk=>(CW P (i+1) fs).map (k:: ·)else none
def vO (P:Program) (kt:TypeId):Option Kk:=
 match P.underlying kt with
 |some (.struct fs)=>(CW P 0 fs.toList).bind λks=>if tT P 10 kt=some ks then some (.st ks)else none
 |some d=>(jf d).map .one
 |none=>none
def HJ (P:Program) (t:TypeId):Option V:=
 match (P.info? t).bind (·.zero)with
 |some (.agg cs)=>if cs.all (·.oneCell')=true then some (.agg (cs.toList.map iC))else none
 |some v=>if v.oneCell'=true then some (iC v)else none
 |none=>none
def fP (P:Program) (t:TypeId):Option (Kk×V):=
 match P.underlying t with
 |some (.map kt et)=>(vO P kt).bind λk=>(HJ P et).map λz=>(k,z)
 |_=>none
theorem V1 {z:V} (h:HJ P t=some z): ∃i zv,P.info? t=some i/\i.zero=some zv/\mq z=true/\ ∀(w:World) L U I,dF w L U I z zv:=by
 unfold HJ at h
 cases hi:P.info? t with
 |none=>grind
 |some i=>
  cases hz:i.zero with
  |none=>grind
  |some zv=>
   simp only[hi,hz,Ao]at h
   refine⟨i,zv,rfl,hz, ?_⟩
   split at h
   .rename_i cs aa
    cases aa
    split at h
    .rename_i ha
     simp only[afg]at h
     subst h
     refine⟨rfl,λw L U I=>⟨cs.toList,sm,(Kx λv hv=> ?_).imp λ_ _=>cN.cS⟩⟩
     exact Bd.1 ha v (by grind)
    grind
   .rename_i v ab hv
    cases hv
    split at h
    .rename_i h1
     simp only[afg]at h
     subst h
     have hc:vz (iC zv):=(Fi (w:=default) (L:=λ_=>0) zv h1).2
     refine⟨?_,(by grind[dF.df,cN.cS,Fi])⟩
     revert hc
     generalize iC zv=q0
     cases q0<;>simp[vz,mq]
    grind
   grind
theorem Fy {k:Kk} {z:V} (h:fP P t=some (k,z)): ∃kt et i zv,P.underlying t=some (.map kt et)/\vO P kt=some k/\P.info? et=some i/\i.zero=some zv/\mq z=true/\ ∀(w:World) L U I,dF w L U I z zv:=by
 unfold fP at h
 split at h
 .rename_i kt et hu
  cases hk:vO P kt with
  |none=>grind
  |some k'=>
   cases hz:HJ P et with
   |none=>grind
   |some z'=>
    simp only[hk,hz,Ao,Ba,afg,afl]at h
    obtain⟨rfl,rfl⟩:=h
    grind[V1]
 grind
def lh:Pk->V->Bool
 | .b,.bool _=>true
 | .i k,.int k' _=>decide (k'=k)
 | .s,.str _=>true
 |_,_=>false
def kL:List Pk->List V->Bool
 | [],[]=>true
 |k::ks,v::vs=>lh k v&&kL ks vs
 |_,_=>false
def ma:Kk->V->Bool
 | .one k,v=>lh k v
 | .st ks,.agg vs=>kL ks vs
 |_,_=>false
theorem vP {d:TypeDesc} {v:V} (hk:jf d=some k) (h:lh k v) (r:cV w L U I v x):MapKept.IsKey d x:=by
 cases k<;>cases v<;>simp[lh]at h
 .rw[oH r];cases d<;>simp[jf]at hk<;>trivial
 .rw[yI r];cases d<;>simp[jf]at hk;subst hk;exact h
 .rw[kI r];cases d<;>simp[jf]at hk<;>trivial
theorem OT (em:Bool) (xs:afG) (w:World): ∀(fs:List Field) (i:Nat) (ks:List Pk) (vs:List V),CW P i fs=some ks->kL ks vs=true->bL (cN w L U I) vs (xs.drop i)->
  ∀f∈fs,f.name≠ "_" /\ ∃x,(part f.type xs.toArray f.offset).run P w= .ok x w/\(Instr.checkKey em 9999 f.type x).run P w= .ok () w
 | [],_,_,_,_,_,_,_,hf=>by cases hf
 |f::fs,i,ks,vs,h,KD,ha,f',KE=>by
  unfold CW at h
  split at h
  .rename_i hc
   obtain⟨h1,h2,h3⟩:=hc
   cases hu:P.underlying f.type with
   |none=>grind
   |some d=>
    cases hk:jf d with
    |none=>grind
    |some k=>
     simp only[hu,hk,Ao,Al]at h
     obtain⟨V2,h4,rfl⟩:=h
     cases vs with
     |nil=>trivial
     |cons v vs=>
      simp only[kL,A6]at KD
      have hlen:=ha.length
      have OU:i<xs.length:=by grind
      rw[A2 OU]at ha
      rcases Ae.1 KE with rfl|KE
      .have hp:(part f'.type xs.toArray f'.offset).run P w= .ok xs[i] w:=by
        simp_all[part,sO]
       exact⟨h1,_,hp,MapKept.run_checkKey (P:=P) (w:=w) hu (vP hk KD.1 (cV.df ha.1)) em 9998⟩
      .exact OT em xs w fs (i+1) V2 vs h4 KD.2 ha.2 f' KE
  grind
theorem Fz {kk:Kk} (hk:vO P kt=some kk) (aa:ma kk p) (hx:cV w L U I p x) (em:Bool):(Instr.checkKey em 10000 kt x).run P w= .ok () w:=by
 unfold vO at hk
 split at hk
 .rename_i fs hu
  cases hf:CW P 0 fs.toList with
  |none=>grind
  |some ks=>
   simp only[hf,Ao]at hk
   split at hk
   .simp only[afg]at hk
    subst hk
    cases p<;>simp[ma]at aa
    obtain⟨xs,rfl,ha⟩:=hx
    have each:=OT (P:=P) em xs w fs.toList 0 ks _ hf aa ha
    rw[show(10000:Nat)=9999+1 from rfl,Instr.checkKey]
    simp only[Sem.run_bind,run_underlying hu,Result.andThen_ok]
    rw[<-Array.forIn_toList]
    clear hf hu
    generalize fs.toList=M at each
    induction M with
    |nil=>simp
    |cons f M ih=>
     obtain⟨hn,x,p1,p2⟩:=each f sm
     simp_all
   grind
 .rename_i d ab hu
  cases hd:jf d with
  |none=>grind
  |some k=>
   simp only[hd,Ba,afg]at hk
   subst hk
   exact MapKept.run_checkKey hu (vP hd aa hx) em 9999
 grind
def jY:Kk->V->V->Option Bool
 | .one k,x,y=>je k x y
 | .st ks,.agg x,.agg y=>kJ ks x y
 |_,_,_=>none
def nf (k:Kk) (x:V):List V->Nat->Option (Option (Nat×V))
 |kk::vv::rest,i=>(match jY k x kk with
  |some true=>some (some (i,vv))
  |some false=>nf k x rest (i+1)
  |none=>none)
 | [],_=>some none
 | [_],_=>none
theorem OV {d:TypeDesc} {v:V} {r:Bool} (hk:jf d=some k) (hx:cV w L U I p x) (hy:cV w L U I v y) (h:je k p v=some r):Instr.sameNow d x y=some r:=by
 cases k
 .cases p<;>cases v<;>simp[je]at h
  subst h
  rw[oH hx,oH hy]
  cases d<;>simp[jf]at hk
  rfl
 .cases p<;>cases v<;>simp[je]at h
  obtain⟨⟨rfl,rfl⟩,rfl⟩:=h
  rw[yI hx,yI hy]
  cases d<;>simp[jf]at hk
  simp[Instr.sameNow]
 .cases p<;>cases v<;>simp[je]at h
  subst h
  rename_i s1 s2
  rw[kI hx,kI hy]
  cases d<;>simp[jf]at hk
  simp only[Instr.sameNow,afg]
  have e1:((⟨s1.toArray⟩:ByteArray)==⟨s2.toArray⟩)=(s1.toArray==s2.toArray):=rfl
  grind
theorem KF {k:Kk} {p:V} (M:List MapEntry->Nat->Option (Nat×Value)->Prop) (h0: ∀i,M [] i none)
  (hT: ∀v (e:MapEntry) es i,dF w L U I v e.key->jY k p v=some true->M (e::es) i (some (i,e.val)))
  (hF: ∀v (e:MapEntry) es i r,dF w L U I v e.key->jY k p v=some false->M es (i+1) r->M (e::es) i r):
  ∀(di:List V) (es:List MapEntry) (i:Nat) (q:Option (Nat×V)),bL (dF w L U I) di (es.flatMap λe=> [e.key,e.val])->nf k p di i=some q->
  (q=none/\M es i none)\/ ∃(j:Nat) (v:V) (e:MapEntry),q=some (i+j,v)/\M es i (some (i+j,e.val))/\es[j]? =some e/\di[2*j+1]? =some v/\dF w L U I v e.val/\(∃kk,di[2*j]? =some kk/\jY k p kk=some true)
 | [],[],i,q,_,h=>by grind[nf]
 | [],e::es,_,_,ha,_=>by trivial
 | [_],[],_,_,ha,_=>by trivial
 | [_],e::es,_,_,_,h=>by trivial
 |_::_::_,[],_,_,ha,_=>by trivial
 |kk::vv::di,e::es,i,q,ha,h=>by
  simp only[Ch,Ap,Bp,bL]at ha
  obtain⟨h1,h2,h3⟩:=ha
  rw[nf]at h
  split at h
  .rename_i he
   simp only[afg]at h
   exact .inr ⟨0,vv,e,h.symm,(by grind),rfl,rfl,h2,kk,rfl,he⟩
  .rename_i he
   rcases KF M h0 hT hF di es (i+1) q h3 h with ⟨e1,e2⟩|⟨j,v,e',e1,e2,e3,e4,e5,aa,e6,e7⟩
   .grind
   .rw[show i+1+j=i+(j+1) by omega]at e1 e2
    refine .inr ⟨j+1,v,e',e1,(by grind),by grind, ?_,e5,aa, ?_,e7⟩
    all_goals grind
  grind
theorem OW {fs:Array Field} {es:List MapEntry} {r:Option (Nat×Value)} (hu:P.underlying kt=some (.struct fs)) (h:(Instr.findAsking kt x es 0).run P w= .ok r w):(Instr.findKey kt x es).run P w= .ok r w:=by
 cases es<;>simp_all[Instr.findAsking,Instr.findKey,run_underlying,Instr.findNow,Instr.sameNow]
theorem vQ {kk:Kk} (hk:vO P kt=some kk) (ab:ma kk p) (hx:cV w L U I p x) {es:List MapEntry} {q:Option (Nat×V)} (ha:bL (dF w L U I) di (es.flatMap λe=> [e.key,e.val])) (hf:nf kk p di 0=some q):
  (q=none/\(Instr.findKey kt x es).run P w= .ok none w)\/ ∃(j:Nat) (v:V) (e:MapEntry),q=some (j,v)/\(Instr.findKey kt x es).run P w= .ok (some (j,e.val)) w/\es[j]? =some e/\di[2*j+1]? =some v/\dF w L U I v e.val/\(∃k',di[2*j]? =some k'/\jY kk p k'=some true):=by
 unfold vO at hk
 split at hk
 .rename_i fs hu
  cases ad:CW P 0 fs.toList with
  |none=>grind
  |some ks=>
   simp only[ad,Ao]at hk
   split at hk
   .rename_i ae
    simp only[afg]at hk
    subst hk
    cases p<;>simp[ma]at ab
    rename_i vs
    obtain⟨xs,rfl,af⟩:=hx
    have ah: ∀(us:List V) (ys:afG),bL (cN w L U I) us ys-> ∀z∈ys,z.oneCell'=true:=λus ys h z hz=>by
     obtain⟨i,hi,rfl⟩:=List.mem_iff_getElem.1 hz
     obtain⟨a,_,r⟩:=bL.mz h om
     exact r.dj
    have aa: ∀ys:afI,nF P kt (.agg ys):=λys=>by
     unfold nF
     rw[afb (by unfold cL;rw[hu];rfl)]
     simp
    have heq: ∀(v:V) (y:Value) (r:Bool),dF w L U I v y->jY (.st ks) (.agg vs) v=some r->(Op.equal kt (.agg xs.toArray) y).run P w= .ok r w:=by
     intro v y r hr he
     cases v<;>simp[jY]at he
     rename_i us
     obtain⟨ys,rfl,ag⟩:=hr
     have ai:=Kq ks vs us xs ys r af ag he
     exact Kr 10 kt ks ae 10000 om _ _ r (aa _) (aa _) (by grind[Value.cells]) (by grind[Value.cells]) (by simpa) w
    rcases KF (w:=w) (L:=L) (U:=U) (I:=I) (k:= .st ks) (p:= .agg vs) (λes i r=>(Instr.findAsking kt (.agg xs.toArray) es i).run P w= .ok r w) (by simp[Instr.findAsking])
     (λv e es i h1 h2=>by simp[Instr.findAsking,heq v _ _ h1 h2]) (λv e es i r h1 h2 h3=>by simp[Instr.findAsking,heq v _ _ h1 h2,h3]) di es 0 q ha hf with ⟨e1,e2⟩|⟨j,v,e',e1,e2,e3⟩
    .grind[OW]
    .rw[A7]at e1 e2
     grind[OW]
   grind
 .rename_i d aj hu
  cases hd:jf d with
  |none=>grind
  |some k=>
   simp only[hd,Ba,afg]at hk
   subst hk
   rcases KF (w:=w) (L:=L) (U:=U) (I:=I) (k:= .one k) (p:=p) (λes i r=>Instr.findNow d x es i=some r) (λi=>rfl)
    (λv e es i h1 h2=>by simp[Instr.findNow,OV hd hx (cV.kG h1) h2]) (λv e es i r h1 h2 h3=>by simp[Instr.findNow,OV hd hx (cV.kG h1) h2,h3]) di es 0 q ha hf with ⟨e1,e2⟩|⟨j,v,e',e1,e2,e3⟩
   .grind[MapKept.run_findKey]
   .rw[A7]at e1 e2
    grind[MapKept.run_findKey]
 grind
theorem OX {v:V} (hx:cV w L U I p x) (hy:cV w L U I v y) (h:je k p v=some true):x=y:=by
 cases k<;>cases p<;>cases v<;>simp[je]at h
 .rw[oH hx,oH hy,h]
 .obtain⟨⟨rfl,rfl⟩,rfl⟩:=h
  rw[yI hx,yI hy]
 .rw[kI hx,kI hy,h]
theorem OY: ∀(ks:List Pk) (us vs:List V) (xs ys:afG),bL (cN w L U I) us xs->bL (cN w L U I) vs ys->kJ ks us vs=some true->xs=ys
 | [],[],[],[],[],_,_,_=>rfl
 |k::ks,u'::us,v::vs,x::xs,y::ys,h1,h2,h=>by
  unfold kJ at h
  cases hk:je k u' v with
  |none=>grind
  |some r0=>
   simp only[hk,Ao,Al]at h
   obtain⟨r',h3,h4⟩:=h
   simp only[A6]at h4
   obtain⟨rfl,rfl⟩:=h4
   rw[OX (cV.df h1.1) (cV.df h2.1) hk,OY ks us vs xs ys h1.2 h2.2 h3]
 | [],[],[],[],_::_,_,h2,_=>h2.elim
 | [],[],[],_::_,_,h1,_,_=>h1.elim
 | [],[],_::_,_,_,_,_,h=>by cases h
 | [],_::_,_,_,_,_,_,h=>by cases h
 |_::_,[],_,_,_,_,_,h=>by cases h
 |_::_,_::_,[],_,_,_,_,h=>by cases h
 |_::_,_::_,_::_,[],_,h1,_,_=>h1.elim
 |_::_,_::_,_::_,_::_,[],_,h2,_=>h2.elim
theorem OZ {k:Kk} {v:V} (hx:cV w L U I p x) (hy:cV w L U I v y) (h:jY k p v=some true):x=y:=by
 cases k with
 |one k=>exact OX hx hy h
 |st ks=>
  cases p<;>cases v<;>simp[jY]at h
  obtain⟨xs,rfl,h1⟩:=hx
  obtain⟨ys,rfl,h2⟩:=hy
  grind[OY]
theorem V3 {ks:List Pk}: ∀{vs:List V} {xs:afG},kL ks vs=true->bL (cN w L U I) vs xs-> ∀z∈xs,∃d,MapKept.IsKey d z:=by
 induction ks with
 |nil=>
  intro vs xs h ha
  cases vs with
  |nil=>cases xs with
   |nil=>simp
   |cons _ _=>trivial
  |cons _ _=>trivial
 |cons k ks ih=>
  intro vs xs h ha z hz
  cases vs with
  |nil=>trivial
  |cons v vs=>
   cases xs with
   |nil=>grind
   |cons x xs=>
    simp only[kL,A6]at h
    rcases Ae.1 hz with rfl|hz
    .have hr:=cV.df (U:=U) (I:=I) ha.1
     cases k
     .exact⟨.bool,vP rfl h.1 hr⟩
     .exact⟨.int _,vP rfl h.1 hr⟩
     .exact⟨.string,vP rfl h.1 hr⟩
    .exact ih h.2 ha.2 z hz
theorem O0 {kk:Kk} (aa:ma kk p) (hx:cV w L U I p x):(Instr.keyThatStays x x).run P w= .ok x w:=by
 cases kk with
 |one k=>
  cases k
  .exact MapKept.run_keyThatStays (vP (d:= .bool) rfl aa hx)
  .exact MapKept.run_keyThatStays (vP (d:= .int _) rfl aa hx)
  .exact MapKept.run_keyThatStays (vP (d:= .string) rfl aa hx)
 |st ks=>
  cases p<;>simp[ma]at aa
  obtain⟨xs,rfl,ha⟩:=hx
  have hs:Instr.sameBits 10000 (.agg xs.toArray) (.agg xs.toArray):=by
   show Instr.sameBits (9999+1) (.agg xs.toArray) (.agg xs.toArray)=true
   simp only[Instr.sameBits,beq_self_eq_true,B2,Ad]
   rintro⟨a,b⟩ hp
   obtain⟨i,hi,e⟩:=List.mem_iff_getElem.1 hp
   simp only[List.getElem_zip,afl]at e
   obtain⟨rfl,rfl⟩:=e
   grind[V3,Aa,MapKept.sameBits_self]
  simp_all[Instr.keyThatStays]
def vR (U:St) (m:Bool) (r:Option V):R:=
 match m,r with
 |_,none=> .st (.mp U.length) (U++ [.mp [] [] 0])
 |true,some (.int _ _)=> .st (.mp U.length) (U++ [.mp [] [] 0])
 |_,_=> .fail
def mA (P:Program) (t:TypeId):Bool:=match P.underlying t with|some (.map _ _)=>true|_=>false
theorem V4 (h:Mem c w L U I):Mem c (w.alloc (.map #[] 0)) L (U++ [.mp [] [] 0]) (I++ [.pointer (some ⟨w.heap.size,0,none⟩)])/\Le w L (w.alloc (.map #[] 0)) L:=
 h.qW _ _ (λhle _=>⟨w.heap.size, #[],rfl,yH _ _,by have:=h.lim _ (A3 _);omega,by trivial,rfl⟩) (by grind[cI])
theorem V5 {pos:String} (t:TypeId) (r:Option Operand) (h:dp c nt e U a w L I):
  fh (vR U (mA P t) (r.map (zF e))) U (bO P c ⟨dst,.makeMap t r,ty,pos,dG,g⟩ a w L U I):=by
 have aa:=V4 h.mem
 have ab:cV (w.alloc (.map #[] 0)) L (U++ [.mp [] [] 0]) (I++ [.pointer (some ⟨w.heap.size,0,none⟩)]) (.mp U.length) (.map (some w.heap.size)):=⟨w.heap.size,by rw[<-h.mem.len];simp,rfl⟩
 cases r with
 |none=>exact⟨_,_,L,_,(by simp[execOp,Instr.makeMap]),aa.1,aa.2,Ext.push U I h.mem.len _ _,ab⟩
 |some p=>
  have hp:=h.eval p
  simp only[Ba]
  unfold vR
  split
  .grind
  .rename_i k n hm hq
   simp only[afg]at hq
   rw[hq]at hp
   have hp:=yI hp
   unfold mA at hm
   split at hm
   .rename_i kt et hu
    exact⟨_,_,L,_,(by simp_all[execOp,Instr.makeMap,run_underlying,asInt,asIntOf]),aa.1,aa.2,Ext.push U I h.mem.len _ _,ab⟩
   grind
  trivial
def xV (m:Option (Kk×V)) (U:St) (x k:V) (ok:Bool):R:=
 match m with
 |some (kd,z)=>if ma kd k=true then(match x with
  | .mp id=>(match U[id]? with
   |some (.mp di _ _)=>(match nf kd k di 0 with
    |some (some (_,v))=> .ok (if ok then .cm [v,.bool true]else v)
    |some none=> .ok (if ok then .cm [z,.bool false]else z)
    |none=> .fail)
   |_=> .fail)
  | .raw (.map none)=> .ok (if ok then .cm [z,.bool false]else z)
  |_=> .fail)else .fail
 |none=> .fail
theorem zj {id:Nat} (r:cV w L U I (.mp id) x): ∃b,I[id]? =some (.pointer (some ⟨b,0,none⟩))/\x= .map (some b):=r
theorem HK (r:cV w L U I (.raw (.map none)) x):x= .map none:=by
 have r':cq w L (.raw (.map none)) x:=r
 cases r';rfl
theorem KG {v:V} (b:Bool) (r:dF w L U I v x) (ok:Bool):cV w L U I (if ok then .cm [v,.bool b]else v) (if ok then .tuple #[x,.bool b]else x):=by
 cases ok
 .grind[cV.kG]
 .exact⟨[x,.bool b],rfl,r,dF.df (cN.cS (.bool b)),tV⟩
theorem V6 {pos:String} (t:TypeId) (x k:Operand) (ok:Bool) (h:dp c nt e U a w L I):
  fh (xV (fP P t) U (zF e x) (zF e k) ok) U (bO P c ⟨dst,.lookup t x k ok,ty,pos,dG,g⟩ a w L U I):=by
 have hx:=h.eval x
 have hk:=h.eval k
 unfold xV
 split
 .rename_i kd z hm
  obtain⟨kt,et,i,zv,hu,ad,hi,hz,ah,ai⟩:=Fy hm
  split
  .rename_i ae
   have af: ∀em,(Instr.checkKey em 10000 kt (a.eval k)).run P w= .ok () w:=(by grind[Fz])
   have ag:(zeroValue et).run P w= .ok zv w:=by simp_all[zeroValue,typeInfo]
   split
   .rename_i id hid
    rw[hid]at hx
    obtain⟨b,cR,hv⟩:=zj hx
    split
    .rename_i di bs cD cv
     obtain⟨b',es,e1,hh,hl,aa,aj⟩:=h.mem.cO _ _ _ cv cR
     cases e1
     have aa:bL (dF w L U I) di (es.toList.flatMap λe=> [e.key,e.val]):=aa
     split
     .rename_i i0 v hf
      rcases vQ ad ae hk aa hf with ⟨e1,_⟩|⟨j,v',e',e1,e2,_,_,e5,_⟩
      .cases e1
      .cases e1
       refine bO.pure h (x:=if ok then .tuple #[e'.val,.bool true]else e'.val) ?_ (KG true e5 ok)
       have ab:=e2
       simp[execOp,Instr.lookup,run_underlying hu,hv,MapKept.run_getObj_map hh,af,ab]
     .rename_i hf
      rcases vQ ad ae hk aa hf with ⟨_,e2⟩|⟨j,v',e',e1,_⟩
      .refine bO.pure h (x:=if ok then .tuple #[zv,.bool false]else zv) ?_ (by simp_all[KG])
       have ab:=e2
       simp[execOp,Instr.lookup,run_underlying hu,hv,MapKept.run_getObj_map hh,af,ab,ag]
      grind
     trivial
    trivial
   .rename_i hid
    rw[hid]at hx
    have hv:=HK hx
    refine bO.pure h (x:=if ok then .tuple #[zv,.bool false]else zv) ?_ (by simp_all[KG])
    have ab:(Instr.findKey kt (a.eval k) []).run P w= .ok none w:=by
     rcases vQ (es:= []) ad ae hk (show bL (dF w L U I) [] _ from trivial) rfl with ⟨_,e2⟩|⟨j,v',e',e1,_⟩
     all_goals grind
    simp_all[execOp,Instr.lookup,run_underlying]
   trivial
  trivial
 trivial
def pf (di:List V) (i:Nat) (k v:V):List V:=(di.set (2*i) k).set (2*i+1) v
theorem zk (l:List MapEntry): ∀(i:Nat),(l.flatMap λe=> [e.key,e.val])[2*i]? =(l[i]?).map (·.key)/\(l.flatMap λe=> [e.key,e.val])[2*i+1]? =(l[i]?).map (·.val):=by
 induction l with
 |nil=>simp
 |cons e l ih=>
  intro i
  cases i with
  |zero=>simp
  |succ i=>
   grind
theorem KH (l:List MapEntry):(l.flatMap λe=> [e.key,e.val]).length=2*l.length:=by
 induction l<;>grind
theorem O1 {es:Array MapEntry} {i:Nat} {k v:V} (h:bL (dF w L U I) di (oF es)) (hk:dF w L U I k x) (hv:dF w L U I v y) (hi:i<es.size):
  bL (dF w L U I) (pf di i k v) (oF (es.modify i λe=>{e with key:=x,val:=y})):=by
 have hl:=h.length
 unfold oF at h hl⊢
 rw[KH]at hl
 simp only[Ci]at hl
 refine bL.of ?_ λj p q hp hq=> ?_
 .grind[pf,KH]
 .unfold pf at hp
  obtain⟨m,hm⟩: ∃m,j=2*m\/j=2*m+1:=⟨j/2,om⟩
  rcases hm with rfl|rfl
  .rw[(zk _ m).1]at hq
   rw[Dh om]at hp
   rw[Am,Array.getElem?_modify]at hq
   by_cases e1:i=m
   .grind
   .rw[afa e1]at hq
    rw[Dh om]at hp
    obtain⟨y',aa,r⟩:=h.get _ _ hp
    grind[zk]
  .rw[(zk _ m).2]at hq
   rw[Am,Array.getElem?_modify]at hq
   by_cases e1:i=m
   .grind
   .rw[afa e1]at hq
    rw[Dh om,Dh om]at hp
    obtain⟨y',aa,r⟩:=h.get _ _ hp
    rw[(zk _ m).2,Am]at aa
    grind
theorem O2 (es:Array MapEntry) (i:Nat) (x y:Value):(es.modify i λe=>{e with key:=x,val:=y}).toList.map (·.born)=es.toList.map (·.born):=by
 apply Bn
 grind
def xP (m:Option (Kk×V)) (U:St) (x k v:V):R:=
 match m,x with
 |some (kd,_),.mp id=>if ma kd k=true/\mq v=true then(match U[id]? with
  |some (.mp di bs cD)=>(match nf kd k di 0 with
   |some (some (i,_))=> .st .u (U.set id (.mp (pf di i k v) bs cD))
   |some none=> .st .u (U.set id (.mp (di++ [k,v]) (bs++ [cD]) (cD+1)))
   |none=> .fail)
  |_=> .fail)else .fail
 |_,_=> .fail
theorem O3 {k:Kk} {v:V} (h:ma k v):mq v=true:=by
 cases k with
 |one k=>cases k<;>cases v<;>first|rfl|simp[ma,lh]at h
 |st ks=>cases v<;>first|rfl|simp[ma]at h
theorem O4 {k v:Value} {et:TypeId} {kd:Kk} {bs:afF} {cD id:Nat} {kv vv:V} (hm:Mem c w L U I) (hu:P.underlying t=some (.map kt et)) (ai:vO P kt=some kd)
  (hx:cV w L U I (.mp id) x) (af:ma kd kv) (hk:cV w L U I kv k) (hv:dF w L U I vv v) (cv:U[id]? =some (.mp di bs cD)) {q:Option (Nat×V)} (hf:nf kd kv di 0=some q):
  ∃w',(Instr.mapUpdate t x k v).run P w= .ok () w'/\Le w L w' L/\(match q with
   |some (i,_)=>Mem c w' L (U.set id (.mp (pf di i kv vv) bs cD)) I/\Ext U I (U.set id (.mp (pf di i kv vv) bs cD)) I
   |none=>Mem c w' L (U.set id (.mp (di++ [kv,vv]) (bs++ [cD]) (cD+1))) I/\Ext U I (U.set id (.mp (di++ [kv,vv]) (bs++ [cD]) (cD+1))) I):=by
 have aj:dF w L U I kv k:=CV hk (O3 af)
 have ag: ∀em,(Instr.checkKey em 10000 kt k).run P w= .ok () w:=(by grind[Fz])
 obtain⟨b,cR,rfl⟩:=zj hx
 obtain⟨b',es,e1,hh,hl,aa,an⟩:=hm.cO _ _ _ cv cR
 cases e1
 have ah:b<w.heap.size:=(by grind)
 have ad: ∀o,Ext U I (U.set id o) I:=(by simp_all[Ext.gJ])
 have ae: ∀ob:Go.Obj,(setObj b ob).run P w= .ok () (yK w b ob):=λob=>by rw[MapKept.run_setObj_map ob hh];rfl
 rcases vQ ai af hk aa hf with ⟨rfl,e2⟩|⟨j,v',e',rfl,e2,e3,_,_,kk,e6,e7⟩
 .have ab:=e2
  refine⟨yK w b (.map (es.push {key:=k,val:=v,born:=cD}) (cD+1)), ?_, ?_⟩
  .simp[Instr.mapUpdate,run_underlying hu,MapKept.run_getObj_map hh,ag,ab,ae]
  .have key:=hm.jw (o:= .mp (di++ [kv,vv]) (bs++ [cD]) (cD+1)) cv cR rfl hl (.map (es.push {key:=k,val:=v,born:=cD}) (cD+1)) (ad _) (by grind[cI]) λhle=>by
    refine⟨b,_,rfl,xR _ _ _ ah,hl, ?_,by grind⟩
    have:bL (dF w L U I) (di++ [kv,vv]) (oF (es.push {key:=k,val:=v,born:=cD})):=by
     simp only[oF,Array.toList_push,afw]
     exact bL.append aa (by trivial)
    exact this.imp (by grind[dF.mono])
   grind
 .have ab:=e2
  have hj:es[j]? =some e':=by grind
  have ak:j<es.size:=(by grind)
  have al:e'.key=k:=by
   obtain⟨y,hy,r⟩:=aa.get _ _ e6
   unfold oF at hy
   rw[(zk _ j).1,e3]at hy
   simp at hy
   subst hy
   exact(OZ hk (cV.kG r) e7).symm
  refine⟨yK w b (.map (es.modify j λe=>{e with key:=k,val:=v}) cD), ?_, ?_⟩
  .simp[Instr.mapUpdate,run_underlying hu,MapKept.run_getObj_map hh,ag,ab,ae,hj,al,O0 af hk]
  .have key:=hm.jw (o:= .mp (pf di j kv vv) bs cD) cv cR rfl hl (.map (es.modify j λe=>{e with key:=k,val:=v}) cD) (ad _) (by grind[cI]) λhle=>by
    refine⟨b,_,rfl,xR _ _ _ ah,hl,(O1 aa aj hv ak).imp (by grind[dF.mono]),by rw[O2];omega⟩
   grind
theorem O5 {o:Oper} (t:TypeId) (x k v:Operand) (h:dp c nt e U a w L I) (ho:execOp a.eval o=(do Instr.mapUpdate t (a.eval x) (a.eval k) (a.eval v);pure .skip)):
  fh (xP (fP P t) U (zF e x) (zF e k) (zF e v)) U (bO P c o a w L U I):=by
 have hx:=h.eval x
 have hk:=h.eval k
 have hv:=h.eval v
 unfold xP
 split
 .rename_i kd z id hm hid
  obtain⟨kt,et,i,zv,hu,ad,_⟩:=Fy hm
  rw[hid]at hx
  split
  .rename_i hc
   split
   .rename_i di bs cD cv
    split
    .rename_i i0 v0 hf
     obtain⟨w',ae,hle,ab,aa⟩:=O4 h.mem hu ad hx hc.1 hk (CV hv hc.2) cv hf
     exact⟨undef,w',L,I,(by simp_all),ab,hle,aa,tV⟩
    .rename_i hf
     obtain⟨w',ae,hle,ab,aa⟩:=O4 h.mem hu ad hx hc.1 hk (CV hv hc.2) cv hf
     exact⟨undef,w',L,I,(by simp_all),ab,hle,aa,tV⟩
    trivial
   trivial
  trivial
 trivial
theorem V7 {pos:String} (t:TypeId) (x k v:Operand) (h:dp c nt e U a w L I):
  fh (xP (fP P t) U (zF e x) (zF e k) (zF e v)) U (bO P c ⟨dst,.mapUpdate t x k v,ty,pos,dG,g⟩ a w L U I):=O5 t x k v h rfl
theorem V8 {pos:String} (t:TypeId) (x k v:Operand) (h:dp c nt e U a w L I):
  fh (xP (fP P t) U (zF e x) (zF e k) (zF e v)) U (bO P c ⟨dst,.insert t x k v,ty,pos,dG,g⟩ a w L U I):=O5 t x k v h rfl
theorem O6 {J I:Type} (f:J->I): ∀(l:List J) (i:Nat),(l.eraseIdx i).map f=(l.map f).eraseIdx i
 | [],_=>rfl
 |_::_,0=>rfl
 |x::l,i+1=>by simp[O6 f l i]
def vS (di:List V) (i:Nat):List V:=di.take (2*i)++di.drop (2*i+2)
def vT (m:Option (Kk×V)) (U:St) (x k:V):R:=
 match m,x with
 |some (kd,_),.mp id=>if ma kd k=true then(match U[id]? with
  |some (.mp di bs cD)=>(match nf kd k di 0 with
   |some (some (i,_))=> .st (.cm []) (U.set id (.mp (vS di i) (bs.eraseIdx i) cD))
   |some none=> .st (.cm []) (U.set id (.mp di bs cD))
   |none=> .fail)
  |_=> .fail)else .fail
 |some (kd,_),.raw (.map none)=>if ma kd k=true then .ok (.cm [])else .fail
 |_,_=> .fail
theorem V9 (l:List MapEntry): ∀(i:Nat),i<l.length->(l.eraseIdx i).flatMap (λe=> [e.key,e.val])=(l.flatMap λe=> [e.key,e.val]).take (2*i)++(l.flatMap λe=> [e.key,e.val]).drop (2*i+2):=by
 induction l with
 |nil=>simp
 |cons e l ih=>
  intro i h
  cases i<;>grind
theorem Wa {pos:String} (t t':TypeId) (x k:Operand) (h:dp c nt e U a w L I):
  fh (vT (fP P t) U (zF e x) (zF e k)) U (bO P c ⟨dst,.call ⟨.builtin .delete, #[x,k], #[t,t']⟩,ty,pos,dG,g⟩ a w L U I):=by
 have hx:=h.eval x
 have hk:=h.eval k
 unfold vT
 split
 .rename_i kd z id hm hid
  obtain⟨kt,et,i,zv,hu,ag,_⟩:=Fy hm
  rw[hid]at hx
  split
  .rename_i ah
   have ai: ∀em,(Instr.checkKey em 10000 kt (a.eval k)).run P w= .ok () w:=(by grind[Fz])
   obtain⟨b,cR,hv⟩:=zj hx
   split
   .rename_i di bs cD cv
    obtain⟨b',es,e1,hh,hl,aa,ak⟩:=h.mem.cO _ _ _ cv cR
    cases e1
    have aj:b<w.heap.size:=(by grind)
    have ab: ∀o,Ext U I (U.set id o) I:=(by simp_all[Ext.gJ])
    have af: ∀ob:Go.Obj,(setObj b ob).run P w= .ok () (yK w b ob):=λob=>by rw[MapKept.run_setObj_map ob hh];rfl
    split
    .rename_i i0 v0 hf
     rcases vQ ag ah hk aa hf with ⟨e1,_⟩|⟨j,v',e',e1,e2,e3,_,_,kk,e6,e7⟩
     .cases e1
     .cases e1
      have ad:=e2
      have al:i0<es.toList.length:=(by grind)
      have an:i0<es.size:=om
      have ae:(es.eraseIdxIfInBounds i0).toList=es.toList.eraseIdx i0:=by
       simp
      have key:=h.mem.jw (o:= .mp (vS di i0) (bs.eraseIdx i0) cD) cv cR rfl hl (.map (es.eraseIdxIfInBounds i0) cD) (ab _) (by grind[cI]) λhle=>by
       refine⟨b,_,rfl,xR _ _ _ aj,hl, ?_,by grind[O6]⟩
       have:bL (dF w L U I) (vS di i0) (oF (es.eraseIdxIfInBounds i0)):=by
        unfold oF vS
        rw[ae,V9 _ _ al]
        exact(bL.take _ aa).append (bL.drop _ aa)
       exact this.imp (by grind[dF.mono])
      refine⟨.tuple #[],_,L,I,.inl ?_,key.1,key.2,ab _,[],rfl,tV⟩
      simp[execOp,resolve,invoke,builtin,Builtin.delete_,run_underlying hu,hv,MapKept.run_getObj_map hh,ai,ad,af]
    .rename_i hf
     rcases vQ ag ah hk aa hf with ⟨_,e2⟩|⟨j,v',e',e1,_⟩
     .have ad:=e2
      have key:=h.mem.jw (o:= .mp di bs cD) cv cR rfl hl (.map es cD) (ab _) (by grind[cI]) λhle=>by
       exact⟨b,_,rfl,xR _ _ _ aj,hl,aa.imp (by grind[dF.mono]),ak⟩
      refine⟨.tuple #[],_,L,I,.inl ?_,key.1,key.2,ab _,[],rfl,tV⟩
      simp[execOp,resolve,invoke,builtin,Builtin.delete_,run_underlying hu,hv,MapKept.run_getObj_map hh,ai,ad,af]
     grind
    trivial
   trivial
  trivial
 .rename_i kd z hm hid
  obtain⟨kt,et,i,zv,hu,ag,_⟩:=Fy hm
  rw[hid]at hx
  have hv:=HK hx
  split
  .rename_i ah
   have ai: ∀em,(Instr.checkKey em 10000 kt (a.eval k)).run P w= .ok () w:=(by grind[Fz])
   refine bO.pure h (x:= .tuple #[]) ?_ ⟨[],rfl,tV⟩
   simp_all[execOp,resolve,invoke,builtin,Builtin.delete_,run_underlying]
  trivial
 trivial
theorem HL {et:TypeId} (hb:P.underlying t=some (.map kt et)) (m:afK) (w:World):(Op.equal t (.map m) (.map none)).run P w= .ok m.isNone w:=by
 have key: ∀d,(Op.equalIn (d+1) t (.map m) (.map none)).run P w= .ok m.isNone w:=λd=>by
  cases m<;>simp[Op.equalIn,run_underlying hb]
 exact key 9999
def p9:Operand->Bool
 | .const (.map none)=>true
 |_=>false
def vU (op:BinOp) (m:Bool) (x:V):R:=
 match m,x with
 |true,.mp _=>(match op with| .eql=> .ok (.bool false)| .neq=> .ok (.bool true)|_=> .fail)
 |true,.raw (.map none)=>(match op with| .eql=> .ok (.bool true)| .neq=> .ok (.bool false)|_=> .fail)
 |_,_=> .fail
theorem Wb {pos:String} (op:BinOp) (t t':TypeId) (x y:Operand) (hy:p9 y) (h:dp c nt e U a w L I):
  fh (vU op (mA P t) (zF e x)) U (bO P c ⟨dst,.binOp op t x y t',ty,pos,dG,g⟩ a w L U I):=by
 have hx:=h.eval x
 have aa:a.eval y= .map none:=by
  unfold p9 at hy
  split at hy
  all_goals trivial
 unfold vU
 split
 .rename_i id hm hid
  unfold mA at hm
  split at hm
  .rename_i kt et hu
   rw[hid]at hx
   obtain⟨b,cR,hv⟩:=zj hx
   split
   .refine bO.pure h (x:= .bool false) ?_ (cq.bool _)
    simp[execOp,eqGuard,binOp,HL hu,hv,aa]
   .refine bO.pure h (x:= .bool true) ?_ (cq.bool _)
    simp[execOp,eqGuard,binOp,HL hu,hv,aa]
   trivial
  grind
 .rename_i hm hid
  unfold mA at hm
  split at hm
  .rename_i kt et hu
   rw[hid]at hx
   have hv:=HK hx
   split
   .refine bO.pure h (x:= .bool true) ?_ (cq.bool _)
    simp[execOp,eqGuard,binOp,HL hu,hv,aa]
   .refine bO.pure h (x:= .bool false) ?_ (cq.bool _)
    simp[execOp,eqGuard,binOp,HL hu,hv,aa]
   trivial
  grind
 trivial
def vV (m:Bool) (U:St) (x:V):R:=
 match m,x with
 |true,.mp id=>(match U[id]? with|some (.mp _ _ cD)=> .st (.ptr U.length 0) (U++ [.it (some id) cD [] cD])|_=> .fail)
 |true,.raw (.map none)=> .st (.ptr U.length 0) (U++ [.it none 0 [] 0])
 |_,_=> .fail
theorem Wc {pos:String} (t:TypeId) (x:Operand) (h:dp c nt e U a w L I):
  fh (vV (mA P t) U (zF e x)) U (bO P c ⟨dst,.range t x,ty,pos,dG,g⟩ a w L U I):=by
 have hx:=h.eval x
 have rd: ∀(o:Ob) (w':World),cV w' L (U++ [o]) (I++ [.pointer (some ⟨w.heap.size,0,none⟩)]) (.ptr U.length 0) (.pointer (some ⟨w.heap.size,0,none⟩)):=λo w'=>⟨w.heap.size,by rw[<-h.mem.len];simp,rfl⟩
 unfold vV
 split
 .rename_i id hm hid
  unfold mA at hm
  split at hm
  .rename_i kt et hu
   rw[hid]at hx
   obtain⟨b,cR,hv⟩:=zj hx
   split
   .rename_i di bs cD cv
    obtain⟨b',es,e1,hh,hl,ad,ae⟩:=h.mem.cO _ _ _ cv cR
    cases e1
    have key:=h.mem.qW (.mapIter (some b) cD #[] cD) (.it (some id) cD [] cD) (λhle aa=>⟨w.heap.size,some b,rfl,yH _ _,h.mem.lim _ om,b,(by grind),rfl⟩) (by grind[cI])
    refine⟨_,_,L,_,.inl ?_,key.1,key.2,Ext.push U I h.mem.len _ _,rd _ _⟩
    have ab:=run_range_map (P:=P) w t kt et b es cD hu hh
    simp_all[execOp]
   trivial
  grind
 .rename_i hm hid
  unfold mA at hm
  split at hm
  .rename_i kt et hu
   rw[hid]at hx
   have hv:=HK hx
   have key:=h.mem.qW (.mapIter none 0 #[] 0) (.it none 0 [] 0) (λhle aa=>⟨w.heap.size,none,rfl,yH _ _,h.mem.lim _ om,rfl⟩) (by grind[cI])
   refine⟨_,_,L,_,.inl ?_,key.1,key.2,Ext.push U I h.mem.len _ _,rd _ _⟩
   have ab:=run_range_nilMap (P:=P) w t kt et hu
   simp_all[execOp]
  grind
 trivial
def vW (seen:afF):List V->afF->List (V×V×Nat)
 |k::v::di,b::bs=>if seen.contains b then vW seen di bs else(k,v,b)::vW seen di bs
 |_,_=> []
def mB (open_:Bool) (U:St) (x:V):R:=
 match x with
 | .ptr i 0=>(match U[i]? with
  |some (.it none _ _ _)=> .ok (.cm [.bool false])
  |some (.it (some id) since seen last)=>(match U[id]? with
   |some (.mp di bs cD)=>if(bs.all λb=>decide (b<since))=true/\since<=last then(match vW seen di bs with
    | []=> .ok (.cm [.bool false])
    | [(k,v,b)]=> .st (.cm [.bool true,k,v]) (U.set i (.it (some id) since (seen++ [b]) cD))
    |l=>if open_ then .any (l.map λp=>(.cm [.bool true,p.1,p.2.1],U.set i (.it (some id) since (seen++ [p.2.2]) cD)))else .fail)else .fail
   |_=> .fail)
  |_=> .fail)
 |_=> .fail
theorem O7: ∀(di:List V) (bs:afF) (es:List MapEntry) (seen:afF),bL (dF w L U I) di (es.flatMap λe=> [e.key,e.val])->es.map (·.born)=bs->
  bL (λp (e:MapEntry)=>dF w L U I p.1 e.key/\dF w L U I p.2.1 e.val/\e.born=p.2.2) (vW seen di bs) (es.filter λe=> !seen.contains e.born)
 | [],bs,[],seen,_,hb=>by simpa
 | [],_,e::es,_,ha,_=>by trivial
 | [_],_,[],_,ha,_=>by trivial
 | [_],_,e::es,_,ha,_=>by grind[bL]
 |_::_::_,_,[],_,ha,_=>by trivial
 |k::v::di,bs,e::es,seen,ha,hb=>by
  simp only[Ch,Ap,Bp,bL]at ha
  obtain⟨h1,h2,h3⟩:=ha
  cases bs with
  |nil=>grind
  |cons b bs=>
   simp only[Ai,List.cons.injEq]at hb
   obtain⟨rfl,hb⟩:=hb
   have ih:=O7 di bs es seen h3 hb
   rw[vW,Cw]
   by_cases hc:seen.contains e.born=true
   .grind
   .rw[afa hc,afb (sU hc)];trivial
theorem Wd {w1:World} (h:w1=w\/w1=w.drew) (hm:Mem c w L U I):Mem c w1 L U I/\Le w L w1 L:=by
 rcases h with rfl|rfl
 .grind[Le.refl]
 .exact hm.drew
theorem O8 {pos:String} (open_:Bool) (x:Operand) (h:dp c nt e U a w L I):
  fh (mB open_ U (zF e x)) U (bO P c ⟨dst,.next x false,ty,pos,dG,g⟩ a w L U I):=by
 have hx:=h.eval x
 unfold mB
 split
 .rename_i i hid
  rw[hid]at hx
  obtain⟨r,cR,hv⟩:=hx
  split
  .rename_i since seen last cv
   obtain⟨r',mo,e1,hh,hl,ai⟩:=h.mem.cO _ _ _ cv cR
   cases e1
   simp only at ai
   subst ai
   refine bO.pure h (x:= .tuple #[.bool false]) ?_ ⟨[.bool false],rfl,dF.df (cN.cS (.bool _)),tV⟩
   simp[execOp,hv,Instr.next,getObj,Sem.run,hh]
  .rename_i id since seen last cv
   obtain⟨r',mo,e1,hh,hl,b,aj,rfl⟩:=h.mem.cO _ _ _ cv cR
   cases e1
   split
   .rename_i di bs cD an
    obtain⟨b',es,e1,ao,az,ak,al⟩:=h.mem.cO _ _ _ an aj
    cases e1
    split
    .rename_i hc
     have a1:r<w.heap.size:=(by grind)
     have aa:=O7 di bs es.toList seen ak al
     have aq:(leftOf es seen.toArray).toList=es.toList.filter λe=> !seen.contains e.born:=by
      simp[leftOf]
     rw[<-aq]at aa
     have hold: ∀x∈es.toList,x.born<since:=λx hx=>by
      have:=Ad.1 hc.1 x.born (by rw[<-al];exact Ac.2 ⟨x,hx,rfl⟩)
      grind
     have ad:=run_next_at (P:=P) w ty r b since last seen.toArray es cD hh ao hold hc.2
     have ae: ∀o,Ext U I (U.set i o) I:=(by simp_all[Ext.gJ])
     have step: ∀(q:V×V×Nat) (en:MapEntry) (w1:World),(w1=w\/w1=w.drew)->dF w L U I q.1 en.key->dF w L U I q.2.1 en.val->en.born=q.2.2->
       (Instr.next (.pointer (some ⟨r,0,none⟩)) false ty).run P w= .ok (.tuple #[.bool true,en.key,en.val]) (ChangeMaps.setBlock w1 r (.mapIter (some b) since (seen.toArray.push en.born) cD))->
       bO P c ⟨dst,.next x false,ty,pos,dG,g⟩ a w L U I (.cm [.bool true,q.1,q.2.1]) (U.set i (.it (some id) since (seen++ [q.2.2]) cD)):=by
      intro q en w1 af h1 h2 h3 ab
      obtain⟨ar,ag⟩:=Wd af h.mem
      have a6:w1.heap[r]? =some (.mapIter (some b) since seen.toArray last):=by rcases af with rfl|rfl<;>exact hh
      have aw:r<w1.heap.size:=(by grind)
      have key:=ar.jw (o:= .it (some id) since (seen++ [q.2.2]) cD) cv cR rfl hl (.mapIter (some b) since (seen.toArray.push en.born) cD) (ae _) (by grind[cI]) λhle=>by
       refine⟨r,some b,rfl, ?_,hl,b,aj,rfl⟩
       grind[xR]
      refine⟨.tuple #[.bool true,en.key,en.val],yK w1 r (.mapIter (some b) since (seen.toArray.push en.born) cD),L,I,.inl ?_,key.1,ag.trans key.2,ae _, ?_⟩
      .simp only[execOp,hv,Sem.run_bind,ab,Result.andThen_ok,Sem.run_pure]
       rfl
      .exact⟨[.bool true,en.key,en.val],rfl,dF.df (cN.cS (.bool _)),h1.mono (ag.trans key.2) (ae _),h2.mono (ag.trans key.2) (ae _),tV⟩
     split
     .rename_i au
      rw[au]at aa
      have h0:(leftOf es seen.toArray).size=0:=by
       have:=aa.length
       grind
      rcases ad with ⟨_,ab⟩|⟨en,ah,_⟩
      .refine bO.pure h (x:= .tuple #[.bool false]) ?_ ⟨[.bool false],rfl,dF.df (cN.cS (.bool _)),tV⟩
       grind[execOp,Sem.run_bind,Result.andThen_ok,Sem.run_pure]
      grind
     .rename_i k v b0 av
      rw[av]at aa
      have h0:(leftOf es seen.toArray).size=1:=by
       have:=aa.length
       grind
      rcases ad with ⟨hz,_⟩|⟨en,ah,w1,af,ab⟩
      .omega
      .obtain⟨q,hq,h1,h2,h3⟩:=bL.mz aa ah
       simp at hq
       subst hq
       exact step _ en w1 af h1 h2 h3 ab
     .rename_i l ax ay
      split
      case isFalse=>trivial
      rcases ad with ⟨hz,_⟩|⟨en,ah,w1,af,ab⟩
      .have:=aa.length
       grind
      .obtain⟨q,hq,h1,h2,h3⟩:=bL.mz aa ah
       exact⟨_,Ac.2 ⟨q,hq,rfl⟩,(by grind)⟩
    trivial
   trivial
  trivial
 trivial
def wA (m:Option (Kk×V)) (U:St) (x k:V):R:=
 match m,x with
 |some (kd,z),.mp id=>if ma kd k=true then(match U[id]? with
  |some (.mp di bs cD)=>(match nf kd k di 0 with
   |some (some (i,v))=>(match bs[i]? with|some b=> .ok (.cm [v,.int .i64 (b:Int)])|none=> .fail)
   |some none=> .st (.cm [z,.int .i64 (cD:Int)]) (U.set id (.mp (di++ [k,z]) (bs++ [cD]) (cD+1)))
   |none=> .fail)
  |_=> .fail)else .fail
 |_,_=> .fail
theorem We (es:Array MapEntry) (i:Nat) (f:MapEntry->MapEntry) (h: ∀e,es[i]? =some e->f e=e):es.modify i f=es:=by
 grind
theorem Wf {pos:String} (t:TypeId) (x k:Operand) (h:dp c nt e U a w L I):
  fh (wA (fP P t) U (zF e x) (zF e k)) U (bO P c ⟨dst,.mapEntry t x k,ty,pos,dG,g⟩ a w L U I):=by
 have hx:=h.eval x
 have hk:=h.eval k
 unfold wA
 split
 .rename_i kd z id hm hid
  obtain⟨kt,et,i,zv,hu,ag,hi,hz,au,ah⟩:=Fy hm
  rw[hid]at hx
  split
  .rename_i ad
   have ai: ∀em,(Instr.checkKey em 10000 kt (a.eval k)).run P w= .ok () w:=(by grind[Fz])
   have al:(zeroValue et).run P w= .ok zv w:=by simp_all[zeroValue,typeInfo]
   obtain⟨b,cR,hv⟩:=zj hx
   split
   .rename_i di bs cD cv
    obtain⟨b',es,e1,hh,hl,aa,an⟩:=h.mem.cO _ _ _ cv cR
    cases e1
    have aj:b<w.heap.size:=(by grind)
    have ab: ∀o,Ext U I (U.set id o) I:=(by simp_all[Ext.gJ])
    have ae: ∀ob:Go.Obj,(setObj b ob).run P w= .ok () (yK w b ob):=λob=>by rw[MapKept.run_setObj_map ob hh];rfl
    split
    .rename_i i0 v0 hf
     split
     .rename_i b0 av
      rcases vQ ag ad hk aa hf with ⟨e1,_⟩|⟨j,v',e',e1,e2,e3,_,e5,kk,e6,e7⟩
      .cases e1
      .simp only[afg,afl]at e1
       obtain⟨rfl,rfl⟩:=e1
       have hj:es[i0]? =some e':=by grind
       have ak:e'.key=a.eval k:=by
        obtain⟨y,hy,r⟩:=aa.get _ _ e6
        unfold oF at hy
        rw[(zk _ i0).1,e3]at hy
        simp at hy
        subst hy
        exact(OZ hk (cV.kG r) e7).symm
       have ao:e'.born=b0:=by
        grind
       have af:(es.modify i0 λe=>{e with key:=a.eval k})=es:=We es i0 _ λe he=>by
        rw[hj]at he;cases he;rw[<-ak]
       have aq:U.set id (.mp di bs cD)=U:=yE U id _ cv
       have key:=h.mem.jw (o:= .mp di bs cD) cv cR rfl hl (.map es cD) (ab _) (by grind[cI]) λhle=>by
        exact⟨b,_,rfl,xR _ _ _ aj,hl,aa.imp (by grind[dF.mono]),an⟩
       rw[aq]at key
       refine⟨.tuple #[e'.val,.int .i64 (b0:Int)],_,L,I,.inl ?_,key.1,key.2,Ext.refl _ _,[e'.val,.int .i64 (b0:Int)],rfl,e5.mono key.2 (by grind),dF.df (cN.cS (.int _ _)),tV⟩
       simp[execOp,Instr.mapEntry,run_underlying hu,hv,MapKept.run_getObj_map hh,ai,e2,ae,hj,ak,O0 ad hk,af,ao,goInt]
     trivial
    .rename_i hf
     rcases vQ ag ad hk aa hf with ⟨_,e2⟩|⟨j,v',e',e1,_⟩
     .have ar:dF w L U I (zF e k) (a.eval k):=CV hk (O3 ad)
      have key:=h.mem.jw (o:= .mp (di++ [zF e k,z]) (bs++ [cD]) (cD+1)) cv cR rfl hl (.map (es.push {key:=a.eval k,val:=zv,born:=cD}) (cD+1)) (ab _) (by grind[cI]) λhle=>by
       refine⟨b,_,rfl,xR _ _ _ aj,hl, ?_,by grind⟩
       have:bL (dF w L U I) (di++ [zF e k,z]) (oF (es.push {key:=a.eval k,val:=zv,born:=cD})):=by
        simp only[oF,Array.toList_push,afw]
        exact bL.append aa ⟨ar,ah _ _ _ _,tV⟩
       exact this.imp (by grind[dF.mono])
      refine⟨.tuple #[zv,.int .i64 (cD:Int)],_,L,I,.inl ?_,key.1,key.2,ab _,[zv,.int .i64 (cD:Int)],rfl,ah _ _ _ _,dF.df (cN.cS (.int _ _)),tV⟩
      simp[execOp,Instr.mapEntry,run_underlying hu,hv,MapKept.run_getObj_map hh,ai,e2,ae,al,goInt]
     grind
    trivial
   trivial
  trivial
 trivial
def xL (U:St) (x s v:V):R:=
 match x,s with
 | .mp id,.int _ n=>if mq v=true then(match U[id]? with
  |some (.mp di bs cD)=>(match bs.findIdx? λ(b:Nat)=>(b:Int)==n with
   |some i=> .st .u (U.set id (.mp (di.set (2*i+1) v) bs cD))
   |none=> .fail)
  |_=> .fail)else .fail
 |_,_=> .fail
theorem Wg {pos:String} (t:TypeId) (x s v:Operand) (h:dp c nt e U a w L I):
  fh (xL U (zF e x) (zF e s) (zF e v)) U (bO P c ⟨dst,.entryStore t x s v,ty,pos,dG,g⟩ a w L U I):=by
 have hx:=h.eval x
 have hs:=h.eval s
 have hv:=h.eval v
 unfold xL
 split
 .rename_i id k n hid ah
  rw[hid]at hx
  rw[ah]at hs
  have hs:=yI hs
  split
  .rename_i hc
   obtain⟨b,cR,ai⟩:=zj hx
   split
   .rename_i di bs cD cv
    obtain⟨b',es,e1,hh,hl,aa,aj⟩:=h.mem.cO _ _ _ cv cR
    cases e1
    have ak:b<w.heap.size:=(by grind)
    have ab: ∀o,Ext U I (U.set id o) I:=(by simp_all[Ext.gJ])
    have ad: ∀ob:Go.Obj,(setObj b ob).run P w= .ok () (yK w b ob):=λob=>by rw[MapKept.run_setObj_map ob hh];rfl
    split
    .rename_i i hf
     have ae:(es.findIdx? λe=>(e.born:Int)==n)=some i:=by
      rw[<-aj,List.findIdx?_map]at hf
      have hq:es.findIdx? (λe=>(e.born:Int)==n)=es.toList.findIdx? λe=>(e.born:Int)==n:=by
       obtain⟨l⟩:=es
       simp
      rw[hq]
      exact hf
     have hi:i<es.size:=by
      obtain⟨h1,_⟩:=Array.findIdx?_eq_some_iff_getElem.1 ae
      exact h1
     have al:dF w L U I (zF e v) (a.eval v):=CV hv hc
     have hlen:=aa.length
     unfold oF at hlen
     rw[KH]at hlen
     simp only[Ci]at hlen
     have an:2*i<di.length:=om
     have af:dF w L U I di[2*i] es[i].key:=by
      obtain⟨y,hy,r⟩:=aa.get (2*i) _ (A0 an)
      grind[oF,zk]
     have ao:pf di i di[2*i] (zF e v)=di.set (2*i+1) (zF e v):=by
      grind[pf,List.set_getElem_self]
     have ag:(es.modify i λe=>{e with val:=a.eval v})=es.modify i λe=>{e with key:=es[i].key,val:=a.eval v}:=by
      rfl
     have key:=h.mem.jw (o:= .mp (pf di i di[2*i] (zF e v)) bs cD) cv cR rfl hl (.map (es.modify i λe=>{e with key:=es[i].key,val:=a.eval v}) cD) (ab _) (by grind[cI]) λhle=>by
      refine⟨b,_,rfl,xR _ _ _ ak,hl,(O1 aa af al hi).imp (by grind[dF.mono]),by rw[O2];omega⟩
     rw[ao,<-ag]at key
     refine⟨undef,_,L,I,.inr ⟨?_,rfl⟩,key.1,key.2,ab _,tV⟩
     simp[execOp,Instr.entryStore,ai,hs,MapKept.run_getObj_map hh,asInt,asIntOf,ae,ad]
    trivial
   trivial
  trivial
 trivial
def CX (b:Nat):List V->afF->Option (V×V)
 |k::v::di,b'::bs=>if b'=b then some (k,v)else CX b di bs
 |_,_=>none
def pg (U:St) (x:V):R:=
 match x with
 | .ptr i 0=>(match U[i]? with
  |some (.it (some id) _ seen last)=>(match U[id]?,seen.getLast? with
   |some (.mp di bs cD),some b=>if cD=last then(match CX b di bs with|some (k,v)=> .ok (.cm [k,v])|none=> .fail)else .fail
   |_,_=> .fail)
  |_=> .fail)
 |_=> .fail
theorem lv (b:Nat): ∀(di:List V) (bs:afF) (es:List MapEntry) (k v:V),bL (dF w L U I) di (es.flatMap λe=> [e.key,e.val])->es.map (·.born)=bs->CX b di bs=some (k,v)->
  ∃e,es.find? (·.born==b)=some e/\dF w L U I k e.key/\dF w L U I v e.val
 | [],_,_,_,_,_,_,h=>by trivial
 | [_],_,_,_,_,_,_,h=>by trivial
 |_::_::_,_,[],_,_,ha,_,_=>by simpa
 |k0::v0::di,bs,e::es,k,v,ha,hb,h=>by
  simp only[Ch,Ap,Bp,bL]at ha
  obtain⟨h1,h2,h3⟩:=ha
  cases bs with
  |nil=>grind
  |cons b' bs=>
   simp only[Ai,List.cons.injEq]at hb
   obtain⟨rfl,hb⟩:=hb
   rw[CX]at h
   by_cases q:e.born=b
   .grind
   .rw[afa q]at h
    obtain⟨e',g1,g2,g3⟩:=lv b di bs es k v h3 hb h
    have qb:(e.born==b)=false:=sU q
    exact⟨e',by rw[List.find?_cons,qb];exact g1,g2,g3⟩
theorem Wh {pos:String} (x:Operand) (h:dp c nt e U a w L I):
  fh (pg U (zF e x)) U (bO P c ⟨dst,.entry x,ty,pos,dG,g⟩ a w L U I):=by
 have hx:=h.eval x
 unfold pg
 split
 .rename_i i hid
  rw[hid]at hx
  obtain⟨r,cR,hv⟩:=hx
  split
  .rename_i id since seen last cv
   obtain⟨r',mo,e1,hh,hl,b,ab,rfl⟩:=h.mem.cO _ _ _ cv cR
   cases e1
   split
   .rename_i di bs cD b0 ad af
    obtain⟨b',es,e1,ag,ah,aa,ae⟩:=h.mem.cO _ _ _ ad ab
    cases e1
    split
    .rename_i hc
     subst hc
     split
     .rename_i k v he
      obtain⟨en,g1,g2,g3⟩:=lv b0 di bs es.toList k v aa ae he
      have ai:es.find? (·.born==b0)=some en:=by
       grind
      have aj:seen.toArray.back? =some b0:=by
       grind
      refine bO.pure h (x:= .tuple #[en.key,en.val]) ?_ ⟨[en.key,en.val],rfl,g2,g3,tV⟩
      simp_all[execOp,Instr.entry,getObj,Sem.run]
     trivial
    trivial
   trivial
  trivial
 trivial
def CY (P:Program) (t:TypeId):Bool:=match P.underlying t with|some (.slice _)=>true|_=>false
def vX (b:Bool) (t:TypeId) (x:V):R:=
 match b,x with
 |true,.cJ id s n lo m=> .ok (.gy t [.cJ id s n lo m])
 |true,.sl g rows=> .ok (.gy t [.sl g rows])
 |_,_=> .fail
theorem Wi {pos:String} (t:TypeId) (x:Operand) (h:dp c nt e U a w L I):
  fh (vX (CY P t) t (zF e x)) U (bO P c ⟨dst,.makeInterface t x,ty,pos,dG,g⟩ a w L U I):=by
 have hx:=h.eval x
 have hu:CY P t=true->(Instr.makeInterface t (a.eval x)).run P w= .ok (.iface t (a.eval x)) w:=λhb=>by
  unfold CY at hb
  split at hb
  all_goals simp_all[Instr.makeInterface,run_underlying]
 unfold vX
 split
 .rename_i id s n lo m hb hid
  rw[hid]at hx
  exact bO.pure h (x:= .iface t (a.eval x)) (by simp_all[execOp]) ⟨a.eval x,rfl,hx,tV⟩
 .rename_i g rows hb hid
  rw[hid]at hx
  exact bO.pure h (x:= .iface t (a.eval x)) (by simp_all[execOp]) ⟨a.eval x,rfl,hx,tV⟩
 trivial
end
def du (ρ:Nat->Nat):V->V
 | .ptr id off=> .ptr (ρ id) off
 | .sl (.app id) rows=> .sl (.app (ρ id)) rows
 | .cJ id s n lo m=> .cJ (ρ id) s n lo m
 | .iE id s n k j=> .iE (ρ id) s n k j
 | .jB id s off n=> .jB (ρ id) s off n
 | .mp id=> .mp (ρ id)
 |v=>v
def dv (ρ:Nat->Nat):V->V
 | .fn f bU=> .fn f (bU.map (du ρ))
 | .gy t vs=> .gy t (vs.map (du ρ))
 |v=>du ρ v
def dL (ρ:Nat->Nat):V->V
 | .agg cs=> .agg (cs.map (dv ρ))
 |v=>dv ρ v
def dy (ρ:Nat->Nat):V->V
 | .cm vs=> .cm (vs.map (dL ρ))
 |v=>dL ρ v
def yF (ρ:Nat->Nat):Ob->Ob
 | .box cells=> .box (cells.map (dv ρ))
 | .cc rows s=> .cc (rows.map λr=>r.map (dv ρ)) s
 | .mp di fN cD=> .mp (di.map (dL ρ)) fN cD
 | .it m since seen last=> .it (m.map ρ) since seen last
 |o=>o
theorem bL.fi {J I γ:Type} {R:J->I->Prop} {S:γ->I->Prop} {f:J->γ} (h: ∀a b,R a b->S (f a) b): ∀{l:List J} {m:List I},bL R l m->bL S (l.map f) m
 | [],[],_=>trivial
 |_::_,_::_,q=>⟨h _ _ q.1,bL.fi h q.2⟩
 | [],_::_,q=>q.elim
 |_::_,[],q=>q.elim
theorem bL.fO {J I γ:Type} {R:J->I->Prop} {S:γ->I->Prop} {f:J->γ} (h: ∀a b,S (f a) b->R a b): ∀{l:List J} {m:List I},bL S (l.map f) m->bL R l m
 | [],[],_=>trivial
 |_::_,_::_,q=>⟨h _ _ q.1,bL.fO h q.2⟩
 | [],_::_,q=>q.elim
 |_::_,[],q=>q.elim
structure CZ (ρ:Nat->Nat) (U:St) (I:afG) (Uc:St) (Ic:afG):Prop where
 val: ∀(id:Nat) x,I[id]? =some x->Ic[ρ id]? =some x
 app: ∀(id:Nat) n s,U[id]? =some (.app n s)->Uc[ρ id]? =some (.app n s)
 cc: ∀(id:Nat) rows s,U[id]? =some (.cc rows s)-> ∃eY,Uc[ρ id]? =some (.cc eY s)/\eY.length=rows.length
 dead: ∀(id:Nat),U[id]? =some .dead->Uc[ρ id]? =some .dead
structure qX (ρ:Nat->Nat) (U:St) (I:afG) (Uc:St) (Ic:afG):Prop where
 val: ∀(id:Nat) x,Ic[ρ id]? =some x->I[id]? =some x
 app: ∀(id:Nat) n s,Uc[ρ id]? =some (.app n s)->U[id]? =some (.app n s)
 cc: ∀(id:Nat) rows s,Uc[ρ id]? =some (.cc rows s)-> ∃eY,U[id]? =some (.cc eY s)/\eY.length=rows.length
 dead: ∀(id:Nat),Uc[ρ id]? =some .dead->U[id]? =some .dead
section
variable {ρ:Nat->Nat} {w:World} {L:Nat->Nat} {U Uc:St} {I Ic:afG}
variable {x:Value}
theorem gj.lx (h:CZ ρ U I Uc Ic) {v:V} (r:gj w L U I v x):gj w L Uc Ic (du ρ v) x:=by
 cases v with
 |ptr id off=>obtain⟨b,hb,hx⟩:=r;exact⟨b,h.val _ _ hb,hx⟩
 |sl g rows=>cases g with
  |app id=>obtain⟨hr,n,s,cv,hle,cR,hl⟩:=r;exact⟨hr,n,s,h.app _ _ _ cv,hle,λq=>h.val _ _ (cR q),hl⟩
  |ro=>exact r
  |full=>exact r
 |cJ id s n lo m=>
  obtain⟨a,cap,hx,hm,ha,hc⟩:=r
  refine⟨a,cap,hx,hm,ha, ?_⟩
  rcases hc with hd|⟨rows,cv,hn,hb⟩
  .exact .inl (h.dead id hd)
  .obtain⟨r2,e2,l2⟩:=h.cc id rows s cv
   refine .inr ⟨r2,e2,om,λq=> ?_⟩
   obtain⟨b,c0,q1,q2⟩:=hb om
   exact⟨b,c0,h.val _ _ q1,q2⟩
 |iE id s n i j=>
  obtain⟨b,o,hx,hc⟩:=r
  refine⟨b,o,hx, ?_⟩
  rcases hc with hd|⟨rows,cv,hn,hb⟩
  .exact .inl (h.dead id hd)
  .obtain⟨r2,e2,l2⟩:=h.cc id rows s cv
   refine .inr ⟨r2,e2,om,λq q'=> ?_⟩
   obtain⟨c0,q1,q2⟩:=hb om q'
   exact⟨c0,h.val _ _ q1,q2⟩
 |jB id s off n=>obtain⟨b,hb,hx⟩:=r;exact⟨b,h.val _ _ hb,hx⟩
 |mp id=>obtain⟨b,hb,hx⟩:=r;exact⟨b,h.val _ _ hb,hx⟩
 |_=>exact r
theorem gj.iH (h:qX ρ U I Uc Ic) {v:V} (r:gj w L Uc Ic (du ρ v) x):gj w L U I v x:=by
 cases v with
 |ptr id off=>obtain⟨b,hb,hx⟩:=r;exact⟨b,h.val _ _ hb,hx⟩
 |sl g rows=>cases g with
  |app id=>obtain⟨hr,n,s,cv,hle,cR,hl⟩:=r;exact⟨hr,n,s,h.app _ _ _ cv,hle,λq=>h.val _ _ (cR q),hl⟩
  |ro=>exact r
  |full=>exact r
 |cJ id s n lo m=>
  obtain⟨a,cap,hx,hm,ha,hc⟩:=r
  refine⟨a,cap,hx,hm,ha, ?_⟩
  rcases hc with hd|⟨rows,cv,hn,hb⟩
  .exact .inl (h.dead id hd)
  .obtain⟨r2,e2,l2⟩:=h.cc id rows s cv
   refine .inr ⟨r2,e2,om,λq=> ?_⟩
   obtain⟨b,c0,q1,q2⟩:=hb om
   exact⟨b,c0,h.val _ _ q1,q2⟩
 |iE id s n i j=>
  obtain⟨b,o,hx,hc⟩:=r
  refine⟨b,o,hx, ?_⟩
  rcases hc with hd|⟨rows,cv,hn,hb⟩
  .exact .inl (h.dead id hd)
  .obtain⟨r2,e2,l2⟩:=h.cc id rows s cv
   refine .inr ⟨r2,e2,om,λq q'=> ?_⟩
   obtain⟨c0,q1,q2⟩:=hb om q'
   exact⟨c0,h.val _ _ q1,q2⟩
 |jB id s off n=>obtain⟨b,hb,hx⟩:=r;exact⟨b,h.val _ _ hb,hx⟩
 |mp id=>obtain⟨b,hb,hx⟩:=r;exact⟨b,h.val _ _ hb,hx⟩
 |_=>exact r
theorem cN.lx (h:CZ ρ U I Uc Ic) {v:V} (r:cN w L U I v x):cN w L Uc Ic (dv ρ v) x:=by
 cases v with
 |fn f bU=>obtain⟨xs,hx,hc⟩:=r;exact⟨xs,hx,(by grind[bL.fi,gj.lx])⟩
 |gy t v=>obtain⟨y,hx,hc⟩:=r;exact⟨y,hx,(by grind[bL.fi,gj.lx])⟩
 |sl g rows=>
  have r':gj w L U I (.sl g rows) x:=r
  have:=r'.lx h
  cases g<;>exact this
 |_=>simp only[cN]at r;have q:=gj.lx h r;exact q
theorem cN.iH (h:qX ρ U I Uc Ic) {v:V} (r:cN w L Uc Ic (dv ρ v) x):cN w L U I v x:=by
 cases v with
 |fn f bU=>obtain⟨xs,hx,hc⟩:=r;exact⟨xs,hx,(by grind[bL.fO,gj.iH])⟩
 |gy t v=>obtain⟨y,hx,hc⟩:=r;exact⟨y,hx,(by grind[bL.fO,gj.iH])⟩
 |sl g rows=>
  have r':gj w L Uc Ic (du ρ (.sl g rows)) x:=by cases g<;>exact r
  exact r'.iH h
 |_=>simp only[cN];refine gj.iH h ?_;exact r
theorem dF.lx (h:CZ ρ U I Uc Ic) {v:V} (r:dF w L U I v x):dF w L Uc Ic (dL ρ v) x:=by
 cases v with
 |agg cs=>obtain⟨xs,hx,hc⟩:=r;exact⟨xs,hx,(by grind[bL.fi,cN.lx])⟩
 |sl g rows=>
  have r':cN w L U I (.sl g rows) x:=r
  have:=r'.lx h
  cases g<;>exact this
 |_=>simp only[dF]at r;have q:=cN.lx h r;exact q
theorem dF.iH (h:qX ρ U I Uc Ic) {v:V} (r:dF w L Uc Ic (dL ρ v) x):dF w L U I v x:=by
 cases v with
 |agg cs=>obtain⟨xs,hx,hc⟩:=r;exact⟨xs,hx,(by grind[bL.fO,cN.iH])⟩
 |sl g rows=>
  have r':cN w L Uc Ic (dv ρ (.sl g rows)) x:=by cases g<;>exact r
  exact r'.iH h
 |_=>simp only[dF];refine cN.iH h ?_;exact r
theorem cV.lx (h:CZ ρ U I Uc Ic) {v:V} (r:cV w L U I v x):cV w L Uc Ic (dy ρ v) x:=by
 cases v with
 |u=>trivial
 |cm vs=>obtain⟨xs,hx,hc⟩:=r;exact⟨xs,hx,(by grind[bL.fi,dF.lx])⟩
 |sl g rows=>
  have r':dF w L U I (.sl g rows) x:=r
  have:=r'.lx h
  cases g<;>exact this
 |_=>simp only[cV]at r;have q:=dF.lx h r;exact q
theorem cV.iH (h:qX ρ U I Uc Ic) {v:V} (r:cV w L Uc Ic (dy ρ v) x):cV w L U I v x:=by
 cases v with
 |u=>trivial
 |cm vs=>obtain⟨xs,hx,hc⟩:=r;exact⟨xs,hx,(by grind[bL.fO,dF.iH])⟩
 |sl g rows=>
  have r':dF w L Uc Ic (dL ρ (.sl g rows)) x:=by cases g<;>exact r
  exact r'.iH h
 |_=>simp only[cV];refine dF.iH h ?_;exact r
theorem gz.lx (h:CZ ρ U I Uc Ic) {o:Ob} (r:gz w L U I o x):gz w L Uc Ic (yF ρ o) x:=by
 cases o with
 |box cells=>obtain⟨b,arr,T,fz,hx,hh,hf,hl,hc⟩:=r;exact⟨b,arr,T,fz,hx,hh,hf,hl,(by grind[bL.fi,cN.lx])⟩
 |cc rows s=>
  obtain⟨a,cap,hx,cQ,hs,hu,cH⟩:=r
  refine⟨a,cap,by grind,by grind,hs,λr hr=> ?_,λh0=> ?_⟩
  .grind
  grind[bL.fi,cN.lx]
 |app n s=>exact r
 |dead=>trivial
 |mp di fN cD=>obtain⟨b,es,hx,hh,hl,hc,hb⟩:=r;exact⟨b,es,hx,hh,hl,(by grind[bL.fi,dF.lx]),hb⟩
 |it m since seen last=>
  obtain⟨b,mo,hx,hh,hl,hc⟩:=r
  refine⟨b,mo,hx,hh,hl, ?_⟩
  cases m with
  |none=>exact hc
  |some id=>obtain⟨q,hq,hm⟩:=hc;exact⟨q,h.val _ _ hq,hm⟩
theorem gz.iH (h:qX ρ U I Uc Ic) {o:Ob} (r:gz w L Uc Ic (yF ρ o) x):gz w L U I o x:=by
 cases o with
 |box cells=>obtain⟨b,arr,T,fz,hx,hh,hf,hl,hc⟩:=r;exact⟨b,arr,T,fz,hx,hh,hf,hl,(by grind[bL.fO,cN.iH])⟩
 |cc rows s=>
  obtain⟨a,cap,hx,cQ,hs,hu,cH⟩:=r
  refine⟨a,cap,by grind,by grind,hs,λr hr=> ?_,λh0=> ?_⟩
  .simp_all
  grind[bL.fO,cN.iH]
 |app n s=>exact r
 |dead=>trivial
 |mp di fN cD=>obtain⟨b,es,hx,hh,hl,hc,hb⟩:=r;exact⟨b,es,hx,hh,hl,(by grind[bL.fO,dF.iH]),hb⟩
 |it m since seen last=>
  obtain⟨b,mo,hx,hh,hl,hc⟩:=r
  refine⟨b,mo,hx,hh,hl, ?_⟩
  cases m with
  |none=>exact hc
  |some id=>obtain⟨q,hq,hm⟩:=hc;exact⟨q,h.val _ _ hq,hm⟩
theorem qY (o:Ob) (x:Value):cI (yF ρ o) x=cI o x:=by
 cases o with
 |cc rows s=>cases x with
  |slice a n cap=>cases a<;>rfl
  |_=>rfl
 |_=>cases x<;>first|rfl|(rename_i q;cases q<;>rfl)
end
variable {U:St}{P:Program}
def sT (U:St) (I:afG):afF:=(U.zip I).filterMap λp=>cI p.1 p.2
theorem gm {I:afG} {b:Nat}:b∈sT U I↔ ∃(i:Nat) (o:Ob) (x:Value),U[i]? =some o/\I[i]? =some x/\cI o x=some b:=by
 unfold sT
 rw[List.mem_filterMap]
 constructor
 .rintro⟨⟨o,x⟩,hm,he⟩
  obtain⟨i,hi⟩:=Au.1 hm
  grind[List.getElem?_zip_eq_some]
 .rintro⟨i,o,x,h1,h2,h3⟩
  exact⟨(o,x),Au.2 ⟨i,by grind⟩,h3⟩
def entry (w:World) (L:Nat->Nat) (U:St) (I:afG):Ctx:=⟨w,L,sT U I,U,I⟩
def cz (cT:afF) (N:Nat) (id:Nat):Nat:=if h:id<cT.length then cT[id]else N+(id - cT.length)
def bK (P:Program) (f:FuncId) (args:List V) (U:St) (R:V->St->Prop):Prop:=
 ∀(w:World) (L:Nat->Nat) (I:afG) (jE:afG),Mem (entry w L U I) w L U I->bL (cV w L U I) args jE->
  Calls P f jE.toArray w λe w'=> ∃v r L' U' I',e= .returned v/\R r U'/\U.length<=U'.length/\Mem (entry w L U I) w' L' U' I'/\cV w' L' U' I' r v
theorem bK.mono {f:FuncId} {args:List V} {R R':V->St->Prop} (h:bK P f args U R) (hR: ∀r U',R r U'->R' r U'):bK P f args U R':=
 λw L I aa hm ha=>(h w L I aa hm ha).mono (by grind)
def VC (P:Program) (c:Ctx) (fv:V) (args:List V) (U:St) (K:V->St->Prop):Prop:=
 ∃f bU,fv= .fn f bU/\(((∃fn,P.funcs[f]? =some fn/\(fn.name== "runtime.NumGoroutine")=false/\fn.body.isSome=true)/\
  ∀w L I jE,Mem c w L U I->bL (cV w L U I) (args++bU) jE->
   Calls P f jE.toArray w λe w'=> ∃v r L' U' I',e= .returned v/\K r U'/\Mem c w' L' U' I'/\Le w L w' L'/\Ext U I U' I'/\cV w' L' U' I' r v)\/
  ∀w L I jE,Mem c w L U I->bL (cV w L U I) (args++bU) jE->
   ∃v r w' L' U' I',(callFunc f jE.toArray).run P w= .ok (.value v) w'/\K r U'/\Mem c w' L' U' I'/\Le w L w' L'/\Ext U I U' I'/\cV w' L' U' I' r v)
theorem VC.mono {c:Ctx} {fv:V} {az:List V} {K K':V->St->Prop} (h:VC P c fv az U K) (hk: ∀v s,K v s->K' v s):VC P c fv az U K':=by
 obtain⟨f,bU,h1,⟨h2,h3⟩|h3⟩:=h
 .refine⟨f,bU,h1,.inl ⟨h2,λw L I aa hm ha=>(h3 w L I aa hm ha).mono ?_⟩⟩
  grind
 .refine⟨f,bU,h1,.inr λw L I aa hm ha=> ?_⟩
  grind
def wE (P:Program) (f:FuncId):Bool:=match P.funcs[f]? with|some fn=> !(fn.name== "runtime.NumGoroutine")&&fn.body.isSome|none=>false
theorem HM {f:FuncId} (h:wE P f): ∃fn,P.funcs[f]? =some fn/\(fn.name== "runtime.NumGoroutine")=false/\fn.body.isSome=true:=by
 unfold wE at h
 grind
def nG (ρ:Nat->Nat) (a' a:V):Prop:=a=dv ρ a'\/ ∃g rows,a'= .sl .ro rows/\a= .sl g rows
def ph (ρ:Nat->Nat) (a' a:V):Prop:=a=dL ρ a'\/(∃g rows,a'= .sl .ro rows/\a= .sl g rows)\/ ∃cs' cs,a'= .agg cs'/\a= .agg cs/\bL (nG ρ) cs' cs
def cF (ρ:Nat->Nat) (a' a:V):Prop:=a=dy ρ a'\/a'= .u\/(∃g rows,a'= .sl .ro rows/\a= .sl g rows)\/(∃cs' cs,a'= .agg cs'/\a= .agg cs/\bL (nG ρ) cs' cs)\/ ∃gp vs,a'= .cm gp/\a= .cm vs/\bL (ph ρ) gp vs
def fQ {J:Type}:afF->List J->List J->List J
 |i::cT,l,x::xs=>fQ cT (l.set i x) xs
 |_,l,_=>l
theorem ng {J:Type}: ∀(cT:afF) (l xs:List J),(fQ cT l xs).length=l.length
 | [],_,_=>by rfl
 |i::cT,l,[]=>by rfl
 |i::cT,l,x::xs=>by simp[fQ,ng cT]
theorem sV {J:Type}: ∀(cT:afF) (l xs:List J) (j:Nat),j∉cT->(fQ cT l xs)[j]? =l[j]?
 | [],_,_,_,_=>by rfl
 |i::cT,l,[],_,_=>by rfl
 |i::cT,l,x::xs,j,h=>by
  simp only[Ae,not_or]at h
  rw[fQ,sV cT _ xs j h.2,Dh (λq=>h.1 q.symm)]
theorem HN {J:Type}: ∀(cT:afF) (l xs:List J) (i j:Nat),cT.Nodup->(∀q∈cT,q<l.length)->cT.length<=xs.length->cT[i]? =some j->(fQ cT l xs)[j]? =xs[i]?
 | [],_,_,_,_,_,_,_,h=>by grind
 |i0::cT,l,[],_,_,_,_,hl,_=>by grind
 |i0::cT,l,x::xs,0,j,hn,aa,hl,h=>by
  simp at h
  subst h
  rw[C0]at hn
  rw[fQ,sV cT _ xs i0 hn.1,Bc (aa i0 sm)]
  rfl
 |i0::cT,l,x::xs,i+1,j,hn,aa,hl,h=>by
  rw[C0]at hn
  rw[fQ,HN cT _ xs i j hn.2 (λq hq=>by simp;exact aa q (by simp[hq])) (sU hl) (sU h)]
  simp
def xQ (cT:afF) (Uc U':St):St:=fQ cT Uc ((U'.take cT.length).map (yF (cz cT Uc.length)))++(U'.drop cT.length).map (yF (cz cT Uc.length))
def qZ (cT:afF) (Ic I':afG):afG:=fQ cT Ic (I'.take cT.length)++I'.drop cT.length
section
variable {P:Program} {c:Ctx}
variable {cT:afF}{i:Nat}
theorem xX {N:Nat} (h:i<cT.length):cz cT N i=cT[i]:=by grind[cz]
theorem qf {N:Nat} (h: ¬i<cT.length):cz cT N i=N+(i - cT.length):=by grind[cz]
theorem DA {Uc U':St} (hn:cT.Nodup) (aa: ∀q∈cT,q<Uc.length) (hl:cT.length<=U'.length) {o:Ob} (h:U'[i]? =some o):
  (xQ cT Uc U')[cz cT Uc.length i]? =some (yF (cz cT Uc.length) o):=by
 unfold xQ
 by_cases hi:i<cT.length
 .rw[xX hi,Ak (by rw[ng];exact aa _ (Aa hi)),
   HN cT _ _ i _ hn aa (by simp;omega) (A0 hi),B3,Av,afb hi,h]
  rfl
 .rw[qf hi,Ay (by rw[ng];omega),ng,B3,Bw,show cT.length+(Uc.length+(i - cT.length) - Uc.length)=i by omega,h]
  rfl
theorem O9 {Ic I':afG} (hn:cT.Nodup) (aa: ∀q∈cT,q<Ic.length) (hl:cT.length<=I'.length) {x:Value} (h:I'[i]? =some x):
  (qZ cT Ic I')[cz cT Ic.length i]? =some x:=by
 unfold qZ
 by_cases hi:i<cT.length
 .rw[xX hi,Ak (by rw[ng];exact aa _ (Aa hi)),
   HN cT _ _ i _ hn aa (by simp;omega) (A0 hi),Av,afb hi,h]
 grind[qf,ng]
theorem Wj {cT:afF} {Uc U':St} {Ic I':afG} (hn:cT.Nodup) (aa: ∀q∈cT,q<Uc.length) (ad:Ic.length=Uc.length) (ae:I'.length=U'.length) (hl:cT.length<=U'.length) {j:Nat} {o:Ob} {x:Value}
  (h1:(xQ cT Uc U')[j]? =some o) (h2:(qZ cT Ic I')[j]? =some x):
  (∃(i:Nat) (o':Ob),j=cz cT Uc.length i/\U'[i]? =some o'/\o=yF (cz cT Uc.length) o'/\I'[i]? =some x)\/(j∉cT/\j<Uc.length/\Uc[j]? =some o/\Ic[j]? =some x):=by
 have ab: ∀q∈cT,q<Ic.length:=by grind
 by_cases hj:j<Uc.length
 .by_cases hm:j∈cT
  .obtain⟨i,hi⟩:=Au.1 hm
   obtain⟨af,ag⟩:=A1.1 hi
   have e1:=DA hn aa hl (A0 (show i<U'.length by omega))
   grind[O9,xX]
  grind[xQ,qZ,ng,sV]
 grind[xQ,qZ,ng,qf]
theorem KI {J I γ:Type} {A:J->I->Prop} {B:I->γ->Prop} {C:J->γ->Prop} (h: ∀a b c,A a b->B b c->C a c): ∀{l:List J} {m:List I} {n:List γ},bL A l m->bL B m n->bL C l n
 | [],[],[],_,_=>trivial
 |_::_,_::_,_::_,p,q=>⟨h _ _ _ p.1 q.1,KI h p.2 q.2⟩
 | [],_::_,_,p,_=>p.elim
 |_::_,[],_,p,_=>p.elim
 | [],[],_::_,_,q=>q.elim
 |_::_,_::_,[],_,q=>q.elim
section
variable {ρ:Nat->Nat} {w:World} {L:Nat->Nat} {U Uc:St} {I Ic:afG}
variable {a':V}{a:V}{x:Value}
theorem Wk (h:qX ρ U I Uc Ic) (ha:nG ρ a' a) (r:cN w L Uc Ic a x):cN w L U I a' x:=by
 rcases ha with rfl|⟨g,rows,rfl,rfl⟩
 .exact r.iH h
 .exact qS (by simpa)
theorem Pa (h:qX ρ U I Uc Ic) (ha:ph ρ a' a) (r:dF w L Uc Ic a x):dF w L U I a' x:=by
 rcases ha with rfl|⟨g,rows,rfl,rfl⟩|⟨ab,cs,rfl,rfl,aa⟩
 .exact r.iH h
 .exact qS (cV.kG r)
 .obtain⟨xs,hx,hr⟩:=r
  exact⟨xs,hx,(by grind[KI,Wk])⟩
theorem vY (h:qX ρ U I Uc Ic) (ha:cF ρ a' a) (r:cV w L Uc Ic a x):cV w L U I a' x:=by
 rcases ha with rfl|rfl|⟨g,rows,rfl,rfl⟩|⟨ab,cs,rfl,rfl,aa⟩|⟨gp,vs,rfl,rfl,aa⟩
 .exact r.iH h
 .trivial
 .exact qS r
 .exact cV.kG (Pa h (.inr (.inr ⟨ab,cs,rfl,rfl,aa⟩)) r)
 .obtain⟨xs,hx,hr⟩:=r
  exact⟨xs,hx,(by grind[KI,Pa])⟩
end
theorem VC.of {f:FuncId} {bU args bZ:List V} {Uc gi:St} {R:V->St->Prop} {K:V->St->Prop} (hc:bK P f bZ gi R) (hb:wE P f) (cT:afF) (al:cT.Nodup) (hlen:gi.length=cT.length)
  (a8: ∀(i j:Nat) (o:Ob),cT[i]? =some j->gi[i]? =some o->Uc[j]? =some (yF (cz cT Uc.length) o)) (ai:bL (cF (cz cT Uc.length)) bZ (args++bU))
  (hk: ∀r U',R r U'->cT.length<=U'.length->K (dy (cz cT Uc.length) r) (xQ cT Uc U')):VC P c (.fn f bU) args Uc K:=by
 refine⟨f,bU,rfl,.inl ⟨HM hb,λw L Ic af hm hv=> ?_⟩⟩
 have ag: ∀q∈cT,q<Uc.length:=λq hq=>by
  obtain⟨i,hi⟩:=Au.1 hq
  have ak:=(A1.1 hi).1
  have:=a8 i q _ hi (A0 (show i<gi.length by omega))
  grind
 let nH:=cT.map λq=>Ic.getD q undef
 have an: ∀(i j:Nat),cT[i]? =some j->nH[i]? =Ic[j]? :=λi j hi=>by
  simp only[nH,B3,hi,Ba]
  have hj:=ag j (by grind)
  rw[A9,A0 (by rw[hm.len];exact hj)]
  rfl
 have aj: ∀(id:Nat) O,Uc[cz cT Uc.length id]? =some O-> ∃o,gi[id]? =some o/\O=yF (cz cT Uc.length) o:=(by grind[xX,qf])
 have ah:qX (cz cT Uc.length) gi nH Uc Ic:=by
  refine⟨λid x hx=> ?_,λid n s hx=> ?_,λid rows s hx=> ?_,λid hx=> ?_⟩
  .by_cases hi:id<cT.length
   .grind[xX]
   .rw[qf hi]at hx
    have:=(A1.1 hx).1
    rw[hm.len]at this;omega
  .obtain⟨o,ho,he⟩:=aj id _ hx
   cases o<;>grind[yF]
  .obtain⟨o,ho,he⟩:=aj id _ hx
   cases o<;>grind[yF]
  .obtain⟨o,ho,he⟩:=aj id _ hx
   cases o with
   |dead=>exact ho
   |_=>simp[yF]at he
 have ae: ∀(i:Nat) (o:Ob) (x:Value),gi[i]? =some o->nH[i]? =some x-> ∃j,cT[i]? =some j/\Uc[j]? =some (yF (cz cT Uc.length) o)/\Ic[j]? =some x:=by
  grind
 have aA:Mem (entry w L gi nH) w L gi nH:=by
  refine⟨by grind,λi o x ho hx=> ?_,λi j o o' x x' b a7 ho hx av aw he=> ?_,λi o x b ho hx he=> ?_,λb _ _=>(by trivial),Le.refl _ _,A3 _,rfl,rfl,rfl,A3 _,hm.lim,Ext.refl _ _,hm.iY.mono hm.le⟩
  .obtain⟨j,hj,h1,h2⟩:=ae i o x ho hx
   exact(hm.cO j _ x h1 h2).iH ah
  .obtain⟨p,hp,h1,h2⟩:=ae i o x ho hx
   obtain⟨q,hq,h3,h4⟩:=ae j o' x' av aw
   have aB:p≠q:=(by grind[Dm])
   have:=hm.apart p q _ _ x x' b aB h1 h2 h3 h4 (by grind[qY])
   grind[qY]
  .exact .inr (gm.2 (by grind))
 have aC:bL (cV w L gi nH) bZ af:=by
  clear hk hc
  generalize args++bU=az at hv ai
  induction bZ generalizing az af with
  |nil=>cases az with
   |nil=>cases af<;>simpa
   |cons _ _=>trivial
  |cons p bZ ih=>cases az with
   |nil=>trivial
   |cons q az=>cases af with
    |nil=>simpa
    |cons y ys=>exact⟨vY ah ai.1 hv.1,ih _ _ hv.2 ai.2⟩
 refine(hc w L nH af aA aC).mono λe w' ⟨v,r,L',U',I',he,hR,aH,aa,aD⟩=> ?_
 have ax:cT.length<=U'.length:=om
 have aE: ∀q∈cT,q<Ic.length:=by rw[hm.len];omega
 have ad:CZ (cz cT Uc.length) U' I' (xQ cT Uc U') (qZ cT Ic I'):=by
  refine⟨λid x hx=> ?_,λid n s hx=>DA al ag ax hx,λid rows s hx=>⟨_,DA al ag ax hx,sm⟩,λid hx=>DA al ag ax hx⟩
  have:=O9 al aE (by rw[aa.len];omega) hx
  rw[hm.len]at this;omega
 have ao: ∀(j:Nat) (o:Ob) (x:Value) (b:Nat),j∉cT->Uc[j]? =some o->Ic[j]? =some x->cI o x=some b->b∉sT gi nH:=by
  intro j o x b hj ho hx he hb
  obtain⟨i,o',x',h1,h2,h3⟩:=gm.1 hb
  obtain⟨p,hp,h4,h5⟩:=ae i o' x' h1 h2
  have aF:j≠p:=(by grind)
  exact hm.apart j p o _ x x' b aF ho hx h4 h5 he (by grind[qY])
 have ay: ∀b,b∈sT gi nH->c.w0.heap.size<=b\/b∈c.X0:=by
  intro b hb
  obtain⟨i,o',x',h1,h2,h3⟩:=gm.1 hb
  obtain⟨p,hp,h4,h5⟩:=ae i o' x' h1 h2
  exact hm.fy p _ x' b h4 h5 (by grind[qY])
 have aq:Ext Uc Ic (xQ cT Uc U') (qZ cT Ic I'):=by
  refine⟨λid a ha=> ?_,λid n s ha=> ?_,λid rows s ha=> ?_,λid ha=> ?_⟩
  .have ar:id<Ic.length:=(by grind)
   by_cases hs:id∈cT
   .obtain⟨i,hi⟩:=Au.1 hs
    have h1:=an i id hi
    rw[ha]at h1
    have h2:=aa.ext.ptr i a h1
    have h3:=ad.val i _ h2
    grind[xX]
   grind[qZ,ng,sV]
  .have ar:id<Uc.length:=(by grind)
   by_cases hs:id∈cT
   .obtain⟨i,hi⟩:=Au.1 hs
    obtain⟨ak,au⟩:=A1.1 hi
    have h1:=ah.app i n s (by grind[xX])
    obtain⟨n',h2,h3,h4⟩:=aa.ext.app i n s h1
    have h5:=ad.app i n' s h2
    rw[xX ak,au]at h5
    refine⟨n',h5,h3,λe=> ?_⟩
    have h6:=h4 e
    rw[show(entry w L gi nH).β0=nH from rfl,an i id hi]at h6
    have a1:i<I'.length:=by grind
    have h7:=ad.val i _ (A0 a1)
    grind[xX]
   .refine⟨n, ?_,om,λ_=> ?_⟩
    .grind[xQ,ng,sV]
    .unfold qZ
     rw[Ak (by rw[ng,hm.len];omega),sV _ _ _ _ hs]
  .have ar:id<Uc.length:=(by grind)
   by_cases hs:id∈cT
   .obtain⟨i,hi⟩:=Au.1 hs
    obtain⟨ak,au⟩:=A1.1 hi
    obtain⟨r0,h1,l1⟩:=ah.cc i rows s (by grind[xX])
    rcases aa.ext.cc i r0 s h1 with h2|⟨r2,h2,h3,h4⟩
    .have h5:=ad.dead i h2
     grind[xX]
    .obtain⟨r3,h5,l5⟩:=ad.cc i r2 s h2
     rw[xX ak,au]at h5
     refine .inr ⟨r3,h5,om,λe=> ?_⟩
     have h6:=h4 om
     rw[show(entry w L gi nH).β0=nH from rfl,an i id hi]at h6
     have a1:i<I'.length:=by grind
     have h7:=ad.val i _ (A0 a1)
     rw[xX ak,au]at h7
     grind
   .refine .inr ⟨rows, ?_,om,λ_=> ?_⟩
    .grind[xQ,ng,sV]
    .unfold qZ
     rw[Ak (by rw[ng,hm.len];omega),sV _ _ _ _ hs]
  .have ar:id<Uc.length:=(by grind)
   by_cases hs:id∈cT
   .obtain⟨i,hi⟩:=Au.1 hs
    obtain⟨ak,au⟩:=A1.1 hi
    have h1:=ah.dead i (by grind[xX])
    have h5:=ad.dead i (aa.ext.dead i h1)
    grind[xX]
   grind[xQ,ng,sV]
 have hinv:= @Wj cT Uc U' Ic I' al ag hm.len aa.len ax
 refine⟨v,dy (cz cT Uc.length) r,L',_,_,he,(by grind), ?_,aa.le,aq,aD.lx ad⟩
 refine⟨?_,λj o x ho hx=> ?_,λj j' o o' x x' b a7 ho hx av aw ab=> ?_,λj o x b ho hx ab=> ?_,λb ab hx=> ?_,hm.le.trans aa.le,An hm.size aa.size,aa.os.trans hm.os,aa.tape.trans hm.tape,aa.output.trans hm.output,An hm.drawn aa.drawn,aa.lim,hm.ext.trans aq,hm.iY⟩
 .simp[xQ,qZ,ng,hm.len,aa.len]
 .rcases hinv ho hx with ⟨i,o',rfl,h1,rfl,h2⟩|⟨h0,a6,h1,h2⟩
  .exact(aa.cO i o' x h1 h2).lx ad
  .refine(hm.cO j o x h1 h2).step aa.le aq λb ab=>aa.same b ?_ (ao j o x b h0 h1 h2 ab)
   exact(hm.cO j o x h1 h2).dY ab
 .rcases hinv ho hx with ⟨i,o1,rfl,h1,rfl,h2⟩|⟨h0,a6,h1,h2⟩
  .rw[qY]at ab
   rcases hinv av aw with ⟨i',o2,rfl,h3,rfl,h4⟩|⟨h0,a6,h3,h4⟩
   .rw[qY]
    exact aa.apart i i' o1 o2 x x' b (by grind) h1 h2 h3 h4 ab
   .intro q
    rcases aa.fy i o1 x b h1 h2 ab with h5|h5
    .have:=(hm.cO j' o' x' h3 h4).dY q
     have h6:w.heap.size<=b:=h5
     omega
    .exact ao j' o' x' b h0 h3 h4 q h5
  .rcases hinv av aw with ⟨i',o2,rfl,h3,rfl,h4⟩|⟨aJ,aI,h3,h4⟩
   .rw[qY]
    intro q
    rcases aa.fy i' o2 x' b h3 h4 q with h5|h5
    .have:=(hm.cO j o x h1 h2).dY ab
     have h6:w.heap.size<=b:=h5
     omega
    .exact ao j o x b h0 h1 h2 ab h5
   .exact hm.apart j j' o o' x x' b a7 h1 h2 h3 h4 ab
 .rcases hinv ho hx with ⟨i,o1,rfl,h1,rfl,h2⟩|⟨h0,a6,h1,h2⟩
  .rw[qY]at ab
   rcases aa.fy i o1 x b h1 h2 ab with h5|h5
   .exact .inl (An hm.size h5)
   .exact ay b h5
  .exact hm.fy j o x b h1 h2 ab
 .have aG:b∉sT gi nH:=(by grind)
  obtain⟨e1,e2⟩:=aa.same b (Db ab hm.size) aG
  obtain⟨e3,e4⟩:=hm.same b ab hx
  exact⟨e1.trans e3,e2.trans e4⟩
structure eM (n0:Nat) (pick:afF) (U U':St):Prop where
 len:U'.length=pick.length
 nodup:pick.Nodup
 ob: ∀(i j:Nat) (o:Ob),pick[i]? =some j->U'[i]? =some o->U[j]? =some (yF (cz pick U.length) o)
 id: ∀i,i<n0->pick[i]? =some i
theorem eM.back {n0:Nat} {pick:afF} {U U':St} (h:eM n0 pick U U') (id:Nat) (O:Ob) (hx:U[cz pick U.length id]? =some O): ∃o,U'[id]? =some o/\O=yF (cz pick U.length) o:=by
 by_cases hi:id<pick.length
 .rw[xX hi]at hx
  have hq:=A0 (show id<U'.length by rw[h.len];exact hi)
  have:=h.ob id _ _ (A0 hi) hq
  grind
 grind[qf]
theorem eM.iH {n0:Nat} {pick:afF} {U U':St} {I:afG} (h:eM n0 pick U U') (hl:I.length=U.length):qX (cz pick U.length) U' (pick.map λq=>I.getD q undef) U I:=by
 refine⟨λid x hx=> ?_,λid n s hx=> ?_,λid rows s hx=> ?_,λid hx=> ?_⟩
 .grind[xX,qf]
 .obtain⟨o,ho,he⟩:=h.back id _ hx
  cases o<;>grind[yF]
 .obtain⟨o,ho,he⟩:=h.back id _ hx
  cases o<;>grind[yF]
 .obtain⟨o,ho,he⟩:=h.back id _ hx
  cases o with
  |dead=>exact ho
  |_=>simp[yF]at he
theorem Mem.pick {w:World} {L:Nat->Nat} {U U':St} {I:afG} {pick:afF} (h:Mem c w L U I) (hp:eM c.bT.length pick U U') (hc:c.β0.length=c.bT.length):Mem c w L U' (pick.map λq=>I.getD q undef):=by
 have ab:=hp.iH h.len
 have aa: ∀(i:Nat) (o:Ob) (x:Value),U'[i]? =some o->(pick.map λq=>I.getD q undef)[i]? =some x-> ∃j,pick[i]? =some j/\U[j]? =some (yF (cz pick U.length) o)/\I[j]? =some x:=by
  intro i o x ho hx
  have hi:i<pick.length:=by grind
  have hs:=A0 hi
  have h1:=hp.ob i _ o hs ho
  refine⟨_,hs,h1, ?_⟩
  have al:pick[i]<I.length:=by rw[h.len];grind
  grind
 refine⟨by simp[hp.len],λi o x ho hx=> ?_,λi j o o' x x' b ah ho hx ai aj he=> ?_,λi o x b ho hx he=> ?_,h.same,h.le,h.size,h.os,h.tape,h.output,h.drawn,h.lim, ?_,h.iY⟩
 .obtain⟨j,hj,h1,h2⟩:=aa i o x ho hx
  exact(h.cO j _ x h1 h2).iH ab
 .obtain⟨p,ag,h1,h2⟩:=aa i o x ho hx
  obtain⟨q,hq,h3,h4⟩:=aa j o' x' ai aj
  have ak:p≠q:=λe=>by
   subst e
   obtain⟨hi,e1⟩:=A1.1 ag
   obtain⟨hj,e2⟩:=A1.1 hq
   exact ah ((Dm hp.nodup).1 om)
  have:=h.apart p q _ _ x x' b ak h1 h2 h3 h4 (by grind[qY])
  grind[qY]
 .obtain⟨p,ag,h1,h2⟩:=aa i o x ho hx
  exact h.fy p _ x b h1 h2 (by grind[qY])
 .refine⟨λid a ha=> ?_,λid n s ha=> ?_,λid rows s ha=> ?_,λid ha=> ?_⟩
  .have hid:id<c.bT.length:=by grind
   have h1:=h.ext.ptr id a ha
   rw[B3,hp.id id hid]
   grind
  .have hid:id<c.bT.length:=(by grind)
   obtain⟨n',h1,h2,h3⟩:=h.ext.app id n s ha
   have ad:=hp.id id hid
   obtain⟨ae,af⟩:=A1.1 ad
   refine⟨n',ab.app id n' s (by grind[xX]),h2,λe=> ?_⟩
   grind
  .have hid:id<c.bT.length:=(by grind)
   have ad:=hp.id id hid
   obtain⟨ae,af⟩:=A1.1 ad
   rcases h.ext.cc id rows s ha with h1|⟨r2,h1,h2,h3⟩
   .exact .inl (ab.dead id (by grind[xX]))
   .obtain⟨r3,h5,l5⟩:=ab.cc id r2 s (by grind[xX])
    grind
  .have hid:id<c.bT.length:=(by grind)
   have ad:=hp.id id hid
   obtain⟨ae,af⟩:=A1.1 ad
   exact ab.dead id (by rw[xX ae,af];exact h.ext.dead id ha)
end
def iI (id:Nat) (rows:List (List V)):V->V
 | .cJ i s n lo m=>if i=id/\n=rows.length/\lo+m<=n then .sl .ro (ij rows lo m)else .cJ i s n lo m
 |v=>v
def jg (id:Nat) (rows:List (List V)):V->V
 | .fn f bU=> .fn f (bU.map (iI id rows))
 | .gy t vs=> .gy t (vs.map (iI id rows))
 |v=>iI id rows v
def jh (id:Nat) (rows:List (List V)):V->V
 | .agg cs=> .agg (cs.map (jg id rows))
 |v=>jg id rows v
def fB (id:Nat) (rows:List (List V)):V->V
 | .cm vs=> .cm (vs.map (jh id rows))
 |v=>jh id rows v
def uh (id:Nat) (rows:List (List V)):Ob->Ob
 | .box cells=> .box (cells.map (jg id rows))
 | .cc rs s=> .cc (rs.map λr=>r.map (jg id rows)) s
 | .mp di fN cD=> .mp (di.map (jh id rows)) fN cD
 |o=>o
def lj (id:Nat) (rows:List (List V)) (U:St):St:=(U.set id .dead).map (uh id rows)
structure q9 (U U':St):Prop where
 app: ∀(id:Nat) n s,U[id]? =some (.app n s)->U'[id]? =some (.app n s)
 cc: ∀(id:Nat) rows s,U[id]? =some (.cc rows s)-> ∃eY,U'[id]? =some (.cc eY s)/\eY.length=rows.length
 dead: ∀(id:Nat),U[id]? =some .dead->U'[id]? =some .dead
section
variable {w:World} {L:Nat->Nat} {U U':St} {I:afG}
theorem gj.KJ (h:q9 U U') {v:V} {x:Value} (r:gj w L U I v x):gj w L U' I v x:=by
 cases v with
 |sl g rows=>cases g with
  |app id=>obtain⟨hr,n,s,cv,hle,cR,hl⟩:=r;exact⟨hr,n,s,h.app _ _ _ cv,hle,cR,hl⟩
  |ro=>exact r
  |full=>exact r
 |cJ id s n lo m=>
  obtain⟨a,cap,hx,hm,ha,hc⟩:=r
  refine⟨a,cap,hx,hm,ha, ?_⟩
  rcases hc with hd|⟨rows,cv,hn,hb⟩
  .exact .inl (h.dead id hd)
  .obtain⟨r2,e2,l2⟩:=h.cc id rows s cv
   grind
 |iE id s n i j=>
  obtain⟨b,o,hx,hc⟩:=r
  refine⟨b,o,hx, ?_⟩
  rcases hc with hd|⟨rows,cv,hn,hb⟩
  .exact .inl (h.dead id hd)
  .obtain⟨r2,e2,l2⟩:=h.cc id rows s cv
   grind
 |_=>exact r
theorem q9.HO {id:Nat} {rows:List (List V)} (U:St):q9 U (U.map (uh id rows)):=by
 refine⟨λi n s h=> ?_,λi rs s h=>⟨_,by rw[B3,h];rfl,sm⟩,λi h=> ?_⟩
 .rw[B3,h];rfl
 .rw[B3,h];rfl
theorem Wl {c:Ctx} {L':Nat->Nat} {id s n lo m:Nat} {rows:List (List V)} {x:Value} (hm:Mem c w L U I) (cv:U[id]? =some (.cc rows s)) (hp:wF rows) (hL: ∀b n' cap,I[id]? =some (.slice (some ⟨b,0,none⟩) n' cap)->0<cap->rows.length*s<=L' b)
  (hle:Le w L w L') (r:gj w L U I (.cJ id s n lo m) x) (hn:n=rows.length) (av:lo+m<=n):cq w L' (.sl .ro (ij rows lo m)) x:=by
 obtain⟨a,cap,rfl,aw,ab,hc⟩:=r
 have aj:(ij rows lo m).length=m:=by grind[ij]
 by_cases h0:m=0
 .subst h0
  have:ij rows lo 0= []:=by rfl
  rw[this]
  exact .iF _ _ _ sm sm
 rcases hc with hd|⟨cp,ad,ax,hb⟩
 .grind
 .rw[cv]at ad;cases ad
  obtain⟨b0,c0,cR,cQ,ay,aa⟩:=hb hn
  clear hb ab
  have az:0<m:=om
  have ak:lo<c0:=om
  obtain⟨k0,rfl,rfl⟩:=aa ak
  clear aa
  have ae:0<c0:=om
  have a1:=hL _ _ _ cR ae
  obtain⟨a2,ar,e1,au,af,al,cH⟩:=hm.cO id _ _ cv cR
  cases e1
  obtain⟨b',arr,T,fz,e2,hh,_,a6,_,ag⟩:=cH ae
  cases e2
  clear cH
  have hu:eS s (ij rows lo m):=λq hq=>by
   obtain⟨q0,a7,rfl⟩:=Ac.1 hq
   grind
  have an:=yA hu
  rw[aj]at an
  have ao:(lo+m)*s<=rows.length*s:=Af _ om
  rw[B0]at ao
  have key:cq w L' (.sl .ro (ij rows lo m)) (.slice (some ⟨k0,lo*s,none⟩) (ij rows lo m).length cap):=by
   refine .of_flat af hu (by grind) om sm sm λk v hk=> ?_
   have a8:k<m*s:=by grind
   have hi:k/s<m:=by simp_all[C2]
   have hj:k%s<s:=Cj _ af
   have aq:k=k/s*s+k%s:=by grind[Cq]
   rw[aq,yM _ _ hu hj]at hk
   simp only[ij,B3,Av,afb hi,Bw]at hk
   have ah:lo+k/s<rows.length:=om
   rw[A0 ah]at hk
   simp only[Ba,Ao,B3,Al]at hk
   obtain⟨v0,aA,rfl⟩:=hk
   have hf:rows.flatten[(lo+k/s)*s+k%s]? =some v0:=by
    rw[yM _ _ al hj,A0 ah];grind
   obtain⟨z,hz,rz⟩:=ag.get _ _ hf
   have ai:(lo+k/s)*s+k%s=lo*s+k:=by grind
   rw[ai,Av,afb om,Am]at hz
   refine⟨z,by simp only[World.cell?,hh];grind, ?_⟩
   refine(cN.o9 rz ?_).mono hle
   unfold wF at hp
   grind
  grind
def gU (I:afG) (id k:Nat) (L:Nat->Nat):Nat->Nat:=
 match I[id]? with
 |some (.slice (some a) _ cap)=>if 0<cap then xE L a.block k else L
 |_=>L
theorem Pb {c:Ctx} {id s:Nat} {rows:List (List V)} (hm:Mem c w L U I) (cv:U[id]? =some (.cc rows s)) (hp:wF rows):
  Mem c w (gU I id (rows.length*s) L) (lj id rows U) I/\Le w L w (gU I id (rows.length*s) L)/\Ext U I (lj id rows U) I/\(∀v x,cV w L U I v x->cV w (gU I id (rows.length*s) L) (lj id rows U) I (fB id rows v) x):=by
 have ao:id<U.length:=(by grind)
 obtain⟨x0,cR⟩: ∃x0,I[id]? =some x0:=⟨_,A0 (by rw[hm.len];exact ao)⟩
 obtain⟨a,cap,rfl,cQ,hs,aB,cH⟩:=hm.cO id _ _ cv cR
 have aC:rows.length*s<=cap*s:=Af _ cQ
 have hle:Le w L w (gU I id (rows.length*s) L):=by
  refine⟨λb=> ?_,sm⟩
  unfold gU
  rw[cR]
  cases a with
  |none=>simp
  |some a=>
   by_cases h0:0<cap
   .obtain⟨b',arr,T,fz,e,hh,hf,ah,hl,a8⟩:=cH h0
    cases e
    simp only[h0,afj,xE]
    grind
   grind
 have ad:Ext U I (U.set id .dead) I:=by
  refine⟨sm,(by grind),(by grind),(by grind)⟩
  all_goals grind
 have ab:q9 (U.set id .dead) (lj id rows U):=q9.HO _
 have ae:Ext (U.set id .dead) I (lj id rows U) I:=
  ⟨sm,λi n s' h=>⟨n,ab.app i n s' h,om,λ_=>rfl⟩,λi rs s' h=>by
   obtain⟨r2,h2,l2⟩:=ab.cc i rs s' h
   grind,λi h=>ab.dead i h⟩
 have aq: ∀b n' aa,I[id]? =some (.slice (some ⟨b,0,none⟩) n' aa)->0<aa->rows.length*s<=gU I id (rows.length*s) L b:=(by simp_all[gU,xE])
 have al: ∀v x,gj w L U I v x->gj w (gU I id (rows.length*s) L) (lj id rows U) I (iI id rows v) x:=λv x r=>by
  have ar:gj w (gU I id (rows.length*s) L) (lj id rows U) I v x:=gj.KJ ab (r.mono hle ad)
  cases v with
  |cJ i s' n lo m=>
   simp only[iI]
   split
   .rename_i hc
    obtain⟨rfl,hn,au⟩:=hc
    have af:s'=s:=by
     obtain⟨_,_,_,_,_,hc⟩:=r
     grind
    subst af
    exact Wl hm cv hp aq hle r hn au
   omega
  |_=>exact ar
 have av: ∀v x,cN w L U I v x->cN w (gU I id (rows.length*s) L) (lj id rows U) I (jg id rows v) x:=λv x r=>by
  cases v with
  |fn f bU=>obtain⟨xs,hx,hc⟩:=r;exact⟨xs,hx,(by grind[bL.fi])⟩
  |gy t v=>obtain⟨y,hx,hc⟩:=r;exact⟨y,hx,(by grind[bL.fi])⟩
  |cJ i s' n lo m=>
   have h2:=al (.cJ i s' n lo m) x r
   show cN w _ _ I (iI id rows (.cJ i s' n lo m)) x
   simp only[iI]at h2⊢
   split
   .rename_i hc;rw[afb hc]at h2;exact h2
   .rename_i hc;rw[afa hc]at h2;exact h2
  |_=>simp only[cN]at r;have h2:=al _ _ r;exact h2
 have aw: ∀v x,dF w L U I v x->dF w (gU I id (rows.length*s) L) (lj id rows U) I (jh id rows v) x:=λv x r=>by
  cases v with
  |agg cs=>obtain⟨xs,hx,hc⟩:=r;exact⟨xs,hx,(by grind[bL.fi])⟩
  |_=>simp only[dF]at r;have h2:=av _ _ r;exact dF.df h2
 have ax: ∀v x,cV w L U I v x->cV w (gU I id (rows.length*s) L) (lj id rows U) I (fB id rows v) x:=λv x r=>by
  cases v with
  |u=>trivial
  |cm vs=>obtain⟨xs,hx,hc⟩:=r;exact⟨xs,hx,(by grind[bL.fi])⟩
  |_=>simp only[cV]at r;have h2:=aw _ _ r;exact cV.kG h2
 refine⟨?_,hle,ad.trans ae,ax⟩
 have ai: ∀b,cI (.cc rows s) (.slice a rows.length cap)≠some b->gU I id (rows.length*s) L b=L b:=λb h=>by
  unfold gU
  rw[cR]
  cases a with
  |none=>rfl
  |some a=>
   by_cases h0:0<cap
   .simp_all[cI,xE];omega
   grind
 have aD: ∀i o x,i≠id->U[i]? =some o->I[i]? =some x->gz w (gU I id (rows.length*s) L) (lj id rows U) I (uh id rows o) x:=λi o x hi ho hx=>by
  have hr:=hm.cO i o x ho hx
  have aj: ∀b,cI o x=some b->gU I id (rows.length*s) L b=L b:=λb hb=>ai b λq=>hm.apart i id o _ x _ b hi ho hx cv cR hb q
  cases o with
  |box cells=>
   obtain⟨b,arr,T,fz,rfl,hh,hf,hl,hc⟩:=hr
   exact⟨b,arr,T,fz,rfl,hh,hf,(aj b rfl).trans hl,(by grind[bL.fi])⟩
  |app n s'=>
   obtain⟨a',aa,rfl,hn,af,ag⟩:=hr
   refine⟨a',aa,rfl,hn,af,λay=> ?_⟩
   obtain⟨b,o',arr,T,fz,rfl,hh,hf,ah,hl⟩:=ag ay
   exact⟨b,o',arr,T,fz,rfl,hh,hf,ah,(by grind[cI])⟩
  |cc rs s'=>
   obtain⟨a',aa,rfl,hn,af,aE,ag⟩:=hr
   refine⟨a',aa,sm,by grind,af,λr hr=> ?_,λh0=> ?_⟩
   .grind
   .obtain⟨b,arr,T,fz,rfl,hh,hf,ah,hl,hc⟩:=ag h0
    refine⟨b,arr,T,fz,rfl,hh,hf,ah,(by grind[cI]), ?_⟩
    grind[bL.fi]
  |dead=>trivial
  |mp di fN cD=>
   obtain⟨b,es,rfl,hh,hl,hc,az⟩:=hr
   exact⟨b,es,rfl,hh,(aj b rfl).trans hl,(by grind[bL.fi]),az⟩
  |it m since seen last=>
   obtain⟨b,mo,rfl,hh,hl,hc⟩:=hr
   exact⟨b,mo,rfl,hh,(aj b rfl).trans hl,hc⟩
 have inv: ∀i o,(lj id rows U)[i]? =some o->(i=id/\o= .dead)\/(i≠id/\ ∃o',U[i]? =some o'/\o=uh id rows o'):=λi o h=>by
  unfold lj at h
  rw[B3,Al]at h
  obtain⟨o',h1,rfl⟩:=h
  rcases nD h1 with ⟨rfl,rfl,_⟩|⟨ak,h2⟩
  .exact .inl (by trivial)
  grind
 have an: ∀o x,cI (uh id rows o) x=cI o x:=λo x=>by
  cases o with
  |cc rs s'=>cases x with
   |slice a n cap=>cases a<;>rfl
   |_=>rfl
  |_=>cases x<;>first|rfl|(rename_i q;cases q<;>rfl)
 refine⟨by simp[lj,hm.len],λi o x ho hx=> ?_,λi j o o' x x' b a1 ho hx a6 a7 hb=> ?_,λi o x b ho hx hb=> ?_,λb hb hx=> ?_,hm.le.trans hle,hm.size,hm.os,hm.tape,hm.output,hm.drawn,λb hb=> ?_,hm.ext.trans (ad.trans ae),hm.iY⟩
 .rcases inv i o ho with ⟨_,rfl⟩|⟨ak,o',h2,rfl⟩
  .trivial
  grind
 .rcases inv i o ho with ⟨_,rfl⟩|⟨ak,o1,h2,rfl⟩
  .trivial
  .rcases inv j o' a6 with ⟨_,rfl⟩|⟨aA,o2,h3,rfl⟩
   .simp[cI]
   .rw[an]at hb⊢
    exact hm.apart i j o1 o2 x x' b a1 h2 hx h3 a7 hb
 .rcases inv i o ho with ⟨_,rfl⟩|⟨ak,o1,h2,rfl⟩
  .trivial
  .rw[an]at hb
   exact hm.fy i o1 x b h2 hx hb
 .obtain⟨e1,e2⟩:=hm.same b hb hx
  refine⟨e1, ?_⟩
  rw[ai b λq=> ?_]
  .exact e2
  .rcases hm.fy id _ _ b cv cR q with h|h
   all_goals grind
 .rw[ai b λq=> ?_]
  .exact hm.lim b hb
  .have:=(hm.cO id _ _ cv cR).dY q
   omega
end
variable {c:Ctx}{w:World}{U:St}{cells:List V}{L:Nat->Nat}{I:afG}{off:Nat}
theorem Pc {id s:Nat} (hm:Mem c w L U I) (hs:0<s) (cv:U[id]? =some (.box cells)) (hc:cells[off]? =some (.sl .full [])):
  ∃x,Mem c w L (U.set id (.box (cells.set off (.cJ U.length s 0 0 0)))++ [.cc [] s]) (I++ [x])/\Ext U I (U.set id (.box (cells.set off (.cJ U.length s 0 0 0)))++ [.cc [] s]) (I++ [x]):=by
 have ag:id<U.length:=(by grind)
 obtain⟨x0,cR⟩: ∃x0,I[id]? =some x0:=⟨_,A0 (by rw[hm.len];exact ag)⟩
 obtain⟨b,arr,T,fz,rfl,hh,hf,hl,ab⟩:=hm.cO id _ _ cv cR
 obtain⟨y,hy,ry⟩:=ab.get _ _ hc
 have al:cq w L (.sl .full []) y:=ry
 obtain⟨a,cap,aj,_,cQ⟩:=al.len
 have ad:=cQ rfl
 simp only[D4]at ad aj
 subst ad
 have h1:=hm.lu (s:=s) (a:=a) hs
 have ae:=Ext.push U I hm.len (.cc [] s) (.slice a 0 0)
 have ah:(U++ [Ob.cc [] s])[id]? =some (.box cells):=by grind
 have ai:(I++ [Value.slice a 0 0])[id]? =some (.pointer (some ⟨b,0,none⟩)):=by grind
 have aa:Ext (U++ [Ob.cc [] s]) (I++ [Value.slice a 0 0]) ((U++ [Ob.cc [] s]).set id (.box (cells.set off (.cJ U.length s 0 0 0)))) (I++ [Value.slice a 0 0]):=Ext.jc ah _
 have af:=yE _ _ _ ai
 have key:=h1.dK (w':=w) (L':=L) id (.box (cells.set off (.cJ U.length s 0 0 0))) (.pointer (some ⟨b,0,none⟩)) (Le.refl _ _) (by grind) (λk=>k=b)
  (λj o' x' k hj an ao hk e=>by subst e;exact h1.apart j id o' _ x' _ k hj an ao ah ai hk rfl)
  (λk e=>by subst e;exact h1.fy id _ _ k ah ai rfl)
  sm rfl rfl rfl rfl h1.lim ?_ (λk hk=>by simpa[cI]using hk.symm)
 .rw[af,afv _ _ ag]at key
  rw[afv _ _ ag]at aa
  exact⟨_,key,ae.trans aa⟩
 .rw[af]
  refine⟨b,arr,T,fz,rfl,hh,hf,hl, ?_⟩
  refine bL.of (by rw[List.length_set];exact ab.length) λk p z hp hz=> ?_
  rcases nD hp with ⟨rfl,rfl,_⟩|⟨ar,aq⟩
  .rw[hy]at hz;cases hz
   rw[aj]
   refine⟨a,0,rfl,om,om,.inr ⟨[], ?_,om,λ_=>⟨a,0, ?_,rfl,om,om⟩⟩⟩
   .grind
   .rw[<-hm.len];simp
  .obtain⟨z',ak,rz⟩:=ab.get _ _ aq
   rw[hz]at ak;cases ak
   exact rz.mono (Le.refl _ _) (ae.trans aa)
theorem Wm {id s:Nat} (hm:Mem c w L U I) (hs:0<s) (cv:U[id]? =some (.box cells)) (hc:cells[off]? =some (.sl .full [])):
  ∃x,Mem c w L (U.set id (.box (cells.set off (.sl (.app U.length) [])))++ [.app 0 s]) (I++ [x])/\Ext U I (U.set id (.box (cells.set off (.sl (.app U.length) [])))++ [.app 0 s]) (I++ [x]):=by
 have ag:id<U.length:=(by grind)
 obtain⟨x0,cR⟩: ∃x0,I[id]? =some x0:=⟨_,A0 (by rw[hm.len];exact ag)⟩
 obtain⟨b,arr,T,fz,rfl,hh,hf,hl,ab⟩:=hm.cO id _ _ cv cR
 obtain⟨y,hy,ry⟩:=ab.get _ _ hc
 have al:cq w L (.sl .full []) y:=ry
 obtain⟨a,cap,aj,_,cQ⟩:=al.len
 have ad:=cQ rfl
 simp only[D4]at ad aj
 subst ad
 have h1:=hm.own (n:=0) (a:=a) hs
 have ae:=Ext.push U I hm.len (.app 0 s) (.slice a 0 0)
 have ah:(U++ [Ob.app 0 s])[id]? =some (.box cells):=by grind
 have ai:(I++ [Value.slice a 0 0])[id]? =some (.pointer (some ⟨b,0,none⟩)):=by grind
 have aa:Ext (U++ [Ob.app 0 s]) (I++ [Value.slice a 0 0]) ((U++ [Ob.app 0 s]).set id (.box (cells.set off (.sl (.app U.length) [])))) (I++ [Value.slice a 0 0]):=Ext.jc ah _
 have af:=yE _ _ _ ai
 have key:=h1.dK (w':=w) (L':=L) id (.box (cells.set off (.sl (.app U.length) []))) (.pointer (some ⟨b,0,none⟩)) (Le.refl _ _) (by grind) (λk=>k=b)
  (λj o' x' k hj an ao hk e=>by subst e;exact h1.apart j id o' _ x' _ k hj an ao ah ai hk rfl)
  (λk e=>by subst e;exact h1.fy id _ _ k ah ai rfl)
  sm rfl rfl rfl rfl h1.lim ?_ (λk hk=>by simpa[cI]using hk.symm)
 .rw[af,afv _ _ ag]at key
  rw[afv _ _ ag]at aa
  exact⟨_,key,ae.trans aa⟩
 .rw[af]
  refine⟨b,arr,T,fz,rfl,hh,hf,hl, ?_⟩
  refine bL.of (by rw[List.length_set];exact ab.length) λk p z hp hz=> ?_
  rcases nD hp with ⟨rfl,rfl,_⟩|⟨ar,aq⟩
  .rw[hy]at hz;cases hz
   rw[aj]
   refine⟨.iF .ro a 0 om sm,0,s, ?_,om,λ_=> ?_,sm⟩
   .grind
   .rw[<-hm.len];simp
  .obtain⟨z',ak,rz⟩:=ab.get _ _ aq
   rw[hz]at ak;cases ak
   exact rz.mono (Le.refl _ _) (ae.trans aa)
def zl (cells:List V) (s off n:Nat):List (List V):=(List.range n).map λi=>((cells.drop (off+i*s)).take s).map o9
def uj (id:Nat) (cells:List V):V->V
 | .jB i s off n=>if i=id/\0<s/\off+n*s<=cells.length/\((cells.drop off).take (n*s)).all o8=true then .sl .ro (zl cells s off n)else .jB i s off n
 |v=>v
theorem Wn {s n:Nat} (h:off+n*s<=cells.length):eS s (zl cells s off n):=λr hr=>by
 obtain⟨i,hi,rfl⟩:=Ac.1 hr
 have hi:=Bz.1 hi
 have:(i+1)*s<=n*s:=Af _ hi
 grind
theorem Wo {id:Nat} (hm:Mem c w L U I) (cv:U[id]? =some (.box cells)):
  ∃L',Mem c w L' (U.set id .dead) I/\Le w L w L'/\Ext U I (U.set id .dead) I/\(∀v x,cV w L U I v x->cV w L' (U.set id .dead) I (uj id cells v) x):=by
 have aj:id<U.length:=(by grind)
 obtain⟨x0,cR⟩: ∃x0,I[id]? =some x0:=⟨_,A0 (by rw[hm.len];exact aj)⟩
 obtain⟨b,arr,T,fz,rfl,hh,hf,hl,ae⟩:=hm.cO id _ _ cv cR
 have hle:Le w L w (xE L b cells.length):=by
  refine⟨λk=> ?_,sm⟩
  simp only[xE]
  grind
 have aa:Ext U I (U.set id .dead) I:=by
  refine⟨sm,(by grind),(by grind),(by grind)⟩
  all_goals grind
 have ab: ∀k,k≠b->xE L b cells.length k=L k:=λk h=>afa h
 have inv: ∀i o,(U.set id .dead)[i]? =some o->(i=id/\o= .dead)\/(i≠id/\U[i]? =some o):=(by grind)
 refine⟨xE L b cells.length,⟨by simp[hm.len],λi o x ho hx=> ?_,λi j o o' x x' k ak ho hx al an hb=> ?_,λi o x k ho hx hb=> ?_,λk hb hx=> ?_,hm.le.trans hle,hm.size,hm.os,hm.tape,hm.output,hm.drawn,λk hb=> ?_,hm.ext.trans aa,hm.iY⟩,hle,aa,λv x r=> ?_⟩
 .rcases inv i o ho with ⟨_,rfl⟩|⟨ad,h2⟩
  .trivial
  .exact(hm.cO i o x h2 hx).step hle aa λk hk=>⟨rfl,ab k λe=>by subst e;exact hm.apart i id o _ x _ k ad h2 hx cv cR hk rfl⟩
 .rcases inv i o ho with ⟨_,rfl⟩|⟨ad,h2⟩
  .trivial
  .rcases inv j o' al with ⟨_,rfl⟩|⟨ar,h3⟩
   .simp[cI]
   .exact hm.apart i j o o' x x' k ak h2 hx h3 an hb
 .rcases inv i o ho with ⟨_,rfl⟩|⟨ad,h2⟩
  .trivial
  .exact hm.fy i o x k h2 hx hb
 .obtain⟨e1,e2⟩:=hm.same k hb hx
  refine⟨e1, ?_⟩
  rw[ab k λq=> ?_]
  .exact e2
  .subst q
   rcases hm.fy id _ _ k cv cR rfl with h|h
   all_goals grind
 .rw[ab k λq=> ?_]
  .exact hm.lim k hb
  grind
 .have ao:=r.mono hle aa
  cases v with
  |jB i s off n=>
   simp only[uj]
   split
   .rename_i hc
    obtain⟨rfl,hs,hlen,hp⟩:=hc
    obtain⟨b',af,rfl⟩:=r
    rw[cR]at af;cases af
    have hu:=Wn (s:=s) (off:=off) (n:=n) hlen
    have ag:(zl cells s off n).length=n:=by simp[zl]
    have key:cq w (xE L b cells.length) (.sl .ro (zl cells s off n)) (.slice (some ⟨b,off,none⟩) (zl cells s off n).length n):=by
     refine .of_flat hs hu (by grind[xE]) om sm om λk v hk=> ?_
     have au:k<n*s:=by rw[<-ag,<-yA hu];grind
     have hi:k/s<n:=by simp_all[C2]
     have hj:k%s<s:=Cj _ hs
     have aq:k=k/s*s+k%s:=by grind[Cq]
     rw[aq,yM _ _ hu hj]at hk
     simp only[zl,B3,Cs hi,Ba,Ao,Av,afb hj,Bw,Al]at hk
     obtain⟨v0,ah,rfl⟩:=hk
     have ai:off+k/s*s+k%s=off+k:=om
     rw[ai]at ah
     obtain⟨z,hz,rz⟩:=ae.get _ _ ah
     rw[Am]at hz
     refine⟨z,by simp only[World.cell?,hh];grind,(cN.o9 rz ?_).mono hle⟩
     rw[Ad]at hp
     refine hp _ (Au.2 ⟨k, ?_⟩)
     grind
    rw[ag]at key
    simpa
   omega
  |_=>exact ao
inductive nh:List V->St->List V->St->Prop
 |refl (vs:List V) (U:St):nh vs U vs U
 |step (id s:Nat) (rows:List (List V)) {vs gp:List V} {U U':St} (cv:U[id]? =some (.cc rows s)) (hp:wF rows) (h:nh (vs.map (fB id rows)) (lj id rows U) gp U'):nh vs U gp U'
 |nil (id off s:Nat) (cells:List V) {vs gp:List V} {U U':St} (hs:0<s) (cv:U[id]? =some (.box cells)) (hc:cells[off]? =some (.sl .full [])) (h:nh vs (U.set id (.box (cells.set off (.cJ U.length s 0 0 0)))++ [.cc [] s]) gp U'):nh vs U gp U'
 |box (id:Nat) (cells:List V) {vs gp:List V} {U U':St} (cv:U[id]? =some (.box cells)) (h:nh (vs.map (uj id cells)) (U.set id .dead) gp U'):nh vs U gp U'
 |KK (i s:Nat) {vs gp:List V} {U U':St} (hs:0<s) (hv:vs[i]? =some (.sl .full [])) (h:nh (vs.set i (.cJ U.length s 0 0 0)) (U++ [.cc [] s]) gp U'):nh vs U gp U'
theorem nh.ok {vs gp:List V} {U':St} (h:nh vs U gp U'): ∀{L:Nat->Nat} {I xs:afG},Mem c w L U I->bL (cV w L U I) vs xs->
  ∃L' I',Mem c w L' U' I'/\Le w L w L'/\Ext U I U' I'/\bL (cV w L' U' I') gp xs:=by
 induction h with
 |refl vs U=>grind[Le.refl,Ext.refl]
 |step id s rows cv hp _ ih=>
  intro L I xs hm ha
  obtain⟨h1,h2,h3,h4⟩:=Pb hm cv hp
  obtain⟨L',I',h5,h6,h7,h8⟩:=ih h1 (bL.fi (f:=fB id rows) (λ_ _ q=>h4 _ _ q) ha)
  exact⟨L',I',h5,h2.trans h6,h3.trans h7,h8⟩
 |nil id off s cells hs cv hc _ ih=>
  intro L I xs hm ha
  obtain⟨x,h1,h2⟩:=Pc hm hs cv hc
  obtain⟨L',I',h5,h6,h7,h8⟩:=ih h1 (ha.imp λ_ _ q=>q.mono (Le.refl _ _) h2)
  exact⟨L',I',h5,h6,h2.trans h7,h8⟩
 |box id cells cv _ ih=>
  intro L I xs hm ha
  obtain⟨L1,h1,h2,h3,h4⟩:=Wo hm cv
  obtain⟨L',I',h5,h6,h7,h8⟩:=ih h1 (bL.fi (f:=uj id cells) (λ_ _ q=>h4 _ _ q) ha)
  exact⟨L',I',h5,h2.trans h6,h3.trans h7,h8⟩
 |KK i s hs hv _ ih=>
  rename_i ab ae s0 s1 _
  intro L I xs hm ha
  obtain⟨x,hx,r⟩:=ha.get _ _ hv
  have hr:cq w L (.sl .full []) x:=r
  obtain⟨ad,rfl⟩: ∃ad,x= .slice ad 0 0:=by
   cases hr<;>grind
  have h1:=hm.lu (a:=ad) hs
  have aa:=Ext.push _ _ hm.len (Ob.cc [] s) (.slice ad 0 0)
  have h2:bL (cV w L (s0++ [Ob.cc [] s]) (I++ [.slice ad 0 0])) (ab.set i (.cJ s0.length s 0 0 0)) xs:=by
   refine bL.of (by rw[List.length_set];exact ha.length) λj p y hp hy=> ?_
   rcases nD hp with ⟨rfl,rfl,_⟩|⟨_,hp⟩
   .rw[hx]at hy;cases hy
    exact Fw (w':=w) (L':=L) (s:=s) (rows:= []) (cap:=0) (a0:=ad) hm.len sm om
   .obtain⟨z,hz,rz⟩:=ha.get _ _ hp
    rw[hy]at hz;cases hz
    exact rz.mono (Le.refl _ _) aa
  obtain⟨L',I',h5,h6,h7,h8⟩:=ih h1 h2
  exact⟨L',I',h5,h6,aa.trans h7,h8⟩
def flatK:V->Bool
 | .bool _| .int _ _| .str _| .fq| .u=>true
 | .raw _=>true
 | .sl _ rows=>rows.isEmpty
 |_=>false
def HP:V->Bool
 | .agg cs=>cs.all flatK
 |v=>flatK v
def FA:V->Bool
 | .cm vs=>vs.all HP
 |v=>HP v
section
variable {w w':World} {L L':Nat->Nat} {U U':St} {I I':afG}
variable {x:Value}
theorem Pd {v:V} (h:flatK v) (r:cN w L [] [] v x):cN w' L' U' I' v x:=by
 cases v with
 |sl g rows=>
  have hr:rows= []:=by grind[flatK]
  subst hr
  cases g with
  |app id=>obtain⟨_,n,s,h,_⟩:=r;grind
  |ro=>
   cases r with
   |iF _ a cap hg ha=>exact cq.iF _ _ _ hg ha
   |sl _ _ s b o cap c ha hs hlen e9 cQ hg hc hr=>exact cq.iF _ _ _ om om
  |full=>
   cases r with
   |iF _ a cap hg ha=>exact cq.iF _ _ _ hg ha
   |sl _ _ s b o cap c ha hs hlen e9 cQ hg hc hr=>exact cq.iF _ _ _ hg om
 |bool b=>cases r;exact cq.bool _
 |int k n=>cases r;exact cq.int _ _
 |str s=>cases r;exact cq.str _
 |fq=>cases r;exact cq.fq
 |raw v=>cases r with|raw _ h=>exact cq.raw _ h
 |u=>exact r
 |_=>simp[flatK]at h
theorem Pe {v:V} (h:HP v) (r:dF w L [] [] v x):dF w' L' U' I' v x:=by
 cases v with
 |agg cs=>
  obtain⟨xs,hx,hc⟩:=r
  refine⟨xs,hx, ?_⟩
  clear hx
  simp only[HP]at h
  induction cs generalizing xs with
  |nil=>cases xs<;>simpa
  |cons c cs ih=>cases xs with
   |nil=>simpa
   |cons y ys=>
    simp only[Aq,A6]at h
    exact⟨Pd h.1 hc.1,ih h.2 _ hc.2⟩
 |cm vs=>simpa
 |fn f c=>trivial
 |gy t c=>trivial
 |_=>exact dF.df (Pd (w:=w) (L:=L) h r)
theorem Wp {v:V} (h:FA v) (r:cV w L [] [] v x):cV w' L' U' I' v x:=by
 cases v with
 |cm vs=>
  obtain⟨xs,hx,hc⟩:=r
  refine⟨xs,hx, ?_⟩
  clear hx
  simp only[FA]at h
  induction vs generalizing xs with
  |nil=>cases xs<;>simpa
  |cons c cs ih=>cases xs with
   |nil=>simpa
   |cons y ys=>
    simp only[Aq,A6]at h
    exact⟨Pe h.1 hc.1,ih h.2 _ hc.2⟩
 |u=>trivial
 |_=>exact cV.kG (Pe (w:=w) (L:=L) h r)
end
theorem VC.view {P:Program} {c:Ctx} {f:FuncId} {bU args bZ af:List V} {Uc U1:St} {R:V->St->Prop} {K:V->St->Prop} (hc:bK P f bZ [] R) (hb:wE P f) (hf:nh (args++bU) Uc af U1)
  (aa:bL (cF (cz [] U1.length)) bZ af) (hR: ∀r s,R r s->s= []/\FA r) (hk: ∀r,R r []->K r Uc):VC P c (.fn f bU) args Uc K:=by
 refine⟨f,bU,rfl,.inl ⟨HM hb,λw L Ic ab hm hv=> ?_⟩⟩
 obtain⟨L1,I1,ai,a1,ar,aj⟩:=hf.ok hm hv
 have ak:qX (cz [] U1.length) [] [] U1 I1:=by
  have ao: ∀id,U1.length<=cz [] U1.length id:=λid=>by simp[cz]
  refine⟨λid x hx=> ?_,λid n s hx=> ?_,λid rows s hx=> ?_,λid hx=> ?_⟩
  .have h1:=(A1.1 hx).1;have h2:=ao id;rw[ai.len]at h1;omega
  all_goals
   have h1:=(A1.1 hx).1;have h2:=ao id;omega
 have au:Mem (entry w L1 [] []) w L1 [] []:=
  ⟨rfl,λi o x ho _=>by simp at ho,λi j o o' x x' b _ ho _ _ _ _=>by simp at ho,λi o x b ho _ _=>by simp at ho,λb _ _=>⟨rfl,rfl⟩,Le.refl _ _,A3 _,rfl,rfl,rfl,A3 _,ai.lim,Ext.refl _ _,ai.iY.mono ai.le⟩
 have av:bL (cV w L1 [] []) bZ ab:=by
  clear hf hc hk
  induction bZ generalizing af ab with
  |nil=>cases af with
   |nil=>cases ab with
    |nil=>trivial
    |cons _ _=>exact aj.elim
   |cons _ _=>exact aa.elim
  |cons p bZ ih=>cases af with
   |nil=>exact aa.elim
   |cons q az=>cases ab with
    |nil=>exact aj.elim
    |cons y ys=>
     refine⟨vY ak aa.1 aj.1, ?_⟩
     clear ih
     have key: ∀(bZ az:List V) (ys:afG),bL (cF (cz [] U1.length)) bZ az->bL (cV w L1 U1 I1) az ys->bL (cV w L1 [] []) bZ ys:=by
      intro bZ
      induction bZ with
      |nil=>intro az ys h1 h2;cases az with
       |nil=>cases ys with
        |nil=>trivial
        |cons _ _=>exact h2.elim
       |cons _ _=>exact h1.elim
      |cons p l ih=>intro az ys h1 h2;cases az with
       |nil=>exact h1.elim
       |cons q az=>cases ys with
        |nil=>exact h2.elim
        |cons y ys=>exact⟨vY ak h1.1 h2.1,ih az ys h1.2 h2.2⟩
     exact key _ _ _ aa.2 aj.2
 refine(hc w L1 [] ab au av).mono λe w' ⟨v,r,L2,U',I',he,aq,a6,ad,aw⟩=> ?_
 obtain⟨rfl,al⟩:=hR r U' aq
 have ax:I'= []:=B5 (by rw[ad.len];rfl)
 subst ax
 have ae: ∀b,b<w.heap.size->w'.heap[b]? =w.heap[b]? :=λb hb=>(ad.same b hb (by show b∉sT [] [];simp[sT])).1
 have ay:w.heap.size<=w'.heap.size:=ad.size
 let L3:Nat->Nat:=λb=>if b<w.heap.size then L b else L2 b
 have an: ∀b,b<w.heap.size->L3 b=L b:=λb hb=>afb hb
 have ag:Le w L w' L3:=by
  refine⟨λb=> ?_,λb o ho=> ?_⟩
  .by_cases hb:b<w.heap.size
   .rw[an b hb];exact A3 _
   .rw[hm.lim b om];exact A5 _
  .have hb:b<w.heap.size:=by
    rcases Bo b w.heap.size with hb|hb
    .exact hb
    .rw[hm.lim b hb]at ho;omega
   exact za (ae b hb) o
 refine⟨v,r,L3,Uc,Ic,he,hk r aq, ?_,ag,Ext.refl _ _,Wp al aw⟩
 refine⟨hm.len,λi o x ho hx=>(hm.cO i o x ho hx).step ag (Ext.refl _ _) λb hb=> ?_,hm.apart,hm.fy,λb hb hx=> ?_,hm.le.trans ag,An hm.size ay,ad.os.trans hm.os,ad.tape.trans hm.tape,ad.output.trans hm.output,An hm.drawn ad.drawn,λb hb=> ?_,hm.ext,hm.iY⟩
 .have ah:=(hm.cO i o x ho hx).dY hb
  exact⟨ae b ah,an b ah⟩
 .have ah:=Db hb hm.size
  rw[ae b ah,an b ah]
  exact hm.same b hb hx
 .show(if b<w.heap.size then L b else L2 b)=0
  rw[afa om]
  exact ad.lim b hb
def bX (P:Program) (e:Env) (U:St):Op->R
 | .move x=> .ok (zF e x)
 | .assign x=> .ok (zF e x)
 | .pick x y z=>vC (zF e x) (zF e y) (zF e z)
 | .alloc t=>pa P t U
 | .box _ x=>tX U (zF e x)
 | .build t ps=>vI (wW P t) (fr P t) (ps.toList.map λp=>(p.1,zF e p.2))
 | .buildSlice t n ps=>ub ((dQ P t).map (·.1)) n (ps.toList.map λp=>(p.1,zF e p.2))
 | .load t x=>my P t U (zF e x)
 | .store t x y=>tW P t U (zF e x) (zF e y)
 | .nilCheck x=>vD (zF e x)
 | .binOp op t x y _=>if oI y=true then tU op (jD P t) (zF e x)else if p9 y=true then vU op (mA P t) (zF e x)else na op (jD P t) (mu P t) (zF e x) (zF e y)
 | .unOp op _ x=>mw op (zF e x)
 | .convert t t' x=>uc (jd P t) (jd P t') (zF e x)
 | .slice t x lo hi none=>qV (gT P t) (de P t) ((dQ P t).map (·.1)) (zF e x) (lo.map (zF e)) (hi.map (zF e))
 | .slice t x (some lo) (some hi) (some mx)=>vK ((dQ P t).map (·.1)) (zF e x) (zF e lo) (zF e hi) (zF e mx)
 | .fieldAddr t x f=>vF P t (zF e x) f
 | .field t x f=>vL (cA P t f) (zF e x)
 | .indexAddr t x i=>tY (eL P t) (gT P t) (zF e x) (zF e i)
 | .index t x i=>tZ (zF e x) (zF e i) (pb P t) (gT P t)
 | .extract x i=>vE (zF e x) i
 | .makeFunc fn first bU=>vM fn first.size (bU.toList.map (zF e))
 | .makeSlice t l m=>ud (dQ P t) (iG P t) U (zF e l) (zF e m)
 | .call ⟨.builtin .len,⟨[x]⟩,⟨[t]⟩⟩=>vH (de P t) (zF e x)
 | .call ⟨.builtin .append,⟨[x,y]⟩,⟨[t,t']⟩⟩=>yS (dQ P t) (de P t') U (zF e x) (zF e y)
 | .call ⟨.builtin .clear,⟨[x]⟩,⟨[t]⟩⟩=>uf ((dQ P t).map (·.1)) (iG P t) U (zF e x)
 | .call ⟨.builtin .min,⟨xs⟩,_⟩=>pc false (xs.map (zF e))
 | .call ⟨.builtin .max,⟨xs⟩,_⟩=>pc true (xs.map (zF e))
 | .call ⟨.builtin .delete,⟨[x,k]⟩,⟨[t,_]⟩⟩=>vT (fP P t) U (zF e x) (zF e k)
 | .makeMap t r=>vR U (mA P t) (r.map (zF e))
 | .lookup t x k ok=>xV (fP P t) U (zF e x) (zF e k) ok
 | .mapUpdate t x k v=>xP (fP P t) U (zF e x) (zF e k) (zF e v)
 | .insert t x k v=>xP (fP P t) U (zF e x) (zF e k) (zF e v)
 | .mapEntry t x k=>wA (fP P t) U (zF e x) (zF e k)
 | .entryStore _ x s v=>xL U (zF e x) (zF e s) (zF e v)
 | .range t x=>vV (mA P t) U (zF e x)
 | .entry x=>pg U (zF e x)
 | .makeInterface t x=>vX (CY P t) t (zF e x)
 | .next x false=>mB false U (zF e x)
 |_=> .fail
def gE (P:Program) (e:Env) (U:St):Op->R
 | .buildSlice t n ps=>ug ((dQ P t).map (·.1)) n U (ps.toList.map λp=>(p.1,zF e p.2))
 | .makeSlice t l m=>ue (dQ P t) (iG P t) U (zF e l) (zF e m)
 | .convert t t' x=>vN (jd P t) (jd P t') U (zF e x)
 | .slice t x (some lo) none none=>vJ (de P t) ((dQ P t).map (·.1)) U (zF e x) (zF e lo)
 | .call ⟨.builtin .append,⟨[x,y]⟩,⟨[t,t']⟩⟩=>qT (dQ P t) (de P t') U (zF e x) (zF e y)
 | .next x false=>mB true U (zF e x)
 |op=>bX P e U op
def wP (e:Env) (d:Option Tmp):Bool:=match d with|some t=>(match e (100000+t)with| .cm []=>true|_=>false)|none=>false
def xB (P:Program) (d:Option Tmp) (e:Env) (U:St) (op:Op):R:=if wP e d=true then gE P e U op else bX P e U op
section
variable {P:Program} {c:Ctx} {nt:Nat} {e:Env} {U:St} {a:Act} {w:World} {L:Nat->Nat} {I:afG}
theorem Pf (o:Oper) (h:dp c nt e U a w L I):fh (bX P e U o.op) U (bO P c o a w L U I):=by
 obtain⟨dst,op,ty,pos,dG,g⟩:=o
 show fh (bX P e U op) U _
 unfold bX
 split
 .grind[Vc]
 .grind[Vd]
 .grind[Vb]
 .grind[Vv]
 .grind[Vu]
 .grind[VH]
 .grind[VG]
 .grind[Vs]
 .grind[Vt]
 .grind[Ve]
 .grind[Vl,Wb,Vj]
 .grind[Vm]
 .grind[VQ]
 .grind[VL]
 .grind[VN]
 .grind[Vo]
 .grind[VR]
 .grind[Vy]
 .grind[VA]
 .grind[Vn]
 .grind[VT]
 .grind[VU]
 .grind[VB]
 .grind[VD]
 .grind[VY]
 .grind[OI]
 .grind[OI]
 .grind[Wa]
 .grind[V5]
 .grind[V6]
 .grind[V7]
 .grind[V8]
 .grind[Wf]
 .grind[Wg]
 .grind[Wc]
 .grind[Wh]
 .grind[Wi]
 .grind[O8]
 .trivial
theorem Wq (o:Oper) (h:dp c nt e U a w L I):fh (xB P o.dst e U o.op) U (bO P c o a w L U I):=by
 unfold xB
 split
 .obtain⟨dst,op,ty,pos,dG,g⟩:=o
  show fh (gE P e U op) U _
  unfold gE
  split
  .grind[VZ]
  .grind[VV]
  .grind[V0]
  .grind[VM]
  .grind[VE]
  .grind[O8]
  .exact Pf ⟨dst,op,ty,pos,dG,g⟩ h
 grind[Pf]
def eC (nt:Nat) (d:Option Tmp) (v:V) (K:Env->St->Prop) (e:Env) (U:St):Prop:=
 match d with
 |some t=>t<nt/\K (dK e t v) U
 |none=>K e U
def HQ (p q:Prop):Prop:=p/\q
def ly (nt:Nat) (d:Option Tmp) (r:R) (K:Env->St->Prop) (e:Env) (U:St):Prop:=
 match r with
 | .fail=>False
 | .ok v=>eC nt d v K e U
 | .dW p v=>HQ p (eC nt d v K e U)
 | .st v U'=>eC nt d v K e U'
 | .cE p v U'=>HQ p (eC nt d v K e U')
 | .all f=> ∀b,eC nt d (f b) K e U
 | .any l=> ∀p∈l,eC nt d p.1 K e p.2
def ik (P:Program) (c:Ctx) (nt:Nat) (d:Option Tmp) (op:Op) (K:Env->St->Prop) (e:Env) (U:St):Prop:=
 match op with
 | .call ⟨.value f,args,_⟩=>VC P c (zF e f) (args.toList.map (zF e)) U (λv U'=>eC nt d v K e U')
 |op=>ly nt d (xB P d e U op) K e U
def jZ (x:V) (want:Bool) (A B:Prop):Prop:=
 match x with
 | .bool b=>(b=want->A)/\(b≠want->B)
 | .cm []=>B
 |_=>False
def jF (ops:List Oper) (j:Nat):Option Tmp:=(ops[j]?).bind (·.dst)
def rb (g:Option (Nat×Bool)) (ops:List Oper) (e:Env) (A B:Prop):Prop:=
 match g with
 |none=>A
 |some (j,want)=>(match jF ops j with|some t=>jZ (e t) want A B|none=>False)
def jG (P:Program) (c:Ctx) (nt:Nat) (ops:List Oper):List Oper->(Env->St->Prop)->Env->St->Prop
 | [],K,e,U=>K e U
 |o::rest,K,e,U=>rb o.guard ops e (ik P c nt o.dst o.op (jG P c nt ops rest K) e U) (eC nt o.dst (.cm []) (jG P c nt ops rest K) e U)
theorem dp.put (h:dp c nt e U a w L I) {w':World} {L':Nat->Nat} {U':St} {I':afG} {v:V} {x:Value} (hm:Mem c w' L' U' I') (hle:Le w L w' L') (aa:Ext U I U' I') (r:cV w' L' U' I' v x) (d:Option Tmp) (hd: ∀t,d=some t->t<nt):
  dp c nt (match d with|some t=>dK e t v|none=>e) U' (a.put d x) w' L' I':=by
 cases d with
 |none=>exact⟨hm,h.size,h.defs,λt=>(h.env t).mono hle aa⟩
 |some d=>
  refine⟨hm,by simp[Act.put,h.size],by simp[Act.put,h.defs],λt=> ?_⟩
  have ab:=hd d rfl
  simp only[dK,Act.put]
  by_cases ht:t=d
  .subst ht
   rw[afb rfl]
   have:(a.tmps.setIfInBounds t x).getD t undef=x:=by
    simp[Array.getD,h.size,ab]
   grind
  .rw[afa ht]
   have:(a.tmps.setIfInBounds d x).getD t undef=a.tmps.getD t undef:=by
    have ad: ¬d=t:=(by grind)
    simp_all
   rw[this];exact(h.env t).mono hle aa
def dH (c:Ctx) (nt:Nat) (Q:Exit->Env->St->Prop):Exit->Act->World->Prop
 | .panic _,_,_| .outgrown,_,_| .goto _,_,_=>False
 |x,a,w=> ∃e U L I,dp c nt e U a w L I/\Q x e U
def VW (P:Program) (c:Ctx) (nt:Nat) (code:Code) (Q:Exit->Env->St->Prop) (e:Env) (U:St):Prop:=
 ∀a w L I,dp c nt e U a w L I->code.wp P (dH c nt Q) a w
theorem DB (h:dp c nt e U a w L I) {w':World} {L':Nat->Nat} {U':St} {I':afG} {v:V} {x:Value} (hm:Mem c w' L' U' I') (hle:Le w L w' L') (aa:Ext U I U' I') (r:cV w' L' U' I' v x) {d:Option Tmp} {K:Env->St->Prop} (hK:eC nt d v K e U'):
  ∃e',dp c nt e' U' (a.put d x) w' L' I'/\K e' U':=by
 cases d with
 |none=>exact⟨e,h.put hm hle aa r none sm,hK⟩
 |some t=>exact⟨dK e t v,h.put hm hle aa r (some t) (λt' q=>by cases q;exact hK.1),hK.2⟩
theorem HR (o:Oper) {K:Env->St->Prop} {next:Act->World->Prop} {Q:Exit->Act->World->Prop} (h:dp c nt e U a w L I) (hK:ik P c nt o.dst o.op K e U)
  (hn: ∀e' U' a' w' L' I',dp c nt e' U' a' w' L' I'->K e' U'->next a' w'):o.wp P a w next Q:=by
 have fin: ∀{r:R},fh r U (bO P c o a w L U I)->ly nt o.dst r K e U->o.wp P a w next Q:=by
  intro r hr hv
  have done: ∀{v U'},bO P c o a w L U I v U'->eC nt o.dst v K e U'->o.wp P a w next Q:=by
   rintro v U' ⟨x,w',L',I',lz,hm,hle,rh,zm⟩ hp
   obtain⟨e',hs,hk⟩:=DB h hm hle rh zm hp
   unfold Oper.wp
   rcases lz with lz|⟨lz,rfl⟩
   .rw[lz];exact hn _ _ _ _ _ _ hs hk
   .rw[lz];exact hn _ _ _ _ _ _ hs hk
  cases r with
  |fail=>exact hv.elim
  |ok v=>exact done hr hv
  |dW p v=>exact done (hr hv.1) hv.2
  |st v U'=>exact done hr hv
  |cE p v U'=>exact done (hr hv.1) hv.2
  |all f=>obtain⟨b,hr⟩:=hr;exact done hr (hv b)
  |any l=>obtain⟨p,hp,hr⟩:=hr;exact done hr (hv p hp)
 unfold ik at hK
 split at hK
 .rename_i f args ts HS
  obtain⟨Pg,bU,hf,hK⟩:=hK
  have Ph:=h.eval f
  rw[hf]at Ph
  obtain⟨xs,hx,FB⟩:=Ph
  have vZ:bL (cV w L U I) (args.toList.map (zF e)++bU) (args.toList.map a.eval++xs):=by
   refine bL.append ?_ (FB.imp λp q r=> ?_)
   .generalize args.toList=l
    induction l with
    |nil=>trivial
    |cons p l ih=>exact⟨h.eval p,ih⟩
   .exact cV.df (by cases p<;>first|exact r|exact r.elim)
  rcases hK with ⟨⟨fn,KL,ri,rj⟩,mC⟩|mC
  .have lz:(execOp a.eval o).run P w= .ok (.enter Pg (args.toList.map a.eval++xs).toArray) w:=by
    obtain⟨dst,op,ty,pos,dG,g⟩:=o
    simp only at HS
    subst HS
    have KM: ¬fn.body=none:=by intro q;simp[q]at rj
    have FC: ¬fn.name= "runtime.NumGoroutine" :=sU ri
    have FD:(Array.map a.eval args++xs.toArray)=(args.toList.map a.eval++xs).toArray:=by
     apply Array.ext';simp
    simp[execOp,resolve,hx,Deferred.ofValue,invoke,callFunc,KL,FC,KM,FD]
   unfold Oper.wp
   rw[lz]
   show Calls P Pg _ w _
   refine(mC w L I _ h.mem vZ).mono ?_
   rintro en w' ⟨v,r,L',U',I',rfl,hp,hm,hle,rh,zm⟩
   obtain⟨e',hs,hk⟩:=DB h hm hle rh zm hp
   exact hn _ _ _ _ _ _ hs hk
  .obtain⟨v,r,w',L',U',I',Ws,hp,hm,hle,rh,zm⟩:=mC w L I _ h.mem vZ
   have lz:(execOp a.eval o).run P w= .ok (.value v) w':=by
    obtain⟨dst,op,ty,pos,dG,g⟩:=o
    simp only at HS
    subst HS
    have FD:(Array.map a.eval args++xs.toArray)=(args.toList.map a.eval++xs).toArray:=by
     apply Array.ext';simp
    simp[execOp,resolve,hx,Deferred.ofValue,invoke,FD,Ws]
   obtain⟨e',hs,hk⟩:=DB h hm hle rh zm hp
   unfold Oper.wp
   rw[lz]
   exact hn _ _ _ _ _ _ hs hk
 .exact fin (Wq o h) hK
theorem Pj {ops:List Oper} {j:Nat} {t:Tmp} (ht:jF ops j=some t) (hv:cV w L U I (.cm []) (a.tmps.getD t undef)):yielded ops.toArray a.tmps j=none:=by
 obtain⟨xs,hx,ab⟩:=hv
 have ad:xs= []:=by
  cases xs with
  |nil=>rfl
  |cons x xs=>exact ab.elim
 subst ad
 unfold yielded
 unfold jF at ht
 have ae:(ops.toArray[j]?).bind (·.dst)=some t:=sU ht
 rw[ae]
 simp only[Ao]
 by_cases aa:t<a.tmps.size
 .rw[As aa]
  simp[Array.getD,aa]at hx
  rw[hx]
 .rw[Array.getElem?_eq_none (Nat.le_of_not_lt aa)]
theorem KN {ops:List Oper} {Q:Exit->Act->World->Prop}: ∀(l:List Oper) (K:Env->St->Prop) (e:Env) (U:St) (a:Act) (w:World) (L:Nat->Nat) (I:afG),dp c nt e U a w L I->jG P c nt ops l K e U->
  (∀e' U' a' w' L' I',dp c nt e' U' a' w' L' I'->K e' U'->Q .normal a' w')->wpList P ops.toArray Q l a w
 | [],K,e,U,a,w,L,I,h,hK,hn=>hn _ _ _ _ _ _ h hK
 |o::rest,K,e,U,a,w,L,I,h,hK,hn=>by
  have ih:=KN (ops:=ops) (Q:=Q) rest K
  have yes:ik P c nt o.dst o.op (jG P c nt ops rest K) e U->o.wp P a w (wpList P ops.toArray Q rest) Q\/(o.asks P a w/\LetsOut Q):=λhv=>
   .inl (HR o h hv λe' U' a' w' L' I' hs hk=>ih e' U' a' w' L' I' hs hk hn)
  have no:eC nt o.dst (.cm []) (jG P c nt ops rest K) e U->wpList P ops.toArray Q rest (a.put o.dst undef) w:=λhv=>by
   obtain⟨e',hs,hk⟩:=DB h h.mem (Le.refl _ _) (Ext.refl _ _) (show cV w L U I (.cm []) undef from⟨[],rfl,tV⟩) hv
   exact ih e' U _ _ _ _ hs hk hn
  unfold jG at hK
  unfold wpList
  unfold rb at hK
  split at hK
  .rename_i hg
   rw[afb (by simp[Region.wanted,hg])]
   exact yes hK
  .rename_i j want hg
   split at hK
   .rename_i t ht
    have hv:=h.env t
    unfold jZ at hK
    split at hK
    .rename_i b hb
     rw[hb]at hv
     have hv:=oH hv
     have hy:yielded ops.toArray a.tmps j=some b:=by
      unfold yielded
      unfold jF at ht
      have ad:(ops.toArray[j]?).bind (·.dst)=some t:=sU ht
      rw[ad]
      simp only[Ao]
      have ab:t<a.tmps.size:=by
       rcases Bo t a.tmps.size with q|q
       .exact q
       .simp[Array.getD,Nat.not_lt.2 q,undef]at hv
      rw[As ab]
      simp[Array.getD,ab]at hv
      rw[hv]
     by_cases aa:b=want
     .rw[afb (by simp[Region.wanted,hg,hy,aa])]
      exact yes (hK.1 aa)
     .rw[afa (by simp[Region.wanted,hg,hy,aa])]
      exact no (hK.2 aa)
    .rename_i hb
     rw[hb]at hv
     rw[afa (by simp[Region.wanted,hg,Pj ht hv])]
     exact no hK
    .exact hK.elim
   .exact hK.elim
def FE (x:V) (A B:Prop):Prop:=
 match x with
 | .bool b=>(b=true->A)/\(b=false->B)
 |_=>False
def KO (K:Env->St->Prop) (Q:Exit->Env->St->Prop):Exit->Env->St->Prop
 | .normal,e,U=>K e U
 |x,e,U=>Q x e U
def zn (id:Nat) (Q:Exit->Env->St->Prop):Exit->Env->St->Prop
 | .exit rk,e,U=>if rk=id then Q .normal e U else Q (.exit rk) e U
 |x,e,U=>Q x e U
def pj (P:Program) (c:Ctx) (nt:Nat):Code->(Exit->Env->St->Prop)->Env->St->Prop
 | .skip,Q,e,U=>Q .normal e U
 | .seq x y,Q,e,U=>pj P c nt x (KO (pj P c nt y Q) Q) e U
 | .cond x t f,Q,e,U=>FE (zF e x) (pj P c nt t Q e U) (pj P c nt f Q e U)
 | .block id b,Q,e,U=>pj P c nt b (zn id Q) e U
 | .exit id,Q,e,U=>Q (.exit id) e U
 | .ret,Q,e,U=>Q .ret e U
 | .label _,Q,e,U=>Q .normal e U
 | .region id ops draw,Q,e,U=>if draw then VW P c nt (.region id ops true) Q e U else jG P c nt ops.toList ops.toList (Q .normal) e U
 | .loop b,Q,e,U=>VW P c nt (.loop b) Q e U
 |_,_,_,_=>False
theorem qh: ∀(code:Code) (Q:Exit->Env->St->Prop) (e:Env) (U:St),pj P c nt code Q e U->VW P c nt code Q e U
 | .skip,Q,e,U,h=>λa w L I hs=>wp_skip ⟨e,U,L,I,hs,h⟩
 | .seq x y,Q,e,U,h=>λa w L I hs=>by
  refine wp_seq (wp_mono (qh x _ e U h a w L I hs) λex a' w' q=> ?_)
  cases ex with
  |normal=>obtain⟨e',U',L',I',aa,hq⟩:=q;exact qh y Q e' U' hq a' w' L' I' aa
  |exit id=>exact q
  |goto l=>exact q
  |ret=>exact q
  |panic ch=>exact q
  |outgrown=>exact q
 | .cond x t f,Q,e,U,h=>λa w L I hs=>by
  unfold pj FE at h
  split at h
  .rename_i b hb
   have hv:=hs.eval x
   rw[hb]at hv
   exact wp_cond_split (oH hv) (λad=>qh t Q e U (h.1 ad) a w L I hs) (λae=>qh f Q e U (h.2 ae) a w L I hs)
  .exact h.elim
 | .block id b,Q,e,U,h=>λa w L I hs=>by
  refine wp_block (wp_mono (qh b _ e U h a w L I hs) λex a' w' q=> ?_)
  cases ex with
  |exit ab=>
   obtain⟨e',U',L',I',aa,hq⟩:=q
   change (if ab=id then Q .normal e' U' else Q (.exit ab) e' U')at hq
   change (if ab=id then dH c nt Q .normal a' w' else dH c nt Q (.exit ab) a' w')
   split
   .rename_i hid
    rw[afb hid]at hq
    exact⟨e',U',L',I',aa,hq⟩
   .rename_i hid
    rw[afa hid]at hq
    exact⟨e',U',L',I',aa,hq⟩
  |normal=>exact q
  |goto l=>exact q
  |ret=>exact q
  |panic ch=>exact q
  |outgrown=>exact q
 | .exit id,Q,e,U,h=>λa w L I hs=>wp_exit ⟨e,U,L,I,hs,h⟩
 | .ret,Q,e,U,h=>λa w L I hs=>wp_ret ⟨e,U,L,I,hs,h⟩
 | .label _,Q,e,U,h=>λa w L I hs=>wp_label ⟨e,U,L,I,hs,h⟩
 | .region id ops draw,Q,e,U,h=>λa w L I hs=>by
  unfold pj at h
  cases draw with
  |true=>exact h a w L I hs
  |false=>
   refine wp_region_list (ops:=ops) ?_
   have:=KN (P:=P) (ops:=ops.toList) (Q:=dH c nt Q) ops.toList (Q .normal) e U a w L I hs (sU h) λe' U' a' w' L' I' aa hk=>⟨e',U',L',I',aa,hk⟩
   simpa using this
 | .loop b,Q,e,U,h=>h
 | .rangeFunc _ _ _ _,_,_,_,h=>h.elim
 | .scope _,_,_,_,h=>h.elim
 | .goto _,_,_,_,h=>h.elim
 | .refuse _,_,_,_,h=>h.elim
end
end Go.Vx
