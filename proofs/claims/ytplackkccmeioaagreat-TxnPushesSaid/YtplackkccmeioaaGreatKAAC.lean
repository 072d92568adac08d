/-
  The code of a function at the level of trees: operations one behind the other, branches, blocks, loops, the call itself.
  No condition: a library text; nothing of the program is named.
-/
import Derived.Test.YtplackkccmeioaaGreatKAAB
import Derived.Maps.RangeRun
set_option maxHeartbeats 8000000
namespace Go.Vx
open Go
theorem Ext.iq {I:St} {J:aiC} {i:Nat} {o0:Ob} (hi:I[i]? =some o0) (h1: ∀n s,o0≠ .app n s) (h2: ∀r s,o0≠ .cd r s) (h3:o0≠ .dead) (o:Ob):Ext I J (I.set i o) J:=by
 refine⟨sm,(by grind),(by grind),(by grind)⟩
 all_goals grind
section
variable {c:Ctx} {w:World} {L:Nat->Nat} {I:St} {J:aiC}
theorem Mem.sL (h:Mem c w L I J) (ob:Go.Obj) (o:Ob)
  (ho:Le w L (w.alloc ob) L->Ext I J (I++ [o]) (J++ [.pointer (some ⟨w.heap.size,0,none⟩)])->gX (w.alloc ob) L (I++ [o]) (J++ [.pointer (some ⟨w.heap.size,0,none⟩)]) o (.pointer (some ⟨w.heap.size,0,none⟩)))
  (hex: ∀b,dd o (.pointer (some ⟨w.heap.size,0,none⟩))=some b->b=w.heap.size):
  Mem c (w.alloc ob) L (I++ [o]) (J++ [.pointer (some ⟨w.heap.size,0,none⟩)])/\Le w L (w.alloc ob) L:=by
 have h1:=h.alloc ob 0
 rw[IU h]at h1
 refine⟨h1.1.push _ _ (ho h1.2 (Ext.push I J h.len _ _)) ?_ ?_,h1.2⟩
 .intro i o' x' b hi hx hb e
  have h2:=(h.di i o' x' hi hx).eO hb
  grind
 .intro b hb
  rw[hex b hb]
  exact .inl h.size
theorem Mem.jU (h:Mem c w L I J) {i b:Nat} {o0 o:Ob} (hi:I[i]? =some o0) (dh:J[i]? =some (.pointer (some ⟨b,0,none⟩))) (aa:dd o0 (.pointer (some ⟨b,0,none⟩))=some b) (h0:L b=0)
  (ob:Go.Obj) (ae:Ext I J (I.set i o) J) (hex: ∀k,dd o (.pointer (some ⟨b,0,none⟩))=some k->k=b)
  (db:Le w L (yC w b ob) L->gX (yC w b ob) L (I.set i o) J o (.pointer (some ⟨b,0,none⟩))):
  Mem c (yC w b ob) L (I.set i o) J/\Le w L (yC w b ob) L:=by
 have hle:Le w L (yC w b ob) L:=by
  refine⟨om,λk o ho=>BH (uz w b k _ λq=> ?_) o⟩
  grind
 refine⟨?_,hle⟩
 have af:=yN J i _ dh
 have key:=h.fu (w':=yC w b ob) (L':=L) i o (.pointer (some ⟨b,0,none⟩)) hle (by grind) (λk=>k=b)
  (λj o' x' k hj ab ad hk e=>by subst e;exact h.apart j i o' _ x' _ k hj ab ad hi dh hk aa)
  (λk e=>by subst e;exact h.fY i _ _ k hi dh aa)
  (λk hk=>⟨uz w b k _ hk,rfl⟩) (by simp[yC]) rfl rfl rfl h.lim (by grind) om
 grind
end
theorem bP.ng {U J:Type} {R:U->J->Prop}: ∀{l:List U} {m:List J} {b:J},bP R l m->b∈m-> ∃a∈l,R a b
 |a::l,b'::m,b,h,hb=>by
  rcases Ae.1 hb with rfl|hb
  .exact⟨a,sm,h.1⟩
  .obtain⟨a',ha,r⟩:=bP.ng h.2 hb
   grind
 | [],[],_,_,hb=>by grind
 | [],_::_,_,h,_=>h.elim
 |_::_,[],_,h,_=>h.elim
section
variable {P:Program} {c:Ctx} {nt:Nat} {e:Env} {I:St} {a:Act} {w:World} {L:Nat->Nat} {J:aiC} {o:Oper}
variable {x:Value}{dst:Option Tmp}{ty:TypeId}{dY:Array Edge}{g:Option (Nat×Bool)}{p:V}{kt:TypeId}{t:TypeId}{y:Value}{k:Pk}{dL:List V}
theorem EM {v:V} (r:dz w L I J v x) (h:na v):dX w L I J v x:=by
 cases v<;>first|exact r|simp[na]at h
def jI:TypeDesc->Option Pk
 | .bool=>some .b
 | .int k=>some (.i k)
 | .string=>some .s
 |_=>none
inductive Kk where
 |one (k:Pk)
 |st (ks:List Pk)
def EN (P:Program):Nat->List Field->Option (List Pk)
 |_,[]=>some []
 |i,f::fs=>if f.name≠ "_" /\f.offset=i/\cQ P f.type=some false then((P.underlying f.type).bind jI).bind λk=>(EN P (i+1) fs).map (k:: ·)else none
def yl (P:Program) (kt:TypeId):Option Kk:=
 match P.underlying kt with
 |some (.struct fs)=>(EN P 0 fs.toList).bind λks=>if vE P 10 kt=some ks then some (.st ks)else none
 |some d=>(jI d).map .one
 |none=>none
def I8 (P:Program) (t:TypeId):Option V:=
 match (P.info? t).bind (·.zero)with
 |some (.agg cs)=>if cs.all (·.oneCell')=true then some (.agg (cs.toList.map jj))else none
 |some v=>if v.oneCell'=true then some (jj v)else none
 |none=>none
def gF (P:Program) (t:TypeId):Option (Kk×V):=
 match P.underlying t with
 |some (.map kt et)=>(yl P kt).bind λk=>(I8 P et).map λz=>(k,z)
 |_=>none
theorem Yi {z:V} (h:I8 P t=some z): ∃i zv,P.info? t=some i/\i.zero=some zv/\na z=true/\ ∀(w:World) L I J,dX w L I J z zv:=by
 unfold I8 at h
 cases hi:P.info? t with
 |none=>grind
 |some i=>
  cases hz:i.zero with
  |none=>grind
  |some zv=>
   simp only[hi,hz,Ay]at h
   refine⟨i,zv,rfl,hz, ?_⟩
   split at h
   .rename_i cs aa
    cases aa
    split at h
    .rename_i ha
     simp only[ai5]at h
     subst h
     refine⟨rfl,λw L I J=>⟨cs.toList,sm,(L6 λv hv=> ?_).imp λ_ _=>df.dv⟩⟩
     exact Cg.1 ha v (by grind)
    grind
   .rename_i v ab hv
    cases hv
    split at h
    .rename_i h1
     simp only[ai5]at h
     subst h
     have hc:x8 (jj zv):=(GG (w:=default) (L:=λ_=>0) zv h1).2
     refine⟨?_,(by grind[dX.dI,df.dv,GG])⟩
     revert hc
     generalize jj zv=q0
     cases q0<;>simp[x8,na]
    grind
   grind
theorem GS {k:Kk} {z:V} (h:gF P t=some (k,z)): ∃kt et i zv,P.underlying t=some (.map kt et)/\yl P kt=some k/\P.info? et=some i/\i.zero=some zv/\na z=true/\ ∀(w:World) L I J,dX w L I J z zv:=by
 unfold gF at h
 split at h
 .rename_i kt et hu
  cases hk:yl P kt with
  |none=>grind
  |some k'=>
   cases hz:I8 P et with
   |none=>grind
   |some z'=>
    simp only[hk,hz,Ay,Ba,ai5,aic]at h
    obtain⟨rfl,rfl⟩:=h
    grind[Yi]
 grind
def lU:Pk->V->Bool
 | .b,.bool _=>true
 | .i k,.int k' _=>decide (k'=k)
 | .s,.str _=>true
 |_,_=>false
def lv:List Pk->List V->Bool
 | [],[]=>true
 |k::ks,v::vs=>lU k v&&lv ks vs
 |_,_=>false
def mT:Kk->V->Bool
 | .one k,v=>lU k v
 | .st ks,.agg vs=>lv ks vs
 |_,_=>false
theorem ym {d:TypeDesc} {v:V} (hk:jI d=some k) (h:lU k v) (r:dz w L I J v x):MapKept.IsKey d x:=by
 cases k<;>cases v<;>simp[lU]at h
 .rw[pQ r];cases d<;>simp[jI]at hk<;>trivial
 .rw[yO r];cases d<;>simp[jI]at hk;subst hk;exact h
 .rw[lk r];cases d<;>simp[jI]at hk<;>trivial
theorem Qg (em:Bool) (xs:aiC) (w:World): ∀(fs:List Field) (i:Nat) (ks:List Pk) (vs:List V),EN P i fs=some ks->lv ks vs=true->bP (df w L I J) vs (xs.drop i)->
  ∀f∈fs,f.name≠ "_" /\ ∃x,(part f.type xs.toArray f.offset).run P w= .ok x w/\(Instr.checkKey em 9999 f.type x).run P w= .ok () w
 | [],_,_,_,_,_,_,_,hf=>by cases hf
 |f::fs,i,ks,vs,h,Mc,ha,f',Md=>by
  unfold EN at h
  split at h
  .rename_i hc
   obtain⟨h1,h2,h3⟩:=hc
   cases hu:P.underlying f.type with
   |none=>grind
   |some d=>
    cases hk:jI d with
    |none=>grind
    |some k=>
     simp only[hu,hk,Ay,Aw]at h
     obtain⟨Yj,h4,rfl⟩:=h
     cases vs with
     |nil=>trivial
     |cons v vs=>
      simp only[lv,Ac]at Mc
      have hlen:=ha.length
      have Qh:i<xs.length:=by grind
      rw[A5 Qh]at ha
      rcases Ae.1 Md with rfl|Md
      .have hp:(part f'.type xs.toArray f'.offset).run P w= .ok xs[i] w:=by
        simp_all[part,uA]
       exact⟨h1,_,hp,MapKept.run_checkKey (P:=P) (w:=w) hu (ym hk Mc.1 (dz.dI ha.1)) em 9998⟩
      .exact Qg em xs w fs (i+1) Yj vs h4 Mc.2 ha.2 f' Md
  grind
theorem GU {kk:Kk} (hk:yl P kt=some kk) (aa:mT kk p) (hx:dz w L I J p x) (em:Bool):(Instr.checkKey em 10000 kt x).run P w= .ok () w:=by
 unfold yl at hk
 split at hk
 .rename_i fs hu
  cases hf:EN P 0 fs.toList with
  |none=>grind
  |some ks=>
   simp only[hf,Ay]at hk
   split at hk
   .simp only[ai5]at hk
    subst hk
    cases p<;>simp[mT]at aa
    obtain⟨xs,rfl,ha⟩:=hx
    have each:=Qg (P:=P) em xs w fs.toList 0 ks _ hf aa ha
    rw[show(10000:Nat)=9999+1 from rfl,Instr.checkKey]
    simp only[Sem.run_bind,run_underlying hu,Result.andThen_ok]
    rw[<-Array.forIn_toList]
    clear hf hu
    generalize fs.toList=M at each
    induction M with
    |nil=>simp
    |cons f M ih=>
     obtain⟨hn,x,p1,p2⟩:=each f sm
     simp_all
   grind
 .rename_i d ab hu
  cases hd:jI d with
  |none=>grind
  |some k=>
   simp only[hd,Ba,ai5]at hk
   subst hk
   exact MapKept.run_checkKey hu (ym hd aa hx) em 9999
 grind
def kG:Kk->V->V->Option Bool
 | .one k,x,y=>jH k x y
 | .st ks,.agg x,.agg y=>lq ks x y
 |_,_,_=>none
def oo (k:Kk) (x:V):List V->Nat->Option (Option (Nat×V))
 |kk::vv::rest,i=>(match kG k x kk with
  |some true=>some (some (i,vv))
  |some false=>oo k x rest (i+1)
  |none=>none)
 | [],_=>some none
 | [_],_=>none
theorem Qi {d:TypeDesc} {v:V} {r:Bool} (hk:jI d=some k) (hx:dz w L I J p x) (hy:dz w L I J v y) (h:jH k p v=some r):Instr.sameNow d x y=some r:=by
 cases k
 .cases p<;>cases v<;>simp[jH]at h
  subst h
  rw[pQ hx,pQ hy]
  cases d<;>simp[jI]at hk
  rfl
 .cases p<;>cases v<;>simp[jH]at h
  obtain⟨⟨rfl,rfl⟩,rfl⟩:=h
  rw[yO hx,yO hy]
  cases d<;>simp[jI]at hk
  simp[Instr.sameNow]
 .cases p<;>cases v<;>simp[jH]at h
  subst h
  rename_i s1 s2
  rw[lk hx,lk hy]
  cases d<;>simp[jI]at hk
  simp only[Instr.sameNow,ai5]
  have e1:((⟨s1.toArray⟩:ByteArray)==⟨s2.toArray⟩)=(s1.toArray==s2.toArray):=rfl
  grind
theorem Me {k:Kk} {p:V} (M:List MapEntry->Nat->Option (Nat×Value)->Prop) (h0: ∀i,M [] i none)
  (hT: ∀v (e:MapEntry) es i,dX w L I J v e.key->kG k p v=some true->M (e::es) i (some (i,e.val)))
  (hF: ∀v (e:MapEntry) es i r,dX w L I J v e.key->kG k p v=some false->M es (i+1) r->M (e::es) i r):
  ∀(dL:List V) (es:List MapEntry) (i:Nat) (q:Option (Nat×V)),bP (dX w L I J) dL (es.flatMap λe=> [e.key,e.val])->oo k p dL i=some q->
  (q=none/\M es i none)\/ ∃(j:Nat) (v:V) (e:MapEntry),q=some (i+j,v)/\M es i (some (i+j,e.val))/\es[j]? =some e/\dL[2*j+1]? =some v/\dX w L I J v e.val/\(∃kk,dL[2*j]? =some kk/\kG k p kk=some true)
 | [],[],i,q,_,h=>by grind[oo]
 | [],e::es,_,_,ha,_=>by trivial
 | [_],[],_,_,ha,_=>by trivial
 | [_],e::es,_,_,_,h=>by trivial
 |_::_::_,[],_,_,ha,_=>by trivial
 |kk::vv::dL,e::es,i,q,ha,h=>by
  simp only[Bw,Bs,C7,bP]at ha
  obtain⟨h1,h2,h3⟩:=ha
  rw[oo]at h
  split at h
  .rename_i he
   simp only[ai5]at h
   exact .inr ⟨0,vv,e,h.symm,(by grind),rfl,rfl,h2,kk,rfl,he⟩
  .rename_i he
   rcases Me M h0 hT hF dL es (i+1) q h3 h with ⟨e1,e2⟩|⟨j,v,e',e1,e2,e3,e4,e5,aa,e6,e7⟩
   .grind
   .rw[show i+1+j=i+(j+1) by omega]at e1 e2
    refine .inr ⟨j+1,v,e',e1,(by grind),by grind, ?_,e5,aa, ?_,e7⟩
    all_goals grind
  grind
theorem Qj {fs:Array Field} {es:List MapEntry} {r:Option (Nat×Value)} (hu:P.underlying kt=some (.struct fs)) (h:(Instr.findAsking kt x es 0).run P w= .ok r w):(Instr.findKey kt x es).run P w= .ok r w:=by
 cases es<;>simp_all[Instr.findAsking,Instr.findKey,run_underlying,Instr.findNow,Instr.sameNow]
theorem yn {kk:Kk} (hk:yl P kt=some kk) (ab:mT kk p) (hx:dz w L I J p x) {es:List MapEntry} {q:Option (Nat×V)} (ha:bP (dX w L I J) dL (es.flatMap λe=> [e.key,e.val])) (hf:oo kk p dL 0=some q):
  (q=none/\(Instr.findKey kt x es).run P w= .ok none w)\/ ∃(j:Nat) (v:V) (e:MapEntry),q=some (j,v)/\(Instr.findKey kt x es).run P w= .ok (some (j,e.val)) w/\es[j]? =some e/\dL[2*j+1]? =some v/\dX w L I J v e.val/\(∃k',dL[2*j]? =some k'/\kG kk p k'=some true):=by
 unfold yl at hk
 split at hk
 .rename_i fs hu
  cases ad:EN P 0 fs.toList with
  |none=>grind
  |some ks=>
   simp only[ad,Ay]at hk
   split at hk
   .rename_i ae
    simp only[ai5]at hk
    subst hk
    cases p<;>simp[mT]at ab
    rename_i vs
    obtain⟨xs,rfl,af⟩:=hx
    have ai: ∀(us:List V) (ys:aiC),bP (df w L I J) us ys-> ∀z∈ys,z.oneCell'=true:=λus ys h z hz=>by
     obtain⟨i,hi,rfl⟩:=Ch.1 hz
     obtain⟨a,_,r⟩:=bP.ng h om
     exact r.dE
    have aa: ∀ys:aiE,oM P kt (.agg ys):=λys=>by
     unfold oM
     rw[ai2 (by unfold cQ;rw[hu];rfl)]
     simp
    have heq: ∀(v:V) (y:Value) (r:Bool),dX w L I J v y->kG (.st ks) (.agg vs) v=some r->(Op.equal kt (.agg xs.toArray) y).run P w= .ok r w:=by
     intro v y r hr he
     cases v<;>simp[kG]at he
     rename_i us
     obtain⟨ys,rfl,ah⟩:=hr
     have aj:=LV ks vs us xs ys r af ah he
     exact LW 10 kt ks ae 10000 om _ _ r (aa _) (aa _) (by grind[Value.cells]) (by grind[Value.cells]) (by simpa) w
    rcases Me (w:=w) (L:=L) (I:=I) (J:=J) (k:= .st ks) (p:= .agg vs) (λes i r=>(Instr.findAsking kt (.agg xs.toArray) es i).run P w= .ok r w) (by simp[Instr.findAsking])
     (λv e es i h1 h2=>by simp[Instr.findAsking,heq v _ _ h1 h2]) (λv e es i r h1 h2 h3=>by simp[Instr.findAsking,heq v _ _ h1 h2,h3]) dL es 0 q ha hf with ⟨e1,e2⟩|⟨j,v,e',e1,e2,e3⟩
    .grind[Qj]
    .rw[Ad]at e1 e2
     grind[Qj]
   grind
 .rename_i d ak hu
  cases hd:jI d with
  |none=>grind
  |some k=>
   simp only[hd,Ba,ai5]at hk
   subst hk
   rcases Me (w:=w) (L:=L) (I:=I) (J:=J) (k:= .one k) (p:=p) (λes i r=>Instr.findNow d x es i=some r) (λi=>rfl)
    (λv e es i h1 h2=>by simp[Instr.findNow,Qi hd hx (dz.lg h1) h2]) (λv e es i r h1 h2 h3=>by simp[Instr.findNow,Qi hd hx (dz.lg h1) h2,h3]) dL es 0 q ha hf with ⟨e1,e2⟩|⟨j,v,e',e1,e2,e3⟩
   .grind[MapKept.run_findKey]
   .rw[Ad]at e1 e2
    grind[MapKept.run_findKey]
 grind
theorem Qk {v:V} (hx:dz w L I J p x) (hy:dz w L I J v y) (h:jH k p v=some true):x=y:=by
 cases k<;>cases p<;>cases v<;>simp[jH]at h
 .rw[pQ hx,pQ hy,h]
 .obtain⟨⟨rfl,rfl⟩,rfl⟩:=h
  rw[yO hx,yO hy]
 .rw[lk hx,lk hy,h]
theorem Ql: ∀(ks:List Pk) (us vs:List V) (xs ys:aiC),bP (df w L I J) us xs->bP (df w L I J) vs ys->lq ks us vs=some true->xs=ys
 | [],[],[],[],[],_,_,_=>rfl
 |k::ks,u'::us,v::vs,x::xs,y::ys,h1,h2,h=>by
  unfold lq at h
  cases hk:jH k u' v with
  |none=>grind
  |some r0=>
   simp only[hk,Ay,Aw]at h
   obtain⟨r',h3,h4⟩:=h
   simp only[Ac]at h4
   obtain⟨rfl,rfl⟩:=h4
   rw[Qk (dz.dI h1.1) (dz.dI h2.1) hk,Ql ks us vs xs ys h1.2 h2.2 h3]
 | [],[],[],[],_::_,_,h2,_=>h2.elim
 | [],[],[],_::_,_,h1,_,_=>h1.elim
 | [],[],_::_,_,_,_,_,h=>by cases h
 | [],_::_,_,_,_,_,_,h=>by cases h
 |_::_,[],_,_,_,_,_,h=>by cases h
 |_::_,_::_,[],_,_,_,_,h=>by cases h
 |_::_,_::_,_::_,[],_,h1,_,_=>h1.elim
 |_::_,_::_,_::_,_::_,[],_,h2,_=>h2.elim
theorem Qm {k:Kk} {v:V} (hx:dz w L I J p x) (hy:dz w L I J v y) (h:kG k p v=some true):x=y:=by
 cases k with
 |one k=>exact Qk hx hy h
 |st ks=>
  cases p<;>cases v<;>simp[kG]at h
  obtain⟨xs,rfl,h1⟩:=hx
  obtain⟨ys,rfl,h2⟩:=hy
  grind[Ql]
theorem Yk {ks:List Pk}: ∀{vs:List V} {xs:aiC},lv ks vs=true->bP (df w L I J) vs xs-> ∀z∈xs,∃d,MapKept.IsKey d z:=by
 induction ks with
 |nil=>
  intro vs xs h ha
  cases vs with
  |nil=>cases xs with
   |nil=>simp
   |cons _ _=>trivial
  |cons _ _=>trivial
 |cons k ks ih=>
  intro vs xs h ha z hz
  cases vs with
  |nil=>trivial
  |cons v vs=>
   cases xs with
   |nil=>grind
   |cons x xs=>
    simp only[lv,Ac]at h
    rcases Ae.1 hz with rfl|hz
    .have hr:=dz.dI (I:=I) (J:=J) ha.1
     cases k
     .exact⟨.bool,ym rfl h.1 hr⟩
     .exact⟨.int _,ym rfl h.1 hr⟩
     .exact⟨.string,ym rfl h.1 hr⟩
    .exact ih h.2 ha.2 z hz
theorem Qn {kk:Kk} (aa:mT kk p) (hx:dz w L I J p x):(Instr.keyThatStays x x).run P w= .ok x w:=by
 cases kk with
 |one k=>
  cases k
  .exact MapKept.run_keyThatStays (ym (d:= .bool) rfl aa hx)
  .exact MapKept.run_keyThatStays (ym (d:= .int _) rfl aa hx)
  .exact MapKept.run_keyThatStays (ym (d:= .string) rfl aa hx)
 |st ks=>
  cases p<;>simp[mT]at aa
  obtain⟨xs,rfl,ha⟩:=hx
  have hs:Instr.sameBits 10000 (.agg xs.toArray) (.agg xs.toArray):=by
   show Instr.sameBits (9999+1) (.agg xs.toArray) (.agg xs.toArray)=true
   simp only[Instr.sameBits,beq_self_eq_true,Bc,Am]
   rintro⟨a,b⟩ hp
   obtain⟨i,hi,e⟩:=Ch.1 hp
   simp only[List.getElem_zip,aic]at e
   obtain⟨rfl,rfl⟩:=e
   grind[Yk,A8,MapKept.sameBits_self]
  simp_all[Instr.keyThatStays]
def yo (I:St) (m:Bool) (r:Option V):R:=
 match m,r with
 |_,none=> .st (.mp I.length) (I++ [.mp [] [] 0])
 |true,some (.int _ _)=> .st (.mp I.length) (I++ [.mp [] [] 0])
 |_,_=> .fail
def nh (P:Program) (t:TypeId):Bool:=match P.underlying t with|some (.map _ _)=>true|_=>false
theorem Yl (h:Mem c w L I J):Mem c (w.alloc (.map #[] 0)) L (I++ [.mp [] [] 0]) (J++ [.pointer (some ⟨w.heap.size,0,none⟩)])/\Le w L (w.alloc (.map #[] 0)) L:=
 h.sL _ _ (λhle _=>⟨w.heap.size, #[],rfl,yL _ _,by have:=h.lim _ (A7 _);omega,by trivial,rfl⟩) (by grind[dd])
theorem Ym {pos:String} (t:TypeId) (r:Option Operand) (h:dS c nt e I a w L J):
  fb (yo I (nh P t) (r.map (zG e))) I (bU P c ⟨dst,.makeMap t r,ty,pos,dY,g⟩ a w L I J):=by
 have aa:=Yl h.mem
 have ab:dz (w.alloc (.map #[] 0)) L (I++ [.mp [] [] 0]) (J++ [.pointer (some ⟨w.heap.size,0,none⟩)]) (.mp I.length) (.map (some w.heap.size)):=⟨w.heap.size,by rw[<-h.mem.len];simp,rfl⟩
 cases r with
 |none=>exact⟨_,_,L,_,(by simp[execOp,Instr.makeMap]),aa.1,aa.2,Ext.push I J h.mem.len _ _,ab⟩
 |some p=>
  have hp:=h.eval p
  simp only[Ba]
  unfold yo
  split
  .grind
  .rename_i k n hm hq
   simp only[ai5]at hq
   rw[hq]at hp
   have hp:=yO hp
   unfold nh at hm
   split at hm
   .rename_i kt et hu
    exact⟨_,_,L,_,(by simp_all[execOp,Instr.makeMap,run_underlying,asInt,asIntOf]),aa.1,aa.2,Ext.push I J h.mem.len _ _,ab⟩
   grind
  trivial
def xZ (m:Option (Kk×V)) (I:St) (x k:V) (ok:Bool):R:=
 match m with
 |some (kd,z)=>if mT kd k=true then(match x with
  | .mp id=>(match I[id]? with
   |some (.mp dL _ _)=>(match oo kd k dL 0 with
    |some (some (_,v))=> .ok (if ok then .cz [v,.bool true]else v)
    |some none=> .ok (if ok then .cz [z,.bool false]else z)
    |none=> .fail)
   |_=> .fail)
  | .raw (.map none)=> .ok (if ok then .cz [z,.bool false]else z)
  |_=> .fail)else .fail
 |none=> .fail
theorem BR {id:Nat} (r:dz w L I J (.mp id) x): ∃b,J[id]? =some (.pointer (some ⟨b,0,none⟩))/\x= .map (some b):=r
theorem I9 (r:dz w L I J (.raw (.map none)) x):x= .map none:=by
 have r':cF w L (.raw (.map none)) x:=r
 cases r';rfl
theorem Mf {v:V} (b:Bool) (r:dX w L I J v x) (ok:Bool):dz w L I J (if ok then .cz [v,.bool b]else v) (if ok then .tuple #[x,.bool b]else x):=by
 cases ok
 .grind[dz.lg]
 .exact⟨[x,.bool b],rfl,r,dX.dI (df.dv (.bool b)),tV⟩
theorem Yn {pos:String} (t:TypeId) (x k:Operand) (ok:Bool) (h:dS c nt e I a w L J):
  fb (xZ (gF P t) I (zG e x) (zG e k) ok) I (bU P c ⟨dst,.lookup t x k ok,ty,pos,dY,g⟩ a w L I J):=by
 have hx:=h.eval x
 have hk:=h.eval k
 unfold xZ
 split
 .rename_i kd z hm
  obtain⟨kt,et,i,zv,hu,ad,hi,hz,ai,aj⟩:=GS hm
  split
  .rename_i ae
   have af: ∀em,(Instr.checkKey em 10000 kt (a.eval k)).run P w= .ok () w:=(by grind[GU])
   have ah:(zeroValue et).run P w= .ok zv w:=by simp_all[zeroValue,typeInfo]
   split
   .rename_i id hid
    rw[hid]at hx
    obtain⟨b,dh,hv⟩:=BR hx
    split
    .rename_i dL bs cV cJ
     obtain⟨b',es,e1,hh,hl,aa,ak⟩:=h.mem.di _ _ _ cJ dh
     cases e1
     have aa:bP (dX w L I J) dL (es.toList.flatMap λe=> [e.key,e.val]):=aa
     split
     .rename_i i0 v hf
      rcases yn ad ae hk aa hf with ⟨e1,_⟩|⟨j,v',e',e1,e2,_,_,e5,_⟩
      .cases e1
      .cases e1
       refine bU.pure h (x:=if ok then .tuple #[e'.val,.bool true]else e'.val) ?_ (Mf true e5 ok)
       have ab:=e2
       simp[execOp,Instr.lookup,run_underlying hu,hv,MapKept.run_getObj_map hh,af,ab]
     .rename_i hf
      rcases yn ad ae hk aa hf with ⟨_,e2⟩|⟨j,v',e',e1,_⟩
      .refine bU.pure h (x:=if ok then .tuple #[zv,.bool false]else zv) ?_ (by simp_all[Mf])
       have ab:=e2
       simp[execOp,Instr.lookup,run_underlying hu,hv,MapKept.run_getObj_map hh,af,ab,ah]
      grind
     trivial
    trivial
   .rename_i hid
    rw[hid]at hx
    have hv:=I9 hx
    refine bU.pure h (x:=if ok then .tuple #[zv,.bool false]else zv) ?_ (by simp_all[Mf])
    have ab:(Instr.findKey kt (a.eval k) []).run P w= .ok none w:=by
     rcases yn (es:= []) ad ae hk (show bP (dX w L I J) [] _ from trivial) rfl with ⟨_,e2⟩|⟨j,v',e',e1,_⟩
     all_goals grind
    simp_all[execOp,Instr.lookup,run_underlying]
   trivial
  trivial
 trivial
def qo (dL:List V) (i:Nat) (k v:V):List V:=(dL.set (2*i) k).set (2*i+1) v
theorem BS (l:List MapEntry): ∀(i:Nat),(l.flatMap λe=> [e.key,e.val])[2*i]? =(l[i]?).map (·.key)/\(l.flatMap λe=> [e.key,e.val])[2*i+1]? =(l[i]?).map (·.val):=by
 induction l with
 |nil=>simp
 |cons e l ih=>
  intro i
  cases i with
  |zero=>simp
  |succ i=>
   grind
theorem Mg (l:List MapEntry):(l.flatMap λe=> [e.key,e.val]).length=2*l.length:=by
 induction l<;>grind
theorem Qo {es:Array MapEntry} {i:Nat} {k v:V} (h:bP (dX w L I J) dL (pM es)) (hk:dX w L I J k x) (hv:dX w L I J v y) (hi:i<es.size):
  bP (dX w L I J) (qo dL i k v) (pM (es.modify i λe=>{e with key:=x,val:=y})):=by
 have hl:=h.length
 unfold pM at h hl⊢
 rw[Mg]at hl
 simp only[Cq]at hl
 refine bP.of ?_ λj p q hp hq=> ?_
 .grind[qo,Mg]
 .unfold qo at hp
  obtain⟨m,hm⟩: ∃m,j=2*m\/j=2*m+1:=⟨j/2,om⟩
  rcases hm with rfl|rfl
  .rw[(BS _ m).1]at hq
   rw[D8 om]at hp
   rw[Aq,Array.getElem?_modify]at hq
   by_cases e1:i=m
   .grind
   .rw[ai1 e1]at hq
    rw[D8 om]at hp
    obtain⟨y',aa,r⟩:=h.get _ _ hp
    grind[BS]
  .rw[(BS _ m).2]at hq
   rw[Aq,Array.getElem?_modify]at hq
   by_cases e1:i=m
   .grind
   .rw[ai1 e1]at hq
    rw[D8 om,D8 om]at hp
    obtain⟨y',aa,r⟩:=h.get _ _ hp
    rw[(BS _ m).2,Aq]at aa
    grind
theorem Qp (es:Array MapEntry) (i:Nat) (x y:Value):(es.modify i λe=>{e with key:=x,val:=y}).toList.map (·.born)=es.toList.map (·.born):=by
 apply Bh
 grind
def xW (m:Option (Kk×V)) (I:St) (x k v:V):R:=
 match m,x with
 |some (kd,_),.mp id=>if mT kd k=true/\na v=true then(match I[id]? with
  |some (.mp dL bs cV)=>(match oo kd k dL 0 with
   |some (some (i,_))=> .st .u (I.set id (.mp (qo dL i k v) bs cV))
   |some none=> .st .u (I.set id (.mp (dL++ [k,v]) (bs++ [cV]) (cV+1)))
   |none=> .fail)
  |_=> .fail)else .fail
 |_,_=> .fail
theorem Qq {k:Kk} {v:V} (h:mT k v):na v=true:=by
 cases k with
 |one k=>cases k<;>cases v<;>first|rfl|simp[mT,lU]at h
 |st ks=>cases v<;>first|rfl|simp[mT]at h
theorem Qr {k v:Value} {et:TypeId} {kd:Kk} {bs:aiB} {cV id:Nat} {kv vv:V} (hm:Mem c w L I J) (hu:P.underlying t=some (.map kt et)) (aj:yl P kt=some kd)
  (hx:dz w L I J (.mp id) x) (af:mT kd kv) (hk:dz w L I J kv k) (hv:dX w L I J vv v) (cJ:I[id]? =some (.mp dL bs cV)) {q:Option (Nat×V)} (hf:oo kd kv dL 0=some q):
  ∃w',(Instr.mapUpdate t x k v).run P w= .ok () w'/\Le w L w' L/\(match q with
   |some (i,_)=>Mem c w' L (I.set id (.mp (qo dL i kv vv) bs cV)) J/\Ext I J (I.set id (.mp (qo dL i kv vv) bs cV)) J
   |none=>Mem c w' L (I.set id (.mp (dL++ [kv,vv]) (bs++ [cV]) (cV+1))) J/\Ext I J (I.set id (.mp (dL++ [kv,vv]) (bs++ [cV]) (cV+1))) J):=by
 have ak:dX w L I J kv k:=EM hk (Qq af)
 have ah: ∀em,(Instr.checkKey em 10000 kt k).run P w= .ok () w:=(by grind[GU])
 obtain⟨b,dh,rfl⟩:=BR hx
 obtain⟨b',es,e1,hh,hl,aa,ao⟩:=hm.di _ _ _ cJ dh
 cases e1
 have ai:b<w.heap.size:=(by grind)
 have ad: ∀o,Ext I J (I.set id o) J:=(by simp_all[Ext.iq])
 have ae: ∀ob:Go.Obj,(setObj b ob).run P w= .ok () (yC w b ob):=λob=>by rw[MapKept.run_setObj_map ob hh];rfl
 rcases yn aj af hk aa hf with ⟨rfl,e2⟩|⟨j,v',e',rfl,e2,e3,_,_,kk,e6,e7⟩
 .have ab:=e2
  refine⟨yC w b (.map (es.push {key:=k,val:=v,born:=cV}) (cV+1)), ?_, ?_⟩
  .simp[Instr.mapUpdate,run_underlying hu,MapKept.run_getObj_map hh,ah,ab,ae]
  .have key:=hm.jU (o:= .mp (dL++ [kv,vv]) (bs++ [cV]) (cV+1)) cJ dh rfl hl (.map (es.push {key:=k,val:=v,born:=cV}) (cV+1)) (ad _) (by grind[dd]) λhle=>by
    refine⟨b,_,rfl,xH _ _ _ ai,hl, ?_,by grind⟩
    have:bP (dX w L I J) (dL++ [kv,vv]) (pM (es.push {key:=k,val:=v,born:=cV})):=by
     simp only[pM,Array.toList_push,aio]
     exact bP.append aa (by trivial)
    exact this.imp (by grind[dX.mono])
   grind
 .have ab:=e2
  have hj:es[j]? =some e':=by grind
  have al:j<es.size:=(by grind)
  have an:e'.key=k:=by
   obtain⟨y,hy,r⟩:=aa.get _ _ e6
   unfold pM at hy
   rw[(BS _ j).1,e3]at hy
   simp at hy
   subst hy
   exact(Qm hk (dz.lg r) e7).symm
  refine⟨yC w b (.map (es.modify j λe=>{e with key:=k,val:=v}) cV), ?_, ?_⟩
  .simp[Instr.mapUpdate,run_underlying hu,MapKept.run_getObj_map hh,ah,ab,ae,hj,an,Qn af hk]
  .have key:=hm.jU (o:= .mp (qo dL j kv vv) bs cV) cJ dh rfl hl (.map (es.modify j λe=>{e with key:=k,val:=v}) cV) (ad _) (by grind[dd]) λhle=>by
    refine⟨b,_,rfl,xH _ _ _ ai,hl,(Qo aa ak hv al).imp (by grind[dX.mono]),by rw[Qp];omega⟩
   grind
theorem Qs {o:Oper} (t:TypeId) (x k v:Operand) (h:dS c nt e I a w L J) (ho:execOp a.eval o=(do Instr.mapUpdate t (a.eval x) (a.eval k) (a.eval v);pure .skip)):
  fb (xW (gF P t) I (zG e x) (zG e k) (zG e v)) I (bU P c o a w L I J):=by
 have hx:=h.eval x
 have hk:=h.eval k
 have hv:=h.eval v
 unfold xW
 split
 .rename_i kd z id hm hid
  obtain⟨kt,et,i,zv,hu,ad,_⟩:=GS hm
  rw[hid]at hx
  split
  .rename_i hc
   split
   .rename_i dL bs cV cJ
    split
    .rename_i i0 v0 hf
     obtain⟨w',ae,hle,ab,aa⟩:=Qr h.mem hu ad hx hc.1 hk (EM hv hc.2) cJ hf
     exact⟨undef,w',L,J,(by simp_all),ab,hle,aa,tV⟩
    .rename_i hf
     obtain⟨w',ae,hle,ab,aa⟩:=Qr h.mem hu ad hx hc.1 hk (EM hv hc.2) cJ hf
     exact⟨undef,w',L,J,(by simp_all),ab,hle,aa,tV⟩
    trivial
   trivial
  trivial
 trivial
theorem Yo {pos:String} (t:TypeId) (x k v:Operand) (h:dS c nt e I a w L J):
  fb (xW (gF P t) I (zG e x) (zG e k) (zG e v)) I (bU P c ⟨dst,.mapUpdate t x k v,ty,pos,dY,g⟩ a w L I J):=Qs t x k v h rfl
theorem Yp {pos:String} (t:TypeId) (x k v:Operand) (h:dS c nt e I a w L J):
  fb (xW (gF P t) I (zG e x) (zG e k) (zG e v)) I (bU P c ⟨dst,.insert t x k v,ty,pos,dY,g⟩ a w L I J):=Qs t x k v h rfl
theorem Qt {U J:Type} (f:U->J): ∀(l:List U) (i:Nat),(l.eraseIdx i).map f=(l.map f).eraseIdx i
 | [],_=>rfl
 |_::_,0=>rfl
 |x::l,i+1=>by simp[Qt f l i]
def yp (dL:List V) (i:Nat):List V:=dL.take (2*i)++dL.drop (2*i+2)
def yq (m:Option (Kk×V)) (I:St) (x k:V):R:=
 match m,x with
 |some (kd,_),.mp id=>if mT kd k=true then(match I[id]? with
  |some (.mp dL bs cV)=>(match oo kd k dL 0 with
   |some (some (i,_))=> .st (.cz []) (I.set id (.mp (yp dL i) (bs.eraseIdx i) cV))
   |some none=> .st (.cz []) (I.set id (.mp dL bs cV))
   |none=> .fail)
  |_=> .fail)else .fail
 |some (kd,_),.raw (.map none)=>if mT kd k=true then .ok (.cz [])else .fail
 |_,_=> .fail
theorem Yq (l:List MapEntry): ∀(i:Nat),i<l.length->(l.eraseIdx i).flatMap (λe=> [e.key,e.val])=(l.flatMap λe=> [e.key,e.val]).take (2*i)++(l.flatMap λe=> [e.key,e.val]).drop (2*i+2):=by
 induction l with
 |nil=>simp
 |cons e l ih=>
  intro i h
  cases i<;>grind
theorem Yr {pos:String} (t t':TypeId) (x k:Operand) (h:dS c nt e I a w L J):
  fb (yq (gF P t) I (zG e x) (zG e k)) I (bU P c ⟨dst,.call ⟨.builtin .delete, #[x,k], #[t,t']⟩,ty,pos,dY,g⟩ a w L I J):=by
 have hx:=h.eval x
 have hk:=h.eval k
 unfold yq
 split
 .rename_i kd z id hm hid
  obtain⟨kt,et,i,zv,hu,ah,_⟩:=GS hm
  rw[hid]at hx
  split
  .rename_i ai
   have aj: ∀em,(Instr.checkKey em 10000 kt (a.eval k)).run P w= .ok () w:=(by grind[GU])
   obtain⟨b,dh,hv⟩:=BR hx
   split
   .rename_i dL bs cV cJ
    obtain⟨b',es,e1,hh,hl,aa,al⟩:=h.mem.di _ _ _ cJ dh
    cases e1
    have ak:b<w.heap.size:=(by grind)
    have ab: ∀o,Ext I J (I.set id o) J:=(by simp_all[Ext.iq])
    have af: ∀ob:Go.Obj,(setObj b ob).run P w= .ok () (yC w b ob):=λob=>by rw[MapKept.run_setObj_map ob hh];rfl
    split
    .rename_i i0 v0 hf
     rcases yn ah ai hk aa hf with ⟨e1,_⟩|⟨j,v',e',e1,e2,e3,_,_,kk,e6,e7⟩
     .cases e1
     .cases e1
      have ad:=e2
      have an:i0<es.toList.length:=(by grind)
      have ao:i0<es.size:=om
      have ae:(es.eraseIdxIfInBounds i0).toList=es.toList.eraseIdx i0:=by
       simp
      have key:=h.mem.jU (o:= .mp (yp dL i0) (bs.eraseIdx i0) cV) cJ dh rfl hl (.map (es.eraseIdxIfInBounds i0) cV) (ab _) (by grind[dd]) λhle=>by
       refine⟨b,_,rfl,xH _ _ _ ak,hl, ?_,by grind[Qt]⟩
       have:bP (dX w L I J) (yp dL i0) (pM (es.eraseIdxIfInBounds i0)):=by
        unfold pM yp
        rw[ae,Yq _ _ an]
        exact(bP.take _ aa).append (bP.drop _ aa)
       exact this.imp (by grind[dX.mono])
      refine⟨.tuple #[],_,L,J,.inl ?_,key.1,key.2,ab _,[],rfl,tV⟩
      simp[execOp,resolve,invoke,builtin,Builtin.delete_,run_underlying hu,hv,MapKept.run_getObj_map hh,aj,ad,af]
    .rename_i hf
     rcases yn ah ai hk aa hf with ⟨_,e2⟩|⟨j,v',e',e1,_⟩
     .have ad:=e2
      have key:=h.mem.jU (o:= .mp dL bs cV) cJ dh rfl hl (.map es cV) (ab _) (by grind[dd]) λhle=>by
       exact⟨b,_,rfl,xH _ _ _ ak,hl,aa.imp (by grind[dX.mono]),al⟩
      refine⟨.tuple #[],_,L,J,.inl ?_,key.1,key.2,ab _,[],rfl,tV⟩
      simp[execOp,resolve,invoke,builtin,Builtin.delete_,run_underlying hu,hv,MapKept.run_getObj_map hh,aj,ad,af]
     grind
    trivial
   trivial
  trivial
 .rename_i kd z hm hid
  obtain⟨kt,et,i,zv,hu,ah,_⟩:=GS hm
  rw[hid]at hx
  have hv:=I9 hx
  split
  .rename_i ai
   have aj: ∀em,(Instr.checkKey em 10000 kt (a.eval k)).run P w= .ok () w:=(by grind[GU])
   refine bU.pure h (x:= .tuple #[]) ?_ ⟨[],rfl,tV⟩
   simp_all[execOp,resolve,invoke,builtin,Builtin.delete_,run_underlying]
  trivial
 trivial
theorem Ja {et:TypeId} (hb:P.underlying t=some (.map kt et)) (m:aiG) (w:World):(Op.equal t (.map m) (.map none)).run P w= .ok m.isNone w:=by
 have key: ∀d,(Op.equalIn (d+1) t (.map m) (.map none)).run P w= .ok m.isNone w:=λd=>by
  cases m<;>simp[Op.equalIn,run_underlying hb]
 exact key 9999
def rN:Operand->Bool
 | .const (.map none)=>true
 |_=>false
def yr (op:BinOp) (m:Bool) (x:V):R:=
 match m,x with
 |true,.mp _=>(match op with| .eql=> .ok (.bool false)| .neq=> .ok (.bool true)|_=> .fail)
 |true,.raw (.map none)=>(match op with| .eql=> .ok (.bool true)| .neq=> .ok (.bool false)|_=> .fail)
 |_,_=> .fail
theorem Ys {pos:String} (op:BinOp) (t t':TypeId) (x y:Operand) (hy:rN y) (h:dS c nt e I a w L J):
  fb (yr op (nh P t) (zG e x)) I (bU P c ⟨dst,.binOp op t x y t',ty,pos,dY,g⟩ a w L I J):=by
 have hx:=h.eval x
 have aa:a.eval y= .map none:=by
  unfold rN at hy
  split at hy
  all_goals trivial
 unfold yr
 split
 .rename_i id hm hid
  unfold nh at hm
  split at hm
  .rename_i kt et hu
   rw[hid]at hx
   obtain⟨b,dh,hv⟩:=BR hx
   split
   .refine bU.pure h (x:= .bool false) ?_ (cF.bool _)
    simp[execOp,eqGuard,binOp,Ja hu,hv,aa]
   .refine bU.pure h (x:= .bool true) ?_ (cF.bool _)
    simp[execOp,eqGuard,binOp,Ja hu,hv,aa]
   trivial
  grind
 .rename_i hm hid
  unfold nh at hm
  split at hm
  .rename_i kt et hu
   rw[hid]at hx
   have hv:=I9 hx
   split
   .refine bU.pure h (x:= .bool true) ?_ (cF.bool _)
    simp[execOp,eqGuard,binOp,Ja hu,hv,aa]
   .refine bU.pure h (x:= .bool false) ?_ (cF.bool _)
    simp[execOp,eqGuard,binOp,Ja hu,hv,aa]
   trivial
  grind
 trivial
def yt (m:Bool) (I:St) (x:V):R:=
 match m,x with
 |true,.mp id=>(match I[id]? with|some (.mp _ _ cV)=> .st (.ptr I.length 0) (I++ [.it (some id) cV [] cV])|_=> .fail)
 |true,.raw (.map none)=> .st (.ptr I.length 0) (I++ [.it none 0 [] 0])
 |_,_=> .fail
theorem Yt {pos:String} (t:TypeId) (x:Operand) (h:dS c nt e I a w L J):
  fb (yt (nh P t) I (zG e x)) I (bU P c ⟨dst,.range t x,ty,pos,dY,g⟩ a w L I J):=by
 have hx:=h.eval x
 have rd: ∀(o:Ob) (w':World),dz w' L (I++ [o]) (J++ [.pointer (some ⟨w.heap.size,0,none⟩)]) (.ptr I.length 0) (.pointer (some ⟨w.heap.size,0,none⟩)):=λo w'=>⟨w.heap.size,by rw[<-h.mem.len];simp,rfl⟩
 unfold yt
 split
 .rename_i id hm hid
  unfold nh at hm
  split at hm
  .rename_i kt et hu
   rw[hid]at hx
   obtain⟨b,dh,hv⟩:=BR hx
   split
   .rename_i dL bs cV cJ
    obtain⟨b',es,e1,hh,hl,ad,ae⟩:=h.mem.di _ _ _ cJ dh
    cases e1
    have key:=h.mem.sL (.mapIter (some b) cV #[] cV) (.it (some id) cV [] cV) (λhle aa=>⟨w.heap.size,some b,rfl,yL _ _,h.mem.lim _ om,b,(by grind),rfl⟩) (by grind[dd])
    refine⟨_,_,L,_,.inl ?_,key.1,key.2,Ext.push I J h.mem.len _ _,rd _ _⟩
    have ab:=run_range_map (P:=P) w t kt et b es cV hu hh
    simp_all[execOp]
   trivial
  grind
 .rename_i hm hid
  unfold nh at hm
  split at hm
  .rename_i kt et hu
   rw[hid]at hx
   have hv:=I9 hx
   have key:=h.mem.sL (.mapIter none 0 #[] 0) (.it none 0 [] 0) (λhle aa=>⟨w.heap.size,none,rfl,yL _ _,h.mem.lim _ om,rfl⟩) (by grind[dd])
   refine⟨_,_,L,_,.inl ?_,key.1,key.2,Ext.push I J h.mem.len _ _,rd _ _⟩
   have ab:=run_range_nilMap (P:=P) w t kt et hu
   simp_all[execOp]
  grind
 trivial
def yu (seen:aiB):List V->aiB->List (V×V×Nat)
 |k::v::dL,b::bs=>if seen.contains b then yu seen dL bs else(k,v,b)::yu seen dL bs
 |_,_=> []
def ni (open_:Bool) (I:St) (x:V):R:=
 match x with
 | .ptr i 0=>(match I[i]? with
  |some (.it none _ _ _)=> .ok (.cz [.bool false])
  |some (.it (some id) since seen last)=>(match I[id]? with
   |some (.mp dL bs cV)=>if(bs.all λb=>decide (b<since))=true/\since<=last then(match yu seen dL bs with
    | []=> .ok (.cz [.bool false])
    | [(k,v,b)]=> .st (.cz [.bool true,k,v]) (I.set i (.it (some id) since (seen++ [b]) cV))
    |l=>if open_ then .any (l.map λp=>(.cz [.bool true,p.1,p.2.1],I.set i (.it (some id) since (seen++ [p.2.2]) cV)))else .fail)else .fail
   |_=> .fail)
  |_=> .fail)
 |_=> .fail
theorem Qu: ∀(dL:List V) (bs:aiB) (es:List MapEntry) (seen:aiB),bP (dX w L I J) dL (es.flatMap λe=> [e.key,e.val])->es.map (·.born)=bs->
  bP (λp (e:MapEntry)=>dX w L I J p.1 e.key/\dX w L I J p.2.1 e.val/\e.born=p.2.2) (yu seen dL bs) (es.filter λe=> !seen.contains e.born)
 | [],bs,[],seen,_,hb=>by simpa
 | [],_,e::es,_,ha,_=>by trivial
 | [_],_,[],_,ha,_=>by trivial
 | [_],_,e::es,_,ha,_=>by grind[bP]
 |_::_::_,_,[],_,ha,_=>by trivial
 |k::v::dL,bs,e::es,seen,ha,hb=>by
  simp only[Bw,Bs,C7,bP]at ha
  obtain⟨h1,h2,h3⟩:=ha
  cases bs with
  |nil=>grind
  |cons b bs=>
   simp only[Ah,List.cons.injEq]at hb
   obtain⟨rfl,hb⟩:=hb
   have ih:=Qu dL bs es seen h3 hb
   rw[yu,Dd]
   by_cases hc:seen.contains e.born=true
   .grind
   .rw[ai1 hc,ai2 (sU hc)];trivial
theorem Yu {w1:World} (h:w1=w\/w1=w.drew) (hm:Mem c w L I J):Mem c w1 L I J/\Le w L w1 L:=by
 rcases h with rfl|rfl
 .grind[Le.refl]
 .exact hm.drew
theorem Qv {pos:String} (open_:Bool) (x:Operand) (h:dS c nt e I a w L J):
  fb (ni open_ I (zG e x)) I (bU P c ⟨dst,.next x false,ty,pos,dY,g⟩ a w L I J):=by
 have hx:=h.eval x
 unfold ni
 split
 .rename_i i hid
  rw[hid]at hx
  obtain⟨r,dh,hv⟩:=hx
  split
  .rename_i since seen last cJ
   obtain⟨r',mo,e1,hh,hl,aj⟩:=h.mem.di _ _ _ cJ dh
   cases e1
   simp only at aj
   subst aj
   refine bU.pure h (x:= .tuple #[.bool false]) ?_ ⟨[.bool false],rfl,dX.dI (df.dv (.bool _)),tV⟩
   simp[execOp,hv,Instr.next,getObj,Sem.run,hh]
  .rename_i id since seen last cJ
   obtain⟨r',mo,e1,hh,hl,b,ak,rfl⟩:=h.mem.di _ _ _ cJ dh
   cases e1
   split
   .rename_i dL bs cV ao
    obtain⟨b',es,e1,aq,a1,al,an⟩:=h.mem.di _ _ _ ao ak
    cases e1
    split
    .rename_i hc
     have a6:r<w.heap.size:=(by grind)
     have aa:=Qu dL bs es.toList seen al an
     have ar:(leftOf es seen.toArray).toList=es.toList.filter λe=> !seen.contains e.born:=by
      simp[leftOf]
     rw[<-ar]at aa
     have hold: ∀x∈es.toList,x.born<since:=λx hx=>by
      have:=Am.1 hc.1 x.born (by rw[<-an];exact Ab.2 ⟨x,hx,rfl⟩)
      grind
     have ad:=run_next_at (P:=P) w ty r b since last seen.toArray es cV hh aq hold hc.2
     have ae: ∀o,Ext I J (I.set i o) J:=(by simp_all[Ext.iq])
     have step: ∀(q:V×V×Nat) (en:MapEntry) (w1:World),(w1=w\/w1=w.drew)->dX w L I J q.1 en.key->dX w L I J q.2.1 en.val->en.born=q.2.2->
       (Instr.next (.pointer (some ⟨r,0,none⟩)) false ty).run P w= .ok (.tuple #[.bool true,en.key,en.val]) (ChangeMaps.setBlock w1 r (.mapIter (some b) since (seen.toArray.push en.born) cV))->
       bU P c ⟨dst,.next x false,ty,pos,dY,g⟩ a w L I J (.cz [.bool true,q.1,q.2.1]) (I.set i (.it (some id) since (seen++ [q.2.2]) cV)):=by
      intro q en w1 af h1 h2 h3 ab
      obtain⟨au,ah⟩:=Yu af h.mem
      have a7:w1.heap[r]? =some (.mapIter (some b) since seen.toArray last):=by rcases af with rfl|rfl<;>exact hh
      have ax:r<w1.heap.size:=(by grind)
      have key:=au.jU (o:= .it (some id) since (seen++ [q.2.2]) cV) cJ dh rfl hl (.mapIter (some b) since (seen.toArray.push en.born) cV) (ae _) (by grind[dd]) λhle=>by
       refine⟨r,some b,rfl, ?_,hl,b,ak,rfl⟩
       grind[xH]
      refine⟨.tuple #[.bool true,en.key,en.val],yC w1 r (.mapIter (some b) since (seen.toArray.push en.born) cV),L,J,.inl ?_,key.1,ah.trans key.2,ae _, ?_⟩
      .simp only[execOp,hv,Sem.run_bind,ab,Result.andThen_ok,Sem.run_pure]
       rfl
      .exact⟨[.bool true,en.key,en.val],rfl,dX.dI (df.dv (.bool _)),h1.mono (ah.trans key.2) (ae _),h2.mono (ah.trans key.2) (ae _),tV⟩
     split
     .rename_i av
      rw[av]at aa
      have h0:(leftOf es seen.toArray).size=0:=by
       have:=aa.length
       grind
      rcases ad with ⟨_,ab⟩|⟨en,ai,_⟩
      .refine bU.pure h (x:= .tuple #[.bool false]) ?_ ⟨[.bool false],rfl,dX.dI (df.dv (.bool _)),tV⟩
       grind[execOp,Sem.run_bind,Result.andThen_ok,Sem.run_pure]
      grind
     .rename_i k v b0 aw
      rw[aw]at aa
      have h0:(leftOf es seen.toArray).size=1:=by
       have:=aa.length
       grind
      rcases ad with ⟨hz,_⟩|⟨en,ai,w1,af,ab⟩
      .omega
      .obtain⟨q,hq,h1,h2,h3⟩:=bP.ng aa ai
       simp at hq
       subst hq
       exact step _ en w1 af h1 h2 h3 ab
     .rename_i l ay az
      split
      case isFalse=>trivial
      rcases ad with ⟨hz,_⟩|⟨en,ai,w1,af,ab⟩
      .have:=aa.length
       grind
      .obtain⟨q,hq,h1,h2,h3⟩:=bP.ng aa ai
       exact⟨_,Ab.2 ⟨q,hq,rfl⟩,(by grind)⟩
    trivial
   trivial
  trivial
 trivial
def wD (m:Option (Kk×V)) (I:St) (x k:V):R:=
 match m,x with
 |some (kd,z),.mp id=>if mT kd k=true then(match I[id]? with
  |some (.mp dL bs cV)=>(match oo kd k dL 0 with
   |some (some (i,v))=>(match bs[i]? with|some b=> .ok (.cz [v,.int .i64 (b:Int)])|none=> .fail)
   |some none=> .st (.cz [z,.int .i64 (cV:Int)]) (I.set id (.mp (dL++ [k,z]) (bs++ [cV]) (cV+1)))
   |none=> .fail)
  |_=> .fail)else .fail
 |_,_=> .fail
theorem Yv (es:Array MapEntry) (i:Nat) (f:MapEntry->MapEntry) (h: ∀e,es[i]? =some e->f e=e):es.modify i f=es:=by
 grind
theorem Yw {pos:String} (t:TypeId) (x k:Operand) (h:dS c nt e I a w L J):
  fb (wD (gF P t) I (zG e x) (zG e k)) I (bU P c ⟨dst,.mapEntry t x k,ty,pos,dY,g⟩ a w L I J):=by
 have hx:=h.eval x
 have hk:=h.eval k
 unfold wD
 split
 .rename_i kd z id hm hid
  obtain⟨kt,et,i,zv,hu,ah,hi,hz,av,ai⟩:=GS hm
  rw[hid]at hx
  split
  .rename_i ad
   have aj: ∀em,(Instr.checkKey em 10000 kt (a.eval k)).run P w= .ok () w:=(by grind[GU])
   have an:(zeroValue et).run P w= .ok zv w:=by simp_all[zeroValue,typeInfo]
   obtain⟨b,dh,hv⟩:=BR hx
   split
   .rename_i dL bs cV cJ
    obtain⟨b',es,e1,hh,hl,aa,ao⟩:=h.mem.di _ _ _ cJ dh
    cases e1
    have ak:b<w.heap.size:=(by grind)
    have ab: ∀o,Ext I J (I.set id o) J:=(by simp_all[Ext.iq])
    have ae: ∀ob:Go.Obj,(setObj b ob).run P w= .ok () (yC w b ob):=λob=>by rw[MapKept.run_setObj_map ob hh];rfl
    split
    .rename_i i0 v0 hf
     split
     .rename_i b0 aw
      rcases yn ah ad hk aa hf with ⟨e1,_⟩|⟨j,v',e',e1,e2,e3,_,e5,kk,e6,e7⟩
      .cases e1
      .simp only[ai5,aic]at e1
       obtain⟨rfl,rfl⟩:=e1
       have hj:es[i0]? =some e':=by grind
       have al:e'.key=a.eval k:=by
        obtain⟨y,hy,r⟩:=aa.get _ _ e6
        unfold pM at hy
        rw[(BS _ i0).1,e3]at hy
        simp at hy
        subst hy
        exact(Qm hk (dz.lg r) e7).symm
       have aq:e'.born=b0:=by
        grind
       have af:(es.modify i0 λe=>{e with key:=a.eval k})=es:=Yv es i0 _ λe he=>by
        rw[hj]at he;cases he;rw[<-al]
       have ar:I.set id (.mp dL bs cV)=I:=yN I id _ cJ
       have key:=h.mem.jU (o:= .mp dL bs cV) cJ dh rfl hl (.map es cV) (ab _) (by grind[dd]) λhle=>by
        exact⟨b,_,rfl,xH _ _ _ ak,hl,aa.imp (by grind[dX.mono]),ao⟩
       rw[ar]at key
       refine⟨.tuple #[e'.val,.int .i64 (b0:Int)],_,L,J,.inl ?_,key.1,key.2,Ext.refl _ _,[e'.val,.int .i64 (b0:Int)],rfl,e5.mono key.2 (by grind),dX.dI (df.dv (.int _ _)),tV⟩
       simp[execOp,Instr.mapEntry,run_underlying hu,hv,MapKept.run_getObj_map hh,aj,e2,ae,hj,al,Qn ad hk,af,aq,goInt]
     trivial
    .rename_i hf
     rcases yn ah ad hk aa hf with ⟨_,e2⟩|⟨j,v',e',e1,_⟩
     .have au:dX w L I J (zG e k) (a.eval k):=EM hk (Qq ad)
      have key:=h.mem.jU (o:= .mp (dL++ [zG e k,z]) (bs++ [cV]) (cV+1)) cJ dh rfl hl (.map (es.push {key:=a.eval k,val:=zv,born:=cV}) (cV+1)) (ab _) (by grind[dd]) λhle=>by
       refine⟨b,_,rfl,xH _ _ _ ak,hl, ?_,by grind⟩
       have:bP (dX w L I J) (dL++ [zG e k,z]) (pM (es.push {key:=a.eval k,val:=zv,born:=cV})):=by
        simp only[pM,Array.toList_push,aio]
        exact bP.append aa ⟨au,ai _ _ _ _,tV⟩
       exact this.imp (by grind[dX.mono])
      refine⟨.tuple #[zv,.int .i64 (cV:Int)],_,L,J,.inl ?_,key.1,key.2,ab _,[zv,.int .i64 (cV:Int)],rfl,ai _ _ _ _,dX.dI (df.dv (.int _ _)),tV⟩
      simp[execOp,Instr.mapEntry,run_underlying hu,hv,MapKept.run_getObj_map hh,aj,e2,ae,an,goInt]
     grind
    trivial
   trivial
  trivial
 trivial
def xT (I:St) (x s v:V):R:=
 match x,s with
 | .mp id,.int _ n=>if na v=true then(match I[id]? with
  |some (.mp dL bs cV)=>(match bs.findIdx? λ(b:Nat)=>(b:Int)==n with
   |some i=> .st .u (I.set id (.mp (dL.set (2*i+1) v) bs cV))
   |none=> .fail)
  |_=> .fail)else .fail
 |_,_=> .fail
theorem Yx {pos:String} (t:TypeId) (x s v:Operand) (h:dS c nt e I a w L J):
  fb (xT I (zG e x) (zG e s) (zG e v)) I (bU P c ⟨dst,.entryStore t x s v,ty,pos,dY,g⟩ a w L I J):=by
 have hx:=h.eval x
 have hs:=h.eval s
 have hv:=h.eval v
 unfold xT
 split
 .rename_i id k n hid ai
  rw[hid]at hx
  rw[ai]at hs
  have hs:=yO hs
  split
  .rename_i hc
   obtain⟨b,dh,aj⟩:=BR hx
   split
   .rename_i dL bs cV cJ
    obtain⟨b',es,e1,hh,hl,aa,ak⟩:=h.mem.di _ _ _ cJ dh
    cases e1
    have al:b<w.heap.size:=(by grind)
    have ab: ∀o,Ext I J (I.set id o) J:=(by simp_all[Ext.iq])
    have ad: ∀ob:Go.Obj,(setObj b ob).run P w= .ok () (yC w b ob):=λob=>by rw[MapKept.run_setObj_map ob hh];rfl
    split
    .rename_i i hf
     have ae:(es.findIdx? λe=>(e.born:Int)==n)=some i:=by
      rw[<-ak,List.findIdx?_map]at hf
      have hq:es.findIdx? (λe=>(e.born:Int)==n)=es.toList.findIdx? λe=>(e.born:Int)==n:=by
       obtain⟨l⟩:=es
       simp
      rw[hq]
      exact hf
     have hi:i<es.size:=by
      obtain⟨h1,_⟩:=Array.findIdx?_eq_some_iff_getElem.1 ae
      exact h1
     have an:dX w L I J (zG e v) (a.eval v):=EM hv hc
     have hlen:=aa.length
     unfold pM at hlen
     rw[Mg]at hlen
     simp only[Cq]at hlen
     have ao:2*i<dL.length:=om
     have af:dX w L I J dL[2*i] es[i].key:=by
      obtain⟨y,hy,r⟩:=aa.get (2*i) _ (A0 ao)
      grind[pM,BS]
     have aq:qo dL i dL[2*i] (zG e v)=dL.set (2*i+1) (zG e v):=by
      grind[qo,List.set_getElem_self]
     have ah:(es.modify i λe=>{e with val:=a.eval v})=es.modify i λe=>{e with key:=es[i].key,val:=a.eval v}:=by
      rfl
     have key:=h.mem.jU (o:= .mp (qo dL i dL[2*i] (zG e v)) bs cV) cJ dh rfl hl (.map (es.modify i λe=>{e with key:=es[i].key,val:=a.eval v}) cV) (ab _) (by grind[dd]) λhle=>by
      refine⟨b,_,rfl,xH _ _ _ al,hl,(Qo aa af an hi).imp (by grind[dX.mono]),by rw[Qp];omega⟩
     rw[aq,<-ah]at key
     refine⟨undef,_,L,J,.inr ⟨?_,rfl⟩,key.1,key.2,ab _,tV⟩
     simp[execOp,Instr.entryStore,aj,hs,MapKept.run_getObj_map hh,asInt,asIntOf,ae,ad]
    trivial
   trivial
  trivial
 trivial
def EO (b:Nat):List V->aiB->Option (V×V)
 |k::v::dL,b'::bs=>if b'=b then some (k,v)else EO b dL bs
 |_,_=>none
def qp (I:St) (x:V):R:=
 match x with
 | .ptr i 0=>(match I[i]? with
  |some (.it (some id) _ seen last)=>(match I[id]?,seen.getLast? with
   |some (.mp dL bs cV),some b=>if cV=last then(match EO b dL bs with|some (k,v)=> .ok (.cz [k,v])|none=> .fail)else .fail
   |_,_=> .fail)
  |_=> .fail)
 |_=> .fail
theorem mh (b:Nat): ∀(dL:List V) (bs:aiB) (es:List MapEntry) (k v:V),bP (dX w L I J) dL (es.flatMap λe=> [e.key,e.val])->es.map (·.born)=bs->EO b dL bs=some (k,v)->
  ∃e,es.find? (·.born==b)=some e/\dX w L I J k e.key/\dX w L I J v e.val
 | [],_,_,_,_,_,_,h=>by trivial
 | [_],_,_,_,_,_,_,h=>by trivial
 |_::_::_,_,[],_,_,ha,_,_=>by simpa
 |k0::v0::dL,bs,e::es,k,v,ha,hb,h=>by
  simp only[Bw,Bs,C7,bP]at ha
  obtain⟨h1,h2,h3⟩:=ha
  cases bs with
  |nil=>grind
  |cons b' bs=>
   simp only[Ah,List.cons.injEq]at hb
   obtain⟨rfl,hb⟩:=hb
   rw[EO]at h
   by_cases q:e.born=b
   .grind
   .rw[ai1 q]at h
    obtain⟨e',g1,g2,g3⟩:=mh b dL bs es k v h3 hb h
    have qb:(e.born==b)=false:=sU q
    exact⟨e',by rw[List.find?_cons,qb];exact g1,g2,g3⟩
theorem Yy {pos:String} (x:Operand) (h:dS c nt e I a w L J):
  fb (qp I (zG e x)) I (bU P c ⟨dst,.entry x,ty,pos,dY,g⟩ a w L I J):=by
 have hx:=h.eval x
 unfold qp
 split
 .rename_i i hid
  rw[hid]at hx
  obtain⟨r,dh,hv⟩:=hx
  split
  .rename_i id since seen last cJ
   obtain⟨r',mo,e1,hh,hl,b,ab,rfl⟩:=h.mem.di _ _ _ cJ dh
   cases e1
   split
   .rename_i dL bs cV b0 ad af
    obtain⟨b',es,e1,ah,ai,aa,ae⟩:=h.mem.di _ _ _ ad ab
    cases e1
    split
    .rename_i hc
     subst hc
     split
     .rename_i k v he
      obtain⟨en,g1,g2,g3⟩:=mh b0 dL bs es.toList k v aa ae he
      have aj:es.find? (·.born==b0)=some en:=by
       grind
      have ak:seen.toArray.back? =some b0:=by
       grind
      refine bU.pure h (x:= .tuple #[en.key,en.val]) ?_ ⟨[en.key,en.val],rfl,g2,g3,tV⟩
      simp_all[execOp,Instr.entry,getObj,Sem.run]
     trivial
    trivial
   trivial
  trivial
 trivial
def EP (P:Program) (t:TypeId):Bool:=match P.underlying t with|some (.slice _)=>true|_=>false
def yv (b:Bool) (t:TypeId) (x:V):R:=
 match b,x with
 |true,.cL id s n lo m=> .ok (.gW t [.cL id s n lo m])
 |true,.sl g rows=> .ok (.gW t [.sl g rows])
 |_,_=> .fail
theorem Yz {pos:String} (t:TypeId) (x:Operand) (h:dS c nt e I a w L J):
  fb (yv (EP P t) t (zG e x)) I (bU P c ⟨dst,.makeInterface t x,ty,pos,dY,g⟩ a w L I J):=by
 have hx:=h.eval x
 have hu:EP P t=true->(Instr.makeInterface t (a.eval x)).run P w= .ok (.iface t (a.eval x)) w:=λhb=>by
  unfold EP at hb
  split at hb
  all_goals simp_all[Instr.makeInterface,run_underlying]
 unfold yv
 split
 .rename_i id s n lo m hb hid
  rw[hid]at hx
  exact bU.pure h (x:= .iface t (a.eval x)) (by simp_all[execOp]) ⟨a.eval x,rfl,hx,tV⟩
 .rename_i g rows hb hid
  rw[hid]at hx
  exact bU.pure h (x:= .iface t (a.eval x)) (by simp_all[execOp]) ⟨a.eval x,rfl,hx,tV⟩
 trivial
end
def dt (ρ:Nat->Nat):V->V
 | .ptr id off=> .ptr (ρ id) off
 | .sl (.app id) rows=> .sl (.app (ρ id)) rows
 | .cL id s n lo m=> .cL (ρ id) s n lo m
 | .iH id s n k j=> .iH (ρ id) s n k j
 | .jZ id s off n=> .jZ (ρ id) s off n
 | .mp id=> .mp (ρ id)
 |v=>v
def dj (ρ:Nat->Nat):V->V
 | .fn f bY=> .fn f (bY.map (dt ρ))
 | .gW t vs=> .gW t (vs.map (dt ρ))
 |v=>dt ρ v
def dM (ρ:Nat->Nat):V->V
 | .agg cs=> .agg (cs.map (dj ρ))
 |v=>dj ρ v
def dH (ρ:Nat->Nat):V->V
 | .cz vs=> .cz (vs.map (dM ρ))
 |v=>dM ρ v
def yA (ρ:Nat->Nat):Ob->Ob
 | .box cells=> .box (cells.map (dj ρ))
 | .cd rows s=> .cd (rows.map λr=>r.map (dj ρ)) s
 | .mp dL gk cV=> .mp (dL.map (dM ρ)) gk cV
 | .it m since seen last=> .it (m.map ρ) since seen last
 |o=>o
theorem bP.fP {U J γ:Type} {R:U->J->Prop} {S:γ->J->Prop} {f:U->γ} (h: ∀a b,R a b->S (f a) b): ∀{l:List U} {m:List J},bP R l m->bP S (l.map f) m
 | [],[],_=>trivial
 |_::_,_::_,q=>⟨h _ _ q.1,bP.fP h q.2⟩
 | [],_::_,q=>q.elim
 |_::_,[],q=>q.elim
theorem bP.gD {U J γ:Type} {R:U->J->Prop} {S:γ->J->Prop} {f:U->γ} (h: ∀a b,S (f a) b->R a b): ∀{l:List U} {m:List J},bP S (l.map f) m->bP R l m
 | [],[],_=>trivial
 |_::_,_::_,q=>⟨h _ _ q.1,bP.gD h q.2⟩
 | [],_::_,q=>q.elim
 |_::_,[],q=>q.elim
structure ER (ρ:Nat->Nat) (I:St) (J:aiC) (Ic:St) (Jc:aiC):Prop where
 val: ∀(id:Nat) x,J[id]? =some x->Jc[ρ id]? =some x
 app: ∀(id:Nat) n s,I[id]? =some (.app n s)->Ic[ρ id]? =some (.app n s)
 cd: ∀(id:Nat) rows s,I[id]? =some (.cd rows s)-> ∃eC,Ic[ρ id]? =some (.cd eC s)/\eC.length=rows.length
 dead: ∀(id:Nat),I[id]? =some .dead->Ic[ρ id]? =some .dead
structure sM (ρ:Nat->Nat) (I:St) (J:aiC) (Ic:St) (Jc:aiC):Prop where
 val: ∀(id:Nat) x,Jc[ρ id]? =some x->J[id]? =some x
 app: ∀(id:Nat) n s,Ic[ρ id]? =some (.app n s)->I[id]? =some (.app n s)
 cd: ∀(id:Nat) rows s,Ic[ρ id]? =some (.cd rows s)-> ∃eC,I[id]? =some (.cd eC s)/\eC.length=rows.length
 dead: ∀(id:Nat),Ic[ρ id]? =some .dead->I[id]? =some .dead
section
variable {ρ:Nat->Nat} {w:World} {L:Nat->Nat} {I Ic:St} {J Jc:aiC}
variable {x:Value}
theorem gQ.mj (h:ER ρ I J Ic Jc) {v:V} (r:gQ w L I J v x):gQ w L Ic Jc (dt ρ v) x:=by
 cases v with
 |ptr id off=>obtain⟨b,hb,hx⟩:=r;exact⟨b,h.val _ _ hb,hx⟩
 |sl g rows=>cases g with
  |app id=>obtain⟨hr,n,s,cJ,hle,dh,hl⟩:=r;exact⟨hr,n,s,h.app _ _ _ cJ,hle,λq=>h.val _ _ (dh q),hl⟩
  |ro=>exact r
  |full=>exact r
 |cL id s n lo m=>
  obtain⟨a,cap,hx,hm,ha,hc⟩:=r
  refine⟨a,cap,hx,hm,ha, ?_⟩
  rcases hc with hd|⟨rows,cJ,hn,hb⟩
  .exact .inl (h.dead id hd)
  .obtain⟨r2,e2,l2⟩:=h.cd id rows s cJ
   refine .inr ⟨r2,e2,om,λq=> ?_⟩
   obtain⟨b,c0,q1,q2⟩:=hb om
   exact⟨b,c0,h.val _ _ q1,q2⟩
 |iH id s n i j=>
  obtain⟨b,o,hx,hc⟩:=r
  refine⟨b,o,hx, ?_⟩
  rcases hc with hd|⟨rows,cJ,hn,hb⟩
  .exact .inl (h.dead id hd)
  .obtain⟨r2,e2,l2⟩:=h.cd id rows s cJ
   refine .inr ⟨r2,e2,om,λq q'=> ?_⟩
   obtain⟨c0,q1,q2⟩:=hb om q'
   exact⟨c0,h.val _ _ q1,q2⟩
 |jZ id s off n=>obtain⟨b,hb,hx⟩:=r;exact⟨b,h.val _ _ hb,hx⟩
 |mp id=>obtain⟨b,hb,hx⟩:=r;exact⟨b,h.val _ _ hb,hx⟩
 |_=>exact r
theorem gQ.jr (h:sM ρ I J Ic Jc) {v:V} (r:gQ w L Ic Jc (dt ρ v) x):gQ w L I J v x:=by
 cases v with
 |ptr id off=>obtain⟨b,hb,hx⟩:=r;exact⟨b,h.val _ _ hb,hx⟩
 |sl g rows=>cases g with
  |app id=>obtain⟨hr,n,s,cJ,hle,dh,hl⟩:=r;exact⟨hr,n,s,h.app _ _ _ cJ,hle,λq=>h.val _ _ (dh q),hl⟩
  |ro=>exact r
  |full=>exact r
 |cL id s n lo m=>
  obtain⟨a,cap,hx,hm,ha,hc⟩:=r
  refine⟨a,cap,hx,hm,ha, ?_⟩
  rcases hc with hd|⟨rows,cJ,hn,hb⟩
  .exact .inl (h.dead id hd)
  .obtain⟨r2,e2,l2⟩:=h.cd id rows s cJ
   refine .inr ⟨r2,e2,om,λq=> ?_⟩
   obtain⟨b,c0,q1,q2⟩:=hb om
   exact⟨b,c0,h.val _ _ q1,q2⟩
 |iH id s n i j=>
  obtain⟨b,o,hx,hc⟩:=r
  refine⟨b,o,hx, ?_⟩
  rcases hc with hd|⟨rows,cJ,hn,hb⟩
  .exact .inl (h.dead id hd)
  .obtain⟨r2,e2,l2⟩:=h.cd id rows s cJ
   refine .inr ⟨r2,e2,om,λq q'=> ?_⟩
   obtain⟨c0,q1,q2⟩:=hb om q'
   exact⟨c0,h.val _ _ q1,q2⟩
 |jZ id s off n=>obtain⟨b,hb,hx⟩:=r;exact⟨b,h.val _ _ hb,hx⟩
 |mp id=>obtain⟨b,hb,hx⟩:=r;exact⟨b,h.val _ _ hb,hx⟩
 |_=>exact r
theorem df.mj (h:ER ρ I J Ic Jc) {v:V} (r:df w L I J v x):df w L Ic Jc (dj ρ v) x:=by
 cases v with
 |fn f bY=>obtain⟨xs,hx,hc⟩:=r;exact⟨xs,hx,(by grind[bP.fP,gQ.mj])⟩
 |gW t v=>obtain⟨y,hx,hc⟩:=r;exact⟨y,hx,(by grind[bP.fP,gQ.mj])⟩
 |sl g rows=>
  have r':gQ w L I J (.sl g rows) x:=r
  have:=r'.mj h
  cases g<;>exact this
 |_=>simp only[df]at r;have q:=gQ.mj h r;exact q
theorem df.jr (h:sM ρ I J Ic Jc) {v:V} (r:df w L Ic Jc (dj ρ v) x):df w L I J v x:=by
 cases v with
 |fn f bY=>obtain⟨xs,hx,hc⟩:=r;exact⟨xs,hx,(by grind[bP.gD,gQ.jr])⟩
 |gW t v=>obtain⟨y,hx,hc⟩:=r;exact⟨y,hx,(by grind[bP.gD,gQ.jr])⟩
 |sl g rows=>
  have r':gQ w L Ic Jc (dt ρ (.sl g rows)) x:=by cases g<;>exact r
  exact r'.jr h
 |_=>simp only[df];refine gQ.jr h ?_;exact r
theorem dX.mj (h:ER ρ I J Ic Jc) {v:V} (r:dX w L I J v x):dX w L Ic Jc (dM ρ v) x:=by
 cases v with
 |agg cs=>obtain⟨xs,hx,hc⟩:=r;exact⟨xs,hx,(by grind[bP.fP,df.mj])⟩
 |sl g rows=>
  have r':df w L I J (.sl g rows) x:=r
  have:=r'.mj h
  cases g<;>exact this
 |_=>simp only[dX]at r;have q:=df.mj h r;exact q
theorem dX.jr (h:sM ρ I J Ic Jc) {v:V} (r:dX w L Ic Jc (dM ρ v) x):dX w L I J v x:=by
 cases v with
 |agg cs=>obtain⟨xs,hx,hc⟩:=r;exact⟨xs,hx,(by grind[bP.gD,df.jr])⟩
 |sl g rows=>
  have r':df w L Ic Jc (dj ρ (.sl g rows)) x:=by cases g<;>exact r
  exact r'.jr h
 |_=>simp only[dX];refine df.jr h ?_;exact r
theorem dz.mj (h:ER ρ I J Ic Jc) {v:V} (r:dz w L I J v x):dz w L Ic Jc (dH ρ v) x:=by
 cases v with
 |u=>trivial
 |cz vs=>obtain⟨xs,hx,hc⟩:=r;exact⟨xs,hx,(by grind[bP.fP,dX.mj])⟩
 |sl g rows=>
  have r':dX w L I J (.sl g rows) x:=r
  have:=r'.mj h
  cases g<;>exact this
 |_=>simp only[dz]at r;have q:=dX.mj h r;exact q
theorem dz.jr (h:sM ρ I J Ic Jc) {v:V} (r:dz w L Ic Jc (dH ρ v) x):dz w L I J v x:=by
 cases v with
 |u=>trivial
 |cz vs=>obtain⟨xs,hx,hc⟩:=r;exact⟨xs,hx,(by grind[bP.gD,dX.jr])⟩
 |sl g rows=>
  have r':dX w L Ic Jc (dM ρ (.sl g rows)) x:=by cases g<;>exact r
  exact r'.jr h
 |_=>simp only[dz];refine dX.jr h ?_;exact r
theorem gX.mj (h:ER ρ I J Ic Jc) {o:Ob} (r:gX w L I J o x):gX w L Ic Jc (yA ρ o) x:=by
 cases o with
 |box cells=>obtain⟨b,arr,T,fz,hx,hh,hf,hl,hc⟩:=r;exact⟨b,arr,T,fz,hx,hh,hf,hl,(by grind[bP.fP,df.mj])⟩
 |cd rows s=>
  obtain⟨a,cap,hx,dp,hs,hu,db⟩:=r
  refine⟨a,cap,by grind,by grind,hs,λr hr=> ?_,λh0=> ?_⟩
  .grind
  grind[bP.fP,df.mj]
 |app n s=>exact r
 |dead=>trivial
 |mp dL gk cV=>obtain⟨b,es,hx,hh,hl,hc,hb⟩:=r;exact⟨b,es,hx,hh,hl,(by grind[bP.fP,dX.mj]),hb⟩
 |it m since seen last=>
  obtain⟨b,mo,hx,hh,hl,hc⟩:=r
  refine⟨b,mo,hx,hh,hl, ?_⟩
  cases m with
  |none=>exact hc
  |some id=>obtain⟨q,hq,hm⟩:=hc;exact⟨q,h.val _ _ hq,hm⟩
theorem gX.jr (h:sM ρ I J Ic Jc) {o:Ob} (r:gX w L Ic Jc (yA ρ o) x):gX w L I J o x:=by
 cases o with
 |box cells=>obtain⟨b,arr,T,fz,hx,hh,hf,hl,hc⟩:=r;exact⟨b,arr,T,fz,hx,hh,hf,hl,(by grind[bP.gD,df.jr])⟩
 |cd rows s=>
  obtain⟨a,cap,hx,dp,hs,hu,db⟩:=r
  refine⟨a,cap,by grind,by grind,hs,λr hr=> ?_,λh0=> ?_⟩
  .simp_all
  grind[bP.gD,df.jr]
 |app n s=>exact r
 |dead=>trivial
 |mp dL gk cV=>obtain⟨b,es,hx,hh,hl,hc,hb⟩:=r;exact⟨b,es,hx,hh,hl,(by grind[bP.gD,dX.jr]),hb⟩
 |it m since seen last=>
  obtain⟨b,mo,hx,hh,hl,hc⟩:=r
  refine⟨b,mo,hx,hh,hl, ?_⟩
  cases m with
  |none=>exact hc
  |some id=>obtain⟨q,hq,hm⟩:=hc;exact⟨q,h.val _ _ hq,hm⟩
theorem sN (o:Ob) (x:Value):dd (yA ρ o) x=dd o x:=by
 cases o with
 |cd rows s=>cases x with
  |slice a n cap=>cases a<;>rfl
  |_=>rfl
 |_=>cases x<;>first|rfl|(rename_i q;cases q<;>rfl)
end
variable {I:St}{P:Program}
def uE (I:St) (J:aiC):aiB:=(I.zip J).filterMap λp=>dd p.1 p.2
theorem gR {J:aiC} {b:Nat}:b∈uE I J↔ ∃(i:Nat) (o:Ob) (x:Value),I[i]? =some o/\J[i]? =some x/\dd o x=some b:=by
 unfold uE
 rw[Dy]
 constructor
 .rintro⟨⟨o,x⟩,hm,he⟩
  obtain⟨i,hi⟩:=Ar.1 hm
  grind[List.getElem?_zip_eq_some]
 .rintro⟨i,o,x,h1,h2,h3⟩
  exact⟨(o,x),Ar.2 ⟨i,by grind⟩,h3⟩
def entry (w:World) (L:Nat->Nat) (I:St) (J:aiC):Ctx:=⟨w,L,uE I J,I,J⟩
def cK (dg:aiB) (N:Nat) (id:Nat):Nat:=if h:id<dg.length then dg[id]else N+(id - dg.length)
def bN (P:Program) (f:FuncId) (args:List V) (I:St) (R:V->St->Prop):Prop:=
 ∀(w:World) (L:Nat->Nat) (J:aiC) (j4:aiC),Mem (entry w L I J) w L I J->bP (dz w L I J) args j4->
  Calls P f j4.toArray w λe w'=> ∃v r L' I' J',e= .returned v/\R r I'/\I.length<=I'.length/\Mem (entry w L I J) w' L' I' J'/\dz w' L' I' J' r v
theorem bN.mono {f:FuncId} {args:List V} {R R':V->St->Prop} (h:bN P f args I R) (hR: ∀r I',R r I'->R' r I'):bN P f args I R':=
 λw L J aa hm ha=>(h w L J aa hm ha).mono (by grind)
def VC (P:Program) (c:Ctx) (fv:V) (args:List V) (I:St) (K:V->St->Prop):Prop:=
 ∃f bY,fv= .fn f bY/\(((∃fn,P.funcs[f]? =some fn/\(fn.name== "runtime.NumGoroutine")=false/\fn.body.isSome=true)/\
  ∀w L J j4,Mem c w L I J->bP (dz w L I J) (args++bY) j4->
   Calls P f j4.toArray w λe w'=> ∃v r L' I' J',e= .returned v/\K r I'/\Mem c w' L' I' J'/\Le w L w' L'/\Ext I J I' J'/\dz w' L' I' J' r v)\/
  ∀w L J j4,Mem c w L I J->bP (dz w L I J) (args++bY) j4->
   ∃v r w' L' I' J',(callFunc f j4.toArray).run P w= .ok (.value v) w'/\K r I'/\Mem c w' L' I' J'/\Le w L w' L'/\Ext I J I' J'/\dz w' L' I' J' r v)
theorem VC.mono {c:Ctx} {fv:V} {az:List V} {K K':V->St->Prop} (h:VC P c fv az I K) (hk: ∀v s,K v s->K' v s):VC P c fv az I K':=by
 obtain⟨f,bY,h1,⟨h2,h3⟩|h3⟩:=h
 .refine⟨f,bY,h1,.inl ⟨h2,λw L J aa hm ha=>(h3 w L J aa hm ha).mono ?_⟩⟩
  grind
 .refine⟨f,bY,h1,.inr λw L J aa hm ha=> ?_⟩
  grind
def xE (P:Program) (f:FuncId):Bool:=match P.funcs[f]? with|some fn=> !(fn.name== "runtime.NumGoroutine")&&fn.body.isSome|none=>false
theorem Jb {f:FuncId} (h:xE P f): ∃fn,P.funcs[f]? =some fn/\(fn.name== "runtime.NumGoroutine")=false/\fn.body.isSome=true:=by
 unfold xE at h
 grind
def oN (ρ:Nat->Nat) (a' a:V):Prop:=a=dj ρ a'\/ ∃g rows,a'= .sl .ro rows/\a= .sl g rows
def nj (ρ:Nat->Nat) (a' a:V):Prop:=a=dM ρ a'\/(∃g rows,a'= .sl .ro rows/\a= .sl g rows)\/ ∃cs' cs,a'= .agg cs'/\a= .agg cs/\bP (oN ρ) cs' cs
def cP (ρ:Nat->Nat) (a' a:V):Prop:=a=dH ρ a'\/a'= .u\/(∃g rows,a'= .sl .ro rows/\a= .sl g rows)\/(∃cs' cs,a'= .agg cs'/\a= .agg cs/\bP (oN ρ) cs' cs)\/ ∃gZ vs,a'= .cz gZ/\a= .cz vs/\bP (nj ρ) gZ vs
def fI {U:Type}:aiB->List U->List U->List U
 |i::dg,l,x::xs=>fI dg (l.set i x) xs
 |_,l,_=>l
theorem nk {U:Type}: ∀(dg:aiB) (l xs:List U),(fI dg l xs).length=l.length
 | [],_,_=>by rfl
 |i::dg,l,[]=>by rfl
 |i::dg,l,x::xs=>by simp[fI,nk dg]
theorem sO {U:Type}: ∀(dg:aiB) (l xs:List U) (j:Nat),j∉dg->(fI dg l xs)[j]? =l[j]?
 | [],_,_,_,_=>by rfl
 |i::dg,l,[],_,_=>by rfl
 |i::dg,l,x::xs,j,h=>by
  simp only[Ae,not_or]at h
  rw[fI,sO dg _ xs j h.2,D8 (λq=>h.1 q.symm)]
theorem Jd {U:Type}: ∀(dg:aiB) (l xs:List U) (i j:Nat),dg.Nodup->(∀q∈dg,q<l.length)->dg.length<=xs.length->dg[i]? =some j->(fI dg l xs)[j]? =xs[i]?
 | [],_,_,_,_,_,_,_,h=>by grind
 |i0::dg,l,[],_,_,_,_,hl,_=>by grind
 |i0::dg,l,x::xs,0,j,hn,aa,hl,h=>by
  simp at h
  subst h
  rw[C1]at hn
  rw[fI,sO dg _ xs i0 hn.1,Bi (aa i0 sm)]
  rfl
 |i0::dg,l,x::xs,i+1,j,hn,aa,hl,h=>by
  rw[C1]at hn
  rw[fI,Jd dg _ xs i j hn.2 (λq hq=>by simp;exact aa q (by simp[hq])) (sU hl) (sU h)]
  simp
def yX (dg:aiB) (Ic I':St):St:=fI dg Ic ((I'.take dg.length).map (yA (cK dg Ic.length)))++(I'.drop dg.length).map (yA (cK dg Ic.length))
def sP (dg:aiB) (Jc J':aiC):aiC:=fI dg Jc (J'.take dg.length)++J'.drop dg.length
section
variable {P:Program} {c:Ctx}
variable {dg:aiB}{i:Nat}
theorem wV {N:Nat} (h:i<dg.length):cK dg N i=dg[i]:=by grind[cK]
theorem qu {N:Nat} (h: ¬i<dg.length):cK dg N i=N+(i - dg.length):=by grind[cK]
theorem BT {Ic I':St} (hn:dg.Nodup) (aa: ∀q∈dg,q<Ic.length) (hl:dg.length<=I'.length) {o:Ob} (h:I'[i]? =some o):
  (yX dg Ic I')[cK dg Ic.length i]? =some (yA (cK dg Ic.length) o):=by
 unfold yX
 by_cases hi:i<dg.length
 .rw[wV hi,Ao (by rw[nk];exact aa _ (A8 hi)),
   Jd dg _ _ i _ hn aa (by simp;omega) (A0 hi),B6,Ap,ai2 hi,h]
  rfl
 .rw[qu hi,Au (by rw[nk];omega),nk,B6,C6,show dg.length+(Ic.length+(i - dg.length) - Ic.length)=i by omega,h]
  rfl
theorem Qw {Jc J':aiC} (hn:dg.Nodup) (aa: ∀q∈dg,q<Jc.length) (hl:dg.length<=J'.length) {x:Value} (h:J'[i]? =some x):
  (sP dg Jc J')[cK dg Jc.length i]? =some x:=by
 unfold sP
 by_cases hi:i<dg.length
 .rw[wV hi,Ao (by rw[nk];exact aa _ (A8 hi)),
   Jd dg _ _ i _ hn aa (by simp;omega) (A0 hi),Ap,ai2 hi,h]
 grind[qu,nk]
theorem YA {dg:aiB} {Ic I':St} {Jc J':aiC} (hn:dg.Nodup) (aa: ∀q∈dg,q<Ic.length) (ad:Jc.length=Ic.length) (ae:J'.length=I'.length) (hl:dg.length<=I'.length) {j:Nat} {o:Ob} {x:Value}
  (h1:(yX dg Ic I')[j]? =some o) (h2:(sP dg Jc J')[j]? =some x):
  (∃(i:Nat) (o':Ob),j=cK dg Ic.length i/\I'[i]? =some o'/\o=yA (cK dg Ic.length) o'/\J'[i]? =some x)\/(j∉dg/\j<Ic.length/\Ic[j]? =some o/\Jc[j]? =some x):=by
 have ab: ∀q∈dg,q<Jc.length:=by grind
 by_cases hj:j<Ic.length
 .by_cases hm:j∈dg
  .obtain⟨i,hi⟩:=Ar.1 hm
   obtain⟨af,ah⟩:=A4.1 hi
   have e1:=BT hn aa hl (A0 (show i<I'.length by omega))
   grind[Qw,wV]
  grind[yX,sP,nk,sO]
 grind[yX,sP,nk,qu]
theorem Mh {U J γ:Type} {A:U->J->Prop} {B:J->γ->Prop} {C:U->γ->Prop} (h: ∀a b c,A a b->B b c->C a c): ∀{l:List U} {m:List J} {n:List γ},bP A l m->bP B m n->bP C l n
 | [],[],[],_,_=>trivial
 |_::_,_::_,_::_,p,q=>⟨h _ _ _ p.1 q.1,Mh h p.2 q.2⟩
 | [],_::_,_,p,_=>p.elim
 |_::_,[],_,p,_=>p.elim
 | [],[],_::_,_,q=>q.elim
 |_::_,_::_,[],_,q=>q.elim
section
variable {ρ:Nat->Nat} {w:World} {L:Nat->Nat} {I Ic:St} {J Jc:aiC}
variable {a':V}{a:V}{x:Value}
theorem YB (h:sM ρ I J Ic Jc) (ha:oN ρ a' a) (r:df w L Ic Jc a x):df w L I J a' x:=by
 rcases ha with rfl|⟨g,rows,rfl,rfl⟩
 .exact r.jr h
 .exact sE (by simpa)
theorem Qx (h:sM ρ I J Ic Jc) (ha:nj ρ a' a) (r:dX w L Ic Jc a x):dX w L I J a' x:=by
 rcases ha with rfl|⟨g,rows,rfl,rfl⟩|⟨ab,cs,rfl,rfl,aa⟩
 .exact r.jr h
 .exact sE (dz.lg r)
 .obtain⟨xs,hx,hr⟩:=r
  exact⟨xs,hx,(by grind[Mh,YB])⟩
theorem yw (h:sM ρ I J Ic Jc) (ha:cP ρ a' a) (r:dz w L Ic Jc a x):dz w L I J a' x:=by
 rcases ha with rfl|rfl|⟨g,rows,rfl,rfl⟩|⟨ab,cs,rfl,rfl,aa⟩|⟨gZ,vs,rfl,rfl,aa⟩
 .exact r.jr h
 .trivial
 .exact sE r
 .exact dz.lg (Qx h (.inr (.inr ⟨ab,cs,rfl,rfl,aa⟩)) r)
 .obtain⟨xs,hx,hr⟩:=r
  exact⟨xs,hx,(by grind[Mh,Qx])⟩
end
theorem VC.of {f:FuncId} {bY args cj:List V} {Ic fj:St} {R:V->St->Prop} {K:V->St->Prop} (hc:bN P f cj fj R) (hb:xE P f) (dg:aiB) (an:dg.Nodup) (hlen:fj.length=dg.length)
  (aA: ∀(i j:Nat) (o:Ob),dg[i]? =some j->fj[i]? =some o->Ic[j]? =some (yA (cK dg Ic.length) o)) (aj:bP (cP (cK dg Ic.length)) cj (args++bY))
  (hk: ∀r I',R r I'->dg.length<=I'.length->K (dH (cK dg Ic.length) r) (yX dg Ic I')):VC P c (.fn f bY) args Ic K:=by
 refine⟨f,bY,rfl,.inl ⟨Jb hb,λw L Jc af hm hv=> ?_⟩⟩
 have ah: ∀q∈dg,q<Ic.length:=λq hq=>by
  obtain⟨i,hi⟩:=Ar.1 hq
  have al:=(A4.1 hi).1
  have:=aA i q _ hi (A0 (show i<fj.length by omega))
  grind
 let oO:=dg.map λq=>Jc.getD q undef
 have ao: ∀(i j:Nat),dg[i]? =some j->oO[i]? =Jc[j]? :=λi j hi=>by
  simp only[oO,B6,hi,Ba]
  have hj:=ah j (by grind)
  rw[Al,A0 (by rw[hm.len];exact hj)]
  rfl
 have ak: ∀(id:Nat) O,Ic[cK dg Ic.length id]? =some O-> ∃o,fj[id]? =some o/\O=yA (cK dg Ic.length) o:=(by grind[wV,qu])
 have ai:sM (cK dg Ic.length) fj oO Ic Jc:=by
  refine⟨λid x hx=> ?_,λid n s hx=> ?_,λid rows s hx=> ?_,λid hx=> ?_⟩
  .by_cases hi:id<dg.length
   .grind[wV]
   .rw[qu hi]at hx
    have:=(A4.1 hx).1
    rw[hm.len]at this;omega
  .obtain⟨o,ho,he⟩:=ak id _ hx
   cases o<;>grind[yA]
  .obtain⟨o,ho,he⟩:=ak id _ hx
   cases o<;>grind[yA]
  .obtain⟨o,ho,he⟩:=ak id _ hx
   cases o with
   |dead=>exact ho
   |_=>simp[yA]at he
 have ae: ∀(i:Nat) (o:Ob) (x:Value),fj[i]? =some o->oO[i]? =some x-> ∃j,dg[i]? =some j/\Ic[j]? =some (yA (cK dg Ic.length) o)/\Jc[j]? =some x:=by
  grind
 have aB:Mem (entry w L fj oO) w L fj oO:=by
  refine⟨by grind,λi o x ho hx=> ?_,λi j o o' x x' b a8 ho hx aw ax he=> ?_,λi o x b ho hx he=> ?_,λb _ _=>(by trivial),Le.refl _ _,A7 _,rfl,rfl,rfl,A7 _,hm.lim,Ext.refl _ _,hm.jA.mono hm.le⟩
  .obtain⟨j,hj,h1,h2⟩:=ae i o x ho hx
   exact(hm.di j _ x h1 h2).jr ai
  .obtain⟨p,hp,h1,h2⟩:=ae i o x ho hx
   obtain⟨q,hq,h3,h4⟩:=ae j o' x' aw ax
   have aC:p≠q:=(by grind[List.getElem_inj])
   have:=hm.apart p q _ _ x x' b aC h1 h2 h3 h4 (by grind[sN])
   grind[sN]
  .exact .inr (gR.2 (by grind))
 have aD:bP (dz w L fj oO) cj af:=by
  clear hk hc
  generalize args++bY=az at hv aj
  induction cj generalizing az af with
  |nil=>cases az with
   |nil=>cases af<;>simpa
   |cons _ _=>trivial
  |cons p cj ih=>cases az with
   |nil=>trivial
   |cons q az=>cases af with
    |nil=>simpa
    |cons y ys=>exact⟨yw ai aj.1 hv.1,ih _ _ hv.2 aj.2⟩
 refine(hc w L oO af aB aD).mono λe w' ⟨v,r,L',I',J',he,hR,aI,aa,aE⟩=> ?_
 have ay:dg.length<=I'.length:=om
 have aF: ∀q∈dg,q<Jc.length:=by rw[hm.len];omega
 have ad:ER (cK dg Ic.length) I' J' (yX dg Ic I') (sP dg Jc J'):=by
  refine⟨λid x hx=> ?_,λid n s hx=>BT an ah ay hx,λid rows s hx=>⟨_,BT an ah ay hx,sm⟩,λid hx=>BT an ah ay hx⟩
  have:=Qw an aF (by rw[aa.len];omega) hx
  rw[hm.len]at this;omega
 have aq: ∀(j:Nat) (o:Ob) (x:Value) (b:Nat),j∉dg->Ic[j]? =some o->Jc[j]? =some x->dd o x=some b->b∉uE fj oO:=by
  intro j o x b hj ho hx he hb
  obtain⟨i,o',x',h1,h2,h3⟩:=gR.1 hb
  obtain⟨p,hp,h4,h5⟩:=ae i o' x' h1 h2
  have aG:j≠p:=(by grind)
  exact hm.apart j p o _ x x' b aG ho hx h4 h5 he (by grind[sN])
 have a1: ∀b,b∈uE fj oO->c.w0.heap.size<=b\/b∈c.X0:=by
  intro b hb
  obtain⟨i,o',x',h1,h2,h3⟩:=gR.1 hb
  obtain⟨p,hp,h4,h5⟩:=ae i o' x' h1 h2
  exact hm.fY p _ x' b h4 h5 (by grind[sN])
 have ar:Ext Ic Jc (yX dg Ic I') (sP dg Jc J'):=by
  refine⟨λid a ha=> ?_,λid n s ha=> ?_,λid rows s ha=> ?_,λid ha=> ?_⟩
  .have au:id<Jc.length:=(by grind)
   by_cases hs:id∈dg
   .obtain⟨i,hi⟩:=Ar.1 hs
    have h1:=ao i id hi
    rw[ha]at h1
    have h2:=aa.ext.ptr i a h1
    have h3:=ad.val i _ h2
    grind[wV]
   grind[sP,nk,sO]
  .have au:id<Ic.length:=(by grind)
   by_cases hs:id∈dg
   .obtain⟨i,hi⟩:=Ar.1 hs
    obtain⟨al,av⟩:=A4.1 hi
    have h1:=ai.app i n s (by grind[wV])
    obtain⟨n',h2,h3,h4⟩:=aa.ext.app i n s h1
    have h5:=ad.app i n' s h2
    rw[wV al,av]at h5
    refine⟨n',h5,h3,λe=> ?_⟩
    have h6:=h4 e
    rw[show(entry w L fj oO).β0=oO from rfl,ao i id hi]at h6
    have a6:i<J'.length:=by grind
    have h7:=ad.val i _ (A0 a6)
    grind[wV]
   .refine⟨n, ?_,om,λ_=> ?_⟩
    .grind[yX,nk,sO]
    .unfold sP
     rw[Ao (by rw[nk,hm.len];omega),sO _ _ _ _ hs]
  .have au:id<Ic.length:=(by grind)
   by_cases hs:id∈dg
   .obtain⟨i,hi⟩:=Ar.1 hs
    obtain⟨al,av⟩:=A4.1 hi
    obtain⟨r0,h1,l1⟩:=ai.cd i rows s (by grind[wV])
    rcases aa.ext.cd i r0 s h1 with h2|⟨r2,h2,h3,h4⟩
    .have h5:=ad.dead i h2
     grind[wV]
    .obtain⟨r3,h5,l5⟩:=ad.cd i r2 s h2
     rw[wV al,av]at h5
     refine .inr ⟨r3,h5,om,λe=> ?_⟩
     have h6:=h4 om
     rw[show(entry w L fj oO).β0=oO from rfl,ao i id hi]at h6
     have a6:i<J'.length:=by grind
     have h7:=ad.val i _ (A0 a6)
     rw[wV al,av]at h7
     grind
   .refine .inr ⟨rows, ?_,om,λ_=> ?_⟩
    .grind[yX,nk,sO]
    .unfold sP
     rw[Ao (by rw[nk,hm.len];omega),sO _ _ _ _ hs]
  .have au:id<Ic.length:=(by grind)
   by_cases hs:id∈dg
   .obtain⟨i,hi⟩:=Ar.1 hs
    obtain⟨al,av⟩:=A4.1 hi
    have h1:=ai.dead i (by grind[wV])
    have h5:=ad.dead i (aa.ext.dead i h1)
    grind[wV]
   grind[yX,nk,sO]
 have hinv:= @YA dg Ic I' Jc J' an ah hm.len aa.len ay
 refine⟨v,dH (cK dg Ic.length) r,L',_,_,he,(by grind), ?_,aa.le,ar,aE.mj ad⟩
 refine⟨?_,λj o x ho hx=> ?_,λj j' o o' x x' b a8 ho hx aw ax ab=> ?_,λj o x b ho hx ab=> ?_,λb ab hx=> ?_,hm.le.trans aa.le,Ax hm.size aa.size,aa.os.trans hm.os,aa.tape.trans hm.tape,aa.output.trans hm.output,Ax hm.drawn aa.drawn,aa.lim,hm.ext.trans ar,hm.jA⟩
 .simp[yX,sP,nk,hm.len,aa.len]
 .rcases hinv ho hx with ⟨i,o',rfl,h1,rfl,h2⟩|⟨h0,a7,h1,h2⟩
  .exact(aa.di i o' x h1 h2).mj ad
  .refine(hm.di j o x h1 h2).step aa.le ar λb ab=>aa.same b ?_ (aq j o x b h0 h1 h2 ab)
   exact(hm.di j o x h1 h2).eO ab
 .rcases hinv ho hx with ⟨i,o1,rfl,h1,rfl,h2⟩|⟨h0,a7,h1,h2⟩
  .rw[sN]at ab
   rcases hinv aw ax with ⟨i',o2,rfl,h3,rfl,h4⟩|⟨h0,a7,h3,h4⟩
   .rw[sN]
    exact aa.apart i i' o1 o2 x x' b (by grind) h1 h2 h3 h4 ab
   .intro q
    rcases aa.fY i o1 x b h1 h2 ab with h5|h5
    .have:=(hm.di j' o' x' h3 h4).eO q
     have h6:w.heap.size<=b:=h5
     omega
    .exact aq j' o' x' b h0 h3 h4 q h5
  .rcases hinv aw ax with ⟨i',o2,rfl,h3,rfl,h4⟩|⟨aK,aJ,h3,h4⟩
   .rw[sN]
    intro q
    rcases aa.fY i' o2 x' b h3 h4 q with h5|h5
    .have:=(hm.di j o x h1 h2).eO ab
     have h6:w.heap.size<=b:=h5
     omega
    .exact aq j o x b h0 h1 h2 ab h5
   .exact hm.apart j j' o o' x x' b a8 h1 h2 h3 h4 ab
 .rcases hinv ho hx with ⟨i,o1,rfl,h1,rfl,h2⟩|⟨h0,a7,h1,h2⟩
  .rw[sN]at ab
   rcases aa.fY i o1 x b h1 h2 ab with h5|h5
   .exact .inl (Ax hm.size h5)
   .exact a1 b h5
  .exact hm.fY j o x b h1 h2 ab
 .have aH:b∉uE fj oO:=(by grind)
  obtain⟨e1,e2⟩:=aa.same b (Df ab hm.size) aH
  obtain⟨e3,e4⟩:=hm.same b ab hx
  exact⟨e1.trans e3,e2.trans e4⟩
structure gE (n0:Nat) (pick:aiB) (I I':St):Prop where
 len:I'.length=pick.length
 nodup:pick.Nodup
 ob: ∀(i j:Nat) (o:Ob),pick[i]? =some j->I'[i]? =some o->I[j]? =some (yA (cK pick I.length) o)
 id: ∀i,i<n0->pick[i]? =some i
theorem gE.back {n0:Nat} {pick:aiB} {I I':St} (h:gE n0 pick I I') (id:Nat) (O:Ob) (hx:I[cK pick I.length id]? =some O): ∃o,I'[id]? =some o/\O=yA (cK pick I.length) o:=by
 by_cases hi:id<pick.length
 .rw[wV hi]at hx
  have hq:=A0 (show id<I'.length by rw[h.len];exact hi)
  have:=h.ob id _ _ (A0 hi) hq
  grind
 grind[qu]
theorem gE.jr {n0:Nat} {pick:aiB} {I I':St} {J:aiC} (h:gE n0 pick I I') (hl:J.length=I.length):sM (cK pick I.length) I' (pick.map λq=>J.getD q undef) I J:=by
 refine⟨λid x hx=> ?_,λid n s hx=> ?_,λid rows s hx=> ?_,λid hx=> ?_⟩
 .grind[wV,qu]
 .obtain⟨o,ho,he⟩:=h.back id _ hx
  cases o<;>grind[yA]
 .obtain⟨o,ho,he⟩:=h.back id _ hx
  cases o<;>grind[yA]
 .obtain⟨o,ho,he⟩:=h.back id _ hx
  cases o with
  |dead=>exact ho
  |_=>simp[yA]at he
theorem Mem.pick {w:World} {L:Nat->Nat} {I I':St} {J:aiC} {pick:aiB} (h:Mem c w L I J) (hp:gE c.cv.length pick I I') (hc:c.β0.length=c.cv.length):Mem c w L I' (pick.map λq=>J.getD q undef):=by
 have ab:=hp.jr h.len
 have aa: ∀(i:Nat) (o:Ob) (x:Value),I'[i]? =some o->(pick.map λq=>J.getD q undef)[i]? =some x-> ∃j,pick[i]? =some j/\I[j]? =some (yA (cK pick I.length) o)/\J[j]? =some x:=by
  intro i o x ho hx
  have hi:i<pick.length:=by grind
  have hs:=A0 hi
  have h1:=hp.ob i _ o hs ho
  refine⟨_,hs,h1, ?_⟩
  have an:pick[i]<J.length:=by rw[h.len];grind
  grind
 refine⟨by simp[hp.len],λi o x ho hx=> ?_,λi j o o' x x' b ai ho hx aj ak he=> ?_,λi o x b ho hx he=> ?_,h.same,h.le,h.size,h.os,h.tape,h.output,h.drawn,h.lim, ?_,h.jA⟩
 .obtain⟨j,hj,h1,h2⟩:=aa i o x ho hx
  exact(h.di j _ x h1 h2).jr ab
 .obtain⟨p,ah,h1,h2⟩:=aa i o x ho hx
  obtain⟨q,hq,h3,h4⟩:=aa j o' x' aj ak
  have al:p≠q:=λe=>by
   subst e
   obtain⟨hi,e1⟩:=A4.1 ah
   obtain⟨hj,e2⟩:=A4.1 hq
   exact ai ((List.getElem_inj hp.nodup).1 om)
  have:=h.apart p q _ _ x x' b al h1 h2 h3 h4 (by grind[sN])
  grind[sN]
 .obtain⟨p,ah,h1,h2⟩:=aa i o x ho hx
  exact h.fY p _ x b h1 h2 (by grind[sN])
 .refine⟨λid a ha=> ?_,λid n s ha=> ?_,λid rows s ha=> ?_,λid ha=> ?_⟩
  .have hid:id<c.cv.length:=by grind
   have h1:=h.ext.ptr id a ha
   rw[B6,hp.id id hid]
   grind
  .have hid:id<c.cv.length:=(by grind)
   obtain⟨n',h1,h2,h3⟩:=h.ext.app id n s ha
   have ad:=hp.id id hid
   obtain⟨ae,af⟩:=A4.1 ad
   refine⟨n',ab.app id n' s (by grind[wV]),h2,λe=> ?_⟩
   grind
  .have hid:id<c.cv.length:=(by grind)
   have ad:=hp.id id hid
   obtain⟨ae,af⟩:=A4.1 ad
   rcases h.ext.cd id rows s ha with h1|⟨r2,h1,h2,h3⟩
   .exact .inl (ab.dead id (by grind[wV]))
   .obtain⟨r3,h5,l5⟩:=ab.cd id r2 s (by grind[wV])
    grind
  .have hid:id<c.cv.length:=(by grind)
   have ad:=hp.id id hid
   obtain⟨ae,af⟩:=A4.1 ad
   exact ab.dead id (by rw[wV ae,af];exact h.ext.dead id ha)
end
def fZ (id:Nat) (rows:List (List V)):V->V
 | .cL i s n lo m=>if i=id/\n=rows.length/\lo+m<=n then .sl .ro (wY rows lo m)else .cL i s n lo m
 |v=>v
def gu (id:Nat) (rows:List (List V)):V->V
 | .fn f bY=> .fn f (bY.map (fZ id rows))
 | .gW t vs=> .gW t (vs.map (fZ id rows))
 |v=>fZ id rows v
def gn (id:Nat) (rows:List (List V)):V->V
 | .agg cs=> .agg (cs.map (gu id rows))
 |v=>gu id rows v
def gp (id:Nat) (rows:List (List V)):V->V
 | .cz vs=> .cz (vs.map (gn id rows))
 |v=>gn id rows v
def np (id:Nat) (rows:List (List V)):Ob->Ob
 | .box cells=> .box (cells.map (gu id rows))
 | .cd rs s=> .cd (rs.map λr=>r.map (gu id rows)) s
 | .mp dL gk cV=> .mp (dL.map (gn id rows)) gk cV
 |o=>o
def jJ (id:Nat) (rows:List (List V)) (I:St):St:=(I.set id .dead).map (np id rows)
structure sQ (I I':St):Prop where
 app: ∀(id:Nat) n s,I[id]? =some (.app n s)->I'[id]? =some (.app n s)
 cd: ∀(id:Nat) rows s,I[id]? =some (.cd rows s)-> ∃eC,I'[id]? =some (.cd eC s)/\eC.length=rows.length
 dead: ∀(id:Nat),I[id]? =some .dead->I'[id]? =some .dead
section
variable {w:World} {L:Nat->Nat} {I I':St} {J:aiC}
theorem gQ.Mi (h:sQ I I') {v:V} {x:Value} (r:gQ w L I J v x):gQ w L I' J v x:=by
 cases v with
 |sl g rows=>cases g with
  |app id=>obtain⟨hr,n,s,cJ,hle,dh,hl⟩:=r;exact⟨hr,n,s,h.app _ _ _ cJ,hle,dh,hl⟩
  |ro=>exact r
  |full=>exact r
 |cL id s n lo m=>
  obtain⟨a,cap,hx,hm,ha,hc⟩:=r
  refine⟨a,cap,hx,hm,ha, ?_⟩
  rcases hc with hd|⟨rows,cJ,hn,hb⟩
  .exact .inl (h.dead id hd)
  .obtain⟨r2,e2,l2⟩:=h.cd id rows s cJ
   grind
 |iH id s n i j=>
  obtain⟨b,o,hx,hc⟩:=r
  refine⟨b,o,hx, ?_⟩
  rcases hc with hd|⟨rows,cJ,hn,hb⟩
  .exact .inl (h.dead id hd)
  .obtain⟨r2,e2,l2⟩:=h.cd id rows s cJ
   grind
 |_=>exact r
theorem sQ.Je {id:Nat} {rows:List (List V)} (I:St):sQ I (I.map (np id rows)):=by
 refine⟨λi n s h=> ?_,λi rs s h=>⟨_,by rw[B6,h];rfl,sm⟩,λi h=> ?_⟩
 .rw[B6,h];rfl
 .rw[B6,h];rfl
theorem YC {c:Ctx} {L':Nat->Nat} {id s n lo m:Nat} {rows:List (List V)} {x:Value} (hm:Mem c w L I J) (cJ:I[id]? =some (.cd rows s)) (hp:xI rows) (hL: ∀b n' cap,J[id]? =some (.slice (some ⟨b,0,none⟩) n' cap)->0<cap->rows.length*s<=L' b)
  (hle:Le w L w L') (r:gQ w L I J (.cL id s n lo m) x) (hn:n=rows.length) (aw:lo+m<=n):cF w L' (.sl .ro (wY rows lo m)) x:=by
 obtain⟨a,cap,rfl,ax,ab,hc⟩:=r
 have ak:(wY rows lo m).length=m:=by grind[wY]
 by_cases h0:m=0
 .subst h0
  have:wY rows lo 0= []:=by rfl
  rw[this]
  exact .jn _ _ _ sm sm
 rcases hc with hd|⟨cC,ad,ay,hb⟩
 .grind
 .rw[cJ]at ad;cases ad
  obtain⟨b0,c0,dh,dp,az,aa⟩:=hb hn
  clear hb ab
  have a1:0<m:=om
  have al:lo<c0:=om
  obtain⟨k0,rfl,rfl⟩:=aa al
  clear aa
  have ae:0<c0:=om
  have a6:=hL _ _ _ dh ae
  obtain⟨a2,au,e1,av,af,an,db⟩:=hm.di id _ _ cJ dh
  cases e1
  obtain⟨b',arr,T,fz,e2,hh,_,a7,_,ah⟩:=db ae
  cases e2
  clear db
  have hu:eK s (wY rows lo m):=λq hq=>by
   obtain⟨q0,a8,rfl⟩:=Ab.1 hq
   grind
  have ao:=yB hu
  rw[ak]at ao
  have aq:(lo+m)*s<=rows.length*s:=Aj _ om
  rw[B3]at aq
  have key:cF w L' (.sl .ro (wY rows lo m)) (.slice (some ⟨k0,lo*s,none⟩) (wY rows lo m).length cap):=by
   refine .of_flat af hu (by grind) om sm sm λk v hk=> ?_
   have aA:k<m*s:=by grind
   have hi:k/s<m:=by simp_all[C3]
   have hj:k%s<s:=Cs _ af
   have ar:k=k/s*s+k%s:=by grind[D2]
   rw[ar,yQ _ _ hu hj]at hk
   simp only[wY,B6,Ap,ai2 hi,C6]at hk
   have ai:lo+k/s<rows.length:=om
   rw[A0 ai]at hk
   simp only[Ba,Ay,B6,Aw]at hk
   obtain⟨v0,aB,rfl⟩:=hk
   have hf:rows.flatten[(lo+k/s)*s+k%s]? =some v0:=by
    rw[yQ _ _ an hj,A0 ai];grind
   obtain⟨z,hz,rz⟩:=ah.get _ _ hf
   have aj:(lo+k/s)*s+k%s=lo*s+k:=by grind
   rw[aj,Ap,ai2 om,Aq]at hz
   refine⟨z,by simp only[World.cell?,hh];grind, ?_⟩
   refine(df.kZ rz ?_).mono hle
   unfold xI at hp
   grind
  grind
def iI (J:aiC) (id k:Nat) (L:Nat->Nat):Nat->Nat:=
 match J[id]? with
 |some (.slice (some a) _ cap)=>if 0<cap then xM L a.block k else L
 |_=>L
theorem Qy {c:Ctx} {id s:Nat} {rows:List (List V)} (hm:Mem c w L I J) (cJ:I[id]? =some (.cd rows s)) (hp:xI rows):
  Mem c w (iI J id (rows.length*s) L) (jJ id rows I) J/\Le w L w (iI J id (rows.length*s) L)/\Ext I J (jJ id rows I) J/\(∀v x,dz w L I J v x->dz w (iI J id (rows.length*s) L) (jJ id rows I) J (gp id rows v) x):=by
 have aq:id<I.length:=(by grind)
 obtain⟨x0,dh⟩: ∃x0,J[id]? =some x0:=⟨_,A0 (by rw[hm.len];exact aq)⟩
 obtain⟨a,cap,rfl,dp,hs,aC,db⟩:=hm.di id _ _ cJ dh
 have aD:rows.length*s<=cap*s:=Aj _ dp
 have hle:Le w L w (iI J id (rows.length*s) L):=by
  refine⟨λb=> ?_,sm⟩
  unfold iI
  rw[dh]
  cases a with
  |none=>simp
  |some a=>
   by_cases h0:0<cap
   .obtain⟨b',arr,T,fz,e,hh,hf,ai,hl,aA⟩:=db h0
    cases e
    simp only[h0,aib,xM]
    grind
   grind
 have ad:Ext I J (I.set id .dead) J:=by
  refine⟨sm,(by grind),(by grind),(by grind)⟩
  all_goals grind
 have ab:sQ (I.set id .dead) (jJ id rows I):=sQ.Je _
 have ae:Ext (I.set id .dead) J (jJ id rows I) J:=
  ⟨sm,λi n s' h=>⟨n,ab.app i n s' h,om,λ_=>rfl⟩,λi rs s' h=>by
   obtain⟨r2,h2,l2⟩:=ab.cd i rs s' h
   grind,λi h=>ab.dead i h⟩
 have ar: ∀b n' aa,J[id]? =some (.slice (some ⟨b,0,none⟩) n' aa)->0<aa->rows.length*s<=iI J id (rows.length*s) L b:=(by simp_all[iI,xM])
 have an: ∀v x,gQ w L I J v x->gQ w (iI J id (rows.length*s) L) (jJ id rows I) J (fZ id rows v) x:=λv x r=>by
  have au:gQ w (iI J id (rows.length*s) L) (jJ id rows I) J v x:=gQ.Mi ab (r.mono hle ad)
  cases v with
  |cL i s' n lo m=>
   simp only[fZ]
   split
   .rename_i hc
    obtain⟨rfl,hn,av⟩:=hc
    have af:s'=s:=by
     obtain⟨_,_,_,_,_,hc⟩:=r
     grind
    subst af
    exact YC hm cJ hp ar hle r hn av
   omega
  |_=>exact au
 have aw: ∀v x,df w L I J v x->df w (iI J id (rows.length*s) L) (jJ id rows I) J (gu id rows v) x:=λv x r=>by
  cases v with
  |fn f bY=>obtain⟨xs,hx,hc⟩:=r;exact⟨xs,hx,(by grind[bP.fP])⟩
  |gW t v=>obtain⟨y,hx,hc⟩:=r;exact⟨y,hx,(by grind[bP.fP])⟩
  |cL i s' n lo m=>
   have h2:=an (.cL i s' n lo m) x r
   show df w _ _ J (fZ id rows (.cL i s' n lo m)) x
   simp only[fZ]at h2⊢
   split
   .rename_i hc;rw[ai2 hc]at h2;exact h2
   .rename_i hc;rw[ai1 hc]at h2;exact h2
  |_=>simp only[df]at r;have h2:=an _ _ r;exact h2
 have ax: ∀v x,dX w L I J v x->dX w (iI J id (rows.length*s) L) (jJ id rows I) J (gn id rows v) x:=λv x r=>by
  cases v with
  |agg cs=>obtain⟨xs,hx,hc⟩:=r;exact⟨xs,hx,(by grind[bP.fP])⟩
  |_=>simp only[dX]at r;have h2:=aw _ _ r;exact dX.dI h2
 have ay: ∀v x,dz w L I J v x->dz w (iI J id (rows.length*s) L) (jJ id rows I) J (gp id rows v) x:=λv x r=>by
  cases v with
  |u=>trivial
  |cz vs=>obtain⟨xs,hx,hc⟩:=r;exact⟨xs,hx,(by grind[bP.fP])⟩
  |_=>simp only[dz]at r;have h2:=ax _ _ r;exact dz.lg h2
 refine⟨?_,hle,ad.trans ae,ay⟩
 have aj: ∀b,dd (.cd rows s) (.slice a rows.length cap)≠some b->iI J id (rows.length*s) L b=L b:=λb h=>by
  unfold iI
  rw[dh]
  cases a with
  |none=>rfl
  |some a=>
   by_cases h0:0<cap
   .simp_all[dd,xM];omega
   grind
 have aE: ∀i o x,i≠id->I[i]? =some o->J[i]? =some x->gX w (iI J id (rows.length*s) L) (jJ id rows I) J (np id rows o) x:=λi o x hi ho hx=>by
  have hr:=hm.di i o x ho hx
  have ak: ∀b,dd o x=some b->iI J id (rows.length*s) L b=L b:=λb hb=>aj b λq=>hm.apart i id o _ x _ b hi ho hx cJ dh hb q
  cases o with
  |box cells=>
   obtain⟨b,arr,T,fz,rfl,hh,hf,hl,hc⟩:=hr
   exact⟨b,arr,T,fz,rfl,hh,hf,(ak b rfl).trans hl,(by grind[bP.fP])⟩
  |app n s'=>
   obtain⟨a',aa,rfl,hn,af,ah⟩:=hr
   refine⟨a',aa,rfl,hn,af,λaz=> ?_⟩
   obtain⟨b,o',arr,T,fz,rfl,hh,hf,ai,hl⟩:=ah az
   exact⟨b,o',arr,T,fz,rfl,hh,hf,ai,(by grind[dd])⟩
  |cd rs s'=>
   obtain⟨a',aa,rfl,hn,af,aF,ah⟩:=hr
   refine⟨a',aa,sm,by grind,af,λr hr=> ?_,λh0=> ?_⟩
   .grind
   .obtain⟨b,arr,T,fz,rfl,hh,hf,ai,hl,hc⟩:=ah h0
    refine⟨b,arr,T,fz,rfl,hh,hf,ai,(by grind[dd]), ?_⟩
    grind[bP.fP]
  |dead=>trivial
  |mp dL gk cV=>
   obtain⟨b,es,rfl,hh,hl,hc,a1⟩:=hr
   exact⟨b,es,rfl,hh,(ak b rfl).trans hl,(by grind[bP.fP]),a1⟩
  |it m since seen last=>
   obtain⟨b,mo,rfl,hh,hl,hc⟩:=hr
   exact⟨b,mo,rfl,hh,(ak b rfl).trans hl,hc⟩
 have inv: ∀i o,(jJ id rows I)[i]? =some o->(i=id/\o= .dead)\/(i≠id/\ ∃o',I[i]? =some o'/\o=np id rows o'):=λi o h=>by
  unfold jJ at h
  rw[B6,Aw]at h
  obtain⟨o',h1,rfl⟩:=h
  rcases oK h1 with ⟨rfl,rfl,_⟩|⟨al,h2⟩
  .exact .inl (by trivial)
  grind
 have ao: ∀o x,dd (np id rows o) x=dd o x:=λo x=>by
  cases o with
  |cd rs s'=>cases x with
   |slice a n cap=>cases a<;>rfl
   |_=>rfl
  |_=>cases x<;>first|rfl|(rename_i q;cases q<;>rfl)
 refine⟨by simp[jJ,hm.len],λi o x ho hx=> ?_,λi j o o' x x' b a6 ho hx a7 a8 hb=> ?_,λi o x b ho hx hb=> ?_,λb hb hx=> ?_,hm.le.trans hle,hm.size,hm.os,hm.tape,hm.output,hm.drawn,λb hb=> ?_,hm.ext.trans (ad.trans ae),hm.jA⟩
 .rcases inv i o ho with ⟨_,rfl⟩|⟨al,o',h2,rfl⟩
  .trivial
  grind
 .rcases inv i o ho with ⟨_,rfl⟩|⟨al,o1,h2,rfl⟩
  .trivial
  .rcases inv j o' a7 with ⟨_,rfl⟩|⟨aB,o2,h3,rfl⟩
   .simp[dd]
   .rw[ao]at hb⊢
    exact hm.apart i j o1 o2 x x' b a6 h2 hx h3 a8 hb
 .rcases inv i o ho with ⟨_,rfl⟩|⟨al,o1,h2,rfl⟩
  .trivial
  .rw[ao]at hb
   exact hm.fY i o1 x b h2 hx hb
 .obtain⟨e1,e2⟩:=hm.same b hb hx
  refine⟨e1, ?_⟩
  rw[aj b λq=> ?_]
  .exact e2
  .rcases hm.fY id _ _ b cJ dh q with h|h
   all_goals grind
 .rw[aj b λq=> ?_]
  .exact hm.lim b hb
  .have:=(hm.di id _ _ cJ dh).eO q
   omega
end
variable {c:Ctx}{w:World}{I:St}{cells:List V}{L:Nat->Nat}{J:aiC}{off:Nat}
theorem Qz {id s:Nat} (hm:Mem c w L I J) (hs:0<s) (cJ:I[id]? =some (.box cells)) (hc:cells[off]? =some (.sl .full [])):
  ∃x,Mem c w L (I.set id (.box (cells.set off (.cL I.length s 0 0 0)))++ [.cd [] s]) (J++ [x])/\Ext I J (I.set id (.box (cells.set off (.cL I.length s 0 0 0)))++ [.cd [] s]) (J++ [x]):=by
 have ah:id<I.length:=(by grind)
 obtain⟨x0,dh⟩: ∃x0,J[id]? =some x0:=⟨_,A0 (by rw[hm.len];exact ah)⟩
 obtain⟨b,arr,T,fz,rfl,hh,hf,hl,ab⟩:=hm.di id _ _ cJ dh
 obtain⟨y,hy,ry⟩:=ab.get _ _ hc
 have an:cF w L (.sl .full []) y:=ry
 obtain⟨a,cap,ak,_,dp⟩:=an.len
 have ad:=dp rfl
 simp only[Ct]at ad ak
 subst ad
 have h1:=hm.mg (s:=s) (a:=a) hs
 have ae:=Ext.push I J hm.len (.cd [] s) (.slice a 0 0)
 have ai:(I++ [Ob.cd [] s])[id]? =some (.box cells):=by grind
 have aj:(J++ [Value.slice a 0 0])[id]? =some (.pointer (some ⟨b,0,none⟩)):=by grind
 have aa:Ext (I++ [Ob.cd [] s]) (J++ [Value.slice a 0 0]) ((I++ [Ob.cd [] s]).set id (.box (cells.set off (.cL I.length s 0 0 0)))) (J++ [Value.slice a 0 0]):=Ext.jF ai _
 have af:=yN _ _ _ aj
 have key:=h1.fu (w':=w) (L':=L) id (.box (cells.set off (.cL I.length s 0 0 0))) (.pointer (some ⟨b,0,none⟩)) (Le.refl _ _) (by grind) (λk=>k=b)
  (λj o' x' k hj ao aq hk e=>by subst e;exact h1.apart j id o' _ x' _ k hj ao aq ai aj hk rfl)
  (λk e=>by subst e;exact h1.fY id _ _ k ai aj rfl)
  sm rfl rfl rfl rfl h1.lim ?_ (λk hk=>by simpa[dd]using hk.symm)
 .rw[af,Dp _ _ ah]at key
  rw[Dp _ _ ah]at aa
  exact⟨_,key,ae.trans aa⟩
 .rw[af]
  refine⟨b,arr,T,fz,rfl,hh,hf,hl, ?_⟩
  refine bP.of (by rw[List.length_set];exact ab.length) λk p z hp hz=> ?_
  rcases oK hp with ⟨rfl,rfl,_⟩|⟨au,ar⟩
  .rw[hy]at hz;cases hz
   rw[ak]
   refine⟨a,0,rfl,om,om,.inr ⟨[], ?_,om,λ_=>⟨a,0, ?_,rfl,om,om⟩⟩⟩
   .grind
   .rw[<-hm.len];simp
  .obtain⟨z',al,rz⟩:=ab.get _ _ ar
   rw[hz]at al;cases al
   exact rz.mono (Le.refl _ _) (ae.trans aa)
theorem YD {id s:Nat} (hm:Mem c w L I J) (hs:0<s) (cJ:I[id]? =some (.box cells)) (hc:cells[off]? =some (.sl .full [])):
  ∃x,Mem c w L (I.set id (.box (cells.set off (.sl (.app I.length) [])))++ [.app 0 s]) (J++ [x])/\Ext I J (I.set id (.box (cells.set off (.sl (.app I.length) [])))++ [.app 0 s]) (J++ [x]):=by
 have ah:id<I.length:=(by grind)
 obtain⟨x0,dh⟩: ∃x0,J[id]? =some x0:=⟨_,A0 (by rw[hm.len];exact ah)⟩
 obtain⟨b,arr,T,fz,rfl,hh,hf,hl,ab⟩:=hm.di id _ _ cJ dh
 obtain⟨y,hy,ry⟩:=ab.get _ _ hc
 have an:cF w L (.sl .full []) y:=ry
 obtain⟨a,cap,ak,_,dp⟩:=an.len
 have ad:=dp rfl
 simp only[Ct]at ad ak
 subst ad
 have h1:=hm.own (n:=0) (a:=a) hs
 have ae:=Ext.push I J hm.len (.app 0 s) (.slice a 0 0)
 have ai:(I++ [Ob.app 0 s])[id]? =some (.box cells):=by grind
 have aj:(J++ [Value.slice a 0 0])[id]? =some (.pointer (some ⟨b,0,none⟩)):=by grind
 have aa:Ext (I++ [Ob.app 0 s]) (J++ [Value.slice a 0 0]) ((I++ [Ob.app 0 s]).set id (.box (cells.set off (.sl (.app I.length) [])))) (J++ [Value.slice a 0 0]):=Ext.jF ai _
 have af:=yN _ _ _ aj
 have key:=h1.fu (w':=w) (L':=L) id (.box (cells.set off (.sl (.app I.length) []))) (.pointer (some ⟨b,0,none⟩)) (Le.refl _ _) (by grind) (λk=>k=b)
  (λj o' x' k hj ao aq hk e=>by subst e;exact h1.apart j id o' _ x' _ k hj ao aq ai aj hk rfl)
  (λk e=>by subst e;exact h1.fY id _ _ k ai aj rfl)
  sm rfl rfl rfl rfl h1.lim ?_ (λk hk=>by simpa[dd]using hk.symm)
 .rw[af,Dp _ _ ah]at key
  rw[Dp _ _ ah]at aa
  exact⟨_,key,ae.trans aa⟩
 .rw[af]
  refine⟨b,arr,T,fz,rfl,hh,hf,hl, ?_⟩
  refine bP.of (by rw[List.length_set];exact ab.length) λk p z hp hz=> ?_
  rcases oK hp with ⟨rfl,rfl,_⟩|⟨au,ar⟩
  .rw[hy]at hz;cases hz
   rw[ak]
   refine⟨.jn .ro a 0 om sm,0,s, ?_,om,λ_=> ?_,sm⟩
   .grind
   .rw[<-hm.len];simp
  .obtain⟨z',al,rz⟩:=ab.get _ _ ar
   rw[hz]at al;cases al
   exact rz.mono (Le.refl _ _) (ae.trans aa)
def BU (cells:List V) (s off n:Nat):List (List V):=(List.range n).map λi=>((cells.drop (off+i*s)).take s).map kZ
def vQ (id:Nat) (cells:List V):V->V
 | .jZ i s off n=>if i=id/\0<s/\off+n*s<=cells.length/\((cells.drop off).take (n*s)).all pP=true then .sl .ro (BU cells s off n)else .jZ i s off n
 |v=>v
theorem YE {s n:Nat} (h:off+n*s<=cells.length):eK s (BU cells s off n):=λr hr=>by
 obtain⟨i,hi,rfl⟩:=Ab.1 hr
 have hi:=Cm.1 hi
 have:(i+1)*s<=n*s:=Aj _ hi
 grind
theorem YF {id:Nat} (hm:Mem c w L I J) (cJ:I[id]? =some (.box cells)):
  ∃L',Mem c w L' (I.set id .dead) J/\Le w L w L'/\Ext I J (I.set id .dead) J/\(∀v x,dz w L I J v x->dz w L' (I.set id .dead) J (vQ id cells v) x):=by
 have ak:id<I.length:=(by grind)
 obtain⟨x0,dh⟩: ∃x0,J[id]? =some x0:=⟨_,A0 (by rw[hm.len];exact ak)⟩
 obtain⟨b,arr,T,fz,rfl,hh,hf,hl,ae⟩:=hm.di id _ _ cJ dh
 have hle:Le w L w (xM L b cells.length):=by
  refine⟨λk=> ?_,sm⟩
  simp only[xM]
  grind
 have aa:Ext I J (I.set id .dead) J:=by
  refine⟨sm,(by grind),(by grind),(by grind)⟩
  all_goals grind
 have ab: ∀k,k≠b->xM L b cells.length k=L k:=λk h=>ai1 h
 have inv: ∀i o,(I.set id .dead)[i]? =some o->(i=id/\o= .dead)\/(i≠id/\I[i]? =some o):=(by grind)
 refine⟨xM L b cells.length,⟨by simp[hm.len],λi o x ho hx=> ?_,λi j o o' x x' k al ho hx an ao hb=> ?_,λi o x k ho hx hb=> ?_,λk hb hx=> ?_,hm.le.trans hle,hm.size,hm.os,hm.tape,hm.output,hm.drawn,λk hb=> ?_,hm.ext.trans aa,hm.jA⟩,hle,aa,λv x r=> ?_⟩
 .rcases inv i o ho with ⟨_,rfl⟩|⟨ad,h2⟩
  .trivial
  .exact(hm.di i o x h2 hx).step hle aa λk hk=>⟨rfl,ab k λe=>by subst e;exact hm.apart i id o _ x _ k ad h2 hx cJ dh hk rfl⟩
 .rcases inv i o ho with ⟨_,rfl⟩|⟨ad,h2⟩
  .trivial
  .rcases inv j o' an with ⟨_,rfl⟩|⟨au,h3⟩
   .simp[dd]
   .exact hm.apart i j o o' x x' k al h2 hx h3 ao hb
 .rcases inv i o ho with ⟨_,rfl⟩|⟨ad,h2⟩
  .trivial
  .exact hm.fY i o x k h2 hx hb
 .obtain⟨e1,e2⟩:=hm.same k hb hx
  refine⟨e1, ?_⟩
  rw[ab k λq=> ?_]
  .exact e2
  .subst q
   rcases hm.fY id _ _ k cJ dh rfl with h|h
   all_goals grind
 .rw[ab k λq=> ?_]
  .exact hm.lim k hb
  grind
 .have aq:=r.mono hle aa
  cases v with
  |jZ i s off n=>
   simp only[vQ]
   split
   .rename_i hc
    obtain⟨rfl,hs,hlen,hp⟩:=hc
    obtain⟨b',af,rfl⟩:=r
    rw[dh]at af;cases af
    have hu:=YE (s:=s) (off:=off) (n:=n) hlen
    have ah:(BU cells s off n).length=n:=by simp[BU]
    have key:cF w (xM L b cells.length) (.sl .ro (BU cells s off n)) (.slice (some ⟨b,off,none⟩) (BU cells s off n).length n):=by
     refine .of_flat hs hu (by grind[xM]) om sm om λk v hk=> ?_
     have av:k<n*s:=by rw[<-ah,<-yB hu];grind
     have hi:k/s<n:=by simp_all[C3]
     have hj:k%s<s:=Cs _ hs
     have ar:k=k/s*s+k%s:=by grind[D2]
     rw[ar,yQ _ _ hu hj]at hk
     simp only[BU,B6,Dc hi,Ba,Ay,Ap,ai2 hj,C6,Aw]at hk
     obtain⟨v0,ai,rfl⟩:=hk
     have aj:off+k/s*s+k%s=off+k:=om
     rw[aj]at ai
     obtain⟨z,hz,rz⟩:=ae.get _ _ ai
     rw[Aq]at hz
     refine⟨z,by simp only[World.cell?,hh];grind,(df.kZ rz ?_).mono hle⟩
     rw[Am]at hp
     refine hp _ (Ar.2 ⟨k, ?_⟩)
     grind
    rw[ah]at key
    simpa
   omega
  |_=>exact aq
inductive oq:List V->St->List V->St->Prop
 |refl (vs:List V) (I:St):oq vs I vs I
 |step (id s:Nat) (rows:List (List V)) {vs gZ:List V} {I I':St} (cJ:I[id]? =some (.cd rows s)) (hp:xI rows) (h:oq (vs.map (gp id rows)) (jJ id rows I) gZ I'):oq vs I gZ I'
 |nil (id off s:Nat) (cells:List V) {vs gZ:List V} {I I':St} (hs:0<s) (cJ:I[id]? =some (.box cells)) (hc:cells[off]? =some (.sl .full [])) (h:oq vs (I.set id (.box (cells.set off (.cL I.length s 0 0 0)))++ [.cd [] s]) gZ I'):oq vs I gZ I'
 |box (id:Nat) (cells:List V) {vs gZ:List V} {I I':St} (cJ:I[id]? =some (.box cells)) (h:oq (vs.map (vQ id cells)) (I.set id .dead) gZ I'):oq vs I gZ I'
 |Mj (i s:Nat) {vs gZ:List V} {I I':St} (hs:0<s) (hv:vs[i]? =some (.sl .full [])) (h:oq (vs.set i (.cL I.length s 0 0 0)) (I++ [.cd [] s]) gZ I'):oq vs I gZ I'
theorem oq.ok {vs gZ:List V} {I':St} (h:oq vs I gZ I'): ∀{L:Nat->Nat} {J xs:aiC},Mem c w L I J->bP (dz w L I J) vs xs->
  ∃L' J',Mem c w L' I' J'/\Le w L w L'/\Ext I J I' J'/\bP (dz w L' I' J') gZ xs:=by
 induction h with
 |refl vs I=>grind[Le.refl,Ext.refl]
 |step id s rows cJ hp _ ih=>
  intro L J xs hm ha
  obtain⟨h1,h2,h3,h4⟩:=Qy hm cJ hp
  obtain⟨L',J',h5,h6,h7,h8⟩:=ih h1 (bP.fP (f:=gp id rows) (λ_ _ q=>h4 _ _ q) ha)
  exact⟨L',J',h5,h2.trans h6,h3.trans h7,h8⟩
 |nil id off s cells hs cJ hc _ ih=>
  intro L J xs hm ha
  obtain⟨x,h1,h2⟩:=Qz hm hs cJ hc
  obtain⟨L',J',h5,h6,h7,h8⟩:=ih h1 (ha.imp λ_ _ q=>q.mono (Le.refl _ _) h2)
  exact⟨L',J',h5,h6,h2.trans h7,h8⟩
 |box id cells cJ _ ih=>
  intro L J xs hm ha
  obtain⟨L1,h1,h2,h3,h4⟩:=YF hm cJ
  obtain⟨L',J',h5,h6,h7,h8⟩:=ih h1 (bP.fP (f:=vQ id cells) (λ_ _ q=>h4 _ _ q) ha)
  exact⟨L',J',h5,h2.trans h6,h3.trans h7,h8⟩
 |Mj i s hs hv _ ih=>
  rename_i ab ae s0 s1 _
  intro L J xs hm ha
  obtain⟨x,hx,r⟩:=ha.get _ _ hv
  have hr:cF w L (.sl .full []) x:=r
  obtain⟨ad,rfl⟩: ∃ad,x= .slice ad 0 0:=by
   cases hr<;>grind
  have h1:=hm.mg (a:=ad) hs
  have aa:=Ext.push _ _ hm.len (Ob.cd [] s) (.slice ad 0 0)
  have h2:bP (dz w L (s0++ [Ob.cd [] s]) (J++ [.slice ad 0 0])) (ab.set i (.cL s0.length s 0 0 0)) xs:=by
   refine bP.of (by rw[List.length_set];exact ha.length) λj p y hp hy=> ?_
   rcases oK hp with ⟨rfl,rfl,_⟩|⟨_,hp⟩
   .rw[hx]at hy;cases hy
    exact GR (w':=w) (L':=L) (s:=s) (rows:= []) (cap:=0) (a0:=ad) hm.len sm om
   .obtain⟨z,hz,rz⟩:=ha.get _ _ hp
    rw[hy]at hz;cases hz
    exact rz.mono (Le.refl _ _) aa
  obtain⟨L',J',h5,h6,h7,h8⟩:=ih h1 h2
  exact⟨L',J',h5,h6,aa.trans h7,h8⟩
def flatK:V->Bool
 | .bool _| .int _ _| .str _| .fV| .u=>true
 | .raw _=>true
 | .sl _ rows=>rows.isEmpty
 |_=>false
def Jf:V->Bool
 | .agg cs=>cs.all flatK
 |v=>flatK v
def GV:V->Bool
 | .cz vs=>vs.all Jf
 |v=>Jf v
section
variable {w w':World} {L L':Nat->Nat} {I I':St} {J J':aiC}
variable {x:Value}
theorem QA {v:V} (h:flatK v) (r:df w L [] [] v x):df w' L' I' J' v x:=by
 cases v with
 |sl g rows=>
  have hr:rows= []:=by grind[flatK]
  subst hr
  cases g with
  |app id=>obtain⟨_,n,s,h,_⟩:=r;grind
  |ro=>
   cases r with
   |jn _ a cap hg ha=>exact cF.jn _ _ _ hg ha
   |sl _ _ s b o cap c ha hs hlen fp dp hg hc hr=>exact cF.jn _ _ _ om om
  |full=>
   cases r with
   |jn _ a cap hg ha=>exact cF.jn _ _ _ hg ha
   |sl _ _ s b o cap c ha hs hlen fp dp hg hc hr=>exact cF.jn _ _ _ hg om
 |bool b=>cases r;exact cF.bool _
 |int k n=>cases r;exact cF.int _ _
 |str s=>cases r;exact cF.str _
 |fV=>cases r;exact cF.fV
 |raw v=>cases r with|raw _ h=>exact cF.raw _ h
 |u=>exact r
 |_=>simp[flatK]at h
theorem QB {v:V} (h:Jf v) (r:dX w L [] [] v x):dX w' L' I' J' v x:=by
 cases v with
 |agg cs=>
  obtain⟨xs,hx,hc⟩:=r
  refine⟨xs,hx, ?_⟩
  clear hx
  simp only[Jf]at h
  induction cs generalizing xs with
  |nil=>cases xs<;>simpa
  |cons c cs ih=>cases xs with
   |nil=>simpa
   |cons y ys=>
    simp only[Bt,Ac]at h
    exact⟨QA h.1 hc.1,ih h.2 _ hc.2⟩
 |cz vs=>simpa
 |fn f c=>trivial
 |gW t c=>trivial
 |_=>exact dX.dI (QA (w:=w) (L:=L) h r)
theorem YG {v:V} (h:GV v) (r:dz w L [] [] v x):dz w' L' I' J' v x:=by
 cases v with
 |cz vs=>
  obtain⟨xs,hx,hc⟩:=r
  refine⟨xs,hx, ?_⟩
  clear hx
  simp only[GV]at h
  induction vs generalizing xs with
  |nil=>cases xs<;>simpa
  |cons c cs ih=>cases xs with
   |nil=>simpa
   |cons y ys=>
    simp only[Bt,Ac]at h
    exact⟨QB h.1 hc.1,ih h.2 _ hc.2⟩
 |u=>trivial
 |_=>exact dz.lg (QB (w:=w) (L:=L) h r)
end
theorem VC.view {P:Program} {c:Ctx} {f:FuncId} {bY args cj af:List V} {Ic I1:St} {R:V->St->Prop} {K:V->St->Prop} (hc:bN P f cj [] R) (hb:xE P f) (hf:oq (args++bY) Ic af I1)
  (aa:bP (cP (cK [] I1.length)) cj af) (hR: ∀r s,R r s->s= []/\GV r) (hk: ∀r,R r []->K r Ic):VC P c (.fn f bY) args Ic K:=by
 refine⟨f,bY,rfl,.inl ⟨Jb hb,λw L Jc ab hm hv=> ?_⟩⟩
 obtain⟨L1,J1,aj,a6,au,ak⟩:=hf.ok hm hv
 have al:sM (cK [] I1.length) [] [] I1 J1:=by
  have aq: ∀id,I1.length<=cK [] I1.length id:=λid=>by simp[cK]
  refine⟨λid x hx=> ?_,λid n s hx=> ?_,λid rows s hx=> ?_,λid hx=> ?_⟩
  .have h1:=(A4.1 hx).1;have h2:=aq id;rw[aj.len]at h1;omega
  all_goals
   have h1:=(A4.1 hx).1;have h2:=aq id;omega
 have av:Mem (entry w L1 [] []) w L1 [] []:=
  ⟨rfl,λi o x ho _=>by simp at ho,λi j o o' x x' b _ ho _ _ _ _=>by simp at ho,λi o x b ho _ _=>by simp at ho,λb _ _=>⟨rfl,rfl⟩,Le.refl _ _,A7 _,rfl,rfl,rfl,A7 _,aj.lim,Ext.refl _ _,aj.jA.mono aj.le⟩
 have aw:bP (dz w L1 [] []) cj ab:=by
  clear hf hc hk
  induction cj generalizing af ab with
  |nil=>cases af with
   |nil=>cases ab with
    |nil=>trivial
    |cons _ _=>exact ak.elim
   |cons _ _=>exact aa.elim
  |cons p cj ih=>cases af with
   |nil=>exact aa.elim
   |cons q az=>cases ab with
    |nil=>exact ak.elim
    |cons y ys=>
     refine⟨yw al aa.1 ak.1, ?_⟩
     clear ih
     have key: ∀(cj az:List V) (ys:aiC),bP (cP (cK [] I1.length)) cj az->bP (dz w L1 I1 J1) az ys->bP (dz w L1 [] []) cj ys:=by
      intro cj
      induction cj with
      |nil=>intro az ys h1 h2;cases az with
       |nil=>cases ys with
        |nil=>trivial
        |cons _ _=>exact h2.elim
       |cons _ _=>exact h1.elim
      |cons p l ih=>intro az ys h1 h2;cases az with
       |nil=>exact h1.elim
       |cons q az=>cases ys with
        |nil=>exact h2.elim
        |cons y ys=>exact⟨yw al h1.1 h2.1,ih az ys h1.2 h2.2⟩
     exact key _ _ _ aa.2 ak.2
 refine(hc w L1 [] ab av aw).mono λe w' ⟨v,r,L2,I',J',he,ar,a7,ad,ax⟩=> ?_
 obtain⟨rfl,an⟩:=hR r I' ar
 have ay:J'= []:=As (by rw[ad.len];rfl)
 subst ay
 have ae: ∀b,b<w.heap.size->w'.heap[b]? =w.heap[b]? :=λb hb=>(ad.same b hb (by show b∉uE [] [];simp[uE])).1
 have a1:w.heap.size<=w'.heap.size:=ad.size
 let L3:Nat->Nat:=λb=>if b<w.heap.size then L b else L2 b
 have ao: ∀b,b<w.heap.size->L3 b=L b:=λb hb=>ai2 hb
 have ah:Le w L w' L3:=by
  refine⟨λb=> ?_,λb o ho=> ?_⟩
  .by_cases hb:b<w.heap.size
   .rw[ao b hb];exact A7 _
   .rw[hm.lim b om];exact A3 _
  .have hb:b<w.heap.size:=by
    rcases Bv b w.heap.size with hb|hb
    .exact hb
    .rw[hm.lim b hb]at ho;omega
   exact BH (ae b hb) o
 refine⟨v,r,L3,Ic,Jc,he,hk r ar, ?_,ah,Ext.refl _ _,YG an ax⟩
 refine⟨hm.len,λi o x ho hx=>(hm.di i o x ho hx).step ah (Ext.refl _ _) λb hb=> ?_,hm.apart,hm.fY,λb hb hx=> ?_,hm.le.trans ah,Ax hm.size a1,ad.os.trans hm.os,ad.tape.trans hm.tape,ad.output.trans hm.output,Ax hm.drawn ad.drawn,λb hb=> ?_,hm.ext,hm.jA⟩
 .have ai:=(hm.di i o x ho hx).eO hb
  exact⟨ae b ai,ao b ai⟩
 .have ai:=Df hb hm.size
  rw[ae b ai,ao b ai]
  exact hm.same b hb hx
 .show(if b<w.heap.size then L b else L2 b)=0
  rw[ai1 om]
  exact ad.lim b hb
def cu (P:Program) (e:Env) (I:St):Op->R
 | .move x=> .ok (zG e x)
 | .assign x=> .ok (zG e x)
 | .pick x y z=>x9 (zG e x) (zG e y) (zG e z)
 | .alloc t=>rL P t I
 | .box _ x=>vH I (zG e x)
 | .build t ps=>yf (wB P t) (eY P t) (ps.toList.map λp=>(p.1,zG e p.2))
 | .buildSlice t n ps=>vK ((eI P t).map (·.1)) n (ps.toList.map λp=>(p.1,zG e p.2))
 | .load t x=>nf P t I (zG e x)
 | .store t x y=>vG P t I (zG e x) (zG e y)
 | .nilCheck x=>ya (zG e x)
 | .binOp op t x y _=>if pS y=true then vF op (iR P t) (zG e x)else if rN y=true then yr op (nh P t) (zG e x)else mS op (iR P t) (kE P t) (zG e x) (zG e y)
 | .unOp op _ x=>nb op (zG e x)
 | .convert t t' x=>vL (jG P t) (jG P t') (zG e x)
 | .slice t x lo hi none=>sK (iP P t) (dJ P t) ((eI P t).map (·.1)) (zG e x) (lo.map (zG e)) (hi.map (zG e))
 | .slice t x (some lo) (some hi) (some mx)=>yh ((eI P t).map (·.1)) (zG e x) (zG e lo) (zG e hi) (zG e mx)
 | .fieldAddr t x f=>yc P t (zG e x) f
 | .field t x f=>yi (cy P t f) (zG e x)
 | .indexAddr t x i=>vI (fa P t) (iP P t) (zG e x) (zG e i)
 | .index t x i=>vJ (zG e x) (zG e i) (qh P t) (iP P t)
 | .extract x i=>yb (zG e x) i
 | .makeFunc fn first bY=>yj fn first.size (bY.toList.map (zG e))
 | .makeSlice t l m=>vM (eI P t) (jq P t) I (zG e l) (zG e m)
 | .call ⟨.builtin .len,⟨[x]⟩,⟨[t]⟩⟩=>ye (dJ P t) (zG e x)
 | .call ⟨.builtin .append,⟨[x,y]⟩,⟨[t,t']⟩⟩=>sH (eI P t) (dJ P t') I (zG e x) (zG e y)
 | .call ⟨.builtin .clear,⟨[x]⟩,⟨[t]⟩⟩=>vO ((eI P t).map (·.1)) (jq P t) I (zG e x)
 | .call ⟨.builtin .min,⟨xs⟩,_⟩=>qm false (xs.map (zG e))
 | .call ⟨.builtin .max,⟨xs⟩,_⟩=>qm true (xs.map (zG e))
 | .call ⟨.builtin .delete,⟨[x,k]⟩,⟨[t,_]⟩⟩=>yq (gF P t) I (zG e x) (zG e k)
 | .makeMap t r=>yo I (nh P t) (r.map (zG e))
 | .lookup t x k ok=>xZ (gF P t) I (zG e x) (zG e k) ok
 | .mapUpdate t x k v=>xW (gF P t) I (zG e x) (zG e k) (zG e v)
 | .insert t x k v=>xW (gF P t) I (zG e x) (zG e k) (zG e v)
 | .mapEntry t x k=>wD (gF P t) I (zG e x) (zG e k)
 | .entryStore _ x s v=>xT I (zG e x) (zG e s) (zG e v)
 | .range t x=>yt (nh P t) I (zG e x)
 | .entry x=>qp I (zG e x)
 | .makeInterface t x=>yv (EP P t) t (zG e x)
 | .next x false=>ni false I (zG e x)
 |_=> .fail
def ir (P:Program) (e:Env) (I:St):Op->R
 | .buildSlice t n ps=>vP ((eI P t).map (·.1)) n I (ps.toList.map λp=>(p.1,zG e p.2))
 | .makeSlice t l m=>vN (eI P t) (jq P t) I (zG e l) (zG e m)
 | .convert t t' x=>yk (jG P t) (jG P t') I (zG e x)
 | .slice t x (some lo) none none=>yg (dJ P t) ((eI P t).map (·.1)) I (zG e x) (zG e lo)
 | .call ⟨.builtin .append,⟨[x,y]⟩,⟨[t,t']⟩⟩=>sI (eI P t) (dJ P t') I (zG e x) (zG e y)
 | .next x false=>ni true I (zG e x)
 |op=>cu P e I op
def lV (e:Env) (d:Option Tmp):Bool:=match d with|some t=>(match e (100000+t)with| .cz []=>true|_=>false)|none=>false
def xX (P:Program) (d:Option Tmp) (e:Env) (I:St) (op:Op):R:=if lV e d=true then ir P e I op else cu P e I op
section
variable {P:Program} {c:Ctx} {nt:Nat} {e:Env} {I:St} {a:Act} {w:World} {L:Nat->Nat} {J:aiC}
theorem QC (o:Oper) (h:dS c nt e I a w L J):fb (cu P e I o.op) I (bU P c o a w L I J):=by
 obtain⟨dst,op,ty,pos,dY,g⟩:=o
 show fb (cu P e I op) I _
 unfold cu
 split
 .grind[Xx]
 .grind[Xy]
 .grind[Xw]
 .grind[XQ]
 .grind[XP]
 .grind[XZ]
 .grind[XY]
 .grind[XN]
 .grind[XO]
 .grind[Xz]
 .grind[XG,Ys,XE]
 .grind[XH]
 .grind[X8]
 .grind[X3]
 .grind[X5]
 .grind[XJ]
 .grind[X9]
 .grind[XR]
 .grind[XT]
 .grind[XI]
 .grind[Yb]
 .grind[Yc]
 .grind[XU]
 .grind[XV]
 .grind[Yf]
 .grind[P6]
 .grind[P6]
 .grind[Yr]
 .grind[Ym]
 .grind[Yn]
 .grind[Yo]
 .grind[Yp]
 .grind[Yw]
 .grind[Yx]
 .grind[Yt]
 .grind[Yy]
 .grind[Yz]
 .grind[Qv]
 .trivial
theorem YH (o:Oper) (h:dS c nt e I a w L J):fb (xX P o.dst e I o.op) I (bU P c o a w L I J):=by
 unfold xX
 split
 .obtain⟨dst,op,ty,pos,dY,g⟩:=o
  show fb (ir P e I op) I _
  unfold ir
  split
  .grind[Yg]
  .grind[Yd]
  .grind[Yh]
  .grind[X4]
  .grind[XW]
  .grind[Qv]
  .exact QC ⟨dst,op,ty,pos,dY,g⟩ h
 grind[QC]
def fe (nt:Nat) (d:Option Tmp) (v:V) (K:Env->St->Prop) (e:Env) (I:St):Prop:=
 match d with
 |some t=>t<nt/\K (fu e t v) I
 |none=>K e I
def Jg (p q:Prop):Prop:=p/\q
def ml (nt:Nat) (d:Option Tmp) (r:R) (K:Env->St->Prop) (e:Env) (I:St):Prop:=
 match r with
 | .fail=>False
 | .ok v=>fe nt d v K e I
 | .ez p v=>Jg p (fe nt d v K e I)
 | .st v I'=>fe nt d v K e I'
 | .dD p v I'=>Jg p (fe nt d v K e I')
 | .all f=> ∀b,fe nt d (f b) K e I
 | .any l=> ∀p∈l,fe nt d p.1 K e p.2
def jB (P:Program) (c:Ctx) (nt:Nat) (d:Option Tmp) (op:Op) (K:Env->St->Prop) (e:Env) (I:St):Prop:=
 match op with
 | .call ⟨.value f,args,_⟩=>VC P c (zG e f) (args.toList.map (zG e)) I (λv I'=>fe nt d v K e I')
 |op=>ml nt d (xX P d e I op) K e I
def kH (x:V) (want:Bool) (A B:Prop):Prop:=
 match x with
 | .bool b=>(b=want->A)/\(b≠want->B)
 | .cz []=>B
 |_=>False
def j5 (ops:List Oper) (j:Nat):Option Tmp:=(ops[j]?).bind (·.dst)
def uF (g:Option (Nat×Bool)) (ops:List Oper) (e:Env) (A B:Prop):Prop:=
 match g with
 |none=>A
 |some (j,want)=>(match j5 ops j with|some t=>kH (e t) want A B|none=>False)
def j6 (P:Program) (c:Ctx) (nt:Nat) (ops:List Oper):List Oper->(Env->St->Prop)->Env->St->Prop
 | [],K,e,I=>K e I
 |o::rest,K,e,I=>uF o.guard ops e (jB P c nt o.dst o.op (j6 P c nt ops rest K) e I) (fe nt o.dst (.cz []) (j6 P c nt ops rest K) e I)
theorem dS.put (h:dS c nt e I a w L J) {w':World} {L':Nat->Nat} {I':St} {J':aiC} {v:V} {x:Value} (hm:Mem c w' L' I' J') (hle:Le w L w' L') (aa:Ext I J I' J') (r:dz w' L' I' J' v x) (d:Option Tmp) (hd: ∀t,d=some t->t<nt):
  dS c nt (match d with|some t=>fu e t v|none=>e) I' (a.put d x) w' L' J':=by
 cases d with
 |none=>exact⟨hm,h.size,h.defs,λt=>(h.env t).mono hle aa⟩
 |some d=>
  refine⟨hm,by simp[Act.put,h.size],by simp[Act.put,h.defs],λt=> ?_⟩
  have ab:=hd d rfl
  simp only[fu,Act.put]
  by_cases ht:t=d
  .subst ht
   rw[ai2 rfl]
   have:(a.tmps.setIfInBounds t x).getD t undef=x:=by
    simp[Array.getD,h.size,ab]
   grind
  .rw[ai1 ht]
   have:(a.tmps.setIfInBounds d x).getD t undef=a.tmps.getD t undef:=by
    have ad: ¬d=t:=(by grind)
    simp_all
   rw[this];exact(h.env t).mono hle aa
def fw (c:Ctx) (nt:Nat) (Q:Exit->Env->St->Prop):Exit->Act->World->Prop
 | .panic _,_,_| .outgrown,_,_| .goto _,_,_=>False
 |x,a,w=> ∃e I L J,dS c nt e I a w L J/\Q x e I
def VW (P:Program) (c:Ctx) (nt:Nat) (code:Code) (Q:Exit->Env->St->Prop) (e:Env) (I:St):Prop:=
 ∀a w L J,dS c nt e I a w L J->code.wp P (fw c nt Q) a w
theorem ET (h:dS c nt e I a w L J) {w':World} {L':Nat->Nat} {I':St} {J':aiC} {v:V} {x:Value} (hm:Mem c w' L' I' J') (hle:Le w L w' L') (aa:Ext I J I' J') (r:dz w' L' I' J' v x) {d:Option Tmp} {K:Env->St->Prop} (hK:fe nt d v K e I'):
  ∃e',dS c nt e' I' (a.put d x) w' L' J'/\K e' I':=by
 cases d with
 |none=>exact⟨e,h.put hm hle aa r none sm,hK⟩
 |some t=>exact⟨fu e t v,h.put hm hle aa r (some t) (λt' q=>by cases q;exact hK.1),hK.2⟩
theorem Jh (o:Oper) {K:Env->St->Prop} {next:Act->World->Prop} {Q:Exit->Act->World->Prop} (h:dS c nt e I a w L J) (hK:jB P c nt o.dst o.op K e I)
  (hn: ∀e' I' a' w' L' J',dS c nt e' I' a' w' L' J'->K e' I'->next a' w'):o.wp P a w next Q:=by
 have fin: ∀{r:R},fb r I (bU P c o a w L I J)->ml nt o.dst r K e I->o.wp P a w next Q:=by
  intro r hr hv
  have done: ∀{v I'},bU P c o a w L I J v I'->fe nt o.dst v K e I'->o.wp P a w next Q:=by
   rintro v I' ⟨x,w',L',J',mm,hm,hle,sR,BV⟩ hp
   obtain⟨e',hs,hk⟩:=ET h hm hle sR BV hp
   unfold Oper.wp
   rcases mm with mm|⟨mm,rfl⟩
   .rw[mm];exact hn _ _ _ _ _ _ hs hk
   .rw[mm];exact hn _ _ _ _ _ _ hs hk
  cases r with
  |fail=>exact hv.elim
  |ok v=>exact done hr hv
  |ez p v=>exact done (hr hv.1) hv.2
  |st v I'=>exact done hr hv
  |dD p v I'=>exact done (hr hv.1) hv.2
  |all f=>obtain⟨b,hr⟩:=hr;exact done hr (hv b)
  |any l=>obtain⟨p,hp,hr⟩:=hr;exact done hr (hv p hp)
 unfold jB at hK
 split at hK
 .rename_i f args ts Ji
  obtain⟨QD,bY,hf,hK⟩:=hK
  have QE:=h.eval f
  rw[hf]at QE
  obtain⟨xs,hx,GW⟩:=QE
  have yx:bP (dz w L I J) (args.toList.map (zG e)++bY) (args.toList.map a.eval++xs):=by
   refine bP.append ?_ (GW.imp λp q r=> ?_)
   .generalize args.toList=l
    induction l with
    |nil=>trivial
    |cons p l ih=>exact⟨h.eval p,ih⟩
   .exact dz.dI (by cases p<;>first|exact r|exact r.elim)
  rcases hK with ⟨⟨fn,Mk,sS,sV⟩,nq⟩|nq
  .have mm:(execOp a.eval o).run P w= .ok (.enter QD (args.toList.map a.eval++xs).toArray) w:=by
    obtain⟨dst,op,ty,pos,dY,g⟩:=o
    simp only at Ji
    subst Ji
    have Ml: ¬fn.body=none:=by intro q;simp[q]at sV
    have GX: ¬fn.name= "runtime.NumGoroutine" :=sU sS
    have GY:(Array.map a.eval args++xs.toArray)=(args.toList.map a.eval++xs).toArray:=by
     apply Array.ext';simp
    simp[execOp,resolve,hx,Deferred.ofValue,invoke,callFunc,Mk,GX,Ml,GY]
   unfold Oper.wp
   rw[mm]
   show Calls P QD _ w _
   refine(nq w L J _ h.mem yx).mono ?_
   rintro en w' ⟨v,r,L',I',J',rfl,hp,hm,hle,sR,BV⟩
   obtain⟨e',hs,hk⟩:=ET h hm hle sR BV hp
   exact hn _ _ _ _ _ _ hs hk
  .obtain⟨v,r,w',L',I',J',YI,hp,hm,hle,sR,BV⟩:=nq w L J _ h.mem yx
   have mm:(execOp a.eval o).run P w= .ok (.value v) w':=by
    obtain⟨dst,op,ty,pos,dY,g⟩:=o
    simp only at Ji
    subst Ji
    have GY:(Array.map a.eval args++xs.toArray)=(args.toList.map a.eval++xs).toArray:=by
     apply Array.ext';simp
    simp[execOp,resolve,hx,Deferred.ofValue,invoke,GY,YI]
   obtain⟨e',hs,hk⟩:=ET h hm hle sR BV hp
   unfold Oper.wp
   rw[mm]
   exact hn _ _ _ _ _ _ hs hk
 .exact fin (YH o h) hK
theorem QF {ops:List Oper} {j:Nat} {t:Tmp} (ht:j5 ops j=some t) (hv:dz w L I J (.cz []) (a.tmps.getD t undef)):yielded ops.toArray a.tmps j=none:=by
 obtain⟨xs,hx,ab⟩:=hv
 have ad:xs= []:=by
  cases xs with
  |nil=>rfl
  |cons x xs=>exact ab.elim
 subst ad
 unfold yielded
 unfold j5 at ht
 have ae:(ops.toArray[j]?).bind (·.dst)=some t:=sU ht
 rw[ae]
 simp only[Ay]
 by_cases aa:t<a.tmps.size
 .rw[B2 aa]
  simp[Array.getD,aa]at hx
  rw[hx]
 .rw[Array.getElem?_eq_none (Nat.le_of_not_lt aa)]
theorem Mm {ops:List Oper} {Q:Exit->Act->World->Prop}: ∀(l:List Oper) (K:Env->St->Prop) (e:Env) (I:St) (a:Act) (w:World) (L:Nat->Nat) (J:aiC),dS c nt e I a w L J->j6 P c nt ops l K e I->
  (∀e' I' a' w' L' J',dS c nt e' I' a' w' L' J'->K e' I'->Q .normal a' w')->wpList P ops.toArray Q l a w
 | [],K,e,I,a,w,L,J,h,hK,hn=>hn _ _ _ _ _ _ h hK
 |o::rest,K,e,I,a,w,L,J,h,hK,hn=>by
  have ih:=Mm (ops:=ops) (Q:=Q) rest K
  have yes:jB P c nt o.dst o.op (j6 P c nt ops rest K) e I->o.wp P a w (wpList P ops.toArray Q rest) Q\/(o.asks P a w/\LetsOut Q):=λhv=>
   .inl (Jh o h hv λe' I' a' w' L' J' hs hk=>ih e' I' a' w' L' J' hs hk hn)
  have no:fe nt o.dst (.cz []) (j6 P c nt ops rest K) e I->wpList P ops.toArray Q rest (a.put o.dst undef) w:=λhv=>by
   obtain⟨e',hs,hk⟩:=ET h h.mem (Le.refl _ _) (Ext.refl _ _) (show dz w L I J (.cz []) undef from⟨[],rfl,tV⟩) hv
   exact ih e' I _ _ _ _ hs hk hn
  unfold j6 at hK
  unfold wpList
  unfold uF at hK
  split at hK
  .rename_i hg
   rw[ai2 (by simp[Region.wanted,hg])]
   exact yes hK
  .rename_i j want hg
   split at hK
   .rename_i t ht
    have hv:=h.env t
    unfold kH at hK
    split at hK
    .rename_i b hb
     rw[hb]at hv
     have hv:=pQ hv
     have hy:yielded ops.toArray a.tmps j=some b:=by
      unfold yielded
      unfold j5 at ht
      have ad:(ops.toArray[j]?).bind (·.dst)=some t:=sU ht
      rw[ad]
      simp only[Ay]
      have ab:t<a.tmps.size:=by
       rcases Bv t a.tmps.size with q|q
       .exact q
       .simp[Array.getD,Nat.not_lt.2 q,undef]at hv
      rw[B2 ab]
      simp[Array.getD,ab]at hv
      rw[hv]
     by_cases aa:b=want
     .rw[ai2 (by simp[Region.wanted,hg,hy,aa])]
      exact yes (hK.1 aa)
     .rw[ai1 (by simp[Region.wanted,hg,hy,aa])]
      exact no (hK.2 aa)
    .rename_i hb
     rw[hb]at hv
     rw[ai1 (by simp[Region.wanted,hg,QF ht hv])]
     exact no hK
    .exact hK.elim
   .exact hK.elim
def GZ (x:V) (A B:Prop):Prop:=
 match x with
 | .bool b=>(b=true->A)/\(b=false->B)
 |_=>False
def Mn (K:Env->St->Prop) (Q:Exit->Env->St->Prop):Exit->Env->St->Prop
 | .normal,e,I=>K e I
 |x,e,I=>Q x e I
def BW (id:Nat) (Q:Exit->Env->St->Prop):Exit->Env->St->Prop
 | .exit sW,e,I=>if sW=id then Q .normal e I else Q (.exit sW) e I
 |x,e,I=>Q x e I
def qv (P:Program) (c:Ctx) (nt:Nat):Code->(Exit->Env->St->Prop)->Env->St->Prop
 | .skip,Q,e,I=>Q .normal e I
 | .seq x y,Q,e,I=>qv P c nt x (Mn (qv P c nt y Q) Q) e I
 | .cond x t f,Q,e,I=>GZ (zG e x) (qv P c nt t Q e I) (qv P c nt f Q e I)
 | .block id b,Q,e,I=>qv P c nt b (BW id Q) e I
 | .exit id,Q,e,I=>Q (.exit id) e I
 | .ret,Q,e,I=>Q .ret e I
 | .label _,Q,e,I=>Q .normal e I
 | .region id ops draw,Q,e,I=>if draw then VW P c nt (.region id ops true) Q e I else j6 P c nt ops.toList ops.toList (Q .normal) e I
 | .loop b,Q,e,I=>VW P c nt (.loop b) Q e I
 |_,_,_,_=>False
theorem rO: ∀(code:Code) (Q:Exit->Env->St->Prop) (e:Env) (I:St),qv P c nt code Q e I->VW P c nt code Q e I
 | .skip,Q,e,I,h=>λa w L J hs=>wp_skip ⟨e,I,L,J,hs,h⟩
 | .seq x y,Q,e,I,h=>λa w L J hs=>by
  refine wp_seq (wp_mono (rO x _ e I h a w L J hs) λex a' w' q=> ?_)
  cases ex with
  |normal=>obtain⟨e',I',L',J',aa,hq⟩:=q;exact rO y Q e' I' hq a' w' L' J' aa
  |exit id=>exact q
  |goto l=>exact q
  |ret=>exact q
  |panic ch=>exact q
  |outgrown=>exact q
 | .cond x t f,Q,e,I,h=>λa w L J hs=>by
  unfold qv GZ at h
  split at h
  .rename_i b hb
   have hv:=hs.eval x
   rw[hb]at hv
   exact wp_cond_split (pQ hv) (λad=>rO t Q e I (h.1 ad) a w L J hs) (λae=>rO f Q e I (h.2 ae) a w L J hs)
  .exact h.elim
 | .block id b,Q,e,I,h=>λa w L J hs=>by
  refine wp_block (wp_mono (rO b _ e I h a w L J hs) λex a' w' q=> ?_)
  cases ex with
  |exit ab=>
   obtain⟨e',I',L',J',aa,hq⟩:=q
   change (if ab=id then Q .normal e' I' else Q (.exit ab) e' I')at hq
   change (if ab=id then fw c nt Q .normal a' w' else fw c nt Q (.exit ab) a' w')
   split
   .rename_i hid
    rw[ai2 hid]at hq
    exact⟨e',I',L',J',aa,hq⟩
   .rename_i hid
    rw[ai1 hid]at hq
    exact⟨e',I',L',J',aa,hq⟩
  |normal=>exact q
  |goto l=>exact q
  |ret=>exact q
  |panic ch=>exact q
  |outgrown=>exact q
 | .exit id,Q,e,I,h=>λa w L J hs=>wp_exit ⟨e,I,L,J,hs,h⟩
 | .ret,Q,e,I,h=>λa w L J hs=>wp_ret ⟨e,I,L,J,hs,h⟩
 | .label _,Q,e,I,h=>λa w L J hs=>wp_label ⟨e,I,L,J,hs,h⟩
 | .region id ops draw,Q,e,I,h=>λa w L J hs=>by
  unfold qv at h
  cases draw with
  |true=>exact h a w L J hs
  |false=>
   refine wp_region_list (ops:=ops) ?_
   have:=Mm (P:=P) (ops:=ops.toList) (Q:=fw c nt Q) ops.toList (Q .normal) e I a w L J hs (sU h) λe' I' a' w' L' J' aa hk=>⟨e',I',L',J',aa,hk⟩
   simpa using this
 | .loop b,Q,e,I,h=>h
 | .rangeFunc _ _ _ _,_,_,_,h=>h.elim
 | .scope _,_,_,_,h=>h.elim
 | .goto _,_,_,_,h=>h.elim
 | .refuse _,_,_,_,h=>h.elim
end
end Go.Vx
